/- The walks: each Go function computes its shallow function. Printed by a program. -/
import Derived.Test.YtpklpghbkhegnaaGreatDoorChecked
import Derived.Test.YtpklpghbkhegnaaGreatDoorShX7M
import Derived.Test.YtpklpghbkhegnaaGreatDoorLib
import Derived.Test.YtpklpghbkhegnaaGreatDoorMSt
import Derived.Test.YtpklpghbkhegnaaGreatDoorTerse
set_option linter.unusedVariables false
set_option maxRecDepth 10000
set_option maxHeartbeats 8000000
namespace Go.Proofs.YtpklpghbkhegnaaGreatDoor
open Go Go.RowKit
abbrev dt1 : DT := .sl 3 (.leaf (.int .i64))
abbrev ty2 : Ty := .pair (.int .i64) (.int .i64)
abbrev dt3 : DT := .leaf ty2
abbrev ty4 : Ty := .slice ty2
abbrev dt5 : DT := .sl 152 dt3
abbrev dt6 : DT := .sl 103 dt3
abbrev ty7 : Ty := .pair (.int .i64) ty2
abbrev ty8 : Ty := .pair ty4 (.int .i64)
abbrev ty9 : Ty := .pair ty4 (.slice (.int .i64))
abbrev ty10 : Ty := .pair (.int .i64) ty7
abbrev dt11 : DT := .pair dt5 (.leaf (.int .i64))
abbrev ty12 : Ty := .pair (.int .i64) ty8
abbrev dt13 : DT := .pair dt6 dt1
abbrev ty14 : Ty := .pair (.int .i64) ty9
abbrev dt15 : DT := .pair (.leaf (.int .i64)) dt11
abbrev dt16 : DT := .pair (.leaf (.int .i64)) dt13
noncomputable def uT (t : TypeId) := Tryz.prog.underlying t
noncomputable def fT (fs : Array Field) (i : Nat) := (fs[i]?).map (fun f => (f.type, f.offset))
noncomputable def nT (t : TypeId) := (Tryz.prog.info? t).map (fun i => Nat.beq i.size 0)
noncomputable def zT (t : TypeId) := (Tryz.prog.info? t).map (·.size)
noncomputable def oT (t : TypeId) := (Tryz.prog.info? t).map (·.zero)
def CB (f : FuncId) : Prop := Callable Tryz.prog f
noncomputable def fd103 : Array Field := match Tryz.prog.underlying 103 with | some (.struct fs) => fs | _ => #[]
theorem uf103 : uT 103 = some (.struct fd103) := by kernel_rfl
noncomputable def fd137 : Array Field := match Tryz.prog.underlying 137 with | some (.struct fs) => fs | _ => #[]
theorem uf137 : uT 137 = some (.struct fd137) := by kernel_rfl
noncomputable def fd152 : Array Field := match Tryz.prog.underlying 152 with | some (.struct fs) => fs | _ => #[]
theorem uf152 : uT 152 = some (.struct fd152) := by kernel_rfl
noncomputable def fd160 : Array Field := match Tryz.prog.underlying 160 with | some (.struct fs) => fs | _ => #[]
theorem uf160 : uT 160 = some (.struct fd160) := by kernel_rfl
noncomputable def fd162 : Array Field := match Tryz.prog.underlying 162 with | some (.struct fs) => fs | _ => #[]
theorem uf162 : uT 162 = some (.struct fd162) := by kernel_rfl
noncomputable def fd26 : Array Field := match Tryz.prog.underlying 26 with | some (.struct fs) => fs | _ => #[]
theorem uf26 : uT 26 = some (.struct fd26) := by kernel_rfl
noncomputable def fd31 : Array Field := match Tryz.prog.underlying 31 with | some (.struct fs) => fs | _ => #[]
theorem uf31 : uT 31 = some (.struct fd31) := by kernel_rfl
noncomputable def fd50 : Array Field := match Tryz.prog.underlying 50 with | some (.struct fs) => fs | _ => #[]
theorem uf50 : uT 50 = some (.struct fd50) := by kernel_rfl
noncomputable def fd80 : Array Field := match Tryz.prog.underlying 80 with | some (.struct fs) => fs | _ => #[]
theorem uf80 : uT 80 = some (.struct fd80) := by kernel_rfl
noncomputable def fd84 : Array Field := match Tryz.prog.underlying 84 with | some (.struct fs) => fs | _ => #[]
theorem uf84 : uT 84 = some (.struct fd84) := by kernel_rfl
noncomputable def fd89 : Array Field := match Tryz.prog.underlying 89 with | some (.struct fs) => fs | _ => #[]
theorem uf89 : uT 89 = some (.struct fd89) := by kernel_rfl
noncomputable def fd95 : Array Field := match Tryz.prog.underlying 95 with | some (.struct fs) => fs | _ => #[]
theorem uf95 : uT 95 = some (.struct fd95) := by kernel_rfl
noncomputable def sd103 : TypeDesc := (Tryz.prog.underlying 103).getD .bool
theorem us103 : uT 103 = some sd103 := by kernel_rfl
theorem uo103 : oneB sd103 = false := by kernel_rfl
noncomputable def sd111 : TypeDesc := (Tryz.prog.underlying 111).getD .bool
theorem us111 : uT 111 = some sd111 := by kernel_rfl
theorem uo111 : oneB sd111 = false := by kernel_rfl
noncomputable def sd137 : TypeDesc := (Tryz.prog.underlying 137).getD .bool
theorem us137 : uT 137 = some sd137 := by kernel_rfl
theorem uo137 : oneB sd137 = false := by kernel_rfl
noncomputable def sd152 : TypeDesc := (Tryz.prog.underlying 152).getD .bool
theorem us152 : uT 152 = some sd152 := by kernel_rfl
theorem uo152 : oneB sd152 = false := by kernel_rfl
noncomputable def sd160 : TypeDesc := (Tryz.prog.underlying 160).getD .bool
theorem us160 : uT 160 = some sd160 := by kernel_rfl
theorem uo160 : oneB sd160 = false := by kernel_rfl
noncomputable def sd162 : TypeDesc := (Tryz.prog.underlying 162).getD .bool
theorem us162 : uT 162 = some sd162 := by kernel_rfl
theorem uo162 : oneB sd162 = false := by kernel_rfl
noncomputable def sd26 : TypeDesc := (Tryz.prog.underlying 26).getD .bool
theorem us26 : uT 26 = some sd26 := by kernel_rfl
theorem uo26 : oneB sd26 = false := by kernel_rfl
noncomputable def sd31 : TypeDesc := (Tryz.prog.underlying 31).getD .bool
theorem us31 : uT 31 = some sd31 := by kernel_rfl
theorem uo31 : oneB sd31 = false := by kernel_rfl
noncomputable def sd50 : TypeDesc := (Tryz.prog.underlying 50).getD .bool
theorem us50 : uT 50 = some sd50 := by kernel_rfl
theorem uo50 : oneB sd50 = false := by kernel_rfl
noncomputable def sd80 : TypeDesc := (Tryz.prog.underlying 80).getD .bool
theorem us80 : uT 80 = some sd80 := by kernel_rfl
theorem uo80 : oneB sd80 = false := by kernel_rfl
noncomputable def sd84 : TypeDesc := (Tryz.prog.underlying 84).getD .bool
theorem us84 : uT 84 = some sd84 := by kernel_rfl
theorem uo84 : oneB sd84 = false := by kernel_rfl
noncomputable def sd89 : TypeDesc := (Tryz.prog.underlying 89).getD .bool
theorem us89 : uT 89 = some sd89 := by kernel_rfl
theorem uo89 : oneB sd89 = false := by kernel_rfl
noncomputable def sd95 : TypeDesc := (Tryz.prog.underlying 95).getD .bool
theorem us95 : uT 95 = some sd95 := by kernel_rfl
theorem uo95 : oneB sd95 = false := by kernel_rfl
theorem i103 : zT 103 = some (Ty.size ty2) := by kernel_rfl
theorem i152 : zT 152 = some (Ty.size ty2) := by kernel_rfl
theorem i160 : zT 160 = some (Ty.size ty2) := by kernel_rfl
theorem i162 : zT 162 = some (Ty.size ty2) := by kernel_rfl
theorem i3 : zT 3 = some (Ty.size (.int .i64)) := by kernel_rfl
theorem i50 : zT 50 = some (Ty.size ty10) := by kernel_rfl
theorem i80 : zT 80 = some (Ty.size ty12) := by kernel_rfl
theorem i84 : zT 84 = some (Ty.size ty14) := by kernel_rfl
theorem i87 : zT 87 = some (Ty.size ty4) := by kernel_rfl
theorem i89 : zT 89 = some (Ty.size ty14) := by kernel_rfl
theorem i9 : zT 9 = some (Ty.size .str) := by kernel_rfl
theorem i95 : zT 95 = some (Ty.size ty12) := by kernel_rfl
theorem il103 : zT 103 = some 2 := by kernel_rfl
theorem il111 : zT 111 = some 6 := by kernel_rfl
theorem il113 : zT 113 = some 3 := by kernel_rfl
theorem il137 : zT 137 = some 2 := by kernel_rfl
theorem il152 : zT 152 = some 2 := by kernel_rfl
theorem il23 : zT 23 = some 1 := by kernel_rfl
theorem il26 : zT 26 = some 5 := by kernel_rfl
theorem il28 : zT 28 = some 1 := by kernel_rfl
theorem il29 : zT 29 = some 1 := by kernel_rfl
theorem il3 : zT 3 = some 1 := by kernel_rfl
theorem il31 : zT 31 = some 5 := by kernel_rfl
theorem il50 : zT 50 = some 4 := by kernel_rfl
theorem il87 : zT 87 = some 1 := by kernel_rfl
theorem il89 : zT 89 = some 3 := by kernel_rfl
theorem il9 : zT 9 = some 1 := by kernel_rfl
theorem il93 : zT 93 = some 1 := by kernel_rfl
theorem il95 : zT 95 = some 3 := by kernel_rfl
theorem j103 : (Tryz.prog.info? 103).map (fun i => (i.zero, i.size, i.bytes)) = some (some (.agg #[.int .i64 0, .int .i64 0]), Ty.size ty2, 16) := by kernel_rfl
theorem j152 : (Tryz.prog.info? 152).map (fun i => (i.zero, i.size, i.bytes)) = some (some (.agg #[.int .i64 0, .int .i64 0]), Ty.size ty2, 16) := by kernel_rfl
theorem j3 : (Tryz.prog.info? 3).map (fun i => (i.zero, i.size, i.bytes)) = some (some (.int .i64 0), Ty.size (.int .i64), 8) := by kernel_rfl
theorem j5 : (Tryz.prog.info? 5).map (fun i => (i.zero, i.size, i.bytes)) = some (some (.int .u8 0), Ty.size (.int .u8), 1) := by kernel_rfl
theorem j50 : (Tryz.prog.info? 50).map (fun i => (i.zero, i.size, i.bytes)) = some (some (.agg #[.int .i64 0, .int .i64 0, .int .i64 0, .int .i64 0]), Ty.size ty10, 32) := by kernel_rfl
theorem j87 : (Tryz.prog.info? 87).map (fun i => (i.zero, i.size, i.bytes)) = some (some (nS), Ty.size ty4, 24) := by kernel_rfl
theorem j89 : (Tryz.prog.info? 89).map (fun i => (i.zero, i.size, i.bytes)) = some (some (.agg #[.int .i64 0, nS, nS]), Ty.size ty14, 56) := by kernel_rfl
theorem j9 : (Tryz.prog.info? 9).map (fun i => (i.zero, i.size, i.bytes)) = some (some (strV []), Ty.size .str, 16) := by kernel_rfl
theorem j95 : (Tryz.prog.info? 95).map (fun i => (i.zero, i.size, i.bytes)) = some (some (.agg #[.int .i64 0, nS, .int .i64 0]), Ty.size ty12, 40) := by kernel_rfl
theorem nz22 : nT 22 = some false := by kernel_rfl
theorem nz23 : nT 23 = some false := by kernel_rfl
theorem nz24 : nT 24 = some false := by kernel_rfl
theorem nz28 : nT 28 = some false := by kernel_rfl
theorem nz29 : nT 29 = some false := by kernel_rfl
theorem nz3 : nT 3 = some false := by kernel_rfl
theorem nz78 : nT 78 = some false := by kernel_rfl
theorem nz82 : nT 82 = some false := by kernel_rfl
theorem nz87 : nT 87 = some false := by kernel_rfl
theorem nz93 : nT 93 = some false := by kernel_rfl
theorem u100 : uT 100 = some (.slice 5) := by kernel_rfl
theorem u111 : uT 111 = some (.array 6 9) := by kernel_rfl
theorem u112 : uT 112 = some (.array 6 3) := by kernel_rfl
theorem u113 : uT 113 = some (.array 3 3) := by kernel_rfl
theorem u22 : uT 22 = some (.slice 80) := by kernel_rfl
theorem u23 : uT 23 = some (.slice 3) := by kernel_rfl
theorem u24 : uT 24 = some (.slice 84) := by kernel_rfl
theorem u28 : uT 28 = some (.slice 95) := by kernel_rfl
theorem u29 : uT 29 = some (.slice 89) := by kernel_rfl
theorem u3 : uT 3 = some (.int .i64) := by kernel_rfl
theorem u38 : uT 38 = some (.slice 9) := by kernel_rfl
theorem u4 : uT 4 = some (.bool) := by kernel_rfl
theorem u5 : uT 5 = some (.int .u8) := by kernel_rfl
theorem u60 : uT 60 = some (.slice 50) := by kernel_rfl
theorem u65 : uT 65 = some (.slice 87) := by kernel_rfl
theorem u78 : uT 78 = some (.slice 160) := by kernel_rfl
theorem u82 : uT 82 = some (.slice 162) := by kernel_rfl
theorem u87 : uT 87 = some (.slice 103) := by kernel_rfl
theorem u9 : uT 9 = some (.string) := by kernel_rfl
theorem u93 : uT 93 = some (.slice 152) := by kernel_rfl
theorem z103 : oT 103 = some (some (.agg #[.int .i64 0, .int .i64 0])) := by kernel_rfl
theorem z113 : oT 113 = some (some (.agg #[.int .i64 0, .int .i64 0, .int .i64 0])) := by kernel_rfl
theorem z137 : oT 137 = some (some (.agg #[nS, nS])) := by kernel_rfl
theorem z152 : oT 152 = some (some (.agg #[.int .i64 0, .int .i64 0])) := by kernel_rfl
theorem z31 : oT 31 = some (some (.agg #[nS, nS, nS, .int .i64 0, nS])) := by kernel_rfl
theorem z50 : oT 50 = some (some (.agg #[.int .i64 0, .int .i64 0, .int .i64 0, .int .i64 0])) := by kernel_rfl
theorem z89 : oT 89 = some (some (.agg #[.int .i64 0, nS, nS])) := by kernel_rfl
theorem z95 : oT 95 = some (some (.agg #[.int .i64 0, nS, .int .i64 0])) := by kernel_rfl
theorem fi103_0 : fT fd103 0 = some (3, 0) := by kernel_rfl
theorem fi103_1 : fT fd103 1 = some (3, 1) := by kernel_rfl
theorem fi137_0 : fT fd137 0 = some (23, 0) := by kernel_rfl
theorem fi152_0 : fT fd152 0 = some (3, 0) := by kernel_rfl
theorem fi152_1 : fT fd152 1 = some (3, 1) := by kernel_rfl
theorem fi160_0 : fT fd160 0 = some (3, 0) := by kernel_rfl
theorem fi160_1 : fT fd160 1 = some (3, 1) := by kernel_rfl
theorem fi162_0 : fT fd162 0 = some (3, 0) := by kernel_rfl
theorem fi162_1 : fT fd162 1 = some (3, 1) := by kernel_rfl
theorem fi26_0 : fT fd26 0 = some (22, 0) := by kernel_rfl
theorem fi26_1 : fT fd26 1 = some (23, 1) := by kernel_rfl
theorem fi26_2 : fT fd26 2 = some (23, 2) := by kernel_rfl
theorem fi26_3 : fT fd26 3 = some (3, 3) := by kernel_rfl
theorem fi26_4 : fT fd26 4 = some (24, 4) := by kernel_rfl
theorem fi31_0 : fT fd31 0 = some (28, 0) := by kernel_rfl
theorem fi31_1 : fT fd31 1 = some (23, 1) := by kernel_rfl
theorem fi31_2 : fT fd31 2 = some (23, 2) := by kernel_rfl
theorem fi31_3 : fT fd31 3 = some (3, 3) := by kernel_rfl
theorem fi31_4 : fT fd31 4 = some (29, 4) := by kernel_rfl
theorem fi50_0 : fT fd50 0 = some (3, 0) := by kernel_rfl
theorem fi50_1 : fT fd50 1 = some (3, 1) := by kernel_rfl
theorem fi50_2 : fT fd50 2 = some (3, 2) := by kernel_rfl
theorem fi50_3 : fT fd50 3 = some (3, 3) := by kernel_rfl
theorem fi80_0 : fT fd80 0 = some (3, 0) := by kernel_rfl
theorem fi80_1 : fT fd80 1 = some (78, 1) := by kernel_rfl
theorem fi80_2 : fT fd80 2 = some (3, 2) := by kernel_rfl
theorem fi84_0 : fT fd84 0 = some (3, 0) := by kernel_rfl
theorem fi84_1 : fT fd84 1 = some (82, 1) := by kernel_rfl
theorem fi84_2 : fT fd84 2 = some (23, 2) := by kernel_rfl
theorem fi89_0 : fT fd89 0 = some (3, 0) := by kernel_rfl
theorem fi89_1 : fT fd89 1 = some (87, 1) := by kernel_rfl
theorem fi89_2 : fT fd89 2 = some (23, 2) := by kernel_rfl
theorem fi95_0 : fT fd95 0 = some (3, 0) := by kernel_rfl
theorem fi95_1 : fT fd95 1 = some (93, 1) := by kernel_rfl
theorem fi95_2 : fT fd95 2 = some (3, 2) := by kernel_rfl
theorem c10 : CB 10 := ⟨_, Tryz.func10, by kernel_rfl, by kernel_rfl⟩
theorem c100 : CB 100 := ⟨_, Tryz.func100, by kernel_rfl, by kernel_rfl⟩
theorem c101 : CB 101 := ⟨_, Tryz.func101, by kernel_rfl, by kernel_rfl⟩
theorem c102 : CB 102 := ⟨_, Tryz.func102, by kernel_rfl, by kernel_rfl⟩
theorem c103 : CB 103 := ⟨_, Tryz.func103, by kernel_rfl, by kernel_rfl⟩
theorem c104 : CB 104 := ⟨_, Tryz.func104, by kernel_rfl, by kernel_rfl⟩
theorem c105 : CB 105 := ⟨_, Tryz.func105, by kernel_rfl, by kernel_rfl⟩
theorem c106 : CB 106 := ⟨_, Tryz.func106, by kernel_rfl, by kernel_rfl⟩
theorem c107 : CB 107 := ⟨_, Tryz.func107, by kernel_rfl, by kernel_rfl⟩
theorem c108 : CB 108 := ⟨_, Tryz.func108, by kernel_rfl, by kernel_rfl⟩
theorem c109 : CB 109 := ⟨_, Tryz.func109, by kernel_rfl, by kernel_rfl⟩
theorem c11 : CB 11 := ⟨_, Tryz.func11, by kernel_rfl, by kernel_rfl⟩
theorem c110 : CB 110 := ⟨_, Tryz.func110, by kernel_rfl, by kernel_rfl⟩
theorem c111 : CB 111 := ⟨_, Tryz.func111, by kernel_rfl, by kernel_rfl⟩
theorem c112 : CB 112 := ⟨_, Tryz.func112, by kernel_rfl, by kernel_rfl⟩
theorem c113 : CB 113 := ⟨_, Tryz.func113, by kernel_rfl, by kernel_rfl⟩
theorem c114 : CB 114 := ⟨_, Tryz.func114, by kernel_rfl, by kernel_rfl⟩
theorem c115 : CB 115 := ⟨_, Tryz.func115, by kernel_rfl, by kernel_rfl⟩
theorem c116 : CB 116 := ⟨_, Tryz.func116, by kernel_rfl, by kernel_rfl⟩
theorem c117 : CB 117 := ⟨_, Tryz.func117, by kernel_rfl, by kernel_rfl⟩
theorem c119 : CB 119 := ⟨_, Tryz.func119, by kernel_rfl, by kernel_rfl⟩
theorem c12 : CB 12 := ⟨_, Tryz.func12, by kernel_rfl, by kernel_rfl⟩
theorem c120 : CB 120 := ⟨_, Tryz.func120, by kernel_rfl, by kernel_rfl⟩
theorem c121 : Callable Tryz.prog 121 := ⟨Tryz.f121, Tryz.func121, by kernel_rfl, by kernel_rfl⟩
theorem c122 : CB 122 := ⟨_, Tryz.func122, by kernel_rfl, by kernel_rfl⟩
theorem c123 : CB 123 := ⟨_, Tryz.func123, by kernel_rfl, by kernel_rfl⟩
theorem c124 : CB 124 := ⟨_, Tryz.func124, by kernel_rfl, by kernel_rfl⟩
theorem c125 : CB 125 := ⟨_, Tryz.func125, by kernel_rfl, by kernel_rfl⟩
theorem c126 : CB 126 := ⟨_, Tryz.func126, by kernel_rfl, by kernel_rfl⟩
theorem c129 : CB 129 := ⟨_, Tryz.func129, by kernel_rfl, by kernel_rfl⟩
theorem c13 : CB 13 := ⟨_, Tryz.func13, by kernel_rfl, by kernel_rfl⟩
theorem c130 : CB 130 := ⟨_, Tryz.func130, by kernel_rfl, by kernel_rfl⟩
theorem c131 : CB 131 := ⟨_, Tryz.func131, by kernel_rfl, by kernel_rfl⟩
theorem c132 : CB 132 := ⟨_, Tryz.func132, by kernel_rfl, by kernel_rfl⟩
theorem c133 : CB 133 := ⟨_, Tryz.func133, by kernel_rfl, by kernel_rfl⟩
theorem c134 : CB 134 := ⟨_, Tryz.func134, by kernel_rfl, by kernel_rfl⟩
theorem c135 : CB 135 := ⟨_, Tryz.func135, by kernel_rfl, by kernel_rfl⟩
theorem c136 : CB 136 := ⟨_, Tryz.func136, by kernel_rfl, by kernel_rfl⟩
theorem c137 : CB 137 := ⟨_, Tryz.func137, by kernel_rfl, by kernel_rfl⟩
theorem c138 : CB 138 := ⟨_, Tryz.func138, by kernel_rfl, by kernel_rfl⟩
theorem c139 : CB 139 := ⟨_, Tryz.func139, by kernel_rfl, by kernel_rfl⟩
theorem c14 : CB 14 := ⟨_, Tryz.func14, by kernel_rfl, by kernel_rfl⟩
theorem c140 : CB 140 := ⟨_, Tryz.func140, by kernel_rfl, by kernel_rfl⟩
theorem c144 : CB 144 := ⟨_, Tryz.func144, by kernel_rfl, by kernel_rfl⟩
theorem c145 : CB 145 := ⟨_, Tryz.func145, by kernel_rfl, by kernel_rfl⟩
theorem c146 : CB 146 := ⟨_, Tryz.func146, by kernel_rfl, by kernel_rfl⟩
theorem c147 : CB 147 := ⟨_, Tryz.func147, by kernel_rfl, by kernel_rfl⟩
theorem c148 : CB 148 := ⟨_, Tryz.func148, by kernel_rfl, by kernel_rfl⟩
theorem c15 : CB 15 := ⟨_, Tryz.func15, by kernel_rfl, by kernel_rfl⟩
theorem c154 : CB 154 := ⟨_, Tryz.func154, by kernel_rfl, by kernel_rfl⟩
theorem c155 : CB 155 := ⟨_, Tryz.func155, by kernel_rfl, by kernel_rfl⟩
theorem c156 : CB 156 := ⟨_, Tryz.func156, by kernel_rfl, by kernel_rfl⟩
theorem c157 : CB 157 := ⟨_, Tryz.func157, by kernel_rfl, by kernel_rfl⟩
theorem c158 : CB 158 := ⟨_, Tryz.func158, by kernel_rfl, by kernel_rfl⟩
theorem c159 : CB 159 := ⟨_, Tryz.func159, by kernel_rfl, by kernel_rfl⟩
theorem c16 : CB 16 := ⟨_, Tryz.func16, by kernel_rfl, by kernel_rfl⟩
theorem c163 : CB 163 := ⟨_, Tryz.func163, by kernel_rfl, by kernel_rfl⟩
theorem c17 : CB 17 := ⟨_, Tryz.func17, by kernel_rfl, by kernel_rfl⟩
theorem c175 : CB 175 := ⟨_, Tryz.func175, by kernel_rfl, by kernel_rfl⟩
theorem c18 : CB 18 := ⟨_, Tryz.func18, by kernel_rfl, by kernel_rfl⟩
theorem c185 : CB 185 := ⟨_, Tryz.func185, by kernel_rfl, by kernel_rfl⟩
theorem c19 : CB 19 := ⟨_, Tryz.func19, by kernel_rfl, by kernel_rfl⟩
theorem c20 : CB 20 := ⟨_, Tryz.func20, by kernel_rfl, by kernel_rfl⟩
theorem c21 : CB 21 := ⟨_, Tryz.func21, by kernel_rfl, by kernel_rfl⟩
theorem c22 : CB 22 := ⟨_, Tryz.func22, by kernel_rfl, by kernel_rfl⟩
theorem c23 : CB 23 := ⟨_, Tryz.func23, by kernel_rfl, by kernel_rfl⟩
theorem c24 : CB 24 := ⟨_, Tryz.func24, by kernel_rfl, by kernel_rfl⟩
theorem c25 : CB 25 := ⟨_, Tryz.func25, by kernel_rfl, by kernel_rfl⟩
theorem c26 : CB 26 := ⟨_, Tryz.func26, by kernel_rfl, by kernel_rfl⟩
theorem c27 : CB 27 := ⟨_, Tryz.func27, by kernel_rfl, by kernel_rfl⟩
theorem c28 : CB 28 := ⟨_, Tryz.func28, by kernel_rfl, by kernel_rfl⟩
theorem c29 : CB 29 := ⟨_, Tryz.func29, by kernel_rfl, by kernel_rfl⟩
theorem c30 : CB 30 := ⟨_, Tryz.func30, by kernel_rfl, by kernel_rfl⟩
theorem c31 : CB 31 := ⟨_, Tryz.func31, by kernel_rfl, by kernel_rfl⟩
theorem c32 : CB 32 := ⟨_, Tryz.func32, by kernel_rfl, by kernel_rfl⟩
theorem c33 : CB 33 := ⟨_, Tryz.func33, by kernel_rfl, by kernel_rfl⟩
theorem c34 : CB 34 := ⟨_, Tryz.func34, by kernel_rfl, by kernel_rfl⟩
theorem c35 : CB 35 := ⟨_, Tryz.func35, by kernel_rfl, by kernel_rfl⟩
theorem c36 : CB 36 := ⟨_, Tryz.func36, by kernel_rfl, by kernel_rfl⟩
theorem c37 : CB 37 := ⟨_, Tryz.func37, by kernel_rfl, by kernel_rfl⟩
theorem c38 : CB 38 := ⟨_, Tryz.func38, by kernel_rfl, by kernel_rfl⟩
theorem c39 : CB 39 := ⟨_, Tryz.func39, by kernel_rfl, by kernel_rfl⟩
theorem c40 : CB 40 := ⟨_, Tryz.func40, by kernel_rfl, by kernel_rfl⟩
theorem c41 : CB 41 := ⟨_, Tryz.func41, by kernel_rfl, by kernel_rfl⟩
theorem c42 : CB 42 := ⟨_, Tryz.func42, by kernel_rfl, by kernel_rfl⟩
theorem c43 : CB 43 := ⟨_, Tryz.func43, by kernel_rfl, by kernel_rfl⟩
theorem c44 : CB 44 := ⟨_, Tryz.func44, by kernel_rfl, by kernel_rfl⟩
theorem c45 : CB 45 := ⟨_, Tryz.func45, by kernel_rfl, by kernel_rfl⟩
theorem c46 : CB 46 := ⟨_, Tryz.func46, by kernel_rfl, by kernel_rfl⟩
theorem c47 : CB 47 := ⟨_, Tryz.func47, by kernel_rfl, by kernel_rfl⟩
theorem c48 : CB 48 := ⟨_, Tryz.func48, by kernel_rfl, by kernel_rfl⟩
theorem c49 : CB 49 := ⟨_, Tryz.func49, by kernel_rfl, by kernel_rfl⟩
theorem c5 : CB 5 := ⟨_, Tryz.func5, by kernel_rfl, by kernel_rfl⟩
theorem c50 : CB 50 := ⟨_, Tryz.func50, by kernel_rfl, by kernel_rfl⟩
theorem c51 : CB 51 := ⟨_, Tryz.func51, by kernel_rfl, by kernel_rfl⟩
theorem c52 : CB 52 := ⟨_, Tryz.func52, by kernel_rfl, by kernel_rfl⟩
theorem c53 : CB 53 := ⟨_, Tryz.func53, by kernel_rfl, by kernel_rfl⟩
theorem c54 : CB 54 := ⟨_, Tryz.func54, by kernel_rfl, by kernel_rfl⟩
theorem c55 : CB 55 := ⟨_, Tryz.func55, by kernel_rfl, by kernel_rfl⟩
theorem c56 : CB 56 := ⟨_, Tryz.func56, by kernel_rfl, by kernel_rfl⟩
theorem c57 : CB 57 := ⟨_, Tryz.func57, by kernel_rfl, by kernel_rfl⟩
theorem c58 : CB 58 := ⟨_, Tryz.func58, by kernel_rfl, by kernel_rfl⟩
theorem c59 : CB 59 := ⟨_, Tryz.func59, by kernel_rfl, by kernel_rfl⟩
theorem c6 : CB 6 := ⟨_, Tryz.func6, by kernel_rfl, by kernel_rfl⟩
theorem c60 : CB 60 := ⟨_, Tryz.func60, by kernel_rfl, by kernel_rfl⟩
theorem c61 : CB 61 := ⟨_, Tryz.func61, by kernel_rfl, by kernel_rfl⟩
theorem c62 : CB 62 := ⟨_, Tryz.func62, by kernel_rfl, by kernel_rfl⟩
theorem c63 : CB 63 := ⟨_, Tryz.func63, by kernel_rfl, by kernel_rfl⟩
theorem c64 : CB 64 := ⟨_, Tryz.func64, by kernel_rfl, by kernel_rfl⟩
theorem c65 : CB 65 := ⟨_, Tryz.func65, by kernel_rfl, by kernel_rfl⟩
theorem c66 : CB 66 := ⟨_, Tryz.func66, by kernel_rfl, by kernel_rfl⟩
theorem c67 : CB 67 := ⟨_, Tryz.func67, by kernel_rfl, by kernel_rfl⟩
theorem c68 : CB 68 := ⟨_, Tryz.func68, by kernel_rfl, by kernel_rfl⟩
theorem c69 : CB 69 := ⟨_, Tryz.func69, by kernel_rfl, by kernel_rfl⟩
theorem c7 : CB 7 := ⟨_, Tryz.func7, by kernel_rfl, by kernel_rfl⟩
theorem c70 : CB 70 := ⟨_, Tryz.func70, by kernel_rfl, by kernel_rfl⟩
theorem c71 : CB 71 := ⟨_, Tryz.func71, by kernel_rfl, by kernel_rfl⟩
theorem c72 : CB 72 := ⟨_, Tryz.func72, by kernel_rfl, by kernel_rfl⟩
theorem c73 : CB 73 := ⟨_, Tryz.func73, by kernel_rfl, by kernel_rfl⟩
theorem c74 : CB 74 := ⟨_, Tryz.func74, by kernel_rfl, by kernel_rfl⟩
theorem c75 : CB 75 := ⟨_, Tryz.func75, by kernel_rfl, by kernel_rfl⟩
theorem c76 : CB 76 := ⟨_, Tryz.func76, by kernel_rfl, by kernel_rfl⟩
theorem c77 : CB 77 := ⟨_, Tryz.func77, by kernel_rfl, by kernel_rfl⟩
theorem c78 : CB 78 := ⟨_, Tryz.func78, by kernel_rfl, by kernel_rfl⟩
theorem c79 : CB 79 := ⟨_, Tryz.func79, by kernel_rfl, by kernel_rfl⟩
theorem c8 : CB 8 := ⟨_, Tryz.func8, by kernel_rfl, by kernel_rfl⟩
theorem c80 : CB 80 := ⟨_, Tryz.func80, by kernel_rfl, by kernel_rfl⟩
theorem c81 : CB 81 := ⟨_, Tryz.func81, by kernel_rfl, by kernel_rfl⟩
theorem c82 : CB 82 := ⟨_, Tryz.func82, by kernel_rfl, by kernel_rfl⟩
theorem c83 : CB 83 := ⟨_, Tryz.func83, by kernel_rfl, by kernel_rfl⟩
theorem c84 : CB 84 := ⟨_, Tryz.func84, by kernel_rfl, by kernel_rfl⟩
theorem c85 : CB 85 := ⟨_, Tryz.func85, by kernel_rfl, by kernel_rfl⟩
theorem c86 : CB 86 := ⟨_, Tryz.func86, by kernel_rfl, by kernel_rfl⟩
theorem c87 : CB 87 := ⟨_, Tryz.func87, by kernel_rfl, by kernel_rfl⟩
theorem c88 : Callable Tryz.prog 88 := ⟨Tryz.f88, Tryz.func88, by kernel_rfl, by kernel_rfl⟩
theorem c89 : CB 89 := ⟨_, Tryz.func89, by kernel_rfl, by kernel_rfl⟩
theorem c9 : CB 9 := ⟨_, Tryz.func9, by kernel_rfl, by kernel_rfl⟩
theorem c90 : CB 90 := ⟨_, Tryz.func90, by kernel_rfl, by kernel_rfl⟩
theorem c91 : CB 91 := ⟨_, Tryz.func91, by kernel_rfl, by kernel_rfl⟩
theorem c92 : CB 92 := ⟨_, Tryz.func92, by kernel_rfl, by kernel_rfl⟩
theorem c93 : CB 93 := ⟨_, Tryz.func93, by kernel_rfl, by kernel_rfl⟩
theorem c94 : CB 94 := ⟨_, Tryz.func94, by kernel_rfl, by kernel_rfl⟩
theorem c95 : CB 95 := ⟨_, Tryz.func95, by kernel_rfl, by kernel_rfl⟩
theorem c96 : CB 96 := ⟨_, Tryz.func96, by kernel_rfl, by kernel_rfl⟩
theorem c97 : CB 97 := ⟨_, Tryz.func97, by kernel_rfl, by kernel_rfl⟩
theorem c98 : CB 98 := ⟨_, Tryz.func98, by kernel_rfl, by kernel_rfl⟩
theorem c99 : CB 99 := ⟨_, Tryz.func99, by kernel_rfl, by kernel_rfl⟩
theorem w_laws_szPartS {w G vp0 p0 p1 r} (h : laws_szPartSS p0 p1 = some r) (hp0 : Has G ty2 vp0 p0) (H : Ctx w G) : Calls Tryz.prog 103 #[vp0, iV p1] w fun e w' => e = .returned (iV r) ∧ Holds M0 w w' [] G := by
 refine F0 12 H Tryz.func103 q fun H => ?_
 refine rR <| qa q <| rN <| qm q <| qm q <| qz H.ctx (hp0) u78 q <| qi (qt_sub q q) q <| qa q <| B <| C <| rR <| qm q <| qi (qt_lss q q) q <| B ?_
 refine Yh q h (fun h => ?_) (fun h => ?_)
 ·cases h
  exact rR <| qa q <| B <| W fun a ha => m (ret1 q ha q ⟨q, H⟩)
 cases h
 exact y <| rR <| qm q <| qa q <| B <| W fun a ha => ret1 q ha q ⟨q, H⟩
theorem w_laws_szItem {w G B0 A1 B1 B2 p1 r} (h : laws_szItemS B0 B1 B2 p1 = some r) (C1 : Has G ty2 A1 B1) (H : Ctx w G) : Calls Tryz.prog 56 #[.agg #[iV B0, A1, iV B2], iV p1] w fun e w' => e = .returned (iV r) ∧ Holds M0 w w' [] G := by
 refine F0 12 H Tryz.func56 q fun H => ?_
 refine C <| Z <| WL_box (cs := [iV B0, A1, iV B2]) H q q q q fun b1 w2 H3 => qa q <| B <| C <| zk <| qf uf80 fi80_1 nz78 q <| ql u78 H3.p0 q <| qm q <| O h fun x6 ab h => qc q c103 H3 (fun _ => w_laws_szPartS ab (C1.c)) <| qa q <| Qn H3 fun a ha w8 aa => X <| S1 ha <| C <| rR <| qm q <| qi (qt_lss q q) q <| B ?_
 refine Yh q h (fun h => ?_) (fun h => ?_)
 ·cases h
  exact rR <| qa q <| B <| W fun a ha => m (ret1 q ha q ⟨q, aa.q0⟩)
 refine y <| rR <| qm q <| qa q <| B <| W fun a ha => ?_
 obtain rfl := L h
 exact ret1 q ha q ⟨q, aa.q0⟩
theorem w_laws_szItemS {w G vp0 p0 p1 r} (h : laws_szItemSS p0 p1 = some r) (hp0 : Has G ty12 vp0 p0) (H : Ctx w G) : Calls Tryz.prog 19 #[vp0, iV p1] w fun e w' => e = .returned (iV r) ∧ Holds M0 w w' [] G := by
 refine F0 27 H Tryz.func19 q fun H => ?_
 refine rR <| qa q <| rN <| qm q <| qm q <| qz H.ctx (hp0) u22 q <| qi (qt_sub q q) q <| qa q <| B <| C <| rR <| qm q <| qi (qt_lss q q) q <| B ?_
 refine Yh q h (fun h => ?_) (fun h => ?_)
 ·cases h
  exact rR <| qa q <| B <| W fun a ha => m (ret1 q ha q ⟨q, H⟩)
 refine y <| C <| rR <| qa q <| B <| g <| O h fun o3 ak h => ?_
 refine fun a5 al => zp (I := fun (s1, s2) a w2 => (Fr a 27 [(0, vp0), (1, iV s1), (5, iV s2)] ∧ Holds M0 w w2 [] G)) (O := fun o e a w2 => match o with | .inl q0 => e = .exit 0 ∧ (Fr a 27 [(1, iV q0)] ∧ Holds M0 w w2 [] G) | .inr q0 => e = .ret ∧ (Fr a 27 [(4, iV q0)] ∧ Holds M0 w w2 [] G)) ak ?_ ?_ ?_
 ·exact ⟨al.s, H⟩
 ·rintro ⟨s1, s2⟩ _ a w7 aa ⟨ha, ab⟩
  refine S1 ha <| C <| rR <| qm q <| qm q <| qz ab.ctx (hp0) u22 q <| qi (qt_lss q q) q <| B ?_
  refine Yh q aa (fun aa => ?_) (fun aa => ?_)
  ·refine y <| C <| g <| C <| zk <| qm q <| qm q <| O aa fun ad af aa => qb ab.ctx (hp0) af u22 i80 q fun aF aG aH am => ?_
   obtain ⟨aI, ao, ap⟩ := ab.atN (hp0) af am
   refine XL_load_agg (t := ty12) us80 uo80 i80 ao q q q fun aJ aq => ?_
   obtain ⟨c23, c24, aK, aL, rfl, ar, au, av⟩ := aq
   obtain ⟨rfl, _⟩ := au
   obtain ⟨c30, c31, aM, aN, rfl, aw, ax, ay⟩ := av
   obtain ⟨ae, rfl, az⟩ := Rep.sl_inv ax
   obtain ⟨rfl, _⟩ := ay
   have ag : Holds _ w w7 [.ro ty2 ae ad.2.1] G := ap [.ro ty2 ae ad.2.1] ⟨⟨_, _, _, _, q, az, (fun k h => (fun k h => (fun _ h => h) k (by rw [ar]; exact zx _ h)) k (by rw [aw]; exact List.mem_append_left _ h))⟩, trivial⟩
   change XL _ _ _ _ _ ((21, .agg #[iV ad.1, ae, iV ad.2.2]) :: _) _
   refine qm q <| O aa fun aO aA aa => qc q c56 ag (fun _ => w_laws_szItem aA hR0) <| qa q <| Qn ag fun a ha aP ah => X <| S1 ha <| rR <| qm q <| qi (qt_lss q q) q <| B ?_
   refine Yh q aa (fun aa => ?_) (fun aa => ?_)
   ·cases aa
    exact rR <| qa q <| B <| W fun a ha => zj (m (⟨ret_ne, q, ha.s, ah.q0⟩))
   cases aa
   exact WP_skip fun a ha => zi <| X <| S1 ha <| Z <| qm q <| qi (qt_add q q) q <| qa q <| WL_nil fun a ha => ⟨q, ha.s, ah.q0⟩
  cases aa
  exact WP_exit fun a ha => zo (⟨exit_ne, q, ha.s, ab⟩)
 intro e a aQ aj
 rcases o3 with o3 | o3
 ·obtain ⟨rfl, ha, aD⟩ := aj
  refine zn <| X <| S1 ha <| rR <| qm q <| qa q <| B <| W fun a ha => ?_
  obtain rfl := L h
  exact ret1 q ha q ⟨q, aD⟩
 obtain ⟨rfl, ha, aE⟩ := aj
 obtain rfl := L h
 exact zj (m (ret1 q ha q ⟨q, aE⟩))
theorem w_laws_szIntS {w G vp0 p0 p1 r} (h : laws_szIntSS p0 p1 = some r) (hp0 : Has G tI vp0 p0) (H : Ctx w G) : Calls Tryz.prog 20 #[vp0, iV p1] w fun e w' => e = .returned (iV r) ∧ Holds M0 w w' [] G := by
 refine F0 12 H Tryz.func20 q fun H => ?_
 refine rR <| qa q <| rN <| qm q <| qm q <| qz H.ctx (hp0) u23 q <| qi (qt_sub q q) q <| qa q <| B <| C <| rR <| qm q <| qi (qt_lss q q) q <| B ?_
 refine Yh q h (fun h => ?_) (fun h => ?_)
 ·cases h
  exact rR <| qa q <| B <| W fun a ha => m (ret1 q ha q ⟨q, H⟩)
 cases h
 exact y <| rR <| qm q <| qa q <| B <| W fun a ha => ret1 q ha q ⟨q, H⟩
theorem w_laws_szOrderS {w G vp0 p0 p1 r} (h : laws_szOrderSS p0 p1 = some r) (hp0 : Has G ty2 vp0 p0) (H : Ctx w G) : Calls Tryz.prog 104 #[vp0, iV p1] w fun e w' => e = .returned (iV r) ∧ Holds M0 w w' [] G := by
 refine F0 12 H Tryz.func104 q fun H => ?_
 refine rR <| qa q <| rN <| qm q <| qm q <| qz H.ctx (hp0) u82 q <| qi (qt_sub q q) q <| qa q <| B <| C <| rR <| qm q <| qi (qt_lss q q) q <| B ?_
 refine Yh q h (fun h => ?_) (fun h => ?_)
 ·cases h
  exact rR <| qa q <| B <| W fun a ha => m (ret1 q ha q ⟨q, H⟩)
 cases h
 exact y <| rR <| qm q <| qa q <| B <| W fun a ha => ret1 q ha q ⟨q, H⟩
theorem w_laws_szTable {w G B0 A1 B1 A2 B2 p1 r} (h : laws_szTableS B0 B1 B2 p1 = some r) (C1 : Has G ty2 A1 B1) (C2 : Has G tI A2 B2) (H : Ctx w G) : Calls Tryz.prog 57 #[.agg #[iV B0, A1, A2], iV p1] w fun e w' => e = .returned (iV r) ∧ Holds M0 w w' [] G := by
 refine F0 18 H Tryz.func57 q fun H => ?_
 refine C <| Z <| WL_box (cs := [iV B0, A1, A2]) H q q q q fun b1 w2 H3 => qa q <| B <| C <| zk <| qf uf84 fi84_1 nz82 q <| ql u82 H3.p0 q <| qm q <| O h fun x6 ad h => qc q c104 H3 (fun _ => w_laws_szOrderS ad (C1.c)) <| qa q <| Qn H3 fun a ha w8 aa => X <| S1 ha <| C <| rR <| qm q <| qi (qt_lss q q) q <| B ?_
 refine Yh q h (fun h => ?_) (fun h => ?_)
 ·cases h
  exact rR <| qa q <| B <| W fun a ha => m (ret1 q ha q ⟨q, aa.q0⟩)
 refine y <| C <| zk <| qf uf84 fi84_2 nz23 q <| ql u23 aa.p0 q <| qm q <| O h fun aj af h => qc q c20 aa (fun _ => w_laws_szIntS af (C2.c)) <| qa q <| Qn aa fun a ha ak ab => X <| S1 ha <| C <| rR <| qm q <| qi (qt_lss q q) q <| B ?_
 refine Yh q h (fun h => ?_) (fun h => ?_)
 ·cases h
  exact rR <| qa q <| B <| W fun a ha => m (ret1 q ha q ⟨q, ab.q0⟩)
 refine y <| rR <| qm q <| qa q <| B <| W fun a ha => ?_
 obtain rfl := L h
 exact ret1 q ha q ⟨q, ab.q0⟩
theorem w_laws_szTableS {w G vp0 p0 p1 r} (h : laws_szTableSS p0 p1 = some r) (hp0 : Has G ty14 vp0 p0) (H : Ctx w G) : Calls Tryz.prog 21 #[vp0, iV p1] w fun e w' => e = .returned (iV r) ∧ Holds M0 w w' [] G := by
 refine F0 27 H Tryz.func21 q fun H => ?_
 refine rR <| qa q <| rN <| qm q <| qm q <| qz H.ctx (hp0) u24 q <| qi (qt_sub q q) q <| qa q <| B <| C <| rR <| qm q <| qi (qt_lss q q) q <| B ?_
 refine Yh q h (fun h => ?_) (fun h => ?_)
 ·cases h
  exact rR <| qa q <| B <| W fun a ha => m (ret1 q ha q ⟨q, H⟩)
 refine y <| C <| rR <| qa q <| B <| g <| O h fun o3 ao h => ?_
 refine fun a5 ap => zp (I := fun (s1, s2) a w2 => (Fr a 27 [(0, vp0), (1, iV s1), (5, iV s2)] ∧ Holds M0 w w2 [] G)) (O := fun o e a w2 => match o with | .inl q0 => e = .exit 0 ∧ (Fr a 27 [(1, iV q0)] ∧ Holds M0 w w2 [] G) | .inr q0 => e = .ret ∧ (Fr a 27 [(4, iV q0)] ∧ Holds M0 w w2 [] G)) ao ?_ ?_ ?_
 ·exact ⟨ap.s, H⟩
 ·rintro ⟨s1, s2⟩ _ a w7 aa ⟨ha, ad⟩
  refine S1 ha <| C <| rR <| qm q <| qm q <| qz ad.ctx (hp0) u24 q <| qi (qt_lss q q) q <| B ?_
  refine Yh q aa (fun aa => ?_) (fun aa => ?_)
  ·refine y <| C <| g <| C <| zk <| qm q <| qm q <| O aa fun ab ag aa => qb ad.ctx (hp0) ag u24 i84 q fun aH aI aJ aq => ?_
   obtain ⟨aK, ar, au⟩ := ad.atN (hp0) ag aq
   refine XL_load_agg (t := ty14) us84 uo84 i84 ar q q q fun aL av => ?_
   obtain ⟨c23, c24, aM, aN, rfl, ah, aw, ax⟩ := av
   obtain ⟨rfl, _⟩ := aw
   obtain ⟨c30, c31, aO, aP, rfl, aj, ay, az⟩ := ax
   obtain ⟨ae, rfl, aA⟩ := Rep.sl_inv ay
   obtain ⟨af, rfl, aB⟩ := Rep.sl_inv az
   have ak : Holds _ w w7 [.ro ty2 ae ab.2.1, .ro tI af ab.2.2] G := au [.ro ty2 ae ab.2.1, .ro tI af ab.2.2] ⟨⟨_, _, _, _, q, aA, (fun k h => (fun k h => (fun _ h => h) k (by rw [ah]; exact zx _ h)) k (by rw [aj]; exact List.mem_append_left _ h))⟩, ⟨_, _, _, _, q, aB, (fun k h => (fun k h => (fun _ h => h) k (by rw [ah]; exact zx _ h)) k (by rw [aj]; exact zx _ h))⟩, trivial⟩
   change XL _ _ _ _ _ ((21, .agg #[iV ab.1, ae, af]) :: _) _
   refine qm q <| O aa fun aQ aC aa => qc q c57 ak (fun _ => w_laws_szTable aC hR0 hR1) <| qa q <| Qn ak fun a ha aR al => X <| S1 ha <| rR <| qm q <| qi (qt_lss q q) q <| B ?_
   refine Yh q aa (fun aa => ?_) (fun aa => ?_)
   ·cases aa
    exact rR <| qa q <| B <| W fun a ha => zj (m (⟨ret_ne, q, ha.s, al.q0.q0⟩))
   cases aa
   exact WP_skip fun a ha => zi <| X <| S1 ha <| Z <| qm q <| qi (qt_add q q) q <| qa q <| WL_nil fun a ha => ⟨q, ha.s, al.q0.q0⟩
  cases aa
  exact WP_exit fun a ha => zo (⟨exit_ne, q, ha.s, ad⟩)
 intro e a aS am
 rcases o3 with o3 | o3
 ·obtain ⟨rfl, ha, aF⟩ := am
  refine zn <| X <| S1 ha <| rR <| qm q <| qa q <| B <| W fun a ha => ?_
  obtain rfl := L h
  exact ret1 q ha q ⟨q, aF⟩
 obtain ⟨rfl, ha, aG⟩ := am
 obtain rfl := L h
 exact zj (m (ret1 q ha q ⟨q, aG⟩))
theorem w_laws_szHouse {w G A0 B0 A1 B1 A2 B2 B3 A4 B4 p1 r} (h : laws_szHouseS B0 B1 B2 B3 B4 p1 = some r) (C0 : Has G ty12 A0 B0) (C1 : Has G tI A1 B1) (C2 : Has G tI A2 B2) (C4 : Has G ty14 A4 B4) (H : Ctx w G) : Calls Tryz.prog 5 #[.agg #[A0, A1, A2, iV B3, A4], iV p1] w fun e w' => e = .returned (iV r) ∧ Holds M0 w w' [] G := by
 refine F0 30 H Tryz.func5 q fun H => ?_
 refine C <| Z <| WL_box (cs := [A0, A1, A2, iV B3, A4]) H q q q q fun b1 w2 H3 => qa q <| B <| C <| zk <| qf uf26 fi26_0 nz22 q <| ql u22 H3.p0 q <| qm q <| O h fun x6 af h => qc q c19 H3 (fun _ => w_laws_szItemS af (C0.c)) <| qa q <| Qn H3 fun a ha w8 aa => X <| S1 ha <| C <| rR <| qm q <| qi (qt_lss q q) q <| B ?_
 refine Yh q h (fun h => ?_) (fun h => ?_)
 ·cases h
  exact rR <| qa q <| B <| W fun a ha => m (ret1 q ha q ⟨q, aa.q0⟩)
 refine y <| C <| zk <| qf uf26 fi26_1 nz23 q <| ql u23 aa.p0 q <| qm q <| O h fun aq ah h => qc q c20 aa (fun _ => w_laws_szIntS ah (C1.c)) <| qa q <| Qn aa fun a ha ar ab => X <| S1 ha <| C <| rR <| qm q <| qi (qt_lss q q) q <| B ?_
 refine Yh q h (fun h => ?_) (fun h => ?_)
 ·cases h
  exact rR <| qa q <| B <| W fun a ha => m (ret1 q ha q ⟨q, ab.q0⟩)
 refine y <| C <| zk <| qf uf26 fi26_2 nz23 q <| ql u23 ab.p0 q <| qm q <| O h fun au ak h => qc q c20 ab (fun _ => w_laws_szIntS ak (C2.c)) <| qa q <| Qn ab fun a ha av ad => X <| S1 ha <| C <| rR <| qm q <| qi (qt_lss q q) q <| B ?_
 refine Yh q h (fun h => ?_) (fun h => ?_)
 ·cases h
  exact rR <| qa q <| B <| W fun a ha => m (ret1 q ha q ⟨q, ad.q0⟩)
 refine y <| C <| zk <| qf uf26 fi26_4 nz24 q <| ql u24 ad.p0 q <| qm q <| O h fun aw am h => qc q c21 ad (fun _ => w_laws_szTableS am (C4.c)) <| qa q <| Qn ad fun a ha ax ae => X <| S1 ha <| C <| rR <| qm q <| qi (qt_lss q q) q <| B ?_
 refine Yh q h (fun h => ?_) (fun h => ?_)
 ·cases h
  exact rR <| qa q <| B <| W fun a ha => m (ret1 q ha q ⟨q, ae.q0⟩)
 refine y <| rR <| qm q <| qa q <| B <| W fun a ha => ?_
 obtain rfl := L h
 exact ret1 q ha q ⟨q, ae.q0⟩
theorem w_laws_szStringS {w G vp0 p0 p1 r} (h : laws_szStringSS p0 p1 = some r) (hp0 : Has G .str vp0 p0) (H : Ctx w G) : Calls Tryz.prog 12 #[vp0, iV p1] w fun e w' => e = .returned (iV r) ∧ Holds M0 w w' [] G := by
 refine F0 28 H Tryz.func12 q fun H => ?_
 refine rR <| qa q <| rN <| qm q <| qm q <| qz H.ctx (hp0) u38 q <| qi (qt_sub q q) q <| qa q <| B <| C <| rR <| qm q <| qi (qt_lss q q) q <| B ?_
 refine Yh q h (fun h => ?_) (fun h => ?_)
 ·cases h
  exact rR <| qa q <| B <| W fun a ha => m (ret1 q ha q ⟨q, H⟩)
 refine y <| C <| rR <| qa q <| B <| g <| O h fun o3 ae h => ?_
 refine fun a5 af => zp (I := fun (s1, s2) a w2 => (Fr a 28 [(0, vp0), (1, iV s1), (5, iV s2)] ∧ Holds M0 w w2 [] G)) (O := fun o e a w2 => match o with | .inl q0 => e = .exit 0 ∧ (Fr a 28 [(1, iV q0)] ∧ Holds M0 w w2 [] G) | .inr q0 => e = .ret ∧ (Fr a 28 [(4, iV q0)] ∧ Holds M0 w w2 [] G)) ae ?_ ?_ ?_
 ·exact ⟨af.s, H⟩
 ·rintro ⟨s1, s2⟩ _ a w7 aa ⟨ha, ab⟩
  refine S1 ha <| C <| rR <| qm q <| qm q <| qz ab.ctx (hp0) u38 q <| qi (qt_lss q q) q <| B ?_
  refine Yh q aa (fun aa => ?_) (fun aa => ?_)
  ·refine y <| C <| g <| rR <| qm q <| qm q <| qm q <| O aa fun ak ad aa => qe ab (hp0) ad u38 i9 q fun _ _ ag => eS u9 ag q <| qi (qt_slen u9 q) q <| qi (qt_sub q q) q <| qa q <| rN <| qm q <| qi (qt_lss q q) q <| B ?_
   refine Yh q aa (fun aa => ?_) (fun aa => ?_)
   ·cases aa
    exact rR <| qa q <| B <| W fun a ha => zj (m (⟨ret_ne, q, ha.s, ab⟩))
   cases aa
   exact WP_skip fun a ha => zi <| X <| S1 ha <| Z <| qm q <| qi (qt_add q q) q <| qa q <| WL_nil fun a ha => ⟨q, ha.s, ab⟩
  cases aa
  exact WP_exit fun a ha => zo (⟨exit_ne, q, ha.s, ab⟩)
 intro e a ap hO19
 rcases o3 with o3 | o3
 ·obtain ⟨rfl, ha, ah⟩ := hO19
  refine zn <| X <| S1 ha <| rR <| qm q <| qa q <| B <| W fun a ha => ?_
  obtain rfl := L h
  exact ret1 q ha q ⟨q, ah⟩
 obtain ⟨rfl, ha, aj⟩ := hO19
 obtain rfl := L h
 exact zj (m (ret1 q ha q ⟨q, aj⟩))
theorem w_laws_toPart {w G B0 B1 r} (h : laws_toPartS B0 B1 = some r) (H : Ctx w G) : Calls Tryz.prog 136 #[.agg #[iV B0, iV B1]] w fun e w' => e = .returned (.agg #[iV r.1, iV r.2]) ∧ Holds M0 w w' [] G := by
 refine F0 11 H Tryz.func136 q fun H => ?_
 unfold laws_toPartS at h
 cases h
 refine C <| Z <| WL_box (cs := [iV B0, iV B1]) H q q q q fun b1 w2 H3 => zq (cs := [iV 0, iV 0]) H3 z152 q q q fun b5 w6 H7 => B <| C <| Z <| zq (cs := [iV 0, iV 0]) H7 z152 q q q fun b9 aj aa => rN <| qf uf160 fi160_0 nz3 q <| ql u3 aa.p2 q <| qf uf152 fi152_0 nz3 q <| WL_store_bx aa q il3 q q q q q fun ak ab => rN <| qf uf160 fi160_1 nz3 q <| ql u3 ab.p2 q <| qf uf152 fi152_1 nz3 q <| WL_store_bx ab q il3 q q q q q fun al ad => rN <| eA ad.p0 us152 uo152 il152 q <| zl (cs' := [iV B0, iV B1]) ad.p1 q il152 q q q q q fun am ae => B <| W fun a ha => have ag := R ae.p0; ?_
 exact retc q ha q (run_loadVar_bx (cs := [iV B0, iV B1]) us152 uo152 il152 ag) ⟨q, ae.q0.q0.q0⟩
theorem w_laws_toPartS {w G vp0 p0 r} (h : laws_toPartSS p0 = some r) (hp0 : Has G ty2 vp0 p0) (H : Ctx w G) : Calls Tryz.prog 113 #[vp0] w fun e w' => ∃ (v1 : Value), e = .returned (v1) ∧ Holds M0 w w' [.sl 152 ty2 v1 r] G := by
 refine F0 23 H Tryz.func113 q fun H => ?_
 refine rR <| qa q <| rN <| qm q <| qz H.ctx (hp0) u78 q <| O h fun x1 aj h => WL_makeH H aj u93 j152 q (fun _ => ⟨_, _, [], [], q, q, ⟨q, q⟩, ⟨q, q⟩⟩) q q q q q fun v3 w4 H5 => qa q <| B <| C <| rR <| qa q <| B <| g <| O h fun o9 ak h => ?_
 refine fun av al => zp (I := fun (s7, s8) a w2 => (Fr a 23 [(0, vp0), (3, v3), (4, iV s7)] ∧ Holds M0 w w2 [.sl 152 ty2 v3 s8] G)) (O := fun q0 e a w2 => e = .exit 0 ∧ (Fr a 23 [(3, v3)] ∧ Holds M0 w w2 [.sl 152 ty2 v3 q0] G)) ak ?_ ?_ ?_
 ·exact ⟨al.s, H5⟩
 ·rintro ⟨s7, s8⟩ _ a aw aa ⟨ha, ab⟩
  refine S1 ha <| C <| rR <| qm q <| qm q <| qz ab.ctx (hp0.c) u78 q <| qi (qt_lss q q) q <| B ?_
  refine Yh q aa (fun aa => ?_) (fun aa => ?_)
  ·refine y <| C <| g <| Z <| qm q <| qm q <| qm q <| qm q <| O aa fun ad ae aa => qe ab (hp0.c) ae u78 i160 q fun _ _ am => lP [iV ad.1, iV ad.2] us160 uo160 i160 am q q q q <| O aa fun af ao aa => U0 q c136 (w_laws_toPart ao ab.ctx) fun aA ap => have ag := ab.cN0 [] ap; O aa fun aB ah aa => qb ag.ctx hS0 ah u93 i152 q fun aC aD aE aq => WL_storeH (fo := 0) (cs' := [iV af.1, iV af.2]) ag ah aq (Upd.whole (Blt.pair (Blt.int) (Blt.int))) q il152 q q q q fun aF ar => WL_nil fun a ha => zi <| X <| S1 ha <| Z <| qm q <| qi (qt_add q q) q <| qa q <| WL_nil fun a ha => ?_
   cases aa
   exact ⟨q, ha.s, ar⟩
  cases aa
  exact WP_exit fun a ha => zo (⟨exit_ne, q, ha.s, ab⟩)
 rintro _ a aG ⟨rfl, ha, au⟩
 refine zn <| X <| S1 ha <| rR <| qm q <| qa q <| B <| W fun a ha => ?_
 obtain rfl := L h
 exact ret1 q ha q ⟨v3, q, au⟩
theorem w_laws_toItem {w G B0 A1 B1 B2 r} (h : laws_toItemS B0 B1 B2 = some r) (C1 : Has G ty2 A1 B1) (H : Ctx w G) : Calls Tryz.prog 74 #[.agg #[iV B0, A1, iV B2]] w fun e w' => ∃ (v1 : Value), e = .returned (.agg #[iV r.1, v1, iV r.2.2]) ∧ Holds M0 w w' [.sl 152 ty2 v1 r.2.1] G := by
 refine F0 15 H Tryz.func74 q fun H => ?_
 refine C <| Z <| WL_box (cs := [iV B0, A1, iV B2]) H q q q q fun b1 w2 H3 => zq (cs := [iV 0, nS, iV 0]) H3 z95 q q q fun b5 w6 H7 => B <| C <| Z <| zq (cs := [iV 0, nS, iV 0]) H7 z95 q q q fun b9 aq ae => rN <| qf uf80 fi80_0 nz3 q <| ql u3 ae.p2 q <| qf uf95 fi95_0 nz3 q <| WL_store_bx ae q il3 q q q q q fun ar aa => rN <| qf uf80 fi80_1 nz78 q <| ql u78 aa.p2 q <| O h fun au ak h => U1 q c113 (w_laws_toPartS ak (C1.c.c.c) aa.ctx) fun ab av al => have am := aa.cN1 [] al; qf uf95 fi95_1 nz93 q <| have ad := am.p1; WL_store_bx ad q il93 (ad.ctx.sliceCells hS1) (ad.ctx.sliceOne hS1) q q q fun aw af => rN <| qf uf80 fi80_2 nz3 q <| ql u3 af.p3 q <| qf uf95 fi95_2 nz3 q <| WL_store_bx af q il3 q q q q q fun ax ag => ?_
 cases h
 exact rN <| eA ag.p0 us95 uo95 il95 q <| have ah := ag.p2; zl (cs' := [iV B0, ab, iV B2]) ah q il95 q (T q (T (ah.ctx.sliceOne hS2) (T q q))) q q q fun ay aj => B <| W fun a ha => have ao := R aj.p0; retc q ha q (run_loadVar_bx (cs := [iV B0, ab, iV B2]) us95 uo95 il95 ao) ⟨ab, q, aj.q0.q0.q1⟩
theorem w_laws_toItemS {w G vp0 p0 r} (h : laws_toItemSS p0 = some r) (hp0 : Has G ty12 vp0 p0) (H : Ctx w G) : Calls Tryz.prog 36 #[vp0] w fun e w' => ∃ (v1 : Value) (csv1 : List Value) (Fv1 : List Nat), e = .returned (v1) ∧ Holds M0 w w' [dpR 95 dt15 v1 csv1 r Fv1] G := by
 refine F0 23 H Tryz.func36 q fun H => ?_
 refine rR <| qa q <| rN <| qm q <| qz H.ctx (hp0) u22 q <| O h fun x1 ar h => WL_makeD (d := dt15) H ar u28 j95 q (DBlt.cast (DBlt.pair (DBlt.int (k := .i64) (n := 0)) (DBlt.pair (DBlt.nil (e := 152) (d := dt3)) (DBlt.int (k := .i64) (n := 0)))) q q) q q q q q fun v3 au F7 w4 H5 => qa q <| B <| C <| rR <| qa q <| B <| g <| O h fun aZ av h => ?_
 refine fun a0 aw => zp (I := fun (s9, ag) a w2 => ∃ ad ae, Fr a 23 [(0, vp0), (3, v3), (4, iV s9)] ∧ Holds M0 w w2 [dpR 95 dt15 v3 ad ag ae] G) (O := fun q0 e a w2 => e = .exit 0 ∧ ∃ ax ay, Fr a 23 [(3, v3)] ∧ Holds M0 w w2 [dpR 95 dt15 v3 ax q0 ay] G) av ?_ ?_ ?_
 ·exact ⟨au, F7, aw.s, H5⟩
 ·rintro ⟨s9, ag⟩ _ a az aa ⟨ad, ae, ha, ah⟩
  refine S1 ha <| C <| rR <| qm q <| qm q <| have al := ah.viewG (Vw.d Vw.refl); qz al (hp0.c) u22 q <| qi (qt_lss q q) q <| B ?_
  refine Yh q aa (fun aa => ?_) (fun aa => ?_)
  ·refine y <| C <| g <| Z <| qm q <| qm q <| qm q <| qm q <| O aa fun af am aa => qb al (hp0.c) am u22 i80 q fun a1 a2 a3 aA => ?_
   obtain ⟨a4, aB, aC⟩ := ah.atN (hp0.c) am aA
   refine XL_load_agg (t := ty12) us80 uo80 i80 aB q q q fun a5 aD => ?_
   obtain ⟨c32, c33, a6, a7, rfl, aE, aF, aG⟩ := aD
   obtain ⟨rfl, _⟩ := aF
   obtain ⟨c39, c40, a8, a9, rfl, aH, aI, aJ⟩ := aG
   obtain ⟨aj, rfl, aK⟩ := Rep.sl_inv aI
   obtain ⟨rfl, _⟩ := aJ
   have ao : Holds _ w az [.ro ty2 aj af.2.1, dpR 95 dt15 v3 ad ag ae] G := aC [.ro ty2 aj af.2.1] ⟨⟨_, _, _, _, q, aK, (fun k h => (fun k h => (fun _ h => h) k (by rw [aE]; exact zx _ h)) k (by rw [aH]; exact List.mem_append_left _ h))⟩, trivial⟩
   change XL _ _ _ _ _ ((19, .agg #[iV af.1, aj, iV af.2.2]) :: _) _
   refine O aa fun ab aL aa => have aM := ao.viewG (Vw.c (Vw.d Vw.refl)); U1 q c74 (w_laws_toItem aL hR0 aM) fun ak ba aN => have ap := ao.cV1 [] aN (zc (Pure.sl q) all_nil); O aa fun bb aq aa => have aO := ap.viewG (Vw.c (Vw.c (Vw.d Vw.refl))); qb aO hR2 aq u28 i95 q fun bc bd be aP => WL_storeD (Rs := [.sl 152 ty2 ak ab.2.1]) (fo := 0) (cs' := [iV ab.1, ak, iV ab.2.2]) ap.p2.p1 aq aP (Foc.refl) (DBlt.cast (DBlt.pair (DBlt.int (k := .i64) (n := ab.1)) (DBlt.pair (DBlt.sl (e := 152) (t := ty2) (v := ak) (x := ab.2.1) q) (DBlt.int (k := .i64) (n := ab.2.2)))) q q) q il95 q q q fun aS aT bf aU => WL_nil fun a ha => zi <| X <| S1 ha <| Z <| qm q <| qi (qt_add q q) q <| qa q <| WL_nil fun a ha => ?_
   cases aa
   exact ⟨q, aS, aT, ha.s, aU.q1⟩
  cases aa
  exact WP_exit fun a ha => zo (⟨exit_ne, q, ad, ae, ha.s, ah⟩)
 rintro _ a bg ⟨rfl, aW, aX, ha, aY⟩
 refine zn <| X <| S1 ha <| rR <| qm q <| qa q <| B <| W fun a ha => ?_
 obtain rfl := L h
 exact ret1 q ha q ⟨v3, aW, aX, q, aY⟩
theorem w_laws_toIntS {w G vp0 p0 r} (h : laws_toIntSS p0 = some r) (hp0 : Has G tI vp0 p0) (H : Ctx w G) : Calls Tryz.prog 37 #[vp0] w fun e w' => ∃ (v1 : Value), e = .returned (v1) ∧ Holds M0 w w' [.sl 3 tI v1 r] G := by
 refine F0 22 H Tryz.func37 q fun H => ?_
 refine rR <| qa q <| rN <| qm q <| qz H.ctx (hp0) u23 q <| O h fun x1 af h => WL_makeH H af u23 j3 q (fun _ => ⟨q, q⟩) q q q q q fun v3 w4 H5 => qa q <| B <| C <| rR <| qa q <| B <| g <| O h fun o9 ag h => ?_
 refine fun ap ah => zp (I := fun (s7, s8) a w2 => (Fr a 22 [(0, vp0), (3, v3), (4, iV s7)] ∧ Holds M0 w w2 [.sl 3 tI v3 s8] G)) (O := fun q0 e a w2 => e = .exit 0 ∧ (Fr a 22 [(3, v3)] ∧ Holds M0 w w2 [.sl 3 tI v3 q0] G)) ag ?_ ?_ ?_
 ·exact ⟨ah.s, H5⟩
 ·rintro ⟨s7, s8⟩ _ a aq aa ⟨ha, ab⟩
  refine S1 ha <| C <| rR <| qm q <| qm q <| qz ab.ctx (hp0.c) u23 q <| qi (qt_lss q q) q <| B ?_
  refine Yh q aa (fun aa => ?_) (fun aa => ?_)
  ·refine y <| C <| g <| Z <| qm q <| qm q <| qm q <| qm q <| O aa fun aj ad aa => qe ab (hp0.c) ad u23 i3 q fun _ _ ak => eI u3 ak q <| O aa fun aw ae aa => qb ab.ctx hS0 ae u23 i3 q fun ax ay az al => WL_storeH (fo := 0) (cs' := [iV aj]) ab ae al (Upd.whole (Blt.int)) q il3 q q q q fun aA am => WL_nil fun a ha => zi <| X <| S1 ha <| Z <| qm q <| qi (qt_add q q) q <| qa q <| WL_nil fun a ha => ?_
   cases aa
   exact ⟨q, ha.s, am⟩
  cases aa
  exact WP_exit fun a ha => zo (⟨exit_ne, q, ha.s, ab⟩)
 rintro _ a aB ⟨rfl, ha, ao⟩
 refine zn <| X <| S1 ha <| rR <| qm q <| qa q <| B <| W fun a ha => ?_
 obtain rfl := L h
 exact ret1 q ha q ⟨v3, q, ao⟩
theorem w_laws_toOrder {w G B0 B1 r} (h : laws_toOrderS B0 B1 = some r) (H : Ctx w G) : Calls Tryz.prog 137 #[.agg #[iV B0, iV B1]] w fun e w' => e = .returned (.agg #[iV r.1, iV r.2]) ∧ Holds M0 w w' [] G := by
 refine F0 11 H Tryz.func137 q fun H => ?_
 unfold laws_toOrderS at h
 cases h
 refine C <| Z <| WL_box (cs := [iV B0, iV B1]) H q q q q fun b1 w2 H3 => zq (cs := [iV 0, iV 0]) H3 z103 q q q fun b5 w6 H7 => B <| C <| Z <| zq (cs := [iV 0, iV 0]) H7 z103 q q q fun b9 aj aa => rN <| qf uf162 fi162_0 nz3 q <| ql u3 aa.p2 q <| qf uf103 fi103_0 nz3 q <| WL_store_bx aa q il3 q q q q q fun ak ab => rN <| qf uf162 fi162_1 nz3 q <| ql u3 ab.p2 q <| qf uf103 fi103_1 nz3 q <| WL_store_bx ab q il3 q q q q q fun al ad => rN <| eA ad.p0 us103 uo103 il103 q <| zl (cs' := [iV B0, iV B1]) ad.p1 q il103 q q q q q fun am ae => B <| W fun a ha => have ag := R ae.p0; ?_
 exact retc q ha q (run_loadVar_bx (cs := [iV B0, iV B1]) us103 uo103 il103 ag) ⟨q, ae.q0.q0.q0⟩
theorem w_laws_toOrderS {w G vp0 p0 r} (h : laws_toOrderSS p0 = some r) (hp0 : Has G ty2 vp0 p0) (H : Ctx w G) : Calls Tryz.prog 114 #[vp0] w fun e w' => ∃ (v1 : Value), e = .returned (v1) ∧ Holds M0 w w' [.sl 103 ty2 v1 r] G := by
 refine F0 23 H Tryz.func114 q fun H => ?_
 refine rR <| qa q <| rN <| qm q <| qz H.ctx (hp0) u82 q <| O h fun x1 aj h => WL_makeH H aj u87 j103 q (fun _ => ⟨_, _, [], [], q, q, ⟨q, q⟩, ⟨q, q⟩⟩) q q q q q fun v3 w4 H5 => qa q <| B <| C <| rR <| qa q <| B <| g <| O h fun o9 ak h => ?_
 refine fun av al => zp (I := fun (s7, s8) a w2 => (Fr a 23 [(0, vp0), (3, v3), (4, iV s7)] ∧ Holds M0 w w2 [.sl 103 ty2 v3 s8] G)) (O := fun q0 e a w2 => e = .exit 0 ∧ (Fr a 23 [(3, v3)] ∧ Holds M0 w w2 [.sl 103 ty2 v3 q0] G)) ak ?_ ?_ ?_
 ·exact ⟨al.s, H5⟩
 ·rintro ⟨s7, s8⟩ _ a aw aa ⟨ha, ab⟩
  refine S1 ha <| C <| rR <| qm q <| qm q <| qz ab.ctx (hp0.c) u82 q <| qi (qt_lss q q) q <| B ?_
  refine Yh q aa (fun aa => ?_) (fun aa => ?_)
  ·refine y <| C <| g <| Z <| qm q <| qm q <| qm q <| qm q <| O aa fun ad ae aa => qe ab (hp0.c) ae u82 i162 q fun _ _ am => lP [iV ad.1, iV ad.2] us162 uo162 i162 am q q q q <| O aa fun af ao aa => U0 q c137 (w_laws_toOrder ao ab.ctx) fun aA ap => have ag := ab.cN0 [] ap; O aa fun aB ah aa => qb ag.ctx hS0 ah u87 i103 q fun aC aD aE aq => WL_storeH (fo := 0) (cs' := [iV af.1, iV af.2]) ag ah aq (Upd.whole (Blt.pair (Blt.int) (Blt.int))) q il103 q q q q fun aF ar => WL_nil fun a ha => zi <| X <| S1 ha <| Z <| qm q <| qi (qt_add q q) q <| qa q <| WL_nil fun a ha => ?_
   cases aa
   exact ⟨q, ha.s, ar⟩
  cases aa
  exact WP_exit fun a ha => zo (⟨exit_ne, q, ha.s, ab⟩)
 rintro _ a aG ⟨rfl, ha, au⟩
 refine zn <| X <| S1 ha <| rR <| qm q <| qa q <| B <| W fun a ha => ?_
 obtain rfl := L h
 exact ret1 q ha q ⟨v3, q, au⟩
theorem w_laws_toTable {w G B0 A1 B1 A2 B2 r} (h : laws_toTableS B0 B1 B2 = some r) (C1 : Has G ty2 A1 B1) (C2 : Has G tI A2 B2) (H : Ctx w G) : Calls Tryz.prog 75 #[.agg #[iV B0, A1, A2]] w fun e w' => ∃ (v1 : Value) (v2 : Value), e = .returned (.agg #[iV r.1, v1, v2]) ∧ Holds M0 w w' [.sl 103 ty2 v1 r.2.1, .sl 3 tI v2 r.2.2] G := by
 refine F0 16 H Tryz.func75 q fun H => ?_
 refine C <| Z <| WL_box (cs := [iV B0, A1, A2]) H q q q q fun b1 w2 H3 => zq (cs := [iV 0, nS, nS]) H3 z89 q q q fun b5 w6 H7 => B <| C <| Z <| zq (cs := [iV 0, nS, nS]) H7 z89 q q q fun b9 ax aj => rN <| qf uf84 fi84_0 nz3 q <| ql u3 aj.p2 q <| qf uf89 fi89_0 nz3 q <| WL_store_bx aj q il3 q q q q q fun ay aa => rN <| qf uf84 fi84_1 nz82 q <| ql u82 aa.p2 q <| O h fun az am h => U1 q c114 (w_laws_toOrderS am (C1.c.c.c) aa.ctx) fun ab aA ao => have ap := aa.cN1 [] ao; qf uf89 fi89_1 nz87 q <| have ad := ap.p1; WL_store_bx ad q il87 (ad.ctx.sliceCells hS1) (ad.ctx.sliceOne hS1) q q q fun aB ae => rN <| qf uf84 fi84_2 nz23 q <| ql u23 ae.p3 q <| O h fun aC aq h => U1 q c37 (w_laws_toIntS aq (C2.c.c.c.c) ae.ctx) fun af aD ar => have au := ae.cN1 [] ar; ?_
 cases h
 exact qf uf89 fi89_2 nz23 q <| have ag := au.p1; WL_store_bx ag q il23 (ag.ctx.sliceCells hS1) (ag.ctx.sliceOne hS1) q q q fun aE ak => rN <| eA ak.p0 us89 uo89 il89 q <| have ah := ak.p3; zl (cs' := [iV B0, ab, af]) ah q il89 q (T q (T (ah.ctx.sliceOne hS3) (T (ah.ctx.sliceOne hS2) q))) q q q fun aF al => B <| W fun a ha => have av := R al.p0; retc q ha q (run_loadVar_bx (cs := [iV B0, ab, af]) us89 uo89 il89 av) ⟨ab, af, q, al.q0.q0.q2.p1⟩
theorem w_laws_toTableS {w G vp0 p0 r} (h : laws_toTableSS p0 = some r) (hp0 : Has G ty14 vp0 p0) (H : Ctx w G) : Calls Tryz.prog 38 #[vp0] w fun e w' => ∃ (v1 : Value) (csv1 : List Value) (Fv1 : List Nat), e = .returned (v1) ∧ Holds M0 w w' [dpR 89 dt16 v1 csv1 r Fv1] G := by
 refine F0 23 H Tryz.func38 q fun H => ?_
 refine rR <| qa q <| rN <| qm q <| qz H.ctx (hp0) u24 q <| O h fun x1 ax h => WL_makeD (d := dt16) H ax u29 j89 q (DBlt.cast (DBlt.pair (DBlt.int (k := .i64) (n := 0)) (DBlt.pair (DBlt.nil (e := 103) (d := dt3)) (DBlt.nil (e := 3) (d := (.leaf tI))))) q q) q q q q q fun v3 ay F7 w4 H5 => qa q <| B <| C <| rR <| qa q <| B <| g <| O h fun a3 az h => ?_
 refine fun a4 aA => zp (I := fun (s9, ag) a w2 => ∃ ae af, Fr a 23 [(0, vp0), (3, v3), (4, iV s9)] ∧ Holds M0 w w2 [dpR 89 dt16 v3 ae ag af] G) (O := fun q0 e a w2 => e = .exit 0 ∧ ∃ aB aC, Fr a 23 [(3, v3)] ∧ Holds M0 w w2 [dpR 89 dt16 v3 aB q0 aC] G) az ?_ ?_ ?_
 ·exact ⟨ay, F7, aA.s, H5⟩
 ·rintro ⟨s9, ag⟩ _ a aD aa ⟨ae, af, ha, ah⟩
  refine S1 ha <| C <| rR <| qm q <| qm q <| have ao := ah.viewG (Vw.d Vw.refl); qz ao (hp0.c) u24 q <| qi (qt_lss q q) q <| B ?_
  refine Yh q aa (fun aa => ?_) (fun aa => ?_)
  ·refine y <| C <| g <| Z <| qm q <| qm q <| qm q <| qm q <| O aa fun ad ap aa => qb ao (hp0.c) ap u24 i84 q fun a5 a6 a7 aE => ?_
   obtain ⟨a8, aF, aG⟩ := ah.atN (hp0.c) ap aE
   refine XL_load_agg (t := ty14) us84 uo84 i84 aF q q q fun a9 aH => ?_
   obtain ⟨c32, c33, ba, bb, rfl, aq, aI, aJ⟩ := aH
   obtain ⟨rfl, _⟩ := aI
   obtain ⟨c39, c40, bc, bd, rfl, ar, aK, aL⟩ := aJ
   obtain ⟨aj, rfl, aM⟩ := Rep.sl_inv aK
   obtain ⟨ak, rfl, aN⟩ := Rep.sl_inv aL
   have au : Holds _ w aD [.ro ty2 aj ad.2.1, .ro tI ak ad.2.2, dpR 89 dt16 v3 ae ag af] G := aG [.ro ty2 aj ad.2.1, .ro tI ak ad.2.2] ⟨⟨_, _, _, _, q, aM, (fun k h => (fun k h => (fun _ h => h) k (by rw [aq]; exact zx _ h)) k (by rw [ar]; exact List.mem_append_left _ h))⟩, ⟨_, _, _, _, q, aN, (fun k h => (fun k h => (fun _ h => h) k (by rw [aq]; exact zx _ h)) k (by rw [ar]; exact zx _ h))⟩, trivial⟩
   change XL _ _ _ _ _ ((19, .agg #[iV ad.1, aj, ak]) :: _) _
   refine O aa fun ab aO aa => have aP := au.viewG (Vw.c (Vw.c (Vw.d Vw.refl))); U2 q c75 (w_laws_toTable aO hR0 hR1 aP) fun al am be aQ => have av := au.cV2 [] aQ (zc (Pure.sl q) (zc (Pure.sl q) all_nil)); O aa fun bf aw aa => have aR := av.viewG (Vw.c (Vw.c (Vw.c (Vw.c (Vw.d Vw.refl))))); qb aR hR4 aw u29 i89 q fun bg bh bi aS => WL_storeD (Rs := [.sl 103 ty2 al ab.2.1, .sl 3 tI am ab.2.2]) (fo := 0) (cs' := [iV ab.1, al, am]) av.p4.p2.p2 aw aS (Foc.refl) (DBlt.cast (DBlt.pair (DBlt.int (k := .i64) (n := ab.1)) (DBlt.pair (DBlt.sl (e := 103) (t := ty2) (v := al) (x := ab.2.1) q) (DBlt.sl (e := 3) (t := tI) (v := am) (x := ab.2.2) q))) q q) q il89 q q q fun aW aX bj aY => WL_nil fun a ha => zi <| X <| S1 ha <| Z <| qm q <| qi (qt_add q q) q <| qa q <| WL_nil fun a ha => ?_
   cases aa
   exact ⟨q, aW, aX, ha.s, aY.q1.q1⟩
  cases aa
  exact WP_exit fun a ha => zo (⟨exit_ne, q, ae, af, ha.s, ah⟩)
 rintro _ a bk ⟨rfl, a0, a1, ha, a2⟩
 refine zn <| X <| S1 ha <| rR <| qm q <| qa q <| B <| W fun a ha => ?_
 obtain rfl := L h
 exact ret1 q ha q ⟨v3, a0, a1, q, a2⟩
theorem w_laws_toHouse {w G A0 B0 A1 B1 A2 B2 B3 A4 B4 r} (h : laws_toHouseS B0 B1 B2 B3 B4 = some r) (C0 : Has G ty12 A0 B0) (C1 : Has G tI A1 B1) (C2 : Has G tI A2 B2) (C4 : Has G ty14 A4 B4) (H : Ctx w G) : Calls Tryz.prog 7 #[.agg #[A0, A1, A2, iV B3, A4]] w fun e w' => ∃ (v1 : Value) (csv1 : List Value) (Fv1 : List Nat) (v4 : Value) (v5 : Value) (v6 : Value) (csv6 : List Value) (Fv6 : List Nat), e = .returned (.agg #[v1, v4, v5, iV r.2.2.2.1, v6]) ∧ Holds M0 w w' [dpR 95 dt15 v1 csv1 r.1 Fv1, .sl 3 tI v4 r.2.1, .sl 3 tI v5 r.2.2.1, dpR 89 dt16 v6 csv6 r.2.2.2.2 Fv6] G := by
 refine F0 24 H Tryz.func7 q fun H => ?_
 refine C <| Z <| WL_box (cs := [A0, A1, A2, iV B3, A4]) H q q q q fun b1 w2 H3 => zq (cs := [nS, nS, nS, iV 0, nS]) H3 z31 q q q fun b5 w6 H7 => B <| C <| Z <| zq (cs := [nS, nS, nS, iV 0, nS]) H7 z31 q q q fun b9 aV ab => rN <| qf uf26 fi26_0 nz22 q <| ql u22 ab.p2 q <| O h fun aW aA h => U3 q c36 (w_laws_toItemS aA (C0.c.c.c) ab.ctx) fun ad aB aC aX aD => have aE := ab.cN1 [] aD; qf uf31 fi31_0 nz28 q <| have al := aE.p1; have am := al.viewG (Vw.c (Vw.d (Vw.c (Vw.c Vw.refl)))); WL_store_bx al q il28 (am.sliceCells hR1) (am.sliceOne hR1) q q q fun aY ae => rN <| qf uf26 fi26_1 nz23 q <| ql u23 ae.p3 q <| O h fun aZ aF h => have aG := ae.viewG (Vw.c (Vw.d (Vw.c (Vw.c Vw.refl)))); U1 q c37 (w_laws_toIntS aF (C1.c.c.c.c) aG) fun af a0 aH => ?_
 refine have aI := ae.cV1 [] aH (zc (Pure.sl q) all_nil); qf uf31 fi31_1 nz23 q <| have ao := aI.p1; have ap := ao.viewG (Vw.c (Vw.c (Vw.d (Vw.c (Vw.c Vw.refl))))); WL_store_bx ao q il23 (ap.sliceCells hS1) (ap.sliceOne hS1) q q q fun a1 ag => rN <| qf uf26 fi26_2 nz23 q <| ql u23 ag.p4 q <| O h fun a2 aJ h => have aK := ag.viewG (Vw.c (Vw.c (Vw.d (Vw.c (Vw.c Vw.refl))))); U1 q c37 (w_laws_toIntS aJ (C2.c.c.c.c.c) aK) fun ah a3 aL => have aM := ag.cV1 [] aL (zc (Pure.sl q) all_nil); qf uf31 fi31_2 nz23 q <| have aq := aM.p1; have ar := aq.viewG (Vw.c (Vw.c (Vw.c (Vw.d (Vw.c (Vw.c Vw.refl)))))); WL_store_bx aq q il23 (ar.sliceCells hS1) (ar.sliceOne hS1) q q q fun a4 au => rN <| qf uf26 fi26_3 nz3 q <| ql u3 au.p5 q <| qf uf31 fi31_3 nz3 q ?_
 refine WL_store_bx au q il3 q q q q q fun a5 aj => rN <| qf uf26 fi26_4 nz24 q <| ql u24 aj.p5 q <| O h fun a6 aN h => have aO := aj.viewG (Vw.c (Vw.c (Vw.c (Vw.d (Vw.c (Vw.c Vw.refl)))))); U3 q c38 (w_laws_toTableS aN (C4.c.c.c.c.c.c) aO) fun ak aP aQ a7 aR => have aS := aj.cV1 [] aR (zc Pure.dp all_nil); qf uf31 fi31_4 nz29 q <| have av := aS.p1; have aw := av.viewG (Vw.c (Vw.d (Vw.c (Vw.c (Vw.d (Vw.c (Vw.c Vw.refl))))))); WL_store_bx av q il29 (aw.sliceCells hR1) (aw.sliceOne hR1) q q q fun a8 ax => rN <| eA ax.p0 us31 uo31 il31 q <| have ay := ax.p5; have aa := ay.viewG (Vw.c (Vw.c (Vw.d (Vw.c (Vw.c (Vw.d (Vw.c Vw.refl))))))); zl (cs' := [ad, af, ah, iV B3, ak]) ay q il31 q (T (aa.sliceOne hR5) (T (aa.sliceOne hS4) (T (aa.sliceOne hS3) (T q (T (aa.sliceOne hR2) q))))) q q q fun a9 az => B <| W fun a ha => ?_
 cases h
 refine have aT := R az.p0; ?_
 exact retc q ha q (run_loadVar_bx (cs := [ad, af, ah, iV B3, ak]) us31 uo31 il31 aT) ⟨ad, aB, aC, af, ah, ak, aP, aQ, q, az.q0.q0.q4.p1.p2.p3⟩
theorem w_laws_toStringS {w G vp0 p0 r} (h : laws_toStringSS p0 = some r) (hp0 : Has G .str vp0 p0) (H : Ctx w G) : Calls Tryz.prog 14 #[vp0] w fun e w' => ∃ (v1 : Value), e = .returned (v1) ∧ Holds M0 w w' [.sl 9 .str v1 r] G := by
 refine F0 22 H Tryz.func14 q fun H => ?_
 refine rR <| qa q <| rN <| qm q <| qz H.ctx (hp0) u38 q <| O h fun x1 af h => WL_makeH H af u38 j9 q (fun _ => ⟨q, q⟩) q q q q q fun v3 w4 H5 => qa q <| B <| C <| rR <| qa q <| B <| g <| O h fun o9 ag h => ?_
 refine fun ap ah => zp (I := fun (s7, s8) a w2 => (Fr a 22 [(0, vp0), (3, v3), (4, iV s7)] ∧ Holds M0 w w2 [.sl 9 .str v3 s8] G)) (O := fun q0 e a w2 => e = .exit 0 ∧ (Fr a 22 [(3, v3)] ∧ Holds M0 w w2 [.sl 9 .str v3 q0] G)) ag ?_ ?_ ?_
 ·exact ⟨ah.s, H5⟩
 ·rintro ⟨s7, s8⟩ _ a aq aa ⟨ha, ab⟩
  refine S1 ha <| C <| rR <| qm q <| qm q <| qz ab.ctx (hp0.c) u38 q <| qi (qt_lss q q) q <| B ?_
  refine Yh q aa (fun aa => ?_) (fun aa => ?_)
  ·refine y <| C <| g <| Z <| qm q <| qm q <| qm q <| qm q <| O aa fun aj ad aa => qe ab (hp0.c) ad u38 i9 q fun _ _ ak => eS u9 ak q <| O aa fun aw ae aa => qb ab.ctx hS0 ae u38 i9 q fun ax ay az al => WL_storeH (fo := 0) (cs' := [strV aj]) ab ae al (Upd.whole (Blt.str)) q il9 q q q q fun aA am => WL_nil fun a ha => zi <| X <| S1 ha <| Z <| qm q <| qi (qt_add q q) q <| qa q <| WL_nil fun a ha => ?_
   cases aa
   exact ⟨q, ha.s, am⟩
  cases aa
  exact WP_exit fun a ha => zo (⟨exit_ne, q, ha.s, ab⟩)
 rintro _ a aB ⟨rfl, ha, ao⟩
 refine zn <| X <| S1 ha <| rR <| qm q <| qa q <| B <| W fun a ha => ?_
 obtain rfl := L h
 exact ret1 q ha q ⟨v3, q, ao⟩
theorem w_spec_l1In {w G p0 p1 p2 r} (h : spec_l1InS p0 p1 p2 = some r) (H : Ctx w G) : Calls Tryz.prog 60 #[iV p0, iV p1, iV p2] w fun e w' => e = .returned (.bool r) ∧ Holds M0 w w' [] G := by
 refine F0 15 H Tryz.func60 q fun H => ?_
 unfold spec_l1InS at h
 refine rR <| qa q <| rN <| qm q <| qm q <| qi (qt_geq q q) q <| qm q ?_
 refine Ha (res := ((decide (p0 ≥ p1)) && (decide (p0 ≤ p2)))) 3 an (fun aa K2 ab => ?_) ?_
 ·exact jm aa q <| jm aa q <| ji (qt_leq q q) aa q <| ab 3 q q q (ai aa)
 cases h
 exact qa q <| B <| W fun a ha => ret1 q ha q ⟨q, H⟩
theorem w_spec_l1Item {w G B0 A1 B1 B2 p1 r} (h : spec_l1ItemS B0 B1 B2 p1 = some r) (C1 : Has G ty2 A1 B1) (H : Ctx w G) : Calls Tryz.prog 110 #[.agg #[iV B0, A1, iV B2], iV p1] w fun e w' => e = .returned (.bool r) ∧ Holds M0 w w' [] G := by
 refine F0 77 H Tryz.func110 q fun H => ?_
 refine C <| Z <| WL_box (cs := [iV B0, A1, iV B2]) H q q q q fun b1 w2 H3 => qa q <| B <| C <| rR <| qa q <| B <| g <| O h fun o6 az h => ?_
 refine fun a8 aA => zp (I := fun s5 a w2 => (Fr a 77 [(1, iV p1), (2, pB b1), (5, iV s5)] ∧ Holds M0 w w2 [.bx b1 95 [iV B0, A1, iV B2]] G)) (O := fun o e a w2 => match o with | .inl _ => e = .exit 0 ∧ (Fr a 77 [(2, pB b1)] ∧ Holds M0 w w2 [.bx b1 95 [iV B0, A1, iV B2]] G) | .inr q0 => e = .ret ∧ (Fr a 77 [(4, .bool q0)] ∧ Holds M0 w w2 [] G)) az ?_ ?_ ?_
 ·exact ⟨aA.s, H3⟩
 ·rintro s5 _ a aX ab ⟨ha, aa⟩
  refine S1 ha <| C <| rR <| qm q <| qf uf95 fi95_1 nz93 q <| ql u93 aa.p0 q <| qz aa.ctx (C1.c) u93 q <| qi (qt_lss q q) q <| B ?_
  refine Yh q ab (fun ab => ?_) (fun ab => ?_)
  ·refine y <| C <| g <| C <| WP_quiet (by kernel_rfl) (by kernel_rfl) <| qf uf95 fi95_1 nz93 q <| ql u93 aa.p0 q <| qm q <| O ab fun aY aq ab => qe aa (C1.c) aq u93 i152 q fun _ _ aB => qf uf152 fi152_0 nz3 q <| eI u3 aB.f q <| qm q <| qi (qt_sub q q) q <| O ab fun a2 aC ab => qc q c60 aa (fun _ => w_spec_l1In aC) <| qi (qt_not q) q <| qm q <| O ab fun aD ah ab => ?_
   refine Go (res := aD) 8 (if_t · ah) (fun af a3 aE => ?_) ?_
   ·exact have ah := if_f af ah; jf uf95 fi95_1 nz93 af q <| jl u93 aa.p0 af q <| jm af q <| O ah fun a4 ar ah => je aa (C1.c) ar u93 i152 af q fun _ _ aF => jf uf152 fi152_1 nz3 af q <| jI u3 aF.s af q <| O ah fun a9 aG ah => jc af q c60 aa (fun _ => w_spec_l1In aG) <| ji (qt_not q) af q <| aE 8 q q q ah
   refine qm q <| O ab fun aH ak ab => ?_
   refine Go (res := aH) 18 (if_t · ak) (fun am ba aI => ?_) ?_
   ·refine have ak := if_f am ak; jm am q <| ji (qt_gtr q q) am q <| jm am q <| O ak fun aJ aj ak => ?_
    refine Ga (res := aJ) (hw := (J q am)) 14 (if_f · aj) (fun ad bb aK => ?_) ?_
    ·exact have aj := if_t ad aj; jf uf95 fi95_1 nz93 ad q <| jl u93 aa.p0 ad q <| jm ad q <| ji (qt_sub q q) ad q <| O aj fun bc au aj => je aa (C1.c) au u93 i152 ad q fun _ _ aL => jf uf152 fi152_0 nz3 ad q <| jI u3 aL.f ad q <| jf uf95 fi95_1 nz93 ad q <| jl u93 aa.p0 ad q <| jm ad q <| O aj fun bg av aj => je aa (C1.c) av u93 i152 ad q fun _ _ aM => jf uf152 fi152_0 nz3 ad q <| jI u3 aM.f ad q <| ji (qt_geq q q) ad q <| aK 14 q q q aj
    exact aI 4 q q q ak
   refine Qn aa fun a ha bk aw => X <| S1 ha ?_
   refine Yh q ab (fun ab => ?_) (fun ab => ?_)
   ·cases ab
    exact rR <| qa q <| B <| W fun a ha => zj (m (⟨ret_ne, q, ha.s, aw.q0⟩))
   cases ab
   exact WP_skip fun a ha => zi <| X <| S1 ha <| Z <| qm q <| qi (qt_add q q) q <| qa q <| WL_nil fun a ha => ⟨q, ha.s, aw⟩
  cases ab
  exact WP_exit fun a ha => zo (⟨exit_ne, q, ha.s, aa⟩)
 intro e a bl ax
 rcases o6 with o6 | o6
 ·obtain ⟨rfl, ha, ae⟩ := ax
  refine zn <| X <| S1 ha <| C <| zk <| qf uf95 fi95_0 nz3 q <| ql u3 ae.p0 q <| O h fun ay aO h => qc q c60 ae (fun _ => w_spec_l1In aO) <| qm q ?_
  refine Ga (res := (ay && (decide ((List.length B1 : Int) ≤ 3)))) 4 an (fun ao bm aP => ?_) ?_
  ·exact jf uf95 fi95_1 nz93 ao q <| jl u93 ae.p0 ao q <| jz ae.ctx (C1.c) u93 ao q <| ji (qt_leq q q) ao q <| aP 4 q q q (ai ao)
  refine qm q ?_
  refine Ga (res := ((ay && (decide ((List.length B1 : Int) ≤ 3))) && ((decide (B0 > 0)) == (decide ((List.length B1 : Int) > 0))))) 8 an (fun ag bn aQ => ?_) ?_
  ·exact jf uf95 fi95_0 nz3 ag q <| jl u3 ae.p0 ag q <| ji (qt_gtr q q) ag q <| jf uf95 fi95_1 nz93 ag q <| jl u93 ae.p0 ag q <| jz ae.ctx (C1.c) u93 ag q <| ji (qt_gtr q q) ag q <| ji (qt_beql u4 q q) ag q <| aQ 8 q q q (ai ag)
  refine qm q <| O h fun aR al h => ?_
  refine Ga (res := aR) 3 (if_f · al) (fun ap bo aS => ?_) ?_
  ·exact have al := if_t ap al; jf uf95 fi95_2 nz3 ap q <| jl u3 ae.p0 ap q <| O al fun bp aT al => jc ap q c60 ae (fun _ => w_spec_l1In aT) <| aS 3 q q q al
  refine qa q <| Qn ae fun a ha bq aU => X <| S1 ha <| W fun a ha => ?_
  obtain rfl := L h
  exact ret1 q ha q ⟨q, aU.q0⟩
 obtain ⟨rfl, ha, aW⟩ := ax
 obtain rfl := L h
 exact zj (m (ret1 q ha q ⟨q, aW⟩))
theorem w_spec_ItemsValid {w G vp0 p0 r} (h : spec_ItemsValidS p0 = some r) (hp0 : Has G ty12 vp0 p0) (H : Ctx w G) : Calls Tryz.prog 71 #[vp0] w fun e w' => e = .returned (.bool r) ∧ Holds M0 w w' [] G := by
 refine F0 20 H Tryz.func71 q fun H => ?_
 refine rR <| qa q <| B <| C <| rR <| qa q <| B <| g <| O h fun o2 al h => ?_
 refine fun a4 am => zp (I := fun s1 a w2 => (Fr a 20 [(0, vp0), (3, iV s1)] ∧ Holds M0 w w2 [] G)) (O := fun o e a w2 => match o with | .inl _ => e = .exit 0 ∧ (Fr a 20 [(0, vp0)] ∧ Holds M0 w w2 [] G) | .inr q0 => e = .ret ∧ (Fr a 20 [(2, .bool q0)] ∧ Holds M0 w w2 [] G)) al ?_ ?_ ?_
 ·exact ⟨am.s, H⟩
 ·rintro s1 _ a w6 aa ⟨ha, ab⟩
  refine S1 ha <| C <| rR <| qm q <| qm q <| qz ab.ctx (hp0) u28 q <| qi (qt_lss q q) q <| B ?_
  refine Yh q aa (fun aa => ?_) (fun aa => ?_)
  ·refine y <| C <| g <| C <| zk <| qm q <| qm q <| O aa fun ad af aa => qb ab.ctx (hp0) af u28 i95 q fun aF aG aH ao => ?_
   obtain ⟨aI, ap, aq⟩ := ab.atN (hp0) af ao
   refine XL_load_agg (t := ty12) us95 uo95 i95 ap q q q fun aJ ar => ?_
   obtain ⟨c22, c23, aK, aL, rfl, au, av, aw⟩ := ar
   obtain ⟨rfl, _⟩ := av
   obtain ⟨c29, c30, aM, aN, rfl, ax, ay, az⟩ := aw
   obtain ⟨ae, rfl, aA⟩ := Rep.sl_inv ay
   obtain ⟨rfl, _⟩ := az
   have ag : Holds _ w w6 [.ro ty2 ae ad.2.1] G := aq [.ro ty2 ae ad.2.1] ⟨⟨_, _, _, _, q, aA, (fun k h => (fun k h => (fun _ h => h) k (by rw [au]; exact zx _ h)) k (by rw [ax]; exact List.mem_append_left _ h))⟩, trivial⟩
   change XL _ _ _ _ _ ((13, .agg #[iV ad.1, ae, iV ad.2.2]) :: _) _
   refine qm q <| O aa fun aO aB aa => qc q c110 ag (fun _ => w_spec_l1Item aB hR0) <| qi (qt_not q) q <| Qn ag fun a ha aP ah => X <| S1 ha ?_
   refine Yh q aa (fun aa => ?_) (fun aa => ?_)
   ·cases aa
    exact rR <| qa q <| B <| W fun a ha => zj (m (⟨ret_ne, q, ha.s, ah.q0⟩))
   cases aa
   exact WP_skip fun a ha => zi <| X <| S1 ha <| Z <| qm q <| qi (qt_add q q) q <| qa q <| WL_nil fun a ha => ⟨q, ha.s, ah.q0⟩
  cases aa
  exact WP_exit fun a ha => zo (⟨exit_ne, q, ha.s, ab⟩)
 intro e a aQ aj
 rcases o2 with o2 | o2
 ·obtain ⟨rfl, ha, ak⟩ := aj
  cases h
  exact zn <| X <| S1 ha <| rR <| qm q <| qz ak.ctx (hp0) u28 q <| qi (qt_leq q q) q <| qa q <| B <| W fun a ha => ret1 q ha q ⟨q, ak⟩
 obtain ⟨rfl, ha, aE⟩ := aj
 obtain rfl := L h
 exact zj (m (ret1 q ha q ⟨q, aE⟩))
theorem w_spec_PricesValid {w G vp0 p0 vp1 p1 r} (h : spec_PricesValidS p0 p1 = some r) (hp0 : Has G ty12 vp0 p0) (hp1 : Has G tI vp1 p1) (H : Ctx w G) : Calls Tryz.prog 58 #[vp0, vp1] w fun e w' => e = .returned (.bool r) ∧ Holds M0 w w' [] G := by
 refine F0 27 H Tryz.func58 q fun H => ?_
 refine rR <| qa q <| B <| C <| rR <| qa q <| B <| g <| O h fun o2 aj h => ?_
 refine fun a4 ak => zp (I := fun s1 a w2 => (Fr a 27 [(0, vp0), (1, vp1), (5, iV s1)] ∧ Holds M0 w w2 [] G)) (O := fun o e a w2 => match o with | .inl _ => e = .exit 0 ∧ (Fr a 27 [(0, vp0), (1, vp1)] ∧ Holds M0 w w2 [] G) | .inr q0 => e = .ret ∧ (Fr a 27 [(4, .bool q0)] ∧ Holds M0 w w2 [] G)) aj ?_ ?_ ?_
 ·exact ⟨ak.s, H⟩
 ·rintro s1 _ a w6 aa ⟨ha, ab⟩
  refine S1 ha <| C <| rR <| qm q <| qm q <| qz ab.ctx (hp1) u23 q <| qi (qt_lss q q) q <| B ?_
  refine Yh q aa (fun aa => ?_) (fun aa => ?_)
  ·refine y <| C <| g <| C <| zk <| qm q <| qm q <| O aa fun av af aa => qe ab (hp1) af u23 i3 q fun _ _ al => eI u3 al q <| O aa fun az am aa => qc q c60 ab (fun _ => w_spec_l1In am) <| qi (qt_not q) q <| Qn ab fun a ha aA ag => X <| S1 ha ?_
   refine Yh q aa (fun aa => ?_) (fun aa => ?_)
   ·cases aa
    exact rR <| qa q <| B <| W fun a ha => zj (m (⟨ret_ne, q, ha.s, ag⟩))
   cases aa
   exact WP_skip fun a ha => zi <| X <| S1 ha <| Z <| qm q <| qi (qt_add q q) q <| qa q <| WL_nil fun a ha => ⟨q, ha.s, ag⟩
  cases aa
  exact WP_exit fun a ha => zo (⟨exit_ne, q, ha.s, ab⟩)
 intro e a aB ah
 rcases o2 with o2 | o2
 ·obtain ⟨rfl, ha, ae⟩ := ah
  refine zn <| X <| S1 ha <| C <| zk <| qm q <| O h fun ao ap h => qc q c71 ae (fun _ => w_spec_ItemsValid ap (hp0)) <| qm q ?_
  refine Ga (res := (ao && ((List.length p1 : Int) == (List.length p0 : Int)))) 5 an (fun ad aC aq => ?_) ?_
  ·exact jm ad q <| jz ae.ctx (hp1) u23 ad q <| jm ad q <| jz ae.ctx (hp0) u28 ad q <| ji (qt_eql q q) ad q <| aq 5 q q q (ai ad)
  cases h
  exact qa q <| Qn ae fun a ha aD ar => X <| S1 ha <| W fun a ha => ret1 q ha q ⟨q, ar⟩
 obtain ⟨rfl, ha, au⟩ := ah
 obtain rfl := L h
 exact zj (m (ret1 q ha q ⟨q, au⟩))
theorem w_spec_l1Amounts {w G vp0 p0 vp1 p1 r} (h : spec_l1AmountsS p0 p1 = some r) (hp0 : Has G ty12 vp0 p0) (hp1 : Has G tI vp1 p1) (H : Ctx w G) : Calls Tryz.prog 59 #[vp0, vp1] w fun e w' => e = .returned (.bool r) ∧ Holds M0 w w' [] G := by
 refine F0 23 H Tryz.func59 q fun H => ?_
 refine rR <| qa q <| B <| C <| rR <| qa q <| B <| g <| O h fun o2 ah h => ?_
 refine fun a4 aj => zp (I := fun s1 a w2 => (Fr a 23 [(0, vp0), (1, vp1), (5, iV s1)] ∧ Holds M0 w w2 [] G)) (O := fun o e a w2 => match o with | .inl _ => e = .exit 0 ∧ (Fr a 23 [(0, vp0), (1, vp1)] ∧ Holds M0 w w2 [] G) | .inr q0 => e = .ret ∧ (Fr a 23 [(4, .bool q0)] ∧ Holds M0 w w2 [] G)) ah ?_ ?_ ?_
 ·exact ⟨aj.s, H⟩
 ·rintro s1 _ a w6 aa ⟨ha, ab⟩
  refine S1 ha <| C <| rR <| qm q <| qm q <| qz ab.ctx (hp1) u23 q <| qi (qt_lss q q) q <| B ?_
  refine Yh q aa (fun aa => ?_) (fun aa => ?_)
  ·refine y <| C <| g <| C <| zk <| qm q <| qm q <| O aa fun ao ae aa => qe ab (hp1) ae u23 i3 q fun _ _ ak => eI u3 ak q <| O aa fun au al aa => qc q c60 ab (fun _ => w_spec_l1In al) <| qi (qt_not q) q <| Qn ab fun a ha av af => X <| S1 ha ?_
   refine Yh q aa (fun aa => ?_) (fun aa => ?_)
   ·cases aa
    exact rR <| qa q <| B <| W fun a ha => zj (m (⟨ret_ne, q, ha.s, af⟩))
   cases aa
   exact WP_skip fun a ha => zi <| X <| S1 ha <| Z <| qm q <| qi (qt_add q q) q <| qa q <| WL_nil fun a ha => ⟨q, ha.s, af⟩
  cases aa
  exact WP_exit fun a ha => zo (⟨exit_ne, q, ha.s, ab⟩)
 intro e a aw ag
 rcases o2 with o2 | o2
 ·obtain ⟨rfl, ha, ad⟩ := ag
  cases h
  exact zn <| X <| S1 ha <| rR <| qm q <| qz ad.ctx (hp1) u23 q <| qm q <| qz ad.ctx (hp0) u28 q <| qi (qt_eql q q) q <| qa q <| B <| W fun a ha => ret1 q ha q ⟨q, ad⟩
 obtain ⟨rfl, ha, am⟩ := ag
 obtain rfl := L h
 exact zj (m (ret1 q ha q ⟨q, am⟩))
theorem w_spec_l4Ready {w G vp0 p0 p1 r} (h : spec_l4ReadyS p0 p1 = some r) (hp0 : Has G ty2 vp0 p0) (H : Ctx w G) : Calls Tryz.prog 105 #[vp0, iV p1] w fun e w' => e = .returned (.bool r) ∧ Holds M0 w w' [] G := by
 refine F0 27 H Tryz.func105 q fun H => ?_
 refine rR <| qa q <| B <| C <| rR <| qa q <| B <| g <| O h fun o2 aj h => ?_
 refine fun a4 ak => zp (I := fun s1 a w2 => (Fr a 27 [(0, vp0), (1, iV p1), (5, iV s1)] ∧ Holds M0 w w2 [] G)) (O := fun o e a w2 => match o with | .inl _ => e = .exit 0 ∧ (Fr a 27 [] ∧ Holds M0 w w2 [] G) | .inr q0 => e = .ret ∧ (Fr a 27 [(4, .bool q0)] ∧ Holds M0 w w2 [] G)) aj ?_ ?_ ?_
 ·exact ⟨ak.s, H⟩
 ·rintro s1 _ a w6 aa ⟨ha, ab⟩
  refine S1 ha <| C <| rR <| qm q <| qm q <| qz ab.ctx (hp0) u87 q <| qi (qt_lss q q) q <| B ?_
  refine Yh q aa (fun aa => ?_) (fun aa => ?_)
  ·refine y <| C <| g <| rR <| qm q <| qm q <| O aa fun au af aa => qe ab (hp0) af u87 i103 q fun _ _ al => qf uf103 fi103_0 nz3 q <| eI u3 al.f q <| qm q <| qi (qt_lss q q) q <| qm q <| O aa fun am ae aa => ?_
   refine Ha (res := am) 6 (if_f · ae) (fun ad ay ao => ?_) ?_
   ·exact have ae := if_t ad ae; jm ad q <| jm ad q <| O ae fun az ag ae => je ab (hp0) ag u87 i103 ad q fun _ _ ap => jf uf103 fi103_1 nz3 ad q <| jI u3 ap.s ad q <| ji (qt_lss q q) ad q <| ao 6 q q q ae
   refine B ?_
   refine Yh q aa (fun aa => ?_) (fun aa => ?_)
   ·cases aa
    exact rR <| qa q <| B <| W fun a ha => zj (m (⟨ret_ne, q, ha.s, ab⟩))
   cases aa
   exact WP_skip fun a ha => zi <| X <| S1 ha <| Z <| qm q <| qi (qt_add q q) q <| qa q <| WL_nil fun a ha => ⟨q, ha.s, ab⟩
  cases aa
  exact WP_exit fun a ha => zo (⟨exit_ne, q, ha.s, ab⟩)
 intro e a aD ah
 rcases o2 with o2 | o2
 ·obtain ⟨rfl, ha, aq⟩ := ah
  cases h
  exact zn <| X <| S1 ha <| rR <| qa q <| B <| W fun a ha => ret1 q ha q ⟨q, aq⟩
 obtain ⟨rfl, ha, ar⟩ := ah
 obtain rfl := L h
 exact zj (m (ret1 q ha q ⟨q, ar⟩))
theorem w_spec_TicketValid {w G vp0 p0 r} (h : spec_TicketValidS p0 = some r) (hp0 : Has G ty2 vp0 p0) (H : Ctx w G) : Calls Tryz.prog 61 #[vp0] w fun e w' => e = .returned (.bool r) ∧ Holds M0 w w' [] G := by
 refine F0 38 H Tryz.func61 q fun H => ?_
 refine rR <| qa q <| B <| C <| rR <| qa q <| B <| g <| O h fun o2 aq h => ?_
 refine fun a4 ar => zp (I := fun s1 a w2 => (Fr a 38 [(0, vp0), (3, iV s1)] ∧ Holds M0 w w2 [] G)) (O := fun o e a w2 => match o with | .inl _ => e = .exit 0 ∧ (Fr a 38 [(0, vp0)] ∧ Holds M0 w w2 [] G) | .inr q0 => e = .ret ∧ (Fr a 38 [(2, .bool q0)] ∧ Holds M0 w w2 [] G)) aq ?_ ?_ ?_
 ·exact ⟨ar.s, H⟩
 ·rintro s1 _ a w6 aa ⟨ha, ag⟩
  refine S1 ha <| C <| rR <| qm q <| qm q <| qz ag.ctx (hp0) u87 q <| qi (qt_lss q q) q <| B ?_
  refine Yh q aa (fun aa => ?_) (fun aa => ?_)
  ·refine y <| C <| g <| rR <| qm q <| qm q <| O aa fun ak al aa => qe ag (hp0) al u87 i103 q fun _ _ au => lP [iV ak.1, iV ak.2] us103 uo103 i103 au q q q q <| zq (cs := [iV 0, iV 0]) ag z103 q q q fun aL aM av => zl (cs' := [iV ak.1, iV ak.2]) av q il103 q q q q q fun aN ah => B <| C <| C <| zk <| qf uf103 fi103_0 nz3 q <| ql u3 ah.p0 q <| O aa fun aO aw aa => qc q c60 ah (fun _ => w_spec_l1In aw) <| qi (qt_not q) q <| qm q <| O aa fun ax ab aa => ?_
   refine Go (res := ax) 4 (if_t · ab) (fun aj aP ay => ?_) ?_
   ·exact have ab := if_f aj ab; jf uf103 fi103_1 nz3 aj q <| jl u3 ah.p0 aj q <| O ab fun aQ az ab => jc aj q c60 ah (fun _ => w_spec_l1In az) <| ji (qt_not q) aj q <| ay 4 q q q ab
   refine Qn ah fun a ha aR ad => X <| S1 ha ?_
   refine Yh q aa (fun aa => ?_) (fun aa => ?_)
   ·cases aa
    exact rR <| qa q <| B <| W fun a ha => m (zj (m (⟨ret_ne, q, ha.s, ad.q0⟩)))
   refine y <| C <| zk <| qf uf103 fi103_1 nz3 q <| ql u3 ad.p0 q <| O aa fun aS aB aa => qc q c60 ad (fun _ => w_spec_l1In aB) <| qm q <| O aa fun aC ae aa => ?_
   refine Ga (res := aC) 5 (if_f · ae) (fun af aT aD => ?_) ?_
   ·exact have ae := if_t af ae; jm af q <| jf uf103 fi103_0 nz3 af q <| jl u3 ad.p0 af q <| O ae fun aU aE ae => jc af q c105 ad (fun _ => w_spec_l4Ready aE (hp0.c)) <| ji (qt_not q) af q <| aD 5 q q q ae
   refine Qn ad fun a ha aV am => X <| S1 ha ?_
   refine Yh q aa (fun aa => ?_) (fun aa => ?_)
   ·cases aa
    exact rR <| qa q <| B <| W fun a ha => zj (m (⟨ret_ne, q, ha.s, am.q0⟩))
   cases aa
   exact WP_skip fun a ha => zi <| X <| S1 ha <| Z <| qm q <| qi (qt_add q q) q <| qa q <| WL_nil fun a ha => ⟨q, ha.s, am.q0⟩
  cases aa
  exact WP_exit fun a ha => zo (⟨exit_ne, q, ha.s, ag⟩)
 intro e a aW ao
 rcases o2 with o2 | o2
 ·obtain ⟨rfl, ha, ap⟩ := ao
  cases h
  exact zn <| X <| S1 ha <| rR <| qm q <| qz ap.ctx (hp0) u87 q <| qi (qt_leq q q) q <| qa q <| B <| W fun a ha => ret1 q ha q ⟨q, ap⟩
 obtain ⟨rfl, ha, aH⟩ := ao
 obtain rfl := L h
 exact zj (m (ret1 q ha q ⟨q, aH⟩))
theorem w_spec_l1Join {w G p0 p1 r} (h : spec_l1JoinS p0 p1 = some r) (H : Ctx w G) : Calls Tryz.prog 111 #[iV p0, iV p1] w fun e w' => e = .returned (iV r) ∧ Holds M0 w w' [] G := by
 refine F0 30 H Tryz.func111 q fun H => ?_
 refine rR <| qa q <| rN <| qa q <| B <| C <| C <| Z <| qa q <| B <| g <| O h fun o3 af h => ?_
 refine fun a5 ag => zp (I := fun (s1, s2) a w2 => (Fr a 30 [(0, iV p0), (1, iV p1), (5, iV s1), (6, iV s2)] ∧ Holds M0 w w2 [] G)) (O := fun q0 e a w2 => e = .exit 0 ∧ (Fr a 30 [(5, iV q0)] ∧ Holds M0 w w2 [] G)) af ?_ ?_ ?_
 ·exact ⟨ag.s, H⟩
 ·rintro ⟨s1, s2⟩ _ a w7 aa ⟨ha, ae⟩
  refine S1 ha <| C <| rR <| qm q <| qm q <| qm q <| qi (qt_max q q) q <| qi (qt_leq q q) q <| B ?_
  refine Yh q aa (fun aa => ?_) (fun aa => ?_)
  ·refine y <| C <| g <| rR <| qm q <| qm q <| O aa fun ao ah aa => qi (qt_quoO q q ah) q <| qi (qt_rem q q (by decide)) q <| qi (qt_eql q q) q <| qm q <| O aa fun aj ab aa => ?_
   refine Ho (res := aj) 5 (if_t · ab) (fun ad ap ak => ?_) ?_
   ·exact have ab := if_f ad ab; jm ad q <| jm ad q <| O ab fun aq al ab => ji (qt_quoO q q al) ad q <| ji (qt_rem q q (by decide)) ad q <| ji (qt_eql q q) ad q <| ak 5 q q q ab
   refine B ?_
   refine Yh q aa (fun aa => ?_) (fun aa => ?_)
   ·cases aa
    exact Z <| qm q <| qm q <| qi (qt_add q q) q <| qa q <| WL_nil fun a ha => zi <| X <| S1 ha <| Z <| qm q <| qi (qt_mul q q) q <| qa q <| WL_nil fun a ha => ⟨q, ha.s, ae⟩
   cases aa
   exact WP_skip fun a ha => zi <| X <| S1 ha <| Z <| qm q <| qi (qt_mul q q) q <| qa q <| WL_nil fun a ha => ⟨q, ha.s, ae⟩
  cases aa
  exact WP_exit fun a ha => zo (⟨exit_ne, q, ha.s, ae⟩)
 rintro _ a ar ⟨rfl, ha, am⟩
 refine zn <| X <| S1 ha <| rR <| qm q <| qa q <| B <| W fun a ha => ?_
 obtain rfl := L h
 exact ret1 q ha q ⟨q, am⟩
theorem w_spec_UsesOf {w G vp0 p0 p1 r} (h : spec_UsesOfS p0 p1 = some r) (hp0 : Has G ty12 vp0 p0) (H : Ctx w G) : Calls Tryz.prog 112 #[vp0, iV p1] w fun e w' => e = .returned (iV r) ∧ Holds M0 w w' [] G := by
 refine F0 56 H Tryz.func112 q fun H => ?_
 refine rR <| qa q <| B <| C <| C <| zk <| qm q <| O h fun x1 ax h => qc q c71 H (fun _ => w_spec_ItemsValid ax (hp0)) <| qi (qt_not q) q <| qm q <| O h fun b3 ae h => ?_
 refine Go (res := b3) 6 (if_t · ae) (fun ab K6 ay => ?_) ?_
 ·exact have ae := if_f ab ae; jm ab q <| jm ab q <| jz H.ctx (hp0) u28 ab q <| ji (qt_sub q q) ab q <| O ae fun x8 az ae => jc ab q c60 H (fun _ => w_spec_l1In az) <| ji (qt_not q) ab q <| ay 6 q q q ae
 refine Qn H fun a ha aS al => X <| S1 ha ?_
 refine Yh q h (fun h => ?_) (fun h => ?_)
 ·cases h
  exact rR <| qa q <| B <| W fun a ha => m (ret1 q ha q ⟨q, al⟩)
 refine y <| rR <| qm q <| O h fun aT aA h => qi (qt_shlO q q aA) q <| qa q <| B <| C <| C <| Z <| qm q <| qa q <| B <| g <| O h fun aU aB h => ?_
 refine fun aV aC => zp (I := fun (am, ah) a w2 => (Fr a 56 [(0, vp0), (5, iV am), (6, iV ah)] ∧ Holds M0 w w2 [] G)) (O := fun q0 e a w2 => e = .exit 0 ∧ (Fr a 56 [(5, iV q0)] ∧ Holds M0 w w2 [] G)) aB ?_ ?_ ?_
 ·exact ⟨aC.s, al⟩
 ·rintro ⟨am, ah⟩ _ a aW ad ⟨ha, ao⟩
  refine S1 ha <| C <| rR <| qm q <| qi (qt_geq q q) q <| B ?_
  refine Yh q ad (fun ad => ?_) (fun ad => ?_)
  ·refine y <| C <| g <| rR <| qa q <| B <| g <| O ad fun aX aD ad => ?_
   refine fun aY aE => zp (I := fun (ap, aq) a w2 => (Fr a 56 [(0, vp0), (5, iV ap), (6, iV ah), (7, iV aq)] ∧ Holds M0 w w2 [] G)) (O := fun q0 e a w2 => e = .exit 2 ∧ (Fr a 56 [(0, vp0), (5, iV q0), (6, iV ah)] ∧ Holds M0 w w2 [] G)) aD ?_ ?_ ?_
   ·exact ⟨aE.s, ao⟩
   ·rintro ⟨ap, aq⟩ _ a aZ aa ⟨ha, ar⟩
    refine S1 ha <| C <| rR <| qm q <| qm q <| qm q <| O aa fun a0 au aa => qe ar (hp0) au u28 i95 q fun _ _ aF => qf uf95 fi95_1 nz93 q <| eV u93 aF.s.f q fun a4 aj => qz aj.ctx hR0 u93 q <| qi (qt_lss q q) q <| qm q <| O aa fun aG af aa => ?_
    refine Ha (res := aG) 5 (if_f · af) (fun ag a5 aH => ?_) ?_
    ·exact have af := if_t ag af; jm ag q <| jm ag q <| O af fun a6 aI af => ji (qt_shrO q q aI) ag q <| ji (qt_rem q q (by decide)) ag q <| ji (qt_eql q q) ag q <| aH 5 q q q af
    refine B ?_
    refine Yh q aa (fun aa => ?_) (fun aa => ?_)
    ·refine y <| C <| g <| zk <| qm q <| qm q <| qm q <| O aa fun a7 av aa => qe aj (hp0.c) av u28 i95 q fun _ _ aJ => qf uf95 fi95_1 nz93 q <| eV u93 aJ.s.f q fun bb ak => qm q <| O aa fun bc aw aa => qe ak hR0 aw u93 i152 q fun _ _ aK => qf uf152 fi152_0 nz3 q <| eI u3 aK.f q <| O aa fun bg aL aa => qi (qt_shlO q q aL) q <| O aa fun bh aM aa => qc q c111 ak (fun _ => w_spec_l1Join aM) <| qa q <| Qn ak fun a ha bi aN => zi <| X <| S1 ha <| Z <| qm q <| qi (qt_add q q) q <| qa q <| WL_nil fun a ha => ?_
     cases aa
     exact ⟨q, ha.s, aN.q0.q0⟩
    cases aa
    exact WP_exit fun a ha => zo (⟨exit_ne, q, ha.s, aj.q0⟩)
   rintro _ a bj ⟨rfl, ha, aQ⟩
   cases ad
   exact zn <| zi <| X <| S1 ha <| Z <| qm q <| qi (qt_sub q q) q <| qa q <| WL_nil fun a ha => ⟨q, ha.s, aQ⟩
  cases ad
  exact WP_exit fun a ha => zo (⟨exit_ne, q, ha.s, ao⟩)
 rintro _ a bk ⟨rfl, ha, aR⟩
 refine zn <| X <| S1 ha <| rR <| qm q <| qa q <| B <| W fun a ha => ?_
 obtain rfl := L h
 exact ret1 q ha q ⟨q, aR⟩
theorem w_spec_MarksOf {w G vp0 p0 p1 r} (h : spec_MarksOfS p0 p1 = some r) (hp0 : Has G ty12 vp0 p0) (H : Ctx w G) : Calls Tryz.prog 73 #[vp0, iV p1] w fun e w' => e = .returned (iV r) ∧ Holds M0 w w' [] G := by
 refine F0 31 H Tryz.func73 q fun H => ?_
 refine rR <| qa q <| B <| C <| zk <| qm q <| qm q <| O h fun x1 ae h => qc q c112 H (fun _ => w_spec_UsesOf ae (hp0)) <| qa q <| Qn H fun a ha w3 H5 => X <| S1 ha <| C <| rR <| qm q <| qi (qt_lss q q) q <| B ?_
 refine Yh q h (fun h => ?_) (fun h => ?_)
 ·cases h
  exact rR <| qa q <| B <| W fun a ha => m (ret1 q ha q ⟨q, H5⟩)
 refine y <| rR <| qa q <| B <| C <| rR <| qa q <| B <| g <| O h fun o9 af h => ?_
 refine fun ao ag => zp (I := fun (s7, s8) a w2 => (Fr a 31 [(0, vp0), (1, iV p1), (5, iV x1), (6, iV s7), (7, iV s8)] ∧ Holds M0 w w2 [] G)) (O := fun q0 e a w2 => e = .exit 0 ∧ (Fr a 31 [(6, iV q0)] ∧ Holds M0 w w2 [] G)) af ?_ ?_ ?_
 ·exact ⟨ag.s, H5⟩
 ·rintro ⟨s7, s8⟩ _ a ap aa ⟨ha, ab⟩
  refine S1 ha <| C <| rR <| qm q <| qm q <| qi (qt_leq q q) q <| B ?_
  refine Yh q aa (fun aa => ?_) (fun aa => ?_)
  ·refine y <| C <| g <| rR <| qm q <| qm q <| O aa fun aq ah aa => qi (qt_shrO q q ah) q <| qi (qt_rem q q (by decide)) q <| qi (qt_eql q q) q <| B ?_
   refine Yh q aa (fun aa => ?_) (fun aa => ?_)
   ·refine zk <| qm q <| qm q <| qm q <| O aa fun ar ad aa => qe ab (hp0) ad u28 i95 q fun _ _ aj => qf uf95 fi95_2 nz3 q <| eI u3 aj.s.s q <| O aa fun ax ak aa => qc q c111 ab (fun _ => w_spec_l1Join ak) <| qa q <| Qn ab fun a ha ay al => zi <| X <| S1 ha <| Z <| qm q <| qi (qt_add q q) q <| qa q <| WL_nil fun a ha => ?_
    cases aa
    exact ⟨q, ha.s, al⟩
   cases aa
   exact WP_skip fun a ha => zi <| X <| S1 ha <| Z <| qm q <| qi (qt_add q q) q <| qa q <| WL_nil fun a ha => ⟨q, ha.s, ab⟩
  cases aa
  exact WP_exit fun a ha => zo (⟨exit_ne, q, ha.s, ab⟩)
 rintro _ a az ⟨rfl, ha, am⟩
 refine zn <| X <| S1 ha <| rR <| qm q <| qa q <| B <| W fun a ha => ?_
 obtain rfl := L h
 exact ret1 q ha q ⟨q, am⟩
theorem w_spec_l1Meet {w G p0 p1 r} (h : spec_l1MeetS p0 p1 = some r) (H : Ctx w G) : Calls Tryz.prog 72 #[iV p0, iV p1] w fun e w' => e = .returned (iV r) ∧ Holds M0 w w' [] G := by
 refine F0 12 H Tryz.func72 q fun H => ?_
 refine rR <| qa q <| B <| C <| zk <| qm q <| qm q <| qi (qt_add q q) q <| qm q <| qm q <| O h fun x1 aa h => qc q c111 H (fun _ => w_spec_l1Join aa) <| qi (qt_sub q q) q <| qa q <| Qn H fun a ha w3 H5 => X <| S1 ha <| W fun a ha => ?_
 cases h
 exact ret1 q ha q ⟨q, H5⟩
theorem w_spec_FreeOf {w G vp0 p0 p1 r} (h : spec_FreeOfS p0 p1 = some r) (hp0 : Has G ty12 vp0 p0) (H : Ctx w G) : Calls Tryz.prog 35 #[vp0, iV p1] w fun e w' => ∃ (v1 : Value), e = .returned (v1) ∧ Holds M0 w w' [.sl 3 tI v1 r] G := by
 refine F0 41 H Tryz.func35 q fun H => ?_
 refine rR <| qa q <| B <| C <| Z <| zs (t := tI) (args := []) (xs := ([] : List Int)) H (BltL.nil) u23 j3 q q q q q q fun v1 w2 H3 => qa q <| B <| C <| rR <| qa q <| B <| g <| O h fun o7 aq h => ?_
 refine fun a9 ar => zp (I := fun (s5, s6) a w2 => ∃ ah, Fr a 41 [(0, vp0), (1, iV p1), (5, ah), (6, iV s6)] ∧ Holds M0 w w2 [.sl 3 tI ah s5] G) (O := fun q0 e a w2 => e = .exit 0 ∧ ∃ am, Fr a 41 [(5, am)] ∧ Holds M0 w w2 [.sl 3 tI am q0] G) aq ?_ ?_ ?_
 ·exact ⟨v1, ar.s, H3⟩
 ·rintro ⟨s5, s6⟩ _ a aN aa ⟨ah, ha, aj⟩
  refine S1 ha <| C <| C <| zk <| qm q <| qm q <| qz aj.ctx (hp0.c) u28 q <| qi (qt_lss q q) q <| qm q <| O aa fun au ae aa => ?_
  refine Ga (res := au) 2 (if_f · ae) (fun ak aO av => ?_) ?_
  ·exact have ae := if_t ak ae; jm ak q <| O ae fun aP aw ae => jc ak q c71 aj (fun _ => w_spec_ItemsValid aw (hp0.c)) <| av 2 q q q ae
  refine qm q <| O aa fun ax af aa => ?_
  refine Ga (res := ax) 2 (if_f · af) (fun al aQ ay => ?_) ?_
  ·exact have af := if_t al af; jm al q <| O af fun aR az af => jc al q c60 aj (fun _ => w_spec_l1In az) <| ay 2 q q q af
  refine Qn aj fun a ha aS ag => X <| S1 ha ?_
  refine Yh q aa (fun aa => ?_) (fun aa => ?_)
  ·refine y <| C <| g <| C <| zk <| qm q <| qm q <| O aa fun aT ao aa => qe ag (hp0.c) ao u28 i95 q fun _ _ aA => qf uf95 fi95_0 nz3 q <| eI u3 aA.f q <| qi (qt_gtr q q) q <| qm q <| O aa fun aB ab aa => ?_
   refine Ga (res := aB) 6 (if_f · ab) (fun ad aX aC => ?_) ?_
   ·exact have ab := if_t ad ab; jm ad q <| jm ad q <| O ab fun aY aD ab => jc ad q c73 ag (fun _ => w_spec_MarksOf aD (hp0.c)) <| jm ad q <| O ab fun aZ aE ab => jc ad q c72 ag (fun _ => w_spec_l1Meet aE) <| ji (qt_eql q q) ad q <| aC 6 q q q ab
   refine Qn ag fun a ha a0 ap => X <| S1 ha ?_
   refine Yh q aa (fun aa => ?_) (fun aa => ?_)
   ·refine Z <| qm q <| qm q <| zs (t := tI) (args := [.tmp 37]) (xs := ([s6] : List Int)) ap (BltL.cons (Blt.int) q (BltL.nil)) u23 j3 q q q q q q fun a1 a2 aF => O aa fun a3 aH aa => zw aF.p1 hS1 aH u23 j3 q q q q q q fun aI a4 aJ => qa q <| WL_nil fun a ha => zi <| X <| S1 ha <| Z <| qm q <| qi (qt_add q q) q <| qa q <| WL_nil fun a ha => ?_
    cases aa
    exact ⟨q, aI, ha.s, aJ.q1⟩
   cases aa
   exact WP_skip fun a ha => zi <| X <| S1 ha <| Z <| qm q <| qi (qt_add q q) q <| qa q <| WL_nil fun a ha => ⟨q, ah, ha.s, ap⟩
  cases aa
  exact WP_exit fun a ha => zo (⟨exit_ne, q, ah, ha.s, ag⟩)
 rintro _ a a5 ⟨rfl, aL, ha, aM⟩
 refine zn <| X <| S1 ha <| rR <| qm q <| qa q <| B <| W fun a ha => ?_
 obtain rfl := L h
 exact ret1 q ha q ⟨aL, q, aM⟩
theorem w_spec_l1Has {w G vp0 p0 p1 r} (h : spec_l1HasS p0 p1 = some r) (hp0 : Has G tI vp0 p0) (H : Ctx w G) : Calls Tryz.prog 62 #[vp0, iV p1] w fun e w' => e = .returned (.bool r) ∧ Holds M0 w w' [] G := by
 refine F0 18 H Tryz.func62 q fun H => ?_
 refine rR <| qa q <| B <| C <| rR <| qa q <| B <| g <| O h fun o2 ae h => ?_
 refine fun a4 af => zp (I := fun s1 a w2 => (Fr a 18 [(0, vp0), (1, iV p1), (5, iV s1)] ∧ Holds M0 w w2 [] G)) (O := fun o e a w2 => match o with | .inl _ => e = .exit 0 ∧ (Fr a 18 [] ∧ Holds M0 w w2 [] G) | .inr q0 => e = .ret ∧ (Fr a 18 [(4, .bool q0)] ∧ Holds M0 w w2 [] G)) ae ?_ ?_ ?_
 ·exact ⟨af.s, H⟩
 ·rintro s1 _ a w6 aa ⟨ha, ab⟩
  refine S1 ha <| C <| rR <| qm q <| qm q <| qz ab.ctx (hp0) u23 q <| qi (qt_lss q q) q <| B ?_
  refine Yh q aa (fun aa => ?_) (fun aa => ?_)
  ·refine y <| C <| g <| rR <| qm q <| qm q <| O aa fun ak ad aa => qe ab (hp0) ad u23 i3 q fun _ _ ag => eI u3 ag q <| qm q <| qi (qt_eql q q) q <| B ?_
   refine Yh q aa (fun aa => ?_) (fun aa => ?_)
   ·cases aa
    exact rR <| qa q <| B <| W fun a ha => zj (m (⟨ret_ne, q, ha.s, ab⟩))
   cases aa
   exact WP_skip fun a ha => zi <| X <| S1 ha <| Z <| qm q <| qi (qt_add q q) q <| qa q <| WL_nil fun a ha => ⟨q, ha.s, ab⟩
  cases aa
  exact WP_exit fun a ha => zo (⟨exit_ne, q, ha.s, ab⟩)
 intro e a ap hO18
 rcases o2 with o2 | o2
 ·obtain ⟨rfl, ha, ah⟩ := hO18
  cases h
  exact zn <| X <| S1 ha <| rR <| qa q <| B <| W fun a ha => ret1 q ha q ⟨q, ah⟩
 obtain ⟨rfl, ha, aj⟩ := hO18
 obtain rfl := L h
 exact zj (m (ret1 q ha q ⟨q, aj⟩))
theorem w_spec_HouseValid {w G A0 B0 A1 B1 A2 B2 B3 A4 B4 r} (h : spec_HouseValidS B0 B1 B2 B3 B4 = some r) (C0 : Has G ty12 A0 B0) (C1 : Has G tI A1 B1) (C2 : Has G tI A2 B2) (C4 : Has G ty14 A4 B4) (H : Ctx w G) : Calls Tryz.prog 22 #[.agg #[A0, A1, A2, iV B3, A4]] w fun e w' => e = .returned (.bool r) ∧ Holds M0 w w' [] G := by
 refine F0 84 H Tryz.func22 q fun H => ?_
 refine C <| Z <| WL_box (cs := [A0, A1, A2, iV B3, A4]) H q q q q fun b1 w2 H3 => qa q <| B <| C <| C <| zk <| qf uf31 fi31_0 nz28 q <| ql u28 H3.p0 q <| qf uf31 fi31_1 nz23 q <| ql u23 H3.p0 q <| O h fun x7 aN h => qc q c58 H3 (fun _ => w_spec_PricesValid aN (C0.c) (C1.c)) <| qi (qt_not q) q <| qm q <| O h fun b9 aj h => ?_
 refine Go (res := b9) 6 (if_t · aj) (fun ah bu aO => ?_) ?_
 ·exact have aj := if_f ah aj; jf uf31 fi31_0 nz28 ah q <| jl u28 H3.p0 ah q <| jf uf31 fi31_2 nz23 ah q <| jl u23 H3.p0 ah q <| O aj fun bv aP aj => jc ah q c59 H3 (fun _ => w_spec_l1Amounts aP (C0.c) (C2.c)) <| ji (qt_not q) ah q <| aO 6 q q q aj
 refine qm q <| O h fun aA ak h => ?_
 refine Go (res := aA) 4 (if_t · ak) (fun aq bw aQ => ?_) ?_
 ·exact have ak := if_f aq ak; jf uf31 fi31_3 nz3 aq q <| jl u3 H3.p0 aq q <| O ak fun bz aR ak => jc aq q c60 H3 (fun _ => w_spec_l1In aR) <| ji (qt_not q) aq q <| aQ 4 q q q ak
 refine qm q ?_
 refine Go (res := (aA || (decide ((List.length B4 : Int) > 4)))) 4 os (fun ar bA aS => ?_) ?_
 ·exact jf uf31 fi31_4 nz29 ar q <| jl u29 H3.p0 ar q <| jz H3.ctx (C4.c) u29 ar q <| ji (qt_gtr q q) ar q <| aS 4 q q q (oi ar)
 refine Qn H3 fun a ha bB aB => X <| S1 ha ?_
 refine Yh q h (fun h => ?_) (fun h => ?_)
 ·cases h
  exact rR <| qa q <| B <| W fun a ha => m (ret1 q ha q ⟨q, aB.q0⟩)
 refine y <| C <| rR <| qa q <| B <| g <| O h fun ax aU h => ?_
 refine fun bC aV => zp (I := fun aw a w2 => (Fr a 84 [(1, pB b1), (3, iV aw)] ∧ Holds M0 w w2 [.bx b1 31 [A0, A1, A2, iV B3, A4]] G)) (O := fun o e a w2 => match o with | .inl _ => e = .exit 0 ∧ (Fr a 84 [] ∧ Holds M0 w w2 [] G) | .inr q0 => e = .ret ∧ (Fr a 84 [(2, .bool q0)] ∧ Holds M0 w w2 [] G)) aU ?_ ?_ ?_
 ·exact ⟨aV.s, aB⟩
 ·rintro aw _ a aW aa ⟨ha, al⟩
  refine S1 ha <| C <| rR <| qm q <| qf uf31 fi31_4 nz29 q <| ql u29 al.p0 q <| qz al.ctx (C4.c) u29 q <| qi (qt_lss q q) q <| B ?_
  refine Yh q aa (fun aa => ?_) (fun aa => ?_)
  ·refine y <| C <| g <| rR <| qf uf31 fi31_4 nz29 q <| ql u29 al.p0 q <| qm q <| O aa fun ad aC aa => qb al.ctx (C4.c) aC u29 i89 q fun bD bE bF aX => ?_
   obtain ⟨bG, aY, aZ⟩ := al.atN (C4.c) aC aX
   refine XL_load_agg (t := ty14) us89 uo89 i89 aY q q q fun bH a0 => ?_
   obtain ⟨c58, c59, bI, bJ, rfl, aD, a1, a2⟩ := a0
   obtain ⟨rfl, _⟩ := a1
   obtain ⟨c65, c66, bK, bL, rfl, aE, a3, a4⟩ := a2
   obtain ⟨am, rfl, a5⟩ := Rep.sl_inv a3
   obtain ⟨ao, rfl, a6⟩ := Rep.sl_inv a4
   have a7 : Holds _ w aW [.ro ty2 am ad.2.1, .ro tI ao ad.2.2, .bx b1 31 [A0, A1, A2, iV B3, A4]] G := aZ [.ro ty2 am ad.2.1, .ro tI ao ad.2.2] ⟨⟨_, _, _, _, q, a5, (fun k h => (fun k h => (fun _ h => h) k (by rw [aD]; exact zx _ h)) k (by rw [aE]; exact List.mem_append_left _ h))⟩, ⟨_, _, _, _, q, a6, (fun k h => (fun k h => (fun _ h => h) k (by rw [aD]; exact zx _ h)) k (by rw [aE]; exact zx _ h))⟩, trivial⟩
   change XL _ _ _ _ _ ((44, .agg #[iV ad.1, am, ao]) :: _) _
   refine zq (cs := [iV 0, nS, nS]) a7 z89 q q q fun aF bM ay => zl (cs' := [iV ad.1, am, ao]) ay q il89 q (T q (T (ay.ctx.sliceOne hR1) (T (ay.ctx.sliceOne hR2) q))) q q q fun bN ae => B <| C <| C <| zk <| qf uf89 fi89_0 nz3 q <| ql u3 ae.p0 q <| O aa fun bO a8 aa => qc q c60 ae (fun _ => w_spec_l1In a8) <| qi (qt_not q) q <| qm q <| O aa fun aG ap aa => ?_
   refine Go (res := aG) 4 (if_t · ap) (fun au bP a9 => ?_) ?_
   ·exact have ap := if_f au ap; jf uf89 fi89_1 nz87 au q <| jl u87 ae.p0 au q <| O ap fun bQ ba ap => jc au q c61 ae (fun _ => w_spec_TicketValid ba hR1) <| ji (qt_not q) au q <| a9 4 q q q ap
   refine qm q ?_
   refine Go (res := (aG || ((List.length ad.2.2 : Int) != (List.length ad.2.1 : Int)))) 7 os (fun af bR bb => ?_) ?_
   ·exact jf uf89 fi89_2 nz23 af q <| jl u23 ae.p0 af q <| jz ae.ctx hR2 u23 af q <| jf uf89 fi89_1 nz87 af q <| jl u87 ae.p0 af q <| jz ae.ctx hR1 u87 af q <| ji (qt_neq q q) af q <| bb 7 q q q (oi af)
   refine Qn ae fun a ha bS av => X <| S1 ha ?_
   refine Yh q aa (fun aa => ?_) (fun aa => ?_)
   ·cases aa
    exact rR <| qa q <| B <| W fun a ha => m (zj (m (⟨ret_ne, q, ha.s, av.q0.q0.q0.q0⟩)))
   refine y <| rR <| qf uf31 fi31_0 nz28 q <| ql u28 av.p3 q <| qf uf89 fi89_0 nz3 q <| ql u3 av.p0 q <| O aa fun bd be aa => U1 q c35 (w_spec_FreeOf be (C0.c.c.c.c) av.ctx) fun aH bT bf => have bg := av.cN1 [] bf; qa q <| rN <| qa q <| B <| g <| O aa fun az bh aa => ?_
   refine fun bU bj => zp (I := fun aI a w2 => (Fr a 84 [(1, pB b1), (3, iV aw), (4, pB aF), (5, aH), (6, iV aI)] ∧ Holds M0 w w2 [.bx b1 31 [A0, A1, A2, iV B3, A4], .bx aF 89 [iV ad.1, am, ao], .ro ty2 am ad.2.1, .ro tI ao ad.2.2, .sl 3 tI aH bd] G)) (O := fun o e a w2 => match o with | .inl _ => e = .exit 2 ∧ (Fr a 84 [(1, pB b1), (3, iV aw)] ∧ Holds M0 w w2 [.bx b1 31 [A0, A1, A2, iV B3, A4]] G) | .inr q0 => e = .ret ∧ (Fr a 84 [(2, .bool q0)] ∧ Holds M0 w w2 [] G)) bh ?_ ?_ ?_
   ·exact ⟨bj.s, bg.p3.p3.p3.p4⟩
   ·rintro aI _ a bV ab ⟨ha, ag⟩
    refine S1 ha <| C <| rR <| qm q <| qf uf89 fi89_2 nz23 q <| ql u23 ag.p1 q <| qz ag.ctx hR3 u23 q <| qi (qt_lss q q) q <| B ?_
    refine Yh q ab (fun ab => ?_) (fun ab => ?_)
    ·refine y <| C <| g <| C <| zk <| qm q <| qf uf89 fi89_2 nz23 q <| ql u23 ag.p1 q <| qm q <| O ab fun bW aJ ab => qe ag hR3 aJ u23 i3 q fun _ _ bk => eI u3 bk q <| O ab fun b0 bl ab => qc q c62 ag (fun _ => w_spec_l1Has bl hS4) <| qi (qt_not q) q <| Qn ag fun a ha b4 aK => X <| S1 ha ?_
     refine Yh q ab (fun ab => ?_) (fun ab => ?_)
     ·cases ab
      exact rR <| qa q <| B <| W fun a ha => zj (m (⟨ret_ne, q, ha.s, aK.q0.q0.q0.q0.q0⟩))
     cases ab
     exact WP_skip fun a ha => zi <| X <| S1 ha <| Z <| qm q <| qi (qt_add q q) q <| qa q <| WL_nil fun a ha => ⟨q, ha.s, aK.p4.p4.p4.p4.p4⟩
    cases ab
    exact WP_exit fun a ha => zo (⟨exit_ne, q, ha.s, ag.q1.q1.q1.q1⟩)
   intro e a b5 aL
   rcases az with az | az
   ·obtain ⟨rfl, ha, bp⟩ := aL
    cases aa
    exact zn <| zi <| X <| S1 ha <| Z <| qm q <| qi (qt_add q q) q <| qa q <| WL_nil fun a ha => ⟨q, ha.s, bp⟩
   obtain ⟨rfl, ha, bq⟩ := aL
   cases aa
   exact zj (zj (m (⟨ret_ne, q, ha.s, bq⟩)))
  cases aa
  exact WP_exit fun a ha => zo (⟨exit_ne, q, ha.s, al.q0⟩)
 intro e a b6 aM
 rcases ax with ax | ax
 ·obtain ⟨rfl, ha, bs⟩ := aM
  cases h
  exact zn <| X <| S1 ha <| rR <| qa q <| B <| W fun a ha => ret1 q ha q ⟨q, bs⟩
 obtain ⟨rfl, ha, bt⟩ := aM
 obtain rfl := L h
 exact zj (m (ret1 q ha q ⟨q, bt⟩))
end Go.Proofs.YtpklpghbkhegnaaGreatDoor
