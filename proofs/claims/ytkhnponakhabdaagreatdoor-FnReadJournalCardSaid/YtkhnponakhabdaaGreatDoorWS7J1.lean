/- The walks: each Go function computes its shallow function. Printed by a program. -/
import Derived.Test.YtkhnponakhabdaaGreatDoorChecked
import Derived.Test.YtkhnponakhabdaaGreatDoorShS7J
import Derived.Test.YtkhnponakhabdaaGreatDoorLib
import Derived.Test.YtkhnponakhabdaaGreatDoorMSt
import Derived.Test.YtkhnponakhabdaaGreatDoorTerse
import Derived.Test.YtkhnponakhabdaaGreatDoorAlive
import Derived.Test.YtkhnponakhabdaaGreatDoorRetcc
set_option linter.unusedVariables false
set_option maxRecDepth 10000
set_option maxHeartbeats 8000000
namespace Go.Proofs.YtkhnponakhabdaaGreatDoor
open Go Go.RowKit
abbrev dt1 : DT := .sl 3 (.leaf (.int .i64))
abbrev ty2 : Ty := .pair (.int .i64) (.int .i64)
abbrev dt3 : DT := .leaf ty2
abbrev ty4 : Ty := .slice ty2
abbrev dt5 : DT := .sl 79 dt3
abbrev dt6 : DT := .sl 123 dt3
abbrev ty7 : Ty := .pair (.int .i64) ty2
abbrev ty8 : Ty := .pair ty4 (.int .i64)
abbrev ty9 : Ty := .pair ty4 (.slice (.int .i64))
abbrev ty10 : Ty := .pair (.int .i64) ty7
abbrev dt11 : DT := .pair dt5 (.leaf (.int .i64))
abbrev ty12 : Ty := .pair (.int .i64) ty8
abbrev dt13 : DT := .pair dt6 dt1
abbrev ty14 : Ty := .pair (.int .i64) ty9
abbrev dt15 : DT := .pair (.leaf (.int .i64)) dt11
abbrev dt16 : DT := .pair (.leaf (.int .i64)) dt13
noncomputable def uT (t : TypeId) := Tryz.prog.underlying t
noncomputable def fT (fs : Array Field) (i : Nat) := (fs[i]?).map (fun f => (f.type, f.offset))
noncomputable def nT (t : TypeId) := (Tryz.prog.info? t).map (fun i => Nat.beq i.size 0)
noncomputable def zT (t : TypeId) := (Tryz.prog.info? t).map (·.size)
noncomputable def oT (t : TypeId) := (Tryz.prog.info? t).map (·.zero)
def CB (f : FuncId) : Prop := Callable Tryz.prog f
noncomputable def fd118 : Array Field := match Tryz.prog.underlying 118 with | some (.struct fs) => fs | _ => #[]
theorem uf118 : uT 118 = some (.struct fd118) := by kernel_rfl
noncomputable def fd123 : Array Field := match Tryz.prog.underlying 123 with | some (.struct fs) => fs | _ => #[]
theorem uf123 : uT 123 = some (.struct fd123) := by kernel_rfl
noncomputable def fd142 : Array Field := match Tryz.prog.underlying 142 with | some (.struct fs) => fs | _ => #[]
theorem uf142 : uT 142 = some (.struct fd142) := by kernel_rfl
noncomputable def fd27 : Array Field := match Tryz.prog.underlying 27 with | some (.struct fs) => fs | _ => #[]
theorem uf27 : uT 27 = some (.struct fd27) := by kernel_rfl
noncomputable def fd38 : Array Field := match Tryz.prog.underlying 38 with | some (.struct fs) => fs | _ => #[]
theorem uf38 : uT 38 = some (.struct fd38) := by kernel_rfl
noncomputable def fd52 : Array Field := match Tryz.prog.underlying 52 with | some (.struct fs) => fs | _ => #[]
theorem uf52 : uT 52 = some (.struct fd52) := by kernel_rfl
noncomputable def fd70 : Array Field := match Tryz.prog.underlying 70 with | some (.struct fs) => fs | _ => #[]
theorem uf70 : uT 70 = some (.struct fd70) := by kernel_rfl
noncomputable def fd79 : Array Field := match Tryz.prog.underlying 79 with | some (.struct fs) => fs | _ => #[]
theorem uf79 : uT 79 = some (.struct fd79) := by kernel_rfl
theorem fl123 : (Tryz.prog.fieldsOf 123).toList.map (fun f => (f.name == "_", f.type, f.offset)) = keysI 3 0 2 := by kernel_rfl
theorem fu123 : Tryz.prog.underlying 123 = some (.struct (Tryz.prog.fieldsOf 123)) := by kernel_rfl
theorem fl52 : (Tryz.prog.fieldsOf 52).toList.map (fun f => (f.name == "_", f.type, f.offset)) = keysI 3 0 4 := by kernel_rfl
theorem fu52 : Tryz.prog.underlying 52 = some (.struct (Tryz.prog.fieldsOf 52)) := by kernel_rfl
theorem fl79 : (Tryz.prog.fieldsOf 79).toList.map (fun f => (f.name == "_", f.type, f.offset)) = keysI 3 0 2 := by kernel_rfl
theorem fu79 : Tryz.prog.underlying 79 = some (.struct (Tryz.prog.fieldsOf 79)) := by kernel_rfl
noncomputable def sd101 : TypeDesc := (Tryz.prog.underlying 101).getD .bool
theorem us101 : uT 101 = some sd101 := by kernel_rfl
theorem uo101 : oneB sd101 = false := by kernel_rfl
noncomputable def sd123 : TypeDesc := (Tryz.prog.underlying 123).getD .bool
theorem us123 : uT 123 = some sd123 := by kernel_rfl
theorem uo123 : oneB sd123 = false := by kernel_rfl
noncomputable def sd142 : TypeDesc := (Tryz.prog.underlying 142).getD .bool
theorem us142 : uT 142 = some sd142 := by kernel_rfl
theorem uo142 : oneB sd142 = false := by kernel_rfl
noncomputable def sd27 : TypeDesc := (Tryz.prog.underlying 27).getD .bool
theorem us27 : uT 27 = some sd27 := by kernel_rfl
theorem uo27 : oneB sd27 = false := by kernel_rfl
noncomputable def sd38 : TypeDesc := (Tryz.prog.underlying 38).getD .bool
theorem us38 : uT 38 = some sd38 := by kernel_rfl
theorem uo38 : oneB sd38 = false := by kernel_rfl
noncomputable def sd52 : TypeDesc := (Tryz.prog.underlying 52).getD .bool
theorem us52 : uT 52 = some sd52 := by kernel_rfl
theorem uo52 : oneB sd52 = false := by kernel_rfl
noncomputable def sd70 : TypeDesc := (Tryz.prog.underlying 70).getD .bool
theorem us70 : uT 70 = some sd70 := by kernel_rfl
theorem uo70 : oneB sd70 = false := by kernel_rfl
noncomputable def sd79 : TypeDesc := (Tryz.prog.underlying 79).getD .bool
theorem us79 : uT 79 = some sd79 := by kernel_rfl
theorem uo79 : oneB sd79 = false := by kernel_rfl
theorem i123 : zT 123 = some (Ty.size ty2) := by kernel_rfl
theorem i3 : zT 3 = some (Ty.size (.int .i64)) := by kernel_rfl
theorem i36 : zT 36 = some (Ty.size ty4) := by kernel_rfl
theorem i38 : zT 38 = some (Ty.size ty14) := by kernel_rfl
theorem i5 : zT 5 = some (Ty.size (.int .u8)) := by kernel_rfl
theorem i52 : zT 52 = some (Ty.size ty10) := by kernel_rfl
theorem i70 : zT 70 = some (Ty.size ty12) := by kernel_rfl
theorem i79 : zT 79 = some (Ty.size ty2) := by kernel_rfl
theorem i9 : zT 9 = some (Ty.size .str) := by kernel_rfl
theorem il100 : zT 100 = some 3 := by kernel_rfl
theorem il101 : zT 101 = some 6 := by kernel_rfl
theorem il123 : zT 123 = some 2 := by kernel_rfl
theorem il142 : zT 142 = some 2 := by kernel_rfl
theorem il23 : zT 23 = some 1 := by kernel_rfl
theorem il24 : zT 24 = some 1 := by kernel_rfl
theorem il25 : zT 25 = some 1 := by kernel_rfl
theorem il27 : zT 27 = some 5 := by kernel_rfl
theorem il3 : zT 3 = some 1 := by kernel_rfl
theorem il36 : zT 36 = some 1 := by kernel_rfl
theorem il38 : zT 38 = some 3 := by kernel_rfl
theorem il52 : zT 52 = some 4 := by kernel_rfl
theorem il68 : zT 68 = some 1 := by kernel_rfl
theorem il70 : zT 70 = some 3 := by kernel_rfl
theorem il79 : zT 79 = some 2 := by kernel_rfl
theorem il9 : zT 9 = some 1 := by kernel_rfl
theorem j123 : (Tryz.prog.info? 123).map (fun i => (i.zero, i.size, i.bytes)) = some (some (.agg #[.int .i64 0, .int .i64 0]), Ty.size ty2, 16) := by kernel_rfl
theorem j3 : (Tryz.prog.info? 3).map (fun i => (i.zero, i.size, i.bytes)) = some (some (.int .i64 0), Ty.size (.int .i64), 8) := by kernel_rfl
theorem j36 : (Tryz.prog.info? 36).map (fun i => (i.zero, i.size, i.bytes)) = some (some (nS), Ty.size ty4, 24) := by kernel_rfl
theorem j38 : (Tryz.prog.info? 38).map (fun i => (i.zero, i.size, i.bytes)) = some (some (.agg #[.int .i64 0, nS, nS]), Ty.size ty14, 56) := by kernel_rfl
theorem j5 : (Tryz.prog.info? 5).map (fun i => (i.zero, i.size, i.bytes)) = some (some (.int .u8 0), Ty.size (.int .u8), 1) := by kernel_rfl
theorem j52 : (Tryz.prog.info? 52).map (fun i => (i.zero, i.size, i.bytes)) = some (some (.agg #[.int .i64 0, .int .i64 0, .int .i64 0, .int .i64 0]), Ty.size ty10, 32) := by kernel_rfl
theorem j70 : (Tryz.prog.info? 70).map (fun i => (i.zero, i.size, i.bytes)) = some (some (.agg #[.int .i64 0, nS, .int .i64 0]), Ty.size ty12, 40) := by kernel_rfl
theorem j79 : (Tryz.prog.info? 79).map (fun i => (i.zero, i.size, i.bytes)) = some (some (.agg #[.int .i64 0, .int .i64 0]), Ty.size ty2, 16) := by kernel_rfl
theorem j9 : (Tryz.prog.info? 9).map (fun i => (i.zero, i.size, i.bytes)) = some (some (strV []), Ty.size .str, 16) := by kernel_rfl
theorem nz22 : nT 22 = some false := by kernel_rfl
theorem nz23 : nT 23 = some false := by kernel_rfl
theorem nz24 : nT 24 = some false := by kernel_rfl
theorem nz25 : nT 25 = some false := by kernel_rfl
theorem nz3 : nT 3 = some false := by kernel_rfl
theorem nz36 : nT 36 = some false := by kernel_rfl
theorem nz68 : nT 68 = some false := by kernel_rfl
theorem u100 : uT 100 = some (.array 3 3) := by kernel_rfl
theorem u101 : uT 101 = some (.array 6 9) := by kernel_rfl
theorem u102 : uT 102 = some (.array 6 3) := by kernel_rfl
theorem u22 : uT 22 = some (.slice 5) := by kernel_rfl
theorem u23 : uT 23 = some (.slice 70) := by kernel_rfl
theorem u24 : uT 24 = some (.slice 3) := by kernel_rfl
theorem u25 : uT 25 = some (.slice 38) := by kernel_rfl
theorem u28 : uT 28 = some (.slice 9) := by kernel_rfl
theorem u3 : uT 3 = some (.int .i64) := by kernel_rfl
theorem u36 : uT 36 = some (.slice 123) := by kernel_rfl
theorem u4 : uT 4 = some (.bool) := by kernel_rfl
theorem u44 : uT 44 = some (.slice 52) := by kernel_rfl
theorem u5 : uT 5 = some (.int .u8) := by kernel_rfl
theorem u68 : uT 68 = some (.slice 79) := by kernel_rfl
theorem u89 : uT 89 = some (.slice 36) := by kernel_rfl
theorem u9 : uT 9 = some (.string) := by kernel_rfl
theorem z100 : oT 100 = some (some (.agg #[.int .i64 0, .int .i64 0, .int .i64 0])) := by kernel_rfl
theorem z123 : oT 123 = some (some (.agg #[.int .i64 0, .int .i64 0])) := by kernel_rfl
theorem z142 : oT 142 = some (some (.agg #[nS, nS])) := by kernel_rfl
theorem z27 : oT 27 = some (some (.agg #[nS, nS, nS, .int .i64 0, nS])) := by kernel_rfl
theorem z38 : oT 38 = some (some (.agg #[.int .i64 0, nS, nS])) := by kernel_rfl
theorem z52 : oT 52 = some (some (.agg #[.int .i64 0, .int .i64 0, .int .i64 0, .int .i64 0])) := by kernel_rfl
theorem z70 : oT 70 = some (some (.agg #[.int .i64 0, nS, .int .i64 0])) := by kernel_rfl
theorem z79 : oT 79 = some (some (.agg #[.int .i64 0, .int .i64 0])) := by kernel_rfl
theorem eqs123 (a0 b0 a1 b1 : Int) (w : World) : (Op.equalIn 10000 123 (.agg #[i64 a0, i64 a1]) (.agg #[i64 b0, i64 b1])).run Tryz.prog w = .ok (((a0, a1) : Int × Int) == ((b0, b1) : Int × Int)) w := by
 rw [run_equalIn_struct w 9999 123 _ _ fu123 (by kernel_rfl), run_eqFields_int (d := 9998) u3 _ _ [a0, a1] [b0, b1] _ 0 w q fl123 (fun i a h => by cases i with | zero => (simp at h; subst h; rfl) | succ i => cases i with | zero => (simp at h; subst h; rfl) | succ i => simp at h) (fun i a h => by cases i with | zero => (simp at h; subst h; rfl) | succ i => cases i with | zero => (simp at h; subst h; rfl) | succ i => simp at h)]
 congr 1
 rw [Bool.eq_iff_iff]
 simp
theorem eqs52 (a0 b0 a1 b1 a2 b2 a3 b3 : Int) (w : World) : (Op.equalIn 10000 52 (.agg #[i64 a0, i64 a1, i64 a2, i64 a3]) (.agg #[i64 b0, i64 b1, i64 b2, i64 b3])).run Tryz.prog w = .ok (((a0, a1, a2, a3) : Int × Int × Int × Int) == ((b0, b1, b2, b3) : Int × Int × Int × Int)) w := by
 rw [run_equalIn_struct w 9999 52 _ _ fu52 (by kernel_rfl), run_eqFields_int (d := 9998) u3 _ _ [a0, a1, a2, a3] [b0, b1, b2, b3] _ 0 w q fl52 (fun i a h => by cases i with | zero => (simp at h; subst h; rfl) | succ i => cases i with | zero => (simp at h; subst h; rfl) | succ i => cases i with | zero => (simp at h; subst h; rfl) | succ i => cases i with | zero => (simp at h; subst h; rfl) | succ i => simp at h) (fun i a h => by cases i with | zero => (simp at h; subst h; rfl) | succ i => cases i with | zero => (simp at h; subst h; rfl) | succ i => cases i with | zero => (simp at h; subst h; rfl) | succ i => cases i with | zero => (simp at h; subst h; rfl) | succ i => simp at h)]
 congr 1
 rw [Bool.eq_iff_iff]
 simp
theorem eqs79 (a0 b0 a1 b1 : Int) (w : World) : (Op.equalIn 10000 79 (.agg #[i64 a0, i64 a1]) (.agg #[i64 b0, i64 b1])).run Tryz.prog w = .ok (((a0, a1) : Int × Int) == ((b0, b1) : Int × Int)) w := by
 rw [run_equalIn_struct w 9999 79 _ _ fu79 (by kernel_rfl), run_eqFields_int (d := 9998) u3 _ _ [a0, a1] [b0, b1] _ 0 w q fl79 (fun i a h => by cases i with | zero => (simp at h; subst h; rfl) | succ i => cases i with | zero => (simp at h; subst h; rfl) | succ i => simp at h) (fun i a h => by cases i with | zero => (simp at h; subst h; rfl) | succ i => cases i with | zero => (simp at h; subst h; rfl) | succ i => simp at h)]
 congr 1
 rw [Bool.eq_iff_iff]
 simp
theorem fi118_0 : fT fd118 0 = some (22, 0) := by kernel_rfl
theorem fi118_1 : fT fd118 1 = some (3, 1) := by kernel_rfl
theorem fi123_0 : fT fd123 0 = some (3, 0) := by kernel_rfl
theorem fi123_1 : fT fd123 1 = some (3, 1) := by kernel_rfl
theorem fi142_0 : fT fd142 0 = some (24, 0) := by kernel_rfl
theorem fi27_0 : fT fd27 0 = some (23, 0) := by kernel_rfl
theorem fi27_1 : fT fd27 1 = some (24, 1) := by kernel_rfl
theorem fi27_2 : fT fd27 2 = some (24, 2) := by kernel_rfl
theorem fi27_3 : fT fd27 3 = some (3, 3) := by kernel_rfl
theorem fi27_4 : fT fd27 4 = some (25, 4) := by kernel_rfl
theorem fi38_0 : fT fd38 0 = some (3, 0) := by kernel_rfl
theorem fi38_1 : fT fd38 1 = some (36, 1) := by kernel_rfl
theorem fi38_2 : fT fd38 2 = some (24, 2) := by kernel_rfl
theorem fi52_0 : fT fd52 0 = some (3, 0) := by kernel_rfl
theorem fi52_1 : fT fd52 1 = some (3, 1) := by kernel_rfl
theorem fi52_2 : fT fd52 2 = some (3, 2) := by kernel_rfl
theorem fi52_3 : fT fd52 3 = some (3, 3) := by kernel_rfl
theorem fi70_0 : fT fd70 0 = some (3, 0) := by kernel_rfl
theorem fi70_1 : fT fd70 1 = some (68, 1) := by kernel_rfl
theorem fi70_2 : fT fd70 2 = some (3, 2) := by kernel_rfl
theorem fi79_0 : fT fd79 0 = some (3, 0) := by kernel_rfl
theorem fi79_1 : fT fd79 1 = some (3, 1) := by kernel_rfl
theorem c100 : CB 100 := ⟨_, Tryz.func100, by kernel_rfl, by kernel_rfl⟩
theorem c101 : CB 101 := ⟨_, Tryz.func101, by kernel_rfl, by kernel_rfl⟩
theorem c102 : CB 102 := ⟨_, Tryz.func102, by kernel_rfl, by kernel_rfl⟩
theorem c103 : CB 103 := ⟨_, Tryz.func103, by kernel_rfl, by kernel_rfl⟩
theorem c104 : CB 104 := ⟨_, Tryz.func104, by kernel_rfl, by kernel_rfl⟩
theorem c105 : CB 105 := ⟨_, Tryz.func105, by kernel_rfl, by kernel_rfl⟩
theorem c108 : CB 108 := ⟨_, Tryz.func108, by kernel_rfl, by kernel_rfl⟩
theorem c109 : CB 109 := ⟨_, Tryz.func109, by kernel_rfl, by kernel_rfl⟩
theorem c11 : CB 11 := ⟨_, Tryz.func11, by kernel_rfl, by kernel_rfl⟩
theorem c110 : Callable Tryz.prog 110 := ⟨Tryz.f110, Tryz.func110, by kernel_rfl, by kernel_rfl⟩
theorem c111 : CB 111 := ⟨_, Tryz.func111, by kernel_rfl, by kernel_rfl⟩
theorem c112 : CB 112 := ⟨_, Tryz.func112, by kernel_rfl, by kernel_rfl⟩
theorem c114 : CB 114 := ⟨_, Tryz.func114, by kernel_rfl, by kernel_rfl⟩
theorem c115 : CB 115 := ⟨_, Tryz.func115, by kernel_rfl, by kernel_rfl⟩
theorem c116 : CB 116 := ⟨_, Tryz.func116, by kernel_rfl, by kernel_rfl⟩
theorem c117 : CB 117 := ⟨_, Tryz.func117, by kernel_rfl, by kernel_rfl⟩
theorem c118 : CB 118 := ⟨_, Tryz.func118, by kernel_rfl, by kernel_rfl⟩
theorem c119 : CB 119 := ⟨_, Tryz.func119, by kernel_rfl, by kernel_rfl⟩
theorem c121 : CB 121 := ⟨_, Tryz.func121, by kernel_rfl, by kernel_rfl⟩
theorem c122 : CB 122 := ⟨_, Tryz.func122, by kernel_rfl, by kernel_rfl⟩
theorem c123 : CB 123 := ⟨_, Tryz.func123, by kernel_rfl, by kernel_rfl⟩
theorem c124 : CB 124 := ⟨_, Tryz.func124, by kernel_rfl, by kernel_rfl⟩
theorem c125 : CB 125 := ⟨_, Tryz.func125, by kernel_rfl, by kernel_rfl⟩
theorem c126 : CB 126 := ⟨_, Tryz.func126, by kernel_rfl, by kernel_rfl⟩
theorem c127 : CB 127 := ⟨_, Tryz.func127, by kernel_rfl, by kernel_rfl⟩
theorem c128 : CB 128 := ⟨_, Tryz.func128, by kernel_rfl, by kernel_rfl⟩
theorem c129 : CB 129 := ⟨_, Tryz.func129, by kernel_rfl, by kernel_rfl⟩
theorem c13 : CB 13 := ⟨_, Tryz.func13, by kernel_rfl, by kernel_rfl⟩
theorem c132 : CB 132 := ⟨_, Tryz.func132, by kernel_rfl, by kernel_rfl⟩
theorem c133 : CB 133 := ⟨_, Tryz.func133, by kernel_rfl, by kernel_rfl⟩
theorem c134 : CB 134 := ⟨_, Tryz.func134, by kernel_rfl, by kernel_rfl⟩
theorem c135 : CB 135 := ⟨_, Tryz.func135, by kernel_rfl, by kernel_rfl⟩
theorem c136 : CB 136 := ⟨_, Tryz.func136, by kernel_rfl, by kernel_rfl⟩
theorem c14 : CB 14 := ⟨_, Tryz.func14, by kernel_rfl, by kernel_rfl⟩
theorem c142 : CB 142 := ⟨_, Tryz.func142, by kernel_rfl, by kernel_rfl⟩
theorem c143 : CB 143 := ⟨_, Tryz.func143, by kernel_rfl, by kernel_rfl⟩
theorem c144 : CB 144 := ⟨_, Tryz.func144, by kernel_rfl, by kernel_rfl⟩
theorem c145 : CB 145 := ⟨_, Tryz.func145, by kernel_rfl, by kernel_rfl⟩
theorem c146 : CB 146 := ⟨_, Tryz.func146, by kernel_rfl, by kernel_rfl⟩
theorem c155 : CB 155 := ⟨_, Tryz.func155, by kernel_rfl, by kernel_rfl⟩
theorem c160 : CB 160 := ⟨_, Tryz.func160, by kernel_rfl, by kernel_rfl⟩
theorem c161 : CB 161 := ⟨_, Tryz.func161, by kernel_rfl, by kernel_rfl⟩
theorem c169 : CB 169 := ⟨_, Tryz.func169, by kernel_rfl, by kernel_rfl⟩
theorem c17 : CB 17 := ⟨_, Tryz.func17, by kernel_rfl, by kernel_rfl⟩
theorem c174 : CB 174 := ⟨_, Tryz.func174, by kernel_rfl, by kernel_rfl⟩
theorem c18 : CB 18 := ⟨_, Tryz.func18, by kernel_rfl, by kernel_rfl⟩
theorem c19 : CB 19 := ⟨_, Tryz.func19, by kernel_rfl, by kernel_rfl⟩
theorem c20 : CB 20 := ⟨_, Tryz.func20, by kernel_rfl, by kernel_rfl⟩
theorem c21 : CB 21 := ⟨_, Tryz.func21, by kernel_rfl, by kernel_rfl⟩
theorem c22 : CB 22 := ⟨_, Tryz.func22, by kernel_rfl, by kernel_rfl⟩
theorem c23 : CB 23 := ⟨_, Tryz.func23, by kernel_rfl, by kernel_rfl⟩
theorem c24 : CB 24 := ⟨_, Tryz.func24, by kernel_rfl, by kernel_rfl⟩
theorem c25 : CB 25 := ⟨_, Tryz.func25, by kernel_rfl, by kernel_rfl⟩
theorem c26 : CB 26 := ⟨_, Tryz.func26, by kernel_rfl, by kernel_rfl⟩
theorem c27 : CB 27 := ⟨_, Tryz.func27, by kernel_rfl, by kernel_rfl⟩
theorem c28 : CB 28 := ⟨_, Tryz.func28, by kernel_rfl, by kernel_rfl⟩
theorem c29 : CB 29 := ⟨_, Tryz.func29, by kernel_rfl, by kernel_rfl⟩
theorem c31 : CB 31 := ⟨_, Tryz.func31, by kernel_rfl, by kernel_rfl⟩
theorem c32 : CB 32 := ⟨_, Tryz.func32, by kernel_rfl, by kernel_rfl⟩
theorem c33 : CB 33 := ⟨_, Tryz.func33, by kernel_rfl, by kernel_rfl⟩
theorem c34 : CB 34 := ⟨_, Tryz.func34, by kernel_rfl, by kernel_rfl⟩
theorem c35 : CB 35 := ⟨_, Tryz.func35, by kernel_rfl, by kernel_rfl⟩
theorem c36 : CB 36 := ⟨_, Tryz.func36, by kernel_rfl, by kernel_rfl⟩
theorem c37 : CB 37 := ⟨_, Tryz.func37, by kernel_rfl, by kernel_rfl⟩
theorem c38 : CB 38 := ⟨_, Tryz.func38, by kernel_rfl, by kernel_rfl⟩
theorem c39 : CB 39 := ⟨_, Tryz.func39, by kernel_rfl, by kernel_rfl⟩
theorem c40 : CB 40 := ⟨_, Tryz.func40, by kernel_rfl, by kernel_rfl⟩
theorem c41 : CB 41 := ⟨_, Tryz.func41, by kernel_rfl, by kernel_rfl⟩
theorem c42 : CB 42 := ⟨_, Tryz.func42, by kernel_rfl, by kernel_rfl⟩
theorem c44 : CB 44 := ⟨_, Tryz.func44, by kernel_rfl, by kernel_rfl⟩
theorem c45 : CB 45 := ⟨_, Tryz.func45, by kernel_rfl, by kernel_rfl⟩
theorem c46 : CB 46 := ⟨_, Tryz.func46, by kernel_rfl, by kernel_rfl⟩
theorem c47 : CB 47 := ⟨_, Tryz.func47, by kernel_rfl, by kernel_rfl⟩
theorem c48 : CB 48 := ⟨_, Tryz.func48, by kernel_rfl, by kernel_rfl⟩
theorem c49 : CB 49 := ⟨_, Tryz.func49, by kernel_rfl, by kernel_rfl⟩
theorem c50 : CB 50 := ⟨_, Tryz.func50, by kernel_rfl, by kernel_rfl⟩
theorem c54 : CB 54 := ⟨_, Tryz.func54, by kernel_rfl, by kernel_rfl⟩
theorem c56 : CB 56 := ⟨_, Tryz.func56, by kernel_rfl, by kernel_rfl⟩
theorem c57 : CB 57 := ⟨_, Tryz.func57, by kernel_rfl, by kernel_rfl⟩
theorem c58 : CB 58 := ⟨_, Tryz.func58, by kernel_rfl, by kernel_rfl⟩
theorem c59 : CB 59 := ⟨_, Tryz.func59, by kernel_rfl, by kernel_rfl⟩
theorem c60 : CB 60 := ⟨_, Tryz.func60, by kernel_rfl, by kernel_rfl⟩
theorem c61 : CB 61 := ⟨_, Tryz.func61, by kernel_rfl, by kernel_rfl⟩
theorem c62 : CB 62 := ⟨_, Tryz.func62, by kernel_rfl, by kernel_rfl⟩
theorem c63 : CB 63 := ⟨_, Tryz.func63, by kernel_rfl, by kernel_rfl⟩
theorem c64 : CB 64 := ⟨_, Tryz.func64, by kernel_rfl, by kernel_rfl⟩
theorem c65 : CB 65 := ⟨_, Tryz.func65, by kernel_rfl, by kernel_rfl⟩
theorem c66 : CB 66 := ⟨_, Tryz.func66, by kernel_rfl, by kernel_rfl⟩
theorem c67 : CB 67 := ⟨_, Tryz.func67, by kernel_rfl, by kernel_rfl⟩
theorem c68 : CB 68 := ⟨_, Tryz.func68, by kernel_rfl, by kernel_rfl⟩
theorem c69 : CB 69 := ⟨_, Tryz.func69, by kernel_rfl, by kernel_rfl⟩
theorem c70 : CB 70 := ⟨_, Tryz.func70, by kernel_rfl, by kernel_rfl⟩
theorem c71 : CB 71 := ⟨_, Tryz.func71, by kernel_rfl, by kernel_rfl⟩
theorem c72 : CB 72 := ⟨_, Tryz.func72, by kernel_rfl, by kernel_rfl⟩
theorem c76 : CB 76 := ⟨_, Tryz.func76, by kernel_rfl, by kernel_rfl⟩
theorem c77 : CB 77 := ⟨_, Tryz.func77, by kernel_rfl, by kernel_rfl⟩
theorem c78 : CB 78 := ⟨_, Tryz.func78, by kernel_rfl, by kernel_rfl⟩
theorem c79 : CB 79 := ⟨_, Tryz.func79, by kernel_rfl, by kernel_rfl⟩
theorem c80 : CB 80 := ⟨_, Tryz.func80, by kernel_rfl, by kernel_rfl⟩
theorem c81 : CB 81 := ⟨_, Tryz.func81, by kernel_rfl, by kernel_rfl⟩
theorem c82 : CB 82 := ⟨_, Tryz.func82, by kernel_rfl, by kernel_rfl⟩
theorem c83 : CB 83 := ⟨_, Tryz.func83, by kernel_rfl, by kernel_rfl⟩
theorem c84 : CB 84 := ⟨_, Tryz.func84, by kernel_rfl, by kernel_rfl⟩
theorem c85 : CB 85 := ⟨_, Tryz.func85, by kernel_rfl, by kernel_rfl⟩
theorem c86 : CB 86 := ⟨_, Tryz.func86, by kernel_rfl, by kernel_rfl⟩
theorem c87 : CB 87 := ⟨_, Tryz.func87, by kernel_rfl, by kernel_rfl⟩
theorem c88 : CB 88 := ⟨_, Tryz.func88, by kernel_rfl, by kernel_rfl⟩
theorem c89 : CB 89 := ⟨_, Tryz.func89, by kernel_rfl, by kernel_rfl⟩
theorem c9 : CB 9 := ⟨_, Tryz.func9, by kernel_rfl, by kernel_rfl⟩
theorem c90 : CB 90 := ⟨_, Tryz.func90, by kernel_rfl, by kernel_rfl⟩
theorem c91 : CB 91 := ⟨_, Tryz.func91, by kernel_rfl, by kernel_rfl⟩
theorem c92 : Callable Tryz.prog 92 := ⟨Tryz.f92, Tryz.func92, by kernel_rfl, by kernel_rfl⟩
theorem c93 : CB 93 := ⟨_, Tryz.func93, by kernel_rfl, by kernel_rfl⟩
theorem c94 : CB 94 := ⟨_, Tryz.func94, by kernel_rfl, by kernel_rfl⟩
theorem c95 : CB 95 := ⟨_, Tryz.func95, by kernel_rfl, by kernel_rfl⟩
theorem c96 : CB 96 := ⟨_, Tryz.func96, by kernel_rfl, by kernel_rfl⟩
theorem c97 : CB 97 := ⟨_, Tryz.func97, by kernel_rfl, by kernel_rfl⟩
theorem c98 : CB 98 := ⟨_, Tryz.func98, by kernel_rfl, by kernel_rfl⟩
theorem c99 : CB 99 := ⟨_, Tryz.func99, by kernel_rfl, by kernel_rfl⟩
theorem w_spec_l20Open {w G vp0 p0 r} (h : spec_l20OpenS p0 = some r) (hp0 : HasRo G (.int .u8) vp0 p0) (H : Ctx w G) : Calls Tryz.prog 27 #[vp0] w fun e w' => ∃ (v1 : Value) (b2 : Nat), e = .returned (pB b2) ∧ Holds M0 w w' [.ro (.int .u8) v1 r.1, .bx b2 118 [v1, iV r.2]] G := by
 refine F0 11 H Tryz.func27 q fun H => ?_
 refine rR <| qa q <| B <| C <| rR <| qm q <| qz H.ctx (hp0.has) u22 q <| qi (qt_gtr q q) q <| B <| O h fun j1 aa h => ?_
 refine WP_join (M := fun a w2 => ∃ ab, Fr a 11 [(0, ab)] ∧ Holds M0 w w2 [.ro (.int .u8) ab j1] G) ?_ ?_
 ·refine Yh q aa (fun aa => ?_) (fun aa => ?_)
  ·refine Z <| qm q <| O aa fun x4 ad aa => XL_sliceH H.ctx (hp0.has) ad u22 i5 q ⟨_, q⟩ q q q <| qa q <| WL_nil fun a ha => ?_
   obtain rfl := L aa
   have H6 : Holds _ w w [.ro (.int .u8) (subV (Ty.size (.int .u8)) vp0 (Int.toNat 0) (Int.toNat 2000)) x4] G := H.dup (HasRo.sub (hp0) ad)
   exact X (⟨(subV (Ty.size (.int .u8)) vp0 (Int.toNat 0) (Int.toNat 2000)), ha.s, H6⟩)
  refine WP_skip fun a ha => ?_
  obtain rfl := L aa
  have H7 : Holds _ w w [.ro (.int .u8) vp0 p0] G := H.dup (hp0)
  exact X (⟨vp0, ha.s, H7⟩)
 rintro a w8 ⟨ab, ha, ae⟩
 cases h
 exact S1 ha <| rR <| qm q <| qi (qt_build (args := [(0, .tmp 8)]) (css := [#[ab]]) (cells := #[ab, iV 0]) q ⟨(ae.ctx.sliceCells hR0), trivial⟩ (by kernel_rfl)) q <| WL_box (cs := [ab, iV 0]) ae q q q q fun af aj ag => qa q <| B <| W fun a ha => ret1 q ha q ⟨ab, af, q, ag.p1⟩
theorem w_spec_l20Rd__pick {w G bp0 A0 B0 B1 p1 r} (h : spec_l20Rd__pickS B0 B1 p1 = some r) (C0 : Has G (.int .u8) A0 B0) (H : Ctx w ([.bx bp0 118 [A0, iV B1]] ++ G)) : Calls Tryz.prog 29 #[pB bp0, iV p1] w fun e w' => e = .returned (iV r.2) ∧ Holds (([.bx bp0 118 [A0, iV B1]] : List Res).flatMap Res.own) w w' [.bx bp0 118 [A0, iV r.1]] G := by
 refine F1 99 H Tryz.func29 q fun H => ?_
 refine rR <| qa q <| rN <| qm q <| qm q <| qn q <| qf uf118 fi118_1 nz3 q <| ql u3 H.p0 q <| qi (qt_add q q) q <| qn q <| qf uf118 fi118_1 nz3 q <| WL_store_bx H q il3 q q q q q fun w2 H3 => B <| C <| rR <| qm q <| qi (qt_lss q q) q <| qm q ?_
 refine Ho (res := ((decide (p1 < 1)) || ((List.length B0 : Int) == 0))) 6 os (fun aa K6 af => ?_) ?_
 ·exact jm aa q <| jn aa q <| jf uf118 fi118_0 nz22 aa q <| jl u22 H3.p0 aa q <| jz H3.ctx (C0.c) u22 aa q <| ji (qt_eql q q) aa q <| af 6 q q q (oi aa)
 refine B ?_
 refine Yh q h (fun h => ?_) (fun h => ?_)
 ·cases h
  exact rR <| qa q <| B <| W fun a ha => m (ret1 q ha q ⟨q, H3⟩)
 refine y <| rR <| qm q <| qn q <| qf uf118 fi118_1 nz3 q <| ql u3 H3.p0 q <| qi (qt_sub q q) q <| qa q <| B <| C <| rR <| qm q <| qm q <| qn q <| qf uf118 fi118_0 nz22 q <| ql u22 H3.p0 q <| qz H3.ctx (C0.c) u22 q <| qi (qt_lss q q) q <| B ?_
 refine Yh q h (fun h => ?_) (fun h => ?_)
 ·refine rR <| qm q <| qn q <| qf uf118 fi118_0 nz22 q <| ql u22 H3.p0 q <| qm q <| O h fun av ab h => qe H3 (C0.c) ab u22 i5 q fun _ _ ag => eI u5 ag q <| qi (qt_int u3 q u5) q <| qm q <| O h fun az ah h => qi (qt_remO q q ah) q <| qa q <| B <| W fun a ha => ?_
  cases h
  exact m (ret1 q ha q ⟨q, H3⟩)
 refine y <| C <| WP_quiet (by kernel_rfl) (by kernel_rfl) <| qm q <| qn q <| qf uf118 fi118_0 nz22 q <| ql u22 H3.p0 q <| qm q <| qm q <| qn q <| qf uf118 fi118_0 nz22 q <| ql u22 H3.p0 q <| qz H3.ctx (C0.c) u22 q <| O h fun aA aj h => qi (qt_remO q q aj) q <| O h fun aB ad h => qe H3 (C0.c) ad u22 i5 q fun _ _ ak => eI u5 ak q <| qi (qt_int u3 q u5) q <| qi (qt_mul q q) q <| qm q <| qn q <| qf uf118 fi118_0 nz22 q <| ql u22 H3.p0 q <| qm q <| qi (qt_mul q q) q <| qi (qt_add q q) q <| qm q <| qn q <| qf uf118 fi118_0 nz22 q <| ql u22 H3.p0 q <| qz H3.ctx (C0.c) u22 q <| O h fun aF al h => qi (qt_remO q q al) q <| O h fun aG ae h => qe H3 (C0.c) ae u22 i5 q fun _ _ am => eI u5 am q <| qi (qt_int u3 q u5) q <| qi (qt_mul q q) q <| qi (qt_add q q) q <| qm q <| qi (qt_mul q q) q <| O h fun aK ao h => XL_qe q (qt_add q q) (vi ao) q q <| qm q <| qm q ?_
 refine qn q <| qf uf118 fi118_0 nz22 q <| ql u22 H3.p0 q <| qz H3.ctx (C0.c) u22 q <| O h fun aL ap h => qi (qt_quoO q q ap) q <| qi (qt_mul q q) q <| qi (qt_add q q) q <| qa q <| Qn H3 fun a ha aM aq => X <| S1 ha <| rR <| qm q <| qm q <| qi (qt_quo q q (by decide)) q <| O h fun aN ar h => XL_qe q (qt_xor q q) (vi ar) q q <| qa q <| B <| C <| Z <| qm q <| qm q <| O h fun aO au h => qi (qt_remO q q au) q <| qa q <| B <| W fun a ha => ?_
 cases h
 exact ret1 q ha q ⟨q, aq⟩
theorem w_spec_l20Rd__odd {w G bp0 A0 B0 B1 p1 r} (h : spec_l20Rd__oddS B0 B1 p1 = some r) (C0 : Has G (.int .u8) A0 B0) (H : Ctx w ([.bx bp0 118 [A0, iV B1]] ++ G)) : Calls Tryz.prog 31 #[pB bp0, iV p1] w fun e w' => e = .returned (.bool r.2) ∧ Holds (([.bx bp0 118 [A0, iV B1]] : List Res).flatMap Res.own) w w' [.bx bp0 118 [A0, iV r.1]] G := by
 refine F1 15 H Tryz.func31 q fun H => ?_
 refine rR <| qa q <| rN <| qm q <| qi (qt_gtr q q) q <| qm q <| O h fun o3 ab h => ?_
 obtain ⟨g1, b2⟩ := o3
 refine WL_cutM 7 (fun a w2 => (Fr a 15 [(0, pB bp0), (14, .bool b2)] ∧ Holds (([.bx bp0 118 [A0, iV B1]] : List Res).flatMap Res.own) w w2 [.bx bp0 118 [A0, iV g1]] G)) ?_ ?_
 ·rcases btf (decide (p1 > 0)) with aa | aa
  ·refine have ab := if_t aa ab; jm aa q <| jm aa q <| O ab fun x6 ad ab => V0 (J q aa) q c29 (w_spec_l20Rd__pick ad (C0) H.ctx) q fun w8 H9 => have ae := H.cN1 [_] H9; jm aa q <| ji (qt_sub q q) aa q <| ji (qt_eql q q) aa q <| qi (ze q aa q) q <| WL_nil fun a ha => ?_
   obtain ⟨rfl, rfl⟩ := L ab |> Prod.mk.inj
   exact X ⟨ha.s, ae⟩
  refine have ab := if_f aa ab; qS q aa q q <| qS q aa q q <| qS q aa q q <| qS q aa q q <| qS q aa q q <| qS q aa q q <| qi (zf q aa q) q <| WL_nil fun a ha => ?_
  obtain ⟨rfl, rfl⟩ := L ab |> Prod.mk.inj
  exact X ⟨ha.s, H⟩
 intro a ah af
 obtain ⟨ha, ag⟩ := af
 refine SL_app ?_ ha
 clear ha
 cases h
 exact qa q <| B <| W fun a ha => ret1 q ha q ⟨q, ag⟩
theorem w_spec_l20Item {w G bp0 A0 B0 B1 p1 p2 r} (h : spec_l20ItemS B0 B1 p1 p2 = some r) (C0 : Has G (.int .u8) A0 B0) (H : Ctx w ([.bx bp0 118 [A0, iV B1]] ++ G)) : Calls Tryz.prog 114 #[pB bp0, iV p1, iV p2] w fun e w' => ∃ (v1 : Value), e = .returned (.agg #[iV r.2.1, v1, iV r.2.2.2]) ∧ Holds (([.bx bp0 118 [A0, iV B1]] : List Res).flatMap Res.own) w w' [.sl 79 ty2 v1 r.2.2.1, .bx bp0 118 [A0, iV r.1]] G := by
 refine F1 94 H Tryz.func114 q fun H => ?_
 refine C <| Z <| zq (cs := [iV 0, nS, iV 0]) H z70 q q q fun b1 w2 H3 => rN <| qm q <| have H7 := H3.p1; O h fun x5 aY h => U0 q c29 (w_spec_l20Rd__pick aY (C0.c) H7.ctx) fun w8 H9 => have aJ := H7.cN1 [_] H9; qm q <| O h fun ag aZ h => U0 q c29 (w_spec_l20Rd__pick aZ (C0.c) aJ.ctx) fun cr a0 => have a1 := aJ.cN1 [_] a0; qi (qt_mul q q) q <| qi (qt_build (args := [(2, .tmp 13)]) (css := [#[iV (IntKind.wrap .i64 (x5.2 * ag.2))]]) (cells := #[iV 0, nS, iV (IntKind.wrap .i64 (x5.2 * ag.2))]) q ⟨q, trivial⟩ (by kernel_rfl)) q <| zq (cs := [iV 0, nS, iV 0]) a1 z70 q q q fun ad ct a2 => zl (cs' := [iV 0, nS, iV (IntKind.wrap .i64 (x5.2 * ag.2))]) a2 q il70 q q q q q fun cu aK => B <| C <| rR <| qm q <| qi (qt_gtr q q) q <| qm q <| O h fun a3 al h => ?_
 obtain ⟨a4, a5⟩ := a3
 refine WL_cutM 4 (fun a w2 => (Fr a 94 [(0, pB bp0), (1, iV p1), (2, iV p2), (6, pB b1), (7, pB ad), (21, .bool a5)] ∧ Holds (([.bx bp0 118 [A0, iV B1]] : List Res).flatMap Res.own) w w2 [.bx bp0 118 [A0, iV a4], .bx b1 70 [iV 0, nS, iV 0], .bx ad 70 [iV 0, nS, iV (IntKind.wrap .i64 (x5.2 * ag.2))]] G)) ?_ ?_
 ·rcases btf (decide (p1 > 0)) with ae | ae
  ·refine have al := if_t ae al; jm ae q <| have aL := aK.p1; O al fun cv a6 al => V0 (J q ae) q c29 (w_spec_l20Rd__pick a6 (C0.c.c) aL.ctx) q fun cw a7 => have a8 := aL.cN1 [_] a7; ji (qt_gtr q q) ae q <| qi (ze q ae q) q <| WL_nil fun a ha => ?_
   obtain ⟨rfl, rfl⟩ := L al |> Prod.mk.inj
   exact X ⟨ha.s, a8.p1.p2.p2⟩
  refine have al := if_f ae al; qS q ae q q <| qS q ae q q <| qS q ae q q <| qi (zf q ae q) q <| WL_nil fun a ha => ?_
  obtain ⟨rfl, rfl⟩ := L al |> Prod.mk.inj
  exact X ⟨ha.s, aK.p2.p2⟩
 intro a cx bb
 obtain ⟨ha, aB⟩ := bb
 refine SL_app ?_ ha
 clear ha
 refine B <| O h fun bc ah h => ?_
 obtain ⟨bd, be, bf⟩ := bc
 refine WP_join (M := fun a w2 => ∃ ao, Fr a 94 [(0, pB bp0), (1, iV p1), (2, iV p2), (6, pB b1), (7, pB ad)] ∧ Holds (([.bx bp0 118 [A0, iV B1]] : List Res).flatMap Res.own) w w2 [.bx bp0 118 [A0, iV bd], .bx b1 70 [iV 0, nS, iV 0], .bx ad 70 [iV be, ao, iV (IntKind.wrap .i64 (x5.2 * ag.2))], .sl 79 ty2 ao bf] G) ?_ ?_
 ·refine Yh q ah (fun ah => ?_) (fun ah => ?_)
  ·refine rR <| qm q <| O ah fun aq bg ah => U0 q c29 (w_spec_l20Rd__pick bg (C0.c.c) aB.ctx) fun cy bh => have bi := aB.cN1 [_] bh; qi (qt_add q q) q <| qf uf70 fi70_0 nz3 q <| WL_store_bx bi.p2 q il3 q q q q q fun cz bk => rN <| qa q <| B <| g <| have bl := bk.nS 79 ty2; O ah fun bm bn ah => ?_
   refine fun cA bp => zp (I := fun (aj, aM, ak) a w2 => ∃ af, Fr a 94 [(0, pB bp0), (1, iV p1), (2, iV p2), (6, pB b1), (7, pB ad), (8, iV aj)] ∧ Holds (([.bx bp0 118 [A0, iV B1]] : List Res).flatMap Res.own) w w2 [.bx bp0 118 [A0, iV aM], .bx b1 70 [iV 0, nS, iV 0], .bx ad 70 [iV (IntKind.wrap .i64 (1 + aq.2)), af, iV (IntKind.wrap .i64 (x5.2 * ag.2))], .sl 79 ty2 af ak] G) (O := fun (q0, q1) e a w2 => e = .exit 0 ∧ ∃ aN, Fr a 94 [(0, pB bp0), (1, iV p1), (2, iV p2), (6, pB b1), (7, pB ad)] ∧ Holds (([.bx bp0 118 [A0, iV B1]] : List Res).flatMap Res.own) w w2 [.bx bp0 118 [A0, iV q0], .bx b1 70 [iV 0, nS, iV 0], .bx ad 70 [iV (IntKind.wrap .i64 (1 + aq.2)), aN, iV (IntKind.wrap .i64 (x5.2 * ag.2))], .sl 79 ty2 aN q1] G) bn ?_ ?_ ?_
   ·exact ⟨(nS), bp.s, bl.p1.p3.p3⟩
   ·rintro ⟨aj, aM, ak⟩ _ a cB ab ⟨af, ha, ar⟩
    refine S1 ha <| C <| rR <| qm q <| qm q <| qi (qt_lss q q) q <| qm q ?_
    refine Ha (res := ((decide (aj < p1)) && (decide ((List.length ak : Int) < 3)))) 4 an (fun au cC bq => ?_) ?_
    ·exact jf uf70 fi70_1 nz68 au q <| jl u68 ar.p2 au q <| jz ar.ctx hS3 u68 au q <| ji (qt_lss q q) au q <| bq 4 q q q (ai au)
    refine B ?_
    refine Yh q ab (fun ab => ?_) (fun ab => ?_)
    ·refine y <| C <| g <| rR <| qm q <| O ab fun av br ab => U0 q c29 (w_spec_l20Rd__pick br (C0.c.c.c) ar.ctx) fun cD bs => have ay := ar.cN1 [_] bs; qi (qt_eql q q) q <| qm q ?_
     refine Ho (res := ((av.2 == 0) || ((aj == (IntKind.wrap .i64 (p1 - 1))) && ((List.length ak : Int) == 0)))) 10 os (fun am cE bt => ?_) ?_
     ·refine jm am q <| jm am q <| ji (qt_sub q q) am q <| ji (qt_eql q q) am q <| jm am q ?_
      refine Ha (res := ((aj == (IntKind.wrap .i64 (p1 - 1))) && ((List.length ak : Int) == 0))) (hw := (J q am)) 4 an (fun aw cF bu => ?_) ?_
      ·exact jf uf70 fi70_1 nz68 aw q <| jl u68 ay.p2 aw q <| jz ay.ctx hS3 u68 aw q <| ji (qt_eql q q) aw q <| bu 4 q q q (ai aw)
      exact bt 6 q q q (oi am)
     refine B ?_
     refine Yh q ab (fun ab => ?_) (fun ab => ?_)
     ·refine O ab fun az bv ab => O ab fun bw bz ab => ?_
      refine WP_mid (Mid := fun a w2 => ∃ aA, Fr a 94 [(0, pB bp0), (1, iV p1), (2, iV p2), (6, pB b1), (7, pB ad), (8, iV aj)] ∧ Holds (([.bx bp0 118 [A0, iV B1]] : List Res).flatMap Res.own) w w2 [.bx bp0 118 [A0, iV az.1], .bx b1 70 [iV 0, nS, iV 0], .bx ad 70 [iV (IntKind.wrap .i64 (1 + aq.2)), aA, iV (IntKind.wrap .i64 (x5.2 * ag.2))], .sl 79 ty2 aA bw] G) ?_ ?_
      ·refine WP_ordersT (fun w1 w2 => Chg (([.bx bp0 118 [A0, iV av.1], .sl 79 ty2 af ak] : List Res).flatMap Res.own) w1 w2) 9 (by kernel_rfl) fun aC bA => have bB := ay.grow bA; have aO := bB.p3.p1; ?_
       have aP : Ctx aC ([.bx bp0 118 [A0, iV av.1], .sl 79 ty2 af ak] ++ ([.bx b1 70 [iV 0, nS, iV 0], .bx ad 70 [iV (IntKind.wrap .i64 (1 + aq.2)), af, iV (IntKind.wrap .i64 (x5.2 * ag.2))]] ++ G)) := aO.ctx
       have bD : Holds _ aC aC [.bx bp0 118 [A0, iV av.1], .sl 79 ty2 af ak] ([.bx b1 70 [iV 0, nS, iV 0], .bx ad 70 [iV (IntKind.wrap .i64 (1 + aq.2)), af, iV (IntKind.wrap .i64 (x5.2 * ag.2))]] ++ G) := zb (Rs := [.bx bp0 118 [A0, iV av.1], .sl 79 ty2 af ak]) aP
       refine have Hc := bD; XQ (i := 0) q (by kernel_rfl) q Hc.chg q (fun _ => qt_fieldAddr uf70 fi70_1 nz68 q) q q <| have bE := HasB.bx (HasB.c (HasB.c (HasB.c (HasB.hd)))) Hc.ctx; XT (i := 1) q (by kernel_rfl) q Hc.chg q (qs_cell u68 q q (bE.cell (i := 1) q) Hc.chg (Ctx.outB aP (HasB.c (HasB.hd)))) q q <| XQ (i := 2) q (by kernel_rfl) q Hc.chg q (fun _ => qt_move q) q q <| XQ (i := 3) q (by kernel_rfl) q Hc.chg q (fun _ => qt_move q) q q ?_
       repeat' first
        | refine XDo 4 q <| U0 q c29 (w_spec_l20Rd__pick bv (C0.c.c.c) Hc.ctx) fun _ HK => ?_; have Hc := Hc.cN1 [_] HK; refine XN Hc.chg <| XQ (i := 5) q (by kernel_rfl) q Hc.chg q (fun _ => qt_add q q) q q <| XQ (i := 6) q (by kernel_rfl) q Hc.chg q (fun _ => qt_build (args := [(0, .tmp 54), (1, .tmp 57)]) (css := [#[iV aj], #[iV (IntKind.wrap .i64 (1 + az.2))]]) (cells := #[iV aj, iV (IntKind.wrap .i64 (1 + az.2))]) q ⟨q, q, trivial⟩ (by kernel_rfl)) q q ?_
        | refine XDo 7 q ?_; refine zs (t := ty2) (args := [.tmp 58]) (xs := ([(aj, IntKind.wrap .i64 (1 + az.2))] : LP)) Hc (BltL.cons (Blt.pair (Blt.int) (Blt.int)) q (BltL.nil)) u68 j79 q q q q q q (fun cG _ Hc => ?_); refine XN Hc.chg ?_
        | refine XDo 8 q ?_; have Hc := Hc.p2; refine zw Hc hS1 bz u68 j79 q q q q q q (fun bF _ Hc => ?_); refine XN Hc.chg ?_
        | have Hc := aO.cN3 [_, _] Hc; refine XDo 9 q <| qf uf70 fi70_1 nz68 q <| XE q ?_
        | refine XDo 10 q ?_; have Hc := Hc.p4; refine WL_store_bx Hc q il68 (Hc.ctx.sliceCells hS1) (Hc.ctx.sliceOne hS1) q q q (fun _ Hc => ?_); refine XE q ?_
        | refine XV [4] (by decide +kernel) q (allc ?_ alln)
        | refine XV [7] (by decide +kernel) q (allc ?_ alln)
        | refine XV [8] (by decide +kernel) q (allc ?_ alln)
        | refine XV [9] (by decide +kernel) q (allc ?_ alln)
        | refine XV [10] (by decide +kernel) q (allc ?_ alln)
        | refine XC_done (by decide +kernel) (fun a ha => ?_); have Hc := (((((Hc.q2).p1).p1).p3).p3); exact ⟨bF, ha.s, Hc⟩
      rintro a cH ⟨aA, ha, bG⟩
      cases ab
      exact zi <| X <| S1 ha <| Z <| qm q <| qi (qt_add q q) q <| qa q <| WL_nil fun a ha => ⟨q, aA, ha.s, bG.p3.p3.p3.p3⟩
     cases ab
     exact WP_skip fun a ha => zi <| X <| S1 ha <| Z <| qm q <| qi (qt_add q q) q <| qa q <| WL_nil fun a ha => ⟨q, af, ha.s, ay.p3.p3.p3.p3⟩
    cases ab
    exact WP_exit fun a ha => zo (⟨exit_ne, q, af, ha.s, ar.p3.p3.p3.p3⟩)
   obtain ⟨cI, cJ⟩ := bm
   rintro _ a cK ⟨rfl, bK, ha, bL⟩
   obtain ⟨rfl, rfl, rfl⟩ := (by simpa only [Option.some.injEq, Prod.mk.injEq] using ah : _)
   exact zn (X (⟨bK, ha.s, bL.p3.p3.p3.p3⟩))
  refine WP_skip fun a ha => ?_
  obtain ⟨rfl, rfl, rfl⟩ := (by simpa only [Option.some.injEq, Prod.mk.injEq] using ah : _)
  refine have bN := aB.nS 79 ty2; ?_
  exact X (⟨(nS), ha.s, bN.p3.p3.p3⟩)
 rintro a cL ⟨ao, ha, aQ⟩
 refine S1 ha <| C <| rR <| qm q <| qm q <| O h fun cM bP h => U0 q c31 (w_spec_l20Rd__odd bP (C0.c.c.c) aQ.ctx) fun cN bQ => have aD := aQ.cN1 [_] bQ; B <| O h fun bR aa h => ?_
 obtain ⟨bS, aE, bT, aF⟩ := bR
 refine WP_join (M := fun a w2 => ∃ ap, Fr a 94 [(0, pB bp0), (6, pB b1), (7, pB ad)] ∧ Holds (([.bx bp0 118 [A0, iV B1]] : List Res).flatMap Res.own) w w2 [.bx bp0 118 [A0, iV bS], .bx b1 70 [iV 0, nS, iV 0], .bx ad 70 [iV aE, ap, iV aF], .sl 79 ty2 ap bT] G) ?_ ?_
 ·refine Yh q aa (fun aa => ?_) (fun aa => ?_)
  ·refine rR <| qm q <| O aa fun cO bU aa => U0 q c29 (w_spec_l20Rd__pick bU (C0.c.c.c) aD.ctx) fun cP bV => have ax := aD.cN1 [_] bV; B <| g <| rR <| qi (qt_eql q q) q <| qa q <| B ?_
   refine Yh q aa (fun aa => ?_) (fun aa => ?_)
   ·refine Z <| zs (t := tI) (args := [.const (iV (-1)), .const (iV 32)]) (xs := ([(-1), 32] : List Int)) ax (BltL.cons (Blt.int) q (BltL.cons (Blt.int) q (BltL.nil))) u24 j3 q q q q q q fun cQ cR bW => qm q <| have aR := bW.p1; O aa fun cS bX aa => U0 q c29 (w_spec_l20Rd__pick bX (C0.c.c.c.c) aR.ctx) fun cT bY => have aG := aR.cN1 [_] bY; O aa fun cU aS aa => qe aG hS1 aS u24 i3 q fun _ _ bZ => eI u3 bZ q <| qf uf70 fi70_2 nz3 q <| WL_store_bx aG.p3 q il3 q q q q q fun cY b4 => WL_nil fun a ha => ?_
    obtain ⟨rfl, rfl, rfl, rfl⟩ := (by simpa only [Option.some.injEq, Prod.mk.injEq] using aa : _)
    exact zi (X (⟨ao, ha.s, b4.q2.p3.p1.p3.p3⟩))
   refine rR <| qi (qt_eql q q) q <| qa q <| B ?_
   refine Yh q aa (fun aa => ?_) (fun aa => ?_)
   ·refine Z <| zs (t := tI) (args := [.const (iV (-1)), .const (iV 7)]) (xs := ([(-1), 7] : List Int)) ax (BltL.cons (Blt.int) q (BltL.cons (Blt.int) q (BltL.nil))) u24 j3 q q q q q q fun cZ c0 b6 => qm q <| have aT := b6.p1; O aa fun c1 b7 aa => U0 q c29 (w_spec_l20Rd__pick b7 (C0.c.c.c.c) aT.ctx) fun c2 b8 => have aH := aT.cN1 [_] b8; O aa fun c3 aU aa => qe aH hS1 aU u24 i3 q fun _ _ b9 => eI u3 b9 q <| qf uf70 fi70_0 nz3 q <| WL_store_bx aH.p3 q il3 q q q q q fun c7 cb => WL_nil fun a ha => ?_
    obtain ⟨rfl, rfl, rfl, rfl⟩ := (by simpa only [Option.some.injEq, Prod.mk.injEq] using aa : _)
    exact zi (X (⟨ao, ha.s, cb.q2.p3.p1.p3.p3⟩))
   refine rR <| qi (qt_eql q q) q <| qa q <| B ?_
   refine Yh q aa (fun aa => ?_) (fun aa => ?_)
   ·refine Z <| qf uf70 fi70_1 nz68 q <| ql u68 ax.p2 q <| qm q <| qi (qt_build (args := [(0, .tmp 88), (1, .const (iV 1))]) (css := [#[iV p1], #[iV 1]]) (cells := #[iV p1, iV 1]) q ⟨q, q, trivial⟩ (by kernel_rfl)) q <| zs (t := ty2) (args := [.tmp 89]) (xs := ([(p1, 1)] : LP)) ax (BltL.cons (Blt.pair (Blt.int) (Blt.int)) q (BltL.nil)) u68 j79 q q q q q q fun c8 da cd => O aa fun db cf aa => zw cd.p4 hS1 cf u68 j79 q q q q q q fun cg dc ch => qf uf70 fi70_1 nz68 q <| have aI := ch.p4; WL_store_bx aI q il68 (aI.ctx.sliceCells hS1) (aI.ctx.sliceOne hS1) q q q fun dd ci => WL_nil fun a ha => ?_
    obtain ⟨rfl, rfl, rfl, rfl⟩ := (by simpa only [Option.some.injEq, Prod.mk.injEq] using aa : _)
    exact zi (X (⟨cg, ha.s, ci.q2.p1.p1.p3.p3⟩))
   cases aa
   exact Z <| qi (qt_build (args := [(0, .const (iV 2))]) (css := [#[iV 2]]) (cells := #[iV 2, nS, iV 0]) q ⟨q, trivial⟩ (by kernel_rfl)) q <| zl (cs' := [iV 2, nS, iV 0]) ax.p2 q il70 q q q q q fun de cl => WL_nil fun a ha => have cm := cl.nS 79 ty2; zi (X (⟨(nS), ha.s, cm.q4.p1.p3.p3⟩))
  refine WP_skip fun a ha => ?_
  obtain ⟨rfl, rfl, rfl, rfl⟩ := (by simpa only [Option.some.injEq, Prod.mk.injEq] using aa : _)
  exact X (⟨ao, ha.s, aD.p3.p3.p3.p3⟩)
 rintro a df ⟨ap, ha, aV⟩
 cases h
 exact S1 ha <| rR <| eA aV.p2 us70 uo70 il70 q <| have aW := aV.p1; zl (cs' := [iV aE, ap, iV aF]) aW q il70 q (T q (T (aW.ctx.sliceOne hS3) (T q q))) q q q fun dg aX => B <| W fun a ha => have cp := R aX.p0; retc q ha q (run_loadVar_bx (cs := [iV aE, ap, iV aF]) us70 uo70 il70 cp) ⟨ap, q, aX.q0.q1.p1⟩
theorem w_spec_l20Items {w G bp0 A0 B0 B1 p1 r} (h : spec_l20ItemsS B0 B1 p1 = some r) (C0 : Has G (.int .u8) A0 B0) (H : Ctx w ([.bx bp0 118 [A0, iV B1]] ++ G)) : Calls Tryz.prog 76 #[pB bp0, iV p1] w fun e w' => ∃ (v1 : Value), e = .returned (v1) ∧ Holds (([.bx bp0 118 [A0, iV B1]] : List Res).flatMap Res.own) w w' [.sl 70 ty12 v1 r.2, .bx bp0 118 [A0, iV r.1]] G := by
 refine F1 36 H Tryz.func76 q fun H => ?_
 refine rR <| qa q <| B <| C <| Z <| zs (t := ty12) (args := []) (xs := ([] : LI)) H (BltL.nil) u23 j70 q q q q q q fun v1 w2 H3 => qa q <| B <| C <| rR <| qm q <| have H7 := H3.p1; O h fun x5 ap h => U0 q c29 (w_spec_l20Rd__pick ap (C0.c) H7.ctx) fun w8 H9 => have aq := H7.cN1 [_] H9; qa q <| B <| g <| O h fun ar au h => ?_
 refine fun a2 aw => zp (I := fun (aj, ak, al) a w2 => ∃ ab, Fr a 36 [(0, pB bp0), (1, iV p1), (5, ab), (6, iV ak)] ∧ Holds (([.bx bp0 118 [A0, iV B1]] : List Res).flatMap Res.own) w w2 [.bx bp0 118 [A0, iV al], .sl 70 ty12 ab aj] G) (O := fun (q0, q1) e a w2 => e = .exit 0 ∧ ∃ am, Fr a 36 [(0, pB bp0), (1, iV p1), (5, am)] ∧ Holds (([.bx bp0 118 [A0, iV B1]] : List Res).flatMap Res.own) w w2 [.bx bp0 118 [A0, iV q1], .sl 70 ty12 am q0] G) au ?_ ?_ ?_
 ·exact ⟨v1, aw.s, aq.p1.p1⟩
 ·rintro ⟨aj, ak, al⟩ _ a a3 aa ⟨ab, ha, ad⟩
  refine S1 ha <| C <| rR <| qm q <| qi (qt_gtr q q) q <| B ?_
  refine Yh q aa (fun aa => ?_) (fun aa => ?_)
  ·refine y <| C <| g <| Z <| qm q <| qm q <| qm q <| qz ad.ctx hS1 u23 q <| O aa fun af ax aa => U1 q c114 (w_spec_l20Item ax (C0.c) ad.ctx) fun a4 a5 ay => have az := ad.cN2 [_] ay; zs (t := ty12) (args := [.tmp 18]) (xs := ([(af.2.1, af.2.2.1, af.2.2.2)] : LI)) az.freeze (BltL.cons (Blt.pair (Blt.int) (Blt.pair (Blt.slice hO0) (Blt.int))) q (BltL.nil)) u23 j70 q q q q q q fun a6 a7 aB => O aa fun a8 aD aa => zw aB.p3 hS1 aD u23 j70 q q q q q q fun aE a9 aF => qa q <| WL_nil fun a ha => zi <| X <| S1 ha <| Z <| qm q <| qi (qt_sub q q) q <| qa q <| WL_nil fun a ha => ?_
   cases aa
   exact ⟨q, aE, ha.s, aF.q1.q1.p1⟩
  cases aa
  exact WP_exit fun a ha => zo (⟨exit_ne, q, ab, ha.s, ad.p1.p1⟩)
 obtain ⟨ba, bb⟩ := ar
 rintro _ a bc ⟨rfl, aI, ha, ao⟩
 refine zn <| X <| S1 ha <| C <| rR <| qm q <| qm q <| O h fun bd aJ h => U0 q c31 (w_spec_l20Rd__odd aJ (C0.c) ao.ctx) fun be aK => have ag := ao.cN1 [_] aK; B ?_
 refine Yh q h (fun h => ?_) (fun h => ?_)
 ·refine C <| rR <| qm q <| O h fun bf aL h => U0 q c29 (w_spec_l20Rd__pick aL (C0.c) ag.ctx) fun bg aM => have ae := ag.cN1 [_] aM; qi (qt_eql q q) q <| B ?_
  refine Yh q h (fun h => ?_) (fun h => ?_)
  ·refine rR <| O h fun bh aN h => WL_makeH ae aN u23 j70 q (fun _ => ⟨_, _, [], [], q, q, ⟨q, q⟩, ⟨_, _, [], [], q, q, ⟨none, 0, q, Nat.le_refl _, .inl ⟨q, q⟩⟩, ⟨q, q⟩⟩⟩) q q q q q fun aO bi aP => qa q <| B <| W fun a ha => ?_
   cases h
   exact m (m (ret1 q ha q ⟨aO, q, aP.q2.p1.p1⟩))
  refine y <| rR <| qm q <| qm q <| qm q <| qz ae.ctx hS1 u23 q <| O h fun ah aR h => U1 q c114 (w_spec_l20Item aR (C0.c) ae.ctx) fun bj bk aS => have aT := ae.cN2 [_] aS; zs (t := ty12) (args := [.tmp 32]) (xs := ([(ah.2.1, ah.2.2.1, ah.2.2.2)] : LI)) aT.freeze (BltL.cons (Blt.pair (Blt.int) (Blt.pair (Blt.slice hO0) (Blt.int))) q (BltL.nil)) u23 j70 q q q q q q fun bl bm aV => O h fun bn aX h => zw aV.p3 hS1 aX u23 j70 q q q q q q fun aY bo aZ => qa q <| B <| W fun a ha => ?_
  cases h
  exact m (ret1 q ha q ⟨aY, q, aZ.q1.q1.p1.p1⟩)
 cases h
 exact y <| rR <| qm q <| qa q <| B <| W fun a ha => ret1 q ha q ⟨aI, q, ag.p1⟩
theorem w_spec_l20Prices {w G bp0 A0 B0 B1 vp1 p1 p2 r} (h : spec_l20PricesS B0 B1 p1 p2 = some r) (C0 : Has G (.int .u8) A0 B0) (hp1 : Has G ty12 vp1 p1) (H : Ctx w ([.bx bp0 118 [A0, iV B1]] ++ G)) : Calls Tryz.prog 77 #[pB bp0, vp1, iV p2] w fun e w' => ∃ (v1 : Value), e = .returned (v1) ∧ Holds (([.bx bp0 118 [A0, iV B1]] : List Res).flatMap Res.own) w w' [.sl 3 tI v1 r.2, .bx bp0 118 [A0, iV r.1]] G := by
 refine F1 44 H Tryz.func77 q fun H => ?_
 refine rR <| qa q <| B <| C <| Z <| zs (t := tI) (args := []) (xs := ([] : List Int)) H (BltL.nil) u24 j3 q q q q q q fun v1 w2 H3 => qa q <| B <| C <| rR <| qa q <| B <| g <| O h fun o8 au h => ?_
 refine fun a9 aw => zp (I := fun (s5, s6, s7) a w2 => ∃ af, Fr a 44 [(0, pB bp0), (1, vp1), (2, iV p2), (7, af), (8, iV s6)] ∧ Holds (([.bx bp0 118 [A0, iV B1]] : List Res).flatMap Res.own) w w2 [.bx bp0 118 [A0, iV s7], .sl 3 tI af s5] G) (O := fun (q0, q1) e a w2 => e = .exit 0 ∧ ∃ ak, Fr a 44 [(0, pB bp0), (2, iV p2), (7, ak)] ∧ Holds (([.bx bp0 118 [A0, iV B1]] : List Res).flatMap Res.own) w w2 [.bx bp0 118 [A0, iV q1], .sl 3 tI ak q0] G) au ?_ ?_ ?_
 ·exact ⟨v1, aw.s, H3.p1⟩
 ·rintro ⟨s5, s6, s7⟩ _ a ba ab ⟨af, ha, ag⟩
  refine S1 ha <| C <| rR <| qm q <| qm q <| qz ag.ctx (hp1.c.c) u23 q <| qi (qt_lss q q) q <| B ?_
  refine Yh q ab (fun ab => ?_) (fun ab => ?_)
  ·refine y <| C <| g <| Z <| qm q <| qm q <| O ab fun ax ay ab => U0 q c29 (w_spec_l20Rd__pick ay (C0.c) ag.ctx) fun bb az => have aA := ag.cN1 [_] az; zs (t := tI) (args := [.tmp 18]) (xs := ([ax.2] : List Int)) aA (BltL.cons (Blt.int) q (BltL.nil)) u24 j3 q q q q q q fun bc bd aB => O ab fun be aD ab => zw aB.p2 hS1 aD u24 j3 q q q q q q fun aE bf aF => qa q <| WL_nil fun a ha => zi <| X <| S1 ha <| Z <| qm q <| qi (qt_add q q) q <| qa q <| WL_nil fun a ha => ?_
   cases ab
   exact ⟨q, aE, ha.s, aF.q1.p1⟩
  cases ab
  exact WP_exit fun a ha => zo (⟨exit_ne, q, af, ha.s, ag.p1.p1⟩)
 obtain ⟨al, bg⟩ := o8
 rintro _ a bh ⟨rfl, ah, ha, am⟩
 refine zn <| X <| S1 ha <| C <| rR <| qm q <| qm q <| O h fun bi aI h => U0 q c31 (w_spec_l20Rd__odd aI (C0.c) am.ctx) fun bj aJ => have ae := am.cN1 [_] aJ; B ?_
 refine Yh q h (fun h => ?_) (fun h => ?_)
 ·refine C <| rR <| qm q <| qz ae.ctx hS1 u24 q <| qi (qt_gtr q q) q <| qm q <| O h fun aK ad h => ?_
  obtain ⟨aL, aM⟩ := aK
  refine WL_cutM 4 (fun a w2 => (Fr a 44 [(0, pB bp0), (7, ah), (31, .bool aM)] ∧ Holds (([.bx bp0 118 [A0, iV B1]] : List Res).flatMap Res.own) w w2 [.bx bp0 118 [A0, iV aL], .sl 3 tI ah al] G)) ?_ ?_
  ·rcases btf (decide ((List.length al : Int) > 0)) with aa | aa
   ·refine have ad := if_t aa ad; jm aa q <| O ad fun bk aN ad => V0 (J q aa) q c29 (w_spec_l20Rd__pick aN (C0.c) ae.ctx) q fun bl aO => have aP := ae.cN1 [_] aO; ji (qt_eql q q) aa q <| qi (ze q aa q) q <| WL_nil fun a ha => ?_
    obtain ⟨rfl, rfl⟩ := L ad |> Prod.mk.inj
    exact X ⟨ha.s, aP.p1.p1⟩
   refine have ad := if_f aa ad; qS q aa q q <| qS q aa q q <| qS q aa q q <| qi (zf q aa q) q <| WL_nil fun a ha => ?_
   obtain ⟨rfl, rfl⟩ := L ad |> Prod.mk.inj
   exact X ⟨ha.s, ae.p1.p1⟩
  intro a bm aS
  obtain ⟨ha, ao⟩ := aS
  refine SL_app ?_ ha
  clear ha
  refine B ?_
  refine Yh q h (fun h => ?_) (fun h => ?_)
  ·refine rR <| qm q <| zs (t := tI) (args := [.const (iV (-1)), .const (iV 21)]) (xs := ([(-1), 21] : List Int)) ao (BltL.cons (Blt.int) q (BltL.cons (Blt.int) q (BltL.nil))) u24 j3 q q q q q q fun bn bo aT => qm q <| have ap := aT.p1; O h fun bp aU h => U0 q c29 (w_spec_l20Rd__pick aU (C0.c.c) ap.ctx) fun bq aV => have aj := ap.cN1 [_] aV; O h fun aW aq h => qe aj hS1 aq u24 i3 q fun _ _ aX => eI u3 aX q <| O h fun bu ar h => qb aj.ctx hS2 ar u24 i3 q fun bv bw bz aY => WL_storeH (fo := 0) (cs' := [iV aW]) aj.p2 ar aY (Upd.whole (Blt.int)) q il3 q q q q fun bA a0 => rN <| qm q <| qa q <| B <| W fun a ha => ?_
   cases h
   exact m (m (ret1 q ha q ⟨ah, q, a0.q2.p1.p1⟩))
  refine y <| rR <| qm q <| zs (t := tI) (args := [.const (iV 1)]) (xs := ([1] : List Int)) ao (BltL.cons (Blt.int) q (BltL.nil)) u24 j3 q q q q q q fun bB bC a2 => O h fun bD a4 h => zw a2.p2 hS1 a4 u24 j3 q q q q q q fun a5 bE a6 => qa q <| B <| W fun a ha => ?_
  cases h
  exact m (ret1 q ha q ⟨a5, q, a6.q1.p1.p1⟩)
 cases h
 exact y <| rR <| qm q <| qa q <| B <| W fun a ha => ret1 q ha q ⟨ah, q, ae.p1⟩
theorem w_spec_l20Amounts {w G bp0 A0 B0 B1 vp1 p1 p2 r} (h : spec_l20AmountsS B0 B1 p1 p2 = some r) (C0 : Has G (.int .u8) A0 B0) (hp1 : Has G ty12 vp1 p1) (H : Ctx w ([.bx bp0 118 [A0, iV B1]] ++ G)) : Calls Tryz.prog 78 #[pB bp0, vp1, iV p2] w fun e w' => ∃ (v1 : Value), e = .returned (v1) ∧ Holds (([.bx bp0 118 [A0, iV B1]] : List Res).flatMap Res.own) w w' [.sl 3 tI v1 r.2, .bx bp0 118 [A0, iV r.1]] G := by
 refine F1 47 H Tryz.func78 q fun H => ?_
 refine rR <| qa q <| B <| C <| Z <| zs (t := tI) (args := []) (xs := ([] : List Int)) H (BltL.nil) u24 j3 q q q q q q fun v1 w2 H3 => qa q <| B <| C <| rR <| qa q <| B <| g <| O h fun o8 av h => ?_
 refine fun bd ax => zp (I := fun (s5, s6, s7) a w2 => ∃ af, Fr a 47 [(0, pB bp0), (1, vp1), (2, iV p2), (7, af), (8, iV s6)] ∧ Holds (([.bx bp0 118 [A0, iV B1]] : List Res).flatMap Res.own) w w2 [.bx bp0 118 [A0, iV s7], .sl 3 tI af s5] G) (O := fun (q0, q1) e a w2 => e = .exit 0 ∧ ∃ ak, Fr a 47 [(0, pB bp0), (2, iV p2), (7, ak)] ∧ Holds (([.bx bp0 118 [A0, iV B1]] : List Res).flatMap Res.own) w w2 [.bx bp0 118 [A0, iV q1], .sl 3 tI ak q0] G) av ?_ ?_ ?_
 ·exact ⟨v1, ax.s, H3.p1⟩
 ·rintro ⟨s5, s6, s7⟩ _ a be aa ⟨af, ha, ag⟩
  refine S1 ha <| C <| rR <| qm q <| qm q <| qz ag.ctx (hp1.c.c) u23 q <| qi (qt_lss q q) q <| B ?_
  refine Yh q aa (fun aa => ?_) (fun aa => ?_)
  ·refine y <| C <| g <| Z <| qm q <| qm q <| O aa fun ay az aa => U0 q c29 (w_spec_l20Rd__pick az (C0.c) ag.ctx) fun bf aA => have al := ag.cN1 [_] aA; qm q <| O aa fun aB aC aa => U0 q c29 (w_spec_l20Rd__pick aC (C0.c) al.ctx) fun bg aD => have aE := al.cN1 [_] aD; qi (qt_mul q q) q <| zs (t := tI) (args := [.tmp 21]) (xs := ([IntKind.wrap .i64 (ay.2 * aB.2)] : List Int)) aE (BltL.cons (Blt.int) q (BltL.nil)) u24 j3 q q q q q q fun bh bi aF => O aa fun bj aH aa => zw aF.p2 hS1 aH u24 j3 q q q q q q fun aI bk aJ => qa q <| WL_nil fun a ha => zi <| X <| S1 ha <| Z <| qm q <| qi (qt_add q q) q <| qa q <| WL_nil fun a ha => ?_
   cases aa
   exact ⟨q, aI, ha.s, aJ.q1.p1⟩
  cases aa
  exact WP_exit fun a ha => zo (⟨exit_ne, q, af, ha.s, ag.p1.p1⟩)
 obtain ⟨am, bl⟩ := o8
 rintro _ a bm ⟨rfl, ah, ha, ao⟩
 refine zn <| X <| S1 ha <| C <| rR <| qm q <| qm q <| O h fun bn aM h => U0 q c31 (w_spec_l20Rd__odd aM (C0.c) ao.ctx) fun bo aN => have ae := ao.cN1 [_] aN; B ?_
 refine Yh q h (fun h => ?_) (fun h => ?_)
 ·refine C <| rR <| qm q <| qz ae.ctx hS1 u24 q <| qi (qt_gtr q q) q <| qm q <| O h fun aO ad h => ?_
  obtain ⟨aP, aQ⟩ := aO
  refine WL_cutM 4 (fun a w2 => (Fr a 47 [(0, pB bp0), (7, ah), (34, .bool aQ)] ∧ Holds (([.bx bp0 118 [A0, iV B1]] : List Res).flatMap Res.own) w w2 [.bx bp0 118 [A0, iV aP], .sl 3 tI ah am] G)) ?_ ?_
  ·rcases btf (decide ((List.length am : Int) > 0)) with ab | ab
   ·refine have ad := if_t ab ad; jm ab q <| O ad fun bp aR ad => V0 (J q ab) q c29 (w_spec_l20Rd__pick aR (C0.c) ae.ctx) q fun bq aS => have aT := ae.cN1 [_] aS; ji (qt_eql q q) ab q <| qi (ze q ab q) q <| WL_nil fun a ha => ?_
    obtain ⟨rfl, rfl⟩ := L ad |> Prod.mk.inj
    exact X ⟨ha.s, aT.p1.p1⟩
   refine have ad := if_f ab ad; qS q ab q q <| qS q ab q q <| qS q ab q q <| qi (zf q ab q) q <| WL_nil fun a ha => ?_
   obtain ⟨rfl, rfl⟩ := L ad |> Prod.mk.inj
   exact X ⟨ha.s, ae.p1.p1⟩
  intro a br aW
  obtain ⟨ha, ap⟩ := aW
  refine SL_app ?_ ha
  clear ha
  refine B ?_
  refine Yh q h (fun h => ?_) (fun h => ?_)
  ·refine rR <| qm q <| zs (t := tI) (args := [.const (iV (-1)), .const (iV 51)]) (xs := ([(-1), 51] : List Int)) ap (BltL.cons (Blt.int) q (BltL.cons (Blt.int) q (BltL.nil))) u24 j3 q q q q q q fun bs bt aX => qm q <| have aq := aX.p1; O h fun bu aY h => U0 q c29 (w_spec_l20Rd__pick aY (C0.c.c) aq.ctx) fun bv aZ => have aj := aq.cN1 [_] aZ; O h fun a0 ar h => qe aj hS1 ar u24 i3 q fun _ _ a1 => eI u3 a1 q <| O h fun bB au h => qb aj.ctx hS2 au u24 i3 q fun bC bD bE a2 => WL_storeH (fo := 0) (cs' := [iV a0]) aj.p2 au a2 (Upd.whole (Blt.int)) q il3 q q q q fun bF a4 => rN <| qm q <| qa q <| B <| W fun a ha => ?_
   cases h
   exact m (m (ret1 q ha q ⟨ah, q, a4.q2.p1.p1⟩))
  refine y <| rR <| qm q <| zs (t := tI) (args := [.const (iV 1)]) (xs := ([1] : List Int)) ap (BltL.cons (Blt.int) q (BltL.nil)) u24 j3 q q q q q q fun bG bH a6 => O h fun bI a8 h => zw a6.p2 hS1 a8 u24 j3 q q q q q q fun a9 bJ ba => qa q <| B <| W fun a ha => ?_
  cases h
  exact m (ret1 q ha q ⟨a9, q, ba.q1.p1.p1⟩)
 cases h
 exact y <| rR <| qm q <| qa q <| B <| W fun a ha => ret1 q ha q ⟨ah, q, ae.p1⟩
theorem w_spec_l20HouseDeed {w G bp0 A0 B0 B1 A1_0 p1_0 A1_1 p1_1 A1_2 p1_2 p1_3 A1_4 p1_4 r} (h : spec_l20HouseDeedS B0 B1 p1_0 p1_1 p1_2 p1_3 p1_4 = some r) (C0 : Has G (.int .u8) A0 B0) (hp1_0 : Has G ty12 A1_0 p1_0) (hp1_1 : Has G tI A1_1 p1_1) (hp1_2 : Has G tI A1_2 p1_2) (hp1_4 : Has G ty14 A1_4 p1_4) (H : Ctx w ([.bx bp0 118 [A0, iV B1]] ++ G)) : Calls Tryz.prog 79 #[pB bp0, .agg #[A1_0, A1_1, A1_2, iV p1_3, A1_4]] w fun e w' => e = .returned (.agg #[iV r.2.1, iV r.2.2.1, iV r.2.2.2.1, iV r.2.2.2.2]) ∧ Holds (([.bx bp0 118 [A0, iV B1]] : List Res).flatMap Res.own) w w' [.bx bp0 118 [A0, iV r.1]] G := by
 refine F1 87 H Tryz.func79 q fun H => ?_
 refine C <| Z <| WL_box (cs := [A1_0, A1_1, A1_2, iV p1_3, A1_4]) H q q q q fun b1 w2 H3 => zq (cs := [iV 0, iV 0, iV 0, iV 0]) H3 z52 q q q fun b5 w6 H7 => B <| C <| O h fun bU av h => O h fun ad ag h => O h fun ae ao h => O h fun aj ap h => ?_
 refine WP_join (M := fun a w2 => ∃ af, Fr a 87 [(0, pB bp0), (3, pB b1), (4, pB b5), (5, pB af)] ∧ Holds (([.bx bp0 118 [A0, iV B1]] : List Res).flatMap Res.own) w w2 [.bx bp0 118 [A0, iV aj.1], .bx b1 27 [A1_0, A1_1, A1_2, iV p1_3, A1_4], .bx b5 52 [iV 0, iV 0, iV 0, iV 0], .bx af 52 [iV (IntKind.wrap .i64 (ad + (IntKind.wrap .i64 ((IntKind.wrap .i64 (Int.tdiv ae.2 59)) * 6)))), iV aj.2, iV 0, iV 0]] G) ?_ ?_
 ·refine WP_ordersT (fun w1 w2 => Chg (([.bx bp0 118 [A0, iV B1]] : List Res).flatMap Res.own) w1 w2) 18 (by kernel_rfl) fun aw aP => have aQ := H7.grow aP; have aq := aQ.p2; ?_
  have aA : Ctx aw ([.bx bp0 118 [A0, iV B1]] ++ ([.bx b5 52 [iV 0, iV 0, iV 0, iV 0], .bx b1 27 [A1_0, A1_1, A1_2, iV p1_3, A1_4]] ++ G)) := aq.ctx
  have aR : Holds _ aw aw [.bx bp0 118 [A0, iV B1]] ([.bx b5 52 [iV 0, iV 0, iV 0, iV 0], .bx b1 27 [A1_0, A1_1, A1_2, iV p1_3, A1_4]] ++ G) := zb (Rs := [.bx bp0 118 [A0, iV B1]]) aA
  refine have Hc := aR; XM0 [([], [], true), ([], [], true), ([1], [1], true), ([0, 2], [0, 2], true), ([3], [3], true), ([], [], true), ([5, 2], [5], true), ([6], [6], true), ([7], [7], true), ([4, 8], [4, 8], true), ([], [], true), ([], [], true), ([11], [11], true), ([12], [12], true), ([13], [13], true), ([10, 14, 6], [10, 14], true), ([9, 15], [9, 15], true), ([], [], true), ([17, 16, 15, 0, 1, 2, 3, 4, 5, 6, 7, 8, 9, 10, 11, 12, 13, 14, 15, 16, 17], [16, 17], false)] (by kernel_rfl) <| MQ 1 q q q Hc.chg q (fun _ => qt_move q) q q <| MQ 5 q q q Hc.chg q (fun _ => qt_move q) q q <| MQ 10 q q q Hc.chg q (fun _ => qt_move q) q q <| MQ 11 q q q Hc.chg q (fun _ => qt_fieldAddr uf27 fi27_0 nz23 q) q q <| have aS := HasB.bx (HasB.c (HasB.c (HasB.hd))) Hc.ctx; MT 12 q q q Hc.chg q (qs_cell u23 q q (aS.cell (i := 0) q) Hc.chg (Ctx.outB aA (HasB.c (HasB.hd)))) q q <| MT 13 q q q Hc.chg q (qs_len (t := ty12) Hc.ctx (hp1_0.c.c.c) u23 q) q q <| MQ 14 q q q Hc.chg q (fun _ => qt_max q q) q q ?_
  repeat' first
   | refine XG ?_; (first
    | refine MDo 0 q ?_; refine zs (t := tI) (args := [.const (iV 0), .const (iV 0), .const (iV 1), .const (iV 1), .const (iV 2), .const (iV 3), .const (iV 3), .const (iV 3), .const (iV 4), .const (iV 4), .const (iV 4), .const (iV 5)]) (xs := ([0, 0, 1, 1, 2, 3, 3, 3, 4, 4, 4, 5] : List Int)) Hc (BltL.cons (Blt.int) q (BltL.cons (Blt.int) q (BltL.cons (Blt.int) q (BltL.cons (Blt.int) q (BltL.cons (Blt.int) q (BltL.cons (Blt.int) q (BltL.cons (Blt.int) q (BltL.cons (Blt.int) q (BltL.cons (Blt.int) q (BltL.cons (Blt.int) q (BltL.cons (Blt.int) q (BltL.cons (Blt.int) q (BltL.nil))))))))))))) u24 j3 q q q q q q (fun bV _ Hc => ?_); refine MN Hc.chg ?_
    | refine XGi 2 ?_; (first
     | refine MDo 2 q ?_; have Hc := Hc.p1; refine U0 q c29 (w_spec_l20Rd__pick av (C0.c.c.c) Hc.ctx) fun _ HK => ?_; have Hc := Hc.cN1 [_] HK; refine MN Hc.chg ?_
     | refine MDo 2 q ?_; have Hc := Hc.p2; refine U0 q c29 (w_spec_l20Rd__pick av (C0.c.c.c.c) Hc.ctx) fun _ HK => ?_; have Hc := Hc.cN1 [_] HK; refine MN Hc.chg ?_
     | refine MDo 2 q <| U0 q c29 (w_spec_l20Rd__pick av (C0.c.c) Hc.ctx) fun _ HK => ?_; have Hc := Hc.cN1 [_] HK; refine MN Hc.chg ?_)
    | refine XGi 4 ?_; (first
     | refine MDo 4 q <| eI u3 (Hc.el hS1 ag ah) q <| MN Hc.chg ?_
     | refine MDo 4 q <| eI u3 (Hc.el hS2 ag ah) q <| MN Hc.chg ?_
     | refine MDo 4 q <| eI u3 (Hc.el hS0 ag ah) q <| MN Hc.chg ?_)
    | refine XGi 6 ?_; (first
     | refine MDo 6 q <| U0 q c29 (w_spec_l20Rd__pick ao (C0.c.c.c) Hc.ctx) fun _ HK => ?_; have Hc := Hc.cN1 [_] HK; refine MN Hc.chg <| MQ 7 q q q Hc.chg q (fun _ => qt_quo q q (by decide)) q q <| MQ 8 q q q Hc.chg q (fun _ => qt_mul q q) q q ?_
     | refine MDo 6 q ?_; have Hc := Hc.p1; refine U0 q c29 (w_spec_l20Rd__pick ao (C0.c.c.c.c) Hc.ctx) fun _ HK => ?_; have Hc := Hc.cN1 [_] HK; refine MN Hc.chg <| MQ 7 q q q Hc.chg q (fun _ => qt_quo q q (by decide)) q q <| MQ 8 q q q Hc.chg q (fun _ => qt_mul q q) q q ?_
     | refine MDo 6 q <| U0 q c29 (w_spec_l20Rd__pick ao (C0.c.c.c.c) Hc.ctx) fun _ HK => ?_; have Hc := Hc.cN1 [_] HK; refine MN Hc.chg <| MQ 7 q q q Hc.chg q (fun _ => qt_quo q q (by decide)) q q <| MQ 8 q q q Hc.chg q (fun _ => qt_mul q q) q q ?_
     | refine MDo 6 q ?_; have Hc := Hc.p1; refine U0 q c29 (w_spec_l20Rd__pick ao (C0.c.c.c) Hc.ctx) fun _ HK => ?_; have Hc := Hc.cN1 [_] HK; refine MN Hc.chg <| MQ 7 q q q Hc.chg q (fun _ => qt_quo q q (by decide)) q q <| MQ 8 q q q Hc.chg q (fun _ => qt_mul q q) q q ?_
     | refine MDo 6 q ?_; have Hc := Hc.p2; refine U0 q c29 (w_spec_l20Rd__pick ao (C0.c.c.c.c) Hc.ctx) fun _ HK => ?_; have Hc := Hc.cN1 [_] HK; refine MN Hc.chg <| MQ 7 q q q Hc.chg q (fun _ => qt_quo q q (by decide)) q q <| MQ 8 q q q Hc.chg q (fun _ => qt_mul q q) q q ?_
     | refine MDo 6 q <| U0 q c29 (w_spec_l20Rd__pick ao (C0.c.c) Hc.ctx) fun _ HK => ?_; have Hc := Hc.cN1 [_] HK; refine MN Hc.chg <| MQ 7 q q q Hc.chg q (fun _ => qt_quo q q (by decide)) q q <| MQ 8 q q q Hc.chg q (fun _ => qt_mul q q) q q ?_)
    | refine XGi 15 ?_; (first
     | refine MDo 15 q <| U0 q c29 (w_spec_l20Rd__pick ap (C0.c.c.c) Hc.ctx) fun _ HK => ?_; have Hc := Hc.cN1 [_] HK; refine MN Hc.chg ?_
     | refine MDo 15 q ?_; have Hc := Hc.p1; refine U0 q c29 (w_spec_l20Rd__pick ap (C0.c.c.c.c) Hc.ctx) fun _ HK => ?_; have Hc := Hc.cN1 [_] HK; refine MN Hc.chg ?_
     | refine MDo 15 q <| U0 q c29 (w_spec_l20Rd__pick ap (C0.c.c.c.c) Hc.ctx) fun _ HK => ?_; have Hc := Hc.cN1 [_] HK; refine MN Hc.chg ?_
     | refine MDo 15 q ?_; have Hc := Hc.p1; refine U0 q c29 (w_spec_l20Rd__pick ap (C0.c.c.c) Hc.ctx) fun _ HK => ?_; have Hc := Hc.cN1 [_] HK; refine MN Hc.chg ?_
     | refine MDo 15 q ?_; have Hc := Hc.p2; refine U0 q c29 (w_spec_l20Rd__pick ap (C0.c.c.c.c) Hc.ctx) fun _ HK => ?_; have Hc := Hc.cN1 [_] HK; refine MN Hc.chg ?_
     | refine MDo 15 q <| U0 q c29 (w_spec_l20Rd__pick ap (C0.c.c) Hc.ctx) fun _ HK => ?_; have Hc := Hc.cN1 [_] HK; refine MN Hc.chg ?_)
    | refine MDo 17 q ?_; refine zq (cs := [iV 0, iV 0, iV 0, iV 0]) Hc z52 q q q (fun aB _ Hc => ?_); refine MN Hc.chg ?_
    | refine XGi 18 ?_; (first
     | have Hc := aq.cN3 [_] Hc; refine MDo 18 q ?_; refine zl (cs' := [iV (IntKind.wrap .i64 (ad + (IntKind.wrap .i64 ((IntKind.wrap .i64 (Int.tdiv ae.2 59)) * 6)))), iV aj.2, iV 0, iV 0]) Hc q il52 q q q q q (fun _ Hc => ?_); refine ME q ?_
     | have Hc := aq.cN3 [_] Hc; refine MDo 18 q ?_; have Hc := Hc.p1; refine zl (cs' := [iV (IntKind.wrap .i64 (ad + (IntKind.wrap .i64 ((IntKind.wrap .i64 (Int.tdiv ae.2 59)) * 6)))), iV aj.2, iV 0, iV 0]) Hc q il52 q q q q q (fun _ Hc => ?_); refine ME q ?_
     | have Hc := aq.cN3 [_] Hc; refine MDo 18 q ?_; have Hc := Hc.p2; refine zl (cs' := [iV (IntKind.wrap .i64 (ad + (IntKind.wrap .i64 ((IntKind.wrap .i64 (Int.tdiv ae.2 59)) * 6)))), iV aj.2, iV 0, iV 0]) Hc q il52 q q q q q (fun _ Hc => ?_); refine ME q ?_))
   | refine MK 3 q ?_; obtain ⟨aC, aD, aE, ah⟩ := Ctx.isAt Hc.ctx hS1 ag; refine MT 3 q q q Hc.chg q (qs_index ag ah u24 i3 q q) q q ?_
   | refine MK 3 q ?_; obtain ⟨aC, aD, aE, ah⟩ := Ctx.isAt Hc.ctx hS2 ag; refine MT 3 q q q Hc.chg q (qs_index ag ah u24 i3 q q) q q ?_
   | refine MK 3 q ?_; obtain ⟨aC, aD, aE, ah⟩ := Ctx.isAt Hc.ctx hS0 ag; refine MT 3 q q q Hc.chg q (qs_index ag ah u24 i3 q q) q q ?_
   | refine MK 9 q <| MQ 9 q q q Hc.chg q (fun _ => qt_add q q) q q ?_
   | refine MK 16 q <| MQ 16 q q q Hc.chg q (fun _ => qt_build (args := [(0, .tmp 15), (1, .tmp 21)]) (css := [#[iV (IntKind.wrap .i64 (ad + (IntKind.wrap .i64 ((IntKind.wrap .i64 (Int.tdiv ae.2 59)) * 6))))], #[iV aj.2]]) (cells := #[iV (IntKind.wrap .i64 (ad + (IntKind.wrap .i64 ((IntKind.wrap .i64 (Int.tdiv ae.2 59)) * 6)))), iV aj.2, iV 0, iV 0]) q ⟨q, q, trivial⟩ (by kernel_rfl)) q q ?_
   | refine MW q ?_ ?_
   | refine Ma q ?_ ?_
   | exact Me q
   | refine MZ q (fun a ha => ?_); have Hc := ((((Hc.q2).p2).p3).p3); exact ⟨aB, ha.s, Hc⟩
   | refine MZ q (fun a ha => ?_); have Hc := ((((Hc.q1).p2).p3).p3); exact ⟨aB, ha.s, Hc⟩
 rintro a bW ⟨af, ha, ab⟩
 refine S1 ha <| C <| rR <| qf uf52 fi52_0 nz3 q <| ql u3 ab.p3 q <| B <| O h fun aT aa h => ?_
 obtain ⟨aU, ak, ar, al⟩ := aT
 refine WP_join (M := fun a w2 => (Fr a 87 [(0, pB bp0), (4, pB b5), (5, pB af)] ∧ Holds (([.bx bp0 118 [A0, iV B1]] : List Res).flatMap Res.own) w w2 [.bx bp0 118 [A0, iV aU], .bx b5 52 [iV 0, iV 0, iV 0, iV 0], .bx af 52 [iV (IntKind.wrap .i64 (ad + (IntKind.wrap .i64 ((IntKind.wrap .i64 (Int.tdiv ae.2 59)) * 6)))), iV ak, iV ar, iV al]] G)) ?_ ?_
 ·refine g <| rR <| qi (qt_eql q q) q <| qa q <| B ?_
  refine Yh q aa (fun aa => ?_) (fun aa => ?_)
  ·refine Z <| qm q <| O aa fun bX aV aa => U0 q c29 (w_spec_l20Rd__pick aV (C0.c.c.c) ab.ctx) fun bY aW => have aX := ab.cN1 [_] aW; qi (qt_add q q) q <| qf uf52 fi52_2 nz3 q <| WL_store_bx aX.p3 q il3 q q q q q fun bZ aZ => WL_nil fun a ha => ?_
   cases aa
   exact zi (X (⟨ha.s, aZ.q2.p2.p2⟩))
  refine rR <| qi (qt_eql q q) q <| qa q <| B ?_
  refine Yh q aa (fun aa => ?_) (fun aa => ?_)
  ·refine Z <| qm q <| O aa fun b0 a1 aa => U0 q c29 (w_spec_l20Rd__pick a1 (C0.c.c.c) ab.ctx) fun b4 a2 => have a3 := ab.cN1 [_] a2; qi (qt_add q q) q <| qf uf52 fi52_2 nz3 q <| WL_store_bx a3.p3 q il3 q q q q q fun b6 a5 => WL_nil fun a ha => ?_
   cases aa
   exact zi (X (⟨ha.s, a5.q2.p2.p2⟩))
  refine rR <| qi (qt_eql q q) q <| qa q <| B ?_
  refine Yh q aa (fun aa => ?_) (fun aa => ?_)
  ·refine Z <| qm q <| O aa fun b7 a7 aa => U0 q c29 (w_spec_l20Rd__pick a7 (C0.c.c.c) ab.ctx) fun b8 a8 => have aF := ab.cN1 [_] a8; qm q <| O aa fun b9 a9 aa => U0 q c29 (w_spec_l20Rd__pick a9 (C0.c.c.c) aF.ctx) fun ca ba => have bb := aF.cN1 [_] ba; qi (qt_quo q q (by decide)) q <| qi (qt_mul q q) q <| qf uf52 fi52_1 nz3 q <| WL_store_bx bb.p3 q il3 q q q q q fun cb bd => WL_nil fun a ha => ?_
   cases aa
   exact zi (X (⟨ha.s, bd.q2.p2.p2⟩))
  refine rR <| qi (qt_eql q q) q <| qa q <| B ?_
  refine Yh q aa (fun aa => ?_) (fun aa => ?_)
  ·refine rR <| qm q <| qf uf27 fi27_4 nz25 q <| ql u25 ab.p1 q <| qz ab.ctx (hp1_4.c.c.c.c) u25 q <| qi (qt_add q q) q <| O aa fun cc bf aa => U0 q c29 (w_spec_l20Rd__pick bf (C0.c.c.c) ab.ctx) fun cd bg => have bh := ab.cN1 [_] bg; qf uf52 fi52_1 nz3 q <| WL_store_bx bh.p3 q il3 q q q q q fun ce ax => rN <| qm q <| qf uf27 fi27_0 nz23 q <| ql u23 ax.p2 q <| qz ax.ctx (hp1_0.c.c.c.c) u23 q <| qi (qt_max q q) q <| have aG := ax.p1; O aa fun cf bj aa => U0 q c29 (w_spec_l20Rd__pick bj (C0.c.c.c) aG.ctx) fun cg bk => have bl := aG.cN1 [_] bk; qf uf52 fi52_2 nz3 q <| WL_store_bx bl.p1 q il3 q q q q q fun ch bn => B <| Z <| qm q <| have aH := bn.p1; ?_
   refine O aa fun ci bo aa => U0 q c29 (w_spec_l20Rd__pick bo (C0.c.c.c) aH.ctx) fun cj bp => have bq := aH.cN1 [_] bp; qf uf52 fi52_3 nz3 q <| WL_store_bx bq.p1 q il3 q q q q q fun ck bs => WL_nil fun a ha => ?_
   cases aa
   exact zi (X (⟨ha.s, bs.q2.p2.p2⟩))
  refine rR <| qi (qt_eql q q) q <| qa q <| B ?_
  refine Yh q aa (fun aa => ?_) (fun aa => ?_)
  ·cases aa
   exact Z <| qf uf52 fi52_1 nz3 q <| WL_store_bx ab.p3 q il3 q q q q q fun cl bv => WL_nil fun a ha => zi (X (⟨ha.s, bv.q2.p2.p2⟩))
  refine rR <| qi (qt_eql q q) q <| qa q <| B ?_
  refine Yh q aa (fun aa => ?_) (fun aa => ?_)
  ·refine Z <| qm q <| qf uf27 fi27_4 nz25 q <| ql u25 ab.p1 q <| qz ab.ctx (hp1_4.c.c.c.c) u25 q <| qi (qt_add q q) q <| O aa fun cm bz aa => U0 q c29 (w_spec_l20Rd__pick bz (C0.c.c.c) ab.ctx) fun cn bA => have bB := ab.cN1 [_] bA; qf uf52 fi52_1 nz3 q <| WL_store_bx bB.p3 q il3 q q q q q fun co bD => WL_nil fun a ha => ?_
   cases aa
   exact zi (X (⟨ha.s, bD.q2.p2.p2⟩))
  cases aa
  exact WP_skip fun a ha => zi (X (⟨ha.s, ab.q1.p2.p2.p2⟩))
 rintro a cp ⟨ha, aI⟩
 refine S1 ha <| C <| rR <| qm q <| O h fun au bG h => U0 q c31 (w_spec_l20Rd__odd bG (C0.c.c) aI.ctx) fun cq bH => have aJ := aI.cN1 [_] bH; B <| O h fun bI am h => ?_
 obtain ⟨bJ, ay⟩ := bI
 refine WP_join (M := fun a w2 => (Fr a 87 [(0, pB bp0), (4, pB b5), (5, pB af)] ∧ Holds (([.bx bp0 118 [A0, iV B1]] : List Res).flatMap Res.own) w w2 [.bx bp0 118 [A0, iV bJ], .bx b5 52 [iV 0, iV 0, iV 0, iV 0], .bx af 52 [iV (IntKind.wrap .i64 (ad + (IntKind.wrap .i64 ((IntKind.wrap .i64 (Int.tdiv ae.2 59)) * 6)))), iV ak, iV ay, iV al]] G)) ?_ ?_
 ·refine Yh q am (fun am => ?_) (fun am => ?_)
  ·refine O am fun aK bK am => ?_
   refine WP_mid (Mid := fun a w2 => (Fr a 87 [(0, pB bp0), (4, pB b5), (5, pB af)] ∧ Holds (([.bx bp0 118 [A0, iV B1]] : List Res).flatMap Res.own) w w2 [.bx bp0 118 [A0, iV aK.1], .bx b5 52 [iV 0, iV 0, iV 0, iV 0], .bx af 52 [iV (IntKind.wrap .i64 (ad + (IntKind.wrap .i64 ((IntKind.wrap .i64 (Int.tdiv ae.2 59)) * 6)))), iV ak, iV (IntKind.wrap .i64 ((IntKind.wrap .i64 (ar + aK.2)) - 5)), iV al]] G)) ?_ ?_
   ·refine WP_ordersT (fun w1 w2 => Chg (([.bx bp0 118 [A0, iV au.1]] : List Res).flatMap Res.own) w1 w2) 6 (by kernel_rfl) fun az bL => have aL := aJ.grow bL; ?_
    have aM : Ctx az ([.bx bp0 118 [A0, iV au.1]] ++ ([.bx b5 52 [iV 0, iV 0, iV 0, iV 0], .bx af 52 [iV (IntKind.wrap .i64 (ad + (IntKind.wrap .i64 ((IntKind.wrap .i64 (Int.tdiv ae.2 59)) * 6)))), iV ak, iV ar, iV al]] ++ G)) := aL.ctx
    have bM : Holds _ az az [.bx bp0 118 [A0, iV au.1]] ([.bx b5 52 [iV 0, iV 0, iV 0, iV 0], .bx af 52 [iV (IntKind.wrap .i64 (ad + (IntKind.wrap .i64 ((IntKind.wrap .i64 (Int.tdiv ae.2 59)) * 6)))), iV ak, iV ar, iV al]] ++ G) := zb (Rs := [.bx bp0 118 [A0, iV au.1]]) aM
    refine have Hc := bM; XQ (i := 0) q (by kernel_rfl) q Hc.chg q (fun _ => qt_fieldAddr uf52 fi52_2 nz3 q) q q <| have bN := HasB.bx (HasB.c (HasB.c (HasB.hd))) Hc.ctx; XT (i := 1) q (by kernel_rfl) q Hc.chg q (qs_cell u3 q q (bN.cell (i := 2) q) Hc.chg (Ctx.outB aM (HasB.c (HasB.hd)))) q q <| XQ (i := 2) q (by kernel_rfl) q Hc.chg q (fun _ => qt_move q) q q ?_
    repeat' first
     | refine XDo 3 q <| U0 q c29 (w_spec_l20Rd__pick bK (C0.c.c) Hc.ctx) fun _ HK => ?_; have Hc := Hc.cN1 [_] HK; refine XN Hc.chg <| XQ (i := 4) q (by kernel_rfl) q Hc.chg q (fun _ => qt_add q q) q q <| XQ (i := 5) q (by kernel_rfl) q Hc.chg q (fun _ => qt_sub q q) q q ?_
     | have Hc := aL.cN1 [_] Hc; refine XDo 6 q <| qf uf52 fi52_2 nz3 q <| XE q ?_
     | refine XDo 7 q ?_; have Hc := Hc.p2; refine WL_store_bx Hc q il3 q q q q q (fun _ Hc => ?_); refine XE q ?_
     | refine XV [3] (by decide +kernel) q (allc ?_ alln)
     | refine XV [6] (by decide +kernel) q (allc ?_ alln)
     | refine XV [7] (by decide +kernel) q (allc ?_ alln)
     | refine XC_done (by decide +kernel) (fun a ha => ?_); have Hc := ((Hc.p2).p2); exact ⟨ha.s, Hc⟩
   rintro a cr ⟨ha, bO⟩
   cases am
   exact X (⟨ha.s, bO.p2.p2.p2⟩)
  refine WP_skip fun a ha => ?_
  obtain ⟨rfl, rfl⟩ := L am |> Prod.mk.inj
  exact X (⟨ha.s, aJ.p2.p2.p2⟩)
 rintro a ct ⟨ha, aN⟩
 cases h
 exact S1 ha <| rR <| eA aN.p2 us52 uo52 il52 q <| zl (cs' := [iV (IntKind.wrap .i64 (ad + (IntKind.wrap .i64 ((IntKind.wrap .i64 (Int.tdiv ae.2 59)) * 6)))), iV ak, iV ay, iV al]) aN.p1 q il52 q q q q q fun cu aO => B <| W fun a ha => have bS := R aO.p0; retc q ha q (run_loadVar_bx (cs := [iV (IntKind.wrap .i64 (ad + (IntKind.wrap .i64 ((IntKind.wrap .i64 (Int.tdiv ae.2 59)) * 6)))), iV ak, iV ay, iV al]) us52 uo52 il52 bS) ⟨q, aO.q0.q1⟩
theorem w_spec_l1In {w G p0 p1 p2 r} (h : spec_l1InS p0 p1 p2 = some r) (H : Ctx w G) : Calls Tryz.prog 39 #[iV p0, iV p1, iV p2] w fun e w' => e = .returned (.bool r) ∧ Holds M0 w w' [] G := by
 refine F0 15 H Tryz.func39 q fun H => ?_
 unfold spec_l1InS at h
 refine rR <| qa q <| rN <| qm q <| qm q <| qi (qt_geq q q) q <| qm q ?_
 refine Ha (res := ((decide (p0 ≥ p1)) && (decide (p0 ≤ p2)))) 3 an (fun aa K2 ab => ?_) ?_
 ·exact jm aa q <| jm aa q <| ji (qt_leq q q) aa q <| ab 3 q q q (ai aa)
 cases h
 exact qa q <| B <| W fun a ha => ret1 q ha q ⟨q, H⟩
theorem w_spec_l1Item {w G B0 A1 B1 B2 p1 r} (h : spec_l1ItemS B0 B1 B2 p1 = some r) (C1 : Has G ty2 A1 B1) (H : Ctx w G) : Calls Tryz.prog 116 #[.agg #[iV B0, A1, iV B2], iV p1] w fun e w' => e = .returned (.bool r) ∧ Holds M0 w w' [] G := by
 refine F0 77 H Tryz.func116 q fun H => ?_
 refine C <| Z <| WL_box (cs := [iV B0, A1, iV B2]) H q q q q fun b1 w2 H3 => qa q <| B <| C <| rR <| qa q <| B <| g <| O h fun o6 az h => ?_
 refine fun a8 aA => zp (I := fun s5 a w2 => (Fr a 77 [(1, iV p1), (2, pB b1), (5, iV s5)] ∧ Holds M0 w w2 [.bx b1 70 [iV B0, A1, iV B2]] G)) (O := fun o e a w2 => match o with | .inl _ => e = .exit 0 ∧ (Fr a 77 [(2, pB b1)] ∧ Holds M0 w w2 [.bx b1 70 [iV B0, A1, iV B2]] G) | .inr q0 => e = .ret ∧ (Fr a 77 [(4, .bool q0)] ∧ Holds M0 w w2 [] G)) az ?_ ?_ ?_
 ·exact ⟨aA.s, H3⟩
 ·rintro s5 _ a aX ab ⟨ha, aa⟩
  refine S1 ha <| C <| rR <| qm q <| qf uf70 fi70_1 nz68 q <| ql u68 aa.p0 q <| qz aa.ctx (C1.c) u68 q <| qi (qt_lss q q) q <| B ?_
  refine Yh q ab (fun ab => ?_) (fun ab => ?_)
  ·refine y <| C <| g <| C <| WP_quiet (by kernel_rfl) (by kernel_rfl) <| qf uf70 fi70_1 nz68 q <| ql u68 aa.p0 q <| qm q <| O ab fun aY aq ab => qe aa (C1.c) aq u68 i79 q fun _ _ aB => qf uf79 fi79_0 nz3 q <| eI u3 aB.f q <| qm q <| qi (qt_sub q q) q <| O ab fun a2 aC ab => qc q c39 aa (fun _ => w_spec_l1In aC) <| qi (qt_not q) q <| qm q <| O ab fun aD ah ab => ?_
   refine Go (res := aD) 8 (if_t · ah) (fun af a3 aE => ?_) ?_
   ·exact have ah := if_f af ah; jf uf70 fi70_1 nz68 af q <| jl u68 aa.p0 af q <| jm af q <| O ah fun a4 ar ah => je aa (C1.c) ar u68 i79 af q fun _ _ aF => jf uf79 fi79_1 nz3 af q <| jI u3 aF.s af q <| O ah fun a9 aG ah => jc af q c39 aa (fun _ => w_spec_l1In aG) <| ji (qt_not q) af q <| aE 8 q q q ah
   refine qm q <| O ab fun aH ak ab => ?_
   refine Go (res := aH) 18 (if_t · ak) (fun am ba aI => ?_) ?_
   ·refine have ak := if_f am ak; jm am q <| ji (qt_gtr q q) am q <| jm am q <| O ak fun aJ aj ak => ?_
    refine Ga (res := aJ) (hw := (J q am)) 14 (if_f · aj) (fun ad bb aK => ?_) ?_
    ·exact have aj := if_t ad aj; jf uf70 fi70_1 nz68 ad q <| jl u68 aa.p0 ad q <| jm ad q <| ji (qt_sub q q) ad q <| O aj fun bc au aj => je aa (C1.c) au u68 i79 ad q fun _ _ aL => jf uf79 fi79_0 nz3 ad q <| jI u3 aL.f ad q <| jf uf70 fi70_1 nz68 ad q <| jl u68 aa.p0 ad q <| jm ad q <| O aj fun bg av aj => je aa (C1.c) av u68 i79 ad q fun _ _ aM => jf uf79 fi79_0 nz3 ad q <| jI u3 aM.f ad q <| ji (qt_geq q q) ad q <| aK 14 q q q aj
    exact aI 4 q q q ak
   refine Qn aa fun a ha bk aw => X <| S1 ha ?_
   refine Yh q ab (fun ab => ?_) (fun ab => ?_)
   ·cases ab
    exact rR <| qa q <| B <| W fun a ha => zj (m (⟨ret_ne, q, ha.s, aw.q0⟩))
   cases ab
   exact WP_skip fun a ha => zi <| X <| S1 ha <| Z <| qm q <| qi (qt_add q q) q <| qa q <| WL_nil fun a ha => ⟨q, ha.s, aw⟩
  cases ab
  exact WP_exit fun a ha => zo (⟨exit_ne, q, ha.s, aa⟩)
 intro e a bl ax
 rcases o6 with o6 | o6
 ·obtain ⟨rfl, ha, ae⟩ := ax
  refine zn <| X <| S1 ha <| C <| zk <| qf uf70 fi70_0 nz3 q <| ql u3 ae.p0 q <| O h fun ay aO h => qc q c39 ae (fun _ => w_spec_l1In aO) <| qm q ?_
  refine Ga (res := (ay && (decide ((List.length B1 : Int) ≤ 3)))) 4 an (fun ao bm aP => ?_) ?_
  ·exact jf uf70 fi70_1 nz68 ao q <| jl u68 ae.p0 ao q <| jz ae.ctx (C1.c) u68 ao q <| ji (qt_leq q q) ao q <| aP 4 q q q (ai ao)
  refine qm q ?_
  refine Ga (res := ((ay && (decide ((List.length B1 : Int) ≤ 3))) && ((decide (B0 > 0)) == (decide ((List.length B1 : Int) > 0))))) 8 an (fun ag bn aQ => ?_) ?_
  ·exact jf uf70 fi70_0 nz3 ag q <| jl u3 ae.p0 ag q <| ji (qt_gtr q q) ag q <| jf uf70 fi70_1 nz68 ag q <| jl u68 ae.p0 ag q <| jz ae.ctx (C1.c) u68 ag q <| ji (qt_gtr q q) ag q <| ji (qt_beql u4 q q) ag q <| aQ 8 q q q (ai ag)
  refine qm q <| O h fun aR al h => ?_
  refine Ga (res := aR) 3 (if_f · al) (fun ap bo aS => ?_) ?_
  ·exact have al := if_t ap al; jf uf70 fi70_2 nz3 ap q <| jl u3 ae.p0 ap q <| O al fun bp aT al => jc ap q c39 ae (fun _ => w_spec_l1In aT) <| aS 3 q q q al
  refine qa q <| Qn ae fun a ha bq aU => X <| S1 ha <| W fun a ha => ?_
  obtain rfl := L h
  exact ret1 q ha q ⟨q, aU.q0⟩
 obtain ⟨rfl, ha, aW⟩ := ax
 obtain rfl := L h
 exact zj (m (ret1 q ha q ⟨q, aW⟩))
theorem w_spec_ItemsValid {w G vp0 p0 r} (h : spec_ItemsValidS p0 = some r) (hp0 : Has G ty12 vp0 p0) (H : Ctx w G) : Calls Tryz.prog 84 #[vp0] w fun e w' => e = .returned (.bool r) ∧ Holds M0 w w' [] G := by
 refine F0 20 H Tryz.func84 q fun H => ?_
 refine rR <| qa q <| B <| C <| rR <| qa q <| B <| g <| O h fun o2 al h => ?_
 refine fun a4 am => zp (I := fun s1 a w2 => (Fr a 20 [(0, vp0), (3, iV s1)] ∧ Holds M0 w w2 [] G)) (O := fun o e a w2 => match o with | .inl _ => e = .exit 0 ∧ (Fr a 20 [(0, vp0)] ∧ Holds M0 w w2 [] G) | .inr q0 => e = .ret ∧ (Fr a 20 [(2, .bool q0)] ∧ Holds M0 w w2 [] G)) al ?_ ?_ ?_
 ·exact ⟨am.s, H⟩
 ·rintro s1 _ a w6 aa ⟨ha, ab⟩
  refine S1 ha <| C <| rR <| qm q <| qm q <| qz ab.ctx (hp0) u23 q <| qi (qt_lss q q) q <| B ?_
  refine Yh q aa (fun aa => ?_) (fun aa => ?_)
  ·refine y <| C <| g <| C <| zk <| qm q <| qm q <| O aa fun ad af aa => qb ab.ctx (hp0) af u23 i70 q fun aF aG aH ao => ?_
   obtain ⟨aI, ap, aq⟩ := ab.atN (hp0) af ao
   refine XL_load_agg (t := ty12) us70 uo70 i70 ap q q q fun aJ ar => ?_
   obtain ⟨c22, c23, aK, aL, rfl, au, av, aw⟩ := ar
   obtain ⟨rfl, _⟩ := av
   obtain ⟨c29, aM, aN, aO, rfl, ax, ay, az⟩ := aw
   obtain ⟨ae, rfl, aA⟩ := Rep.sl_inv ay
   obtain ⟨rfl, _⟩ := az
   have ag : Holds _ w w6 [.ro ty2 ae ad.2.1] G := aq [.ro ty2 ae ad.2.1] ⟨⟨_, _, _, _, q, aA, (fun k h => (fun k h => (fun _ h => h) k (by rw [au]; exact zx _ h)) k (by rw [ax]; exact List.mem_append_left _ h))⟩, trivial⟩
   change XL _ _ _ _ _ ((13, .agg #[iV ad.1, ae, iV ad.2.2]) :: _) _
   refine qm q <| O aa fun aP aB aa => qc q c116 ag (fun _ => w_spec_l1Item aB hR0) <| qi (qt_not q) q <| Qn ag fun a ha aQ ah => X <| S1 ha ?_
   refine Yh q aa (fun aa => ?_) (fun aa => ?_)
   ·cases aa
    exact rR <| qa q <| B <| W fun a ha => zj (m (⟨ret_ne, q, ha.s, ah.q0⟩))
   cases aa
   exact WP_skip fun a ha => zi <| X <| S1 ha <| Z <| qm q <| qi (qt_add q q) q <| qa q <| WL_nil fun a ha => ⟨q, ha.s, ah.q0⟩
  cases aa
  exact WP_exit fun a ha => zo (⟨exit_ne, q, ha.s, ab⟩)
 intro e a aR aj
 rcases o2 with o2 | o2
 ·obtain ⟨rfl, ha, ak⟩ := aj
  cases h
  exact zn <| X <| S1 ha <| rR <| qm q <| qz ak.ctx (hp0) u23 q <| qi (qt_leq q q) q <| qa q <| B <| W fun a ha => ret1 q ha q ⟨q, ak⟩
 obtain ⟨rfl, ha, aE⟩ := aj
 obtain rfl := L h
 exact zj (m (ret1 q ha q ⟨q, aE⟩))
theorem w_spec_PricesValid {w G vp0 p0 vp1 p1 r} (h : spec_PricesValidS p0 p1 = some r) (hp0 : Has G ty12 vp0 p0) (hp1 : Has G tI vp1 p1) (H : Ctx w G) : Calls Tryz.prog 37 #[vp0, vp1] w fun e w' => e = .returned (.bool r) ∧ Holds M0 w w' [] G := by
 refine F0 27 H Tryz.func37 q fun H => ?_
 refine rR <| qa q <| B <| C <| rR <| qa q <| B <| g <| O h fun o2 aj h => ?_
 refine fun a4 ak => zp (I := fun s1 a w2 => (Fr a 27 [(0, vp0), (1, vp1), (5, iV s1)] ∧ Holds M0 w w2 [] G)) (O := fun o e a w2 => match o with | .inl _ => e = .exit 0 ∧ (Fr a 27 [(0, vp0), (1, vp1)] ∧ Holds M0 w w2 [] G) | .inr q0 => e = .ret ∧ (Fr a 27 [(4, .bool q0)] ∧ Holds M0 w w2 [] G)) aj ?_ ?_ ?_
 ·exact ⟨ak.s, H⟩
 ·rintro s1 _ a w6 aa ⟨ha, ab⟩
  refine S1 ha <| C <| rR <| qm q <| qm q <| qz ab.ctx (hp1) u24 q <| qi (qt_lss q q) q <| B ?_
  refine Yh q aa (fun aa => ?_) (fun aa => ?_)
  ·refine y <| C <| g <| C <| zk <| qm q <| qm q <| O aa fun av af aa => qe ab (hp1) af u24 i3 q fun _ _ al => eI u3 al q <| O aa fun az am aa => qc q c39 ab (fun _ => w_spec_l1In am) <| qi (qt_not q) q <| Qn ab fun a ha aA ag => X <| S1 ha ?_
   refine Yh q aa (fun aa => ?_) (fun aa => ?_)
   ·cases aa
    exact rR <| qa q <| B <| W fun a ha => zj (m (⟨ret_ne, q, ha.s, ag⟩))
   cases aa
   exact WP_skip fun a ha => zi <| X <| S1 ha <| Z <| qm q <| qi (qt_add q q) q <| qa q <| WL_nil fun a ha => ⟨q, ha.s, ag⟩
  cases aa
  exact WP_exit fun a ha => zo (⟨exit_ne, q, ha.s, ab⟩)
 intro e a aB ah
 rcases o2 with o2 | o2
 ·obtain ⟨rfl, ha, ae⟩ := ah
  refine zn <| X <| S1 ha <| C <| zk <| qm q <| O h fun ao ap h => qc q c84 ae (fun _ => w_spec_ItemsValid ap (hp0)) <| qm q ?_
  refine Ga (res := (ao && ((List.length p1 : Int) == (List.length p0 : Int)))) 5 an (fun ad aC aq => ?_) ?_
  ·exact jm ad q <| jz ae.ctx (hp1) u24 ad q <| jm ad q <| jz ae.ctx (hp0) u23 ad q <| ji (qt_eql q q) ad q <| aq 5 q q q (ai ad)
  cases h
  exact qa q <| Qn ae fun a ha aD ar => X <| S1 ha <| W fun a ha => ret1 q ha q ⟨q, ar⟩
 obtain ⟨rfl, ha, au⟩ := ah
 obtain rfl := L h
 exact zj (m (ret1 q ha q ⟨q, au⟩))
theorem w_spec_l1Amounts {w G vp0 p0 vp1 p1 r} (h : spec_l1AmountsS p0 p1 = some r) (hp0 : Has G ty12 vp0 p0) (hp1 : Has G tI vp1 p1) (H : Ctx w G) : Calls Tryz.prog 38 #[vp0, vp1] w fun e w' => e = .returned (.bool r) ∧ Holds M0 w w' [] G := by
 refine F0 23 H Tryz.func38 q fun H => ?_
 refine rR <| qa q <| B <| C <| rR <| qa q <| B <| g <| O h fun o2 ah h => ?_
 refine fun a4 aj => zp (I := fun s1 a w2 => (Fr a 23 [(0, vp0), (1, vp1), (5, iV s1)] ∧ Holds M0 w w2 [] G)) (O := fun o e a w2 => match o with | .inl _ => e = .exit 0 ∧ (Fr a 23 [(0, vp0), (1, vp1)] ∧ Holds M0 w w2 [] G) | .inr q0 => e = .ret ∧ (Fr a 23 [(4, .bool q0)] ∧ Holds M0 w w2 [] G)) ah ?_ ?_ ?_
 ·exact ⟨aj.s, H⟩
 ·rintro s1 _ a w6 aa ⟨ha, ab⟩
  refine S1 ha <| C <| rR <| qm q <| qm q <| qz ab.ctx (hp1) u24 q <| qi (qt_lss q q) q <| B ?_
  refine Yh q aa (fun aa => ?_) (fun aa => ?_)
  ·refine y <| C <| g <| C <| zk <| qm q <| qm q <| O aa fun ao ae aa => qe ab (hp1) ae u24 i3 q fun _ _ ak => eI u3 ak q <| O aa fun au al aa => qc q c39 ab (fun _ => w_spec_l1In al) <| qi (qt_not q) q <| Qn ab fun a ha av af => X <| S1 ha ?_
   refine Yh q aa (fun aa => ?_) (fun aa => ?_)
   ·cases aa
    exact rR <| qa q <| B <| W fun a ha => zj (m (⟨ret_ne, q, ha.s, af⟩))
   cases aa
   exact WP_skip fun a ha => zi <| X <| S1 ha <| Z <| qm q <| qi (qt_add q q) q <| qa q <| WL_nil fun a ha => ⟨q, ha.s, af⟩
  cases aa
  exact WP_exit fun a ha => zo (⟨exit_ne, q, ha.s, ab⟩)
 intro e a aw ag
 rcases o2 with o2 | o2
 ·obtain ⟨rfl, ha, ad⟩ := ag
  cases h
  exact zn <| X <| S1 ha <| rR <| qm q <| qz ad.ctx (hp1) u24 q <| qm q <| qz ad.ctx (hp0) u23 q <| qi (qt_eql q q) q <| qa q <| B <| W fun a ha => ret1 q ha q ⟨q, ad⟩
 obtain ⟨rfl, ha, am⟩ := ag
 obtain rfl := L h
 exact zj (m (ret1 q ha q ⟨q, am⟩))
theorem w_spec_l4Ready {w G vp0 p0 p1 r} (h : spec_l4ReadyS p0 p1 = some r) (hp0 : Has G ty2 vp0 p0) (H : Ctx w G) : Calls Tryz.prog 85 #[vp0, iV p1] w fun e w' => e = .returned (.bool r) ∧ Holds M0 w w' [] G := by
 refine F0 27 H Tryz.func85 q fun H => ?_
 refine rR <| qa q <| B <| C <| rR <| qa q <| B <| g <| O h fun o2 aj h => ?_
 refine fun a4 ak => zp (I := fun s1 a w2 => (Fr a 27 [(0, vp0), (1, iV p1), (5, iV s1)] ∧ Holds M0 w w2 [] G)) (O := fun o e a w2 => match o with | .inl _ => e = .exit 0 ∧ (Fr a 27 [] ∧ Holds M0 w w2 [] G) | .inr q0 => e = .ret ∧ (Fr a 27 [(4, .bool q0)] ∧ Holds M0 w w2 [] G)) aj ?_ ?_ ?_
 ·exact ⟨ak.s, H⟩
 ·rintro s1 _ a w6 aa ⟨ha, ab⟩
  refine S1 ha <| C <| rR <| qm q <| qm q <| qz ab.ctx (hp0) u36 q <| qi (qt_lss q q) q <| B ?_
  refine Yh q aa (fun aa => ?_) (fun aa => ?_)
  ·refine y <| C <| g <| rR <| qm q <| qm q <| O aa fun au af aa => qe ab (hp0) af u36 i123 q fun _ _ al => qf uf123 fi123_0 nz3 q <| eI u3 al.f q <| qm q <| qi (qt_lss q q) q <| qm q <| O aa fun am ae aa => ?_
   refine Ha (res := am) 6 (if_f · ae) (fun ad ay ao => ?_) ?_
   ·exact have ae := if_t ad ae; jm ad q <| jm ad q <| O ae fun az ag ae => je ab (hp0) ag u36 i123 ad q fun _ _ ap => jf uf123 fi123_1 nz3 ad q <| jI u3 ap.s ad q <| ji (qt_lss q q) ad q <| ao 6 q q q ae
   refine B ?_
   refine Yh q aa (fun aa => ?_) (fun aa => ?_)
   ·cases aa
    exact rR <| qa q <| B <| W fun a ha => zj (m (⟨ret_ne, q, ha.s, ab⟩))
   cases aa
   exact WP_skip fun a ha => zi <| X <| S1 ha <| Z <| qm q <| qi (qt_add q q) q <| qa q <| WL_nil fun a ha => ⟨q, ha.s, ab⟩
  cases aa
  exact WP_exit fun a ha => zo (⟨exit_ne, q, ha.s, ab⟩)
 intro e a aD ah
 rcases o2 with o2 | o2
 ·obtain ⟨rfl, ha, aq⟩ := ah
  cases h
  exact zn <| X <| S1 ha <| rR <| qa q <| B <| W fun a ha => ret1 q ha q ⟨q, aq⟩
 obtain ⟨rfl, ha, ar⟩ := ah
 obtain rfl := L h
 exact zj (m (ret1 q ha q ⟨q, ar⟩))
theorem w_spec_TicketValid {w G vp0 p0 r} (h : spec_TicketValidS p0 = some r) (hp0 : Has G ty2 vp0 p0) (H : Ctx w G) : Calls Tryz.prog 40 #[vp0] w fun e w' => e = .returned (.bool r) ∧ Holds M0 w w' [] G := by
 refine F0 38 H Tryz.func40 q fun H => ?_
 refine rR <| qa q <| B <| C <| rR <| qa q <| B <| g <| O h fun o2 aq h => ?_
 refine fun a4 ar => zp (I := fun s1 a w2 => (Fr a 38 [(0, vp0), (3, iV s1)] ∧ Holds M0 w w2 [] G)) (O := fun o e a w2 => match o with | .inl _ => e = .exit 0 ∧ (Fr a 38 [(0, vp0)] ∧ Holds M0 w w2 [] G) | .inr q0 => e = .ret ∧ (Fr a 38 [(2, .bool q0)] ∧ Holds M0 w w2 [] G)) aq ?_ ?_ ?_
 ·exact ⟨ar.s, H⟩
 ·rintro s1 _ a w6 aa ⟨ha, ag⟩
  refine S1 ha <| C <| rR <| qm q <| qm q <| qz ag.ctx (hp0) u36 q <| qi (qt_lss q q) q <| B ?_
  refine Yh q aa (fun aa => ?_) (fun aa => ?_)
  ·refine y <| C <| g <| rR <| qm q <| qm q <| O aa fun ak al aa => qe ag (hp0) al u36 i123 q fun _ _ au => lP [iV ak.1, iV ak.2] us123 uo123 i123 au q q q q <| zq (cs := [iV 0, iV 0]) ag z123 q q q fun aL aM av => zl (cs' := [iV ak.1, iV ak.2]) av q il123 q q q q q fun aN ah => B <| C <| C <| zk <| qf uf123 fi123_0 nz3 q <| ql u3 ah.p0 q <| O aa fun aO aw aa => qc q c39 ah (fun _ => w_spec_l1In aw) <| qi (qt_not q) q <| qm q <| O aa fun ax ab aa => ?_
   refine Go (res := ax) 4 (if_t · ab) (fun aj aP ay => ?_) ?_
   ·exact have ab := if_f aj ab; jf uf123 fi123_1 nz3 aj q <| jl u3 ah.p0 aj q <| O ab fun aQ az ab => jc aj q c39 ah (fun _ => w_spec_l1In az) <| ji (qt_not q) aj q <| ay 4 q q q ab
   refine Qn ah fun a ha aR ad => X <| S1 ha ?_
   refine Yh q aa (fun aa => ?_) (fun aa => ?_)
   ·cases aa
    exact rR <| qa q <| B <| W fun a ha => m (zj (m (⟨ret_ne, q, ha.s, ad.q0⟩)))
   refine y <| C <| zk <| qf uf123 fi123_1 nz3 q <| ql u3 ad.p0 q <| O aa fun aS aB aa => qc q c39 ad (fun _ => w_spec_l1In aB) <| qm q <| O aa fun aC ae aa => ?_
   refine Ga (res := aC) 5 (if_f · ae) (fun af aT aD => ?_) ?_
   ·exact have ae := if_t af ae; jm af q <| jf uf123 fi123_0 nz3 af q <| jl u3 ad.p0 af q <| O ae fun aU aE ae => jc af q c85 ad (fun _ => w_spec_l4Ready aE (hp0.c)) <| ji (qt_not q) af q <| aD 5 q q q ae
   refine Qn ad fun a ha aV am => X <| S1 ha ?_
   refine Yh q aa (fun aa => ?_) (fun aa => ?_)
   ·cases aa
    exact rR <| qa q <| B <| W fun a ha => zj (m (⟨ret_ne, q, ha.s, am.q0⟩))
   cases aa
   exact WP_skip fun a ha => zi <| X <| S1 ha <| Z <| qm q <| qi (qt_add q q) q <| qa q <| WL_nil fun a ha => ⟨q, ha.s, am.q0⟩
  cases aa
  exact WP_exit fun a ha => zo (⟨exit_ne, q, ha.s, ag⟩)
 intro e a aW ao
 rcases o2 with o2 | o2
 ·obtain ⟨rfl, ha, ap⟩ := ao
  cases h
  exact zn <| X <| S1 ha <| rR <| qm q <| qz ap.ctx (hp0) u36 q <| qi (qt_leq q q) q <| qa q <| B <| W fun a ha => ret1 q ha q ⟨q, ap⟩
 obtain ⟨rfl, ha, aH⟩ := ao
 obtain rfl := L h
 exact zj (m (ret1 q ha q ⟨q, aH⟩))
theorem w_spec_l1Join {w G p0 p1 r} (h : spec_l1JoinS p0 p1 = some r) (H : Ctx w G) : Calls Tryz.prog 117 #[iV p0, iV p1] w fun e w' => e = .returned (iV r) ∧ Holds M0 w w' [] G := by
 refine F0 30 H Tryz.func117 q fun H => ?_
 refine rR <| qa q <| rN <| qa q <| B <| C <| C <| Z <| qa q <| B <| g <| O h fun o3 af h => ?_
 refine fun a5 ag => zp (I := fun (s1, s2) a w2 => (Fr a 30 [(0, iV p0), (1, iV p1), (5, iV s1), (6, iV s2)] ∧ Holds M0 w w2 [] G)) (O := fun q0 e a w2 => e = .exit 0 ∧ (Fr a 30 [(5, iV q0)] ∧ Holds M0 w w2 [] G)) af ?_ ?_ ?_
 ·exact ⟨ag.s, H⟩
 ·rintro ⟨s1, s2⟩ _ a w7 aa ⟨ha, ae⟩
  refine S1 ha <| C <| rR <| qm q <| qm q <| qm q <| qi (qt_max q q) q <| qi (qt_leq q q) q <| B ?_
  refine Yh q aa (fun aa => ?_) (fun aa => ?_)
  ·refine y <| C <| g <| rR <| qm q <| qm q <| O aa fun ao ah aa => qi (qt_quoO q q ah) q <| qi (qt_rem q q (by decide)) q <| qi (qt_eql q q) q <| qm q <| O aa fun aj ab aa => ?_
   refine Ho (res := aj) 5 (if_t · ab) (fun ad ap ak => ?_) ?_
   ·exact have ab := if_f ad ab; jm ad q <| jm ad q <| O ab fun aq al ab => ji (qt_quoO q q al) ad q <| ji (qt_rem q q (by decide)) ad q <| ji (qt_eql q q) ad q <| ak 5 q q q ab
   refine B ?_
   refine Yh q aa (fun aa => ?_) (fun aa => ?_)
   ·cases aa
    exact Z <| qm q <| qm q <| qi (qt_add q q) q <| qa q <| WL_nil fun a ha => zi <| X <| S1 ha <| Z <| qm q <| qi (qt_mul q q) q <| qa q <| WL_nil fun a ha => ⟨q, ha.s, ae⟩
   cases aa
   exact WP_skip fun a ha => zi <| X <| S1 ha <| Z <| qm q <| qi (qt_mul q q) q <| qa q <| WL_nil fun a ha => ⟨q, ha.s, ae⟩
  cases aa
  exact WP_exit fun a ha => zo (⟨exit_ne, q, ha.s, ae⟩)
 rintro _ a ar ⟨rfl, ha, am⟩
 refine zn <| X <| S1 ha <| rR <| qm q <| qa q <| B <| W fun a ha => ?_
 obtain rfl := L h
 exact ret1 q ha q ⟨q, am⟩
theorem w_spec_UsesOf {w G vp0 p0 p1 r} (h : spec_UsesOfS p0 p1 = some r) (hp0 : Has G ty12 vp0 p0) (H : Ctx w G) : Calls Tryz.prog 118 #[vp0, iV p1] w fun e w' => e = .returned (iV r) ∧ Holds M0 w w' [] G := by
 refine F0 56 H Tryz.func118 q fun H => ?_
 refine rR <| qa q <| B <| C <| C <| zk <| qm q <| O h fun x1 ax h => qc q c84 H (fun _ => w_spec_ItemsValid ax (hp0)) <| qi (qt_not q) q <| qm q <| O h fun b3 ae h => ?_
 refine Go (res := b3) 6 (if_t · ae) (fun ab K6 ay => ?_) ?_
 ·exact have ae := if_f ab ae; jm ab q <| jm ab q <| jz H.ctx (hp0) u23 ab q <| ji (qt_sub q q) ab q <| O ae fun x8 az ae => jc ab q c39 H (fun _ => w_spec_l1In az) <| ji (qt_not q) ab q <| ay 6 q q q ae
 refine Qn H fun a ha aS al => X <| S1 ha ?_
 refine Yh q h (fun h => ?_) (fun h => ?_)
 ·cases h
  exact rR <| qa q <| B <| W fun a ha => m (ret1 q ha q ⟨q, al⟩)
 refine y <| rR <| qm q <| O h fun aT aA h => qi (qt_shlO q q aA) q <| qa q <| B <| C <| C <| Z <| qm q <| qa q <| B <| g <| O h fun aU aB h => ?_
 refine fun aV aC => zp (I := fun (am, ah) a w2 => (Fr a 56 [(0, vp0), (5, iV am), (6, iV ah)] ∧ Holds M0 w w2 [] G)) (O := fun q0 e a w2 => e = .exit 0 ∧ (Fr a 56 [(5, iV q0)] ∧ Holds M0 w w2 [] G)) aB ?_ ?_ ?_
 ·exact ⟨aC.s, al⟩
 ·rintro ⟨am, ah⟩ _ a aW ad ⟨ha, ao⟩
  refine S1 ha <| C <| rR <| qm q <| qi (qt_geq q q) q <| B ?_
  refine Yh q ad (fun ad => ?_) (fun ad => ?_)
  ·refine y <| C <| g <| rR <| qa q <| B <| g <| O ad fun aX aD ad => ?_
   refine fun aY aE => zp (I := fun (ap, aq) a w2 => (Fr a 56 [(0, vp0), (5, iV ap), (6, iV ah), (7, iV aq)] ∧ Holds M0 w w2 [] G)) (O := fun q0 e a w2 => e = .exit 2 ∧ (Fr a 56 [(0, vp0), (5, iV q0), (6, iV ah)] ∧ Holds M0 w w2 [] G)) aD ?_ ?_ ?_
   ·exact ⟨aE.s, ao⟩
   ·rintro ⟨ap, aq⟩ _ a aZ aa ⟨ha, ar⟩
    refine S1 ha <| C <| rR <| qm q <| qm q <| qm q <| O aa fun a0 au aa => qe ar (hp0) au u23 i70 q fun _ _ aF => qf uf70 fi70_1 nz68 q <| eV u68 aF.s.f q fun a4 aj => qz aj.ctx hR0 u68 q <| qi (qt_lss q q) q <| qm q <| O aa fun aG af aa => ?_
    refine Ha (res := aG) 5 (if_f · af) (fun ag a5 aH => ?_) ?_
    ·exact have af := if_t ag af; jm ag q <| jm ag q <| O af fun a6 aI af => ji (qt_shrO q q aI) ag q <| ji (qt_rem q q (by decide)) ag q <| ji (qt_eql q q) ag q <| aH 5 q q q af
    refine B ?_
    refine Yh q aa (fun aa => ?_) (fun aa => ?_)
    ·refine y <| C <| g <| zk <| qm q <| qm q <| qm q <| O aa fun a7 av aa => qe aj (hp0.c) av u23 i70 q fun _ _ aJ => qf uf70 fi70_1 nz68 q <| eV u68 aJ.s.f q fun bb ak => qm q <| O aa fun bc aw aa => qe ak hR0 aw u68 i79 q fun _ _ aK => qf uf79 fi79_0 nz3 q <| eI u3 aK.f q <| O aa fun bg aL aa => qi (qt_shlO q q aL) q <| O aa fun bh aM aa => qc q c117 ak (fun _ => w_spec_l1Join aM) <| qa q <| Qn ak fun a ha bi aN => zi <| X <| S1 ha <| Z <| qm q <| qi (qt_add q q) q <| qa q <| WL_nil fun a ha => ?_
     cases aa
     exact ⟨q, ha.s, aN.q0.q0⟩
    cases aa
    exact WP_exit fun a ha => zo (⟨exit_ne, q, ha.s, aj.q0⟩)
   rintro _ a bj ⟨rfl, ha, aQ⟩
   cases ad
   exact zn <| zi <| X <| S1 ha <| Z <| qm q <| qi (qt_sub q q) q <| qa q <| WL_nil fun a ha => ⟨q, ha.s, aQ⟩
  cases ad
  exact WP_exit fun a ha => zo (⟨exit_ne, q, ha.s, ao⟩)
 rintro _ a bk ⟨rfl, ha, aR⟩
 refine zn <| X <| S1 ha <| rR <| qm q <| qa q <| B <| W fun a ha => ?_
 obtain rfl := L h
 exact ret1 q ha q ⟨q, aR⟩
theorem w_spec_MarksOf {w G vp0 p0 p1 r} (h : spec_MarksOfS p0 p1 = some r) (hp0 : Has G ty12 vp0 p0) (H : Ctx w G) : Calls Tryz.prog 87 #[vp0, iV p1] w fun e w' => e = .returned (iV r) ∧ Holds M0 w w' [] G := by
 refine F0 31 H Tryz.func87 q fun H => ?_
 refine rR <| qa q <| B <| C <| zk <| qm q <| qm q <| O h fun x1 ae h => qc q c118 H (fun _ => w_spec_UsesOf ae (hp0)) <| qa q <| Qn H fun a ha w3 H5 => X <| S1 ha <| C <| rR <| qm q <| qi (qt_lss q q) q <| B ?_
 refine Yh q h (fun h => ?_) (fun h => ?_)
 ·cases h
  exact rR <| qa q <| B <| W fun a ha => m (ret1 q ha q ⟨q, H5⟩)
 refine y <| rR <| qa q <| B <| C <| rR <| qa q <| B <| g <| O h fun o9 af h => ?_
 refine fun ao ag => zp (I := fun (s7, s8) a w2 => (Fr a 31 [(0, vp0), (1, iV p1), (5, iV x1), (6, iV s7), (7, iV s8)] ∧ Holds M0 w w2 [] G)) (O := fun q0 e a w2 => e = .exit 0 ∧ (Fr a 31 [(6, iV q0)] ∧ Holds M0 w w2 [] G)) af ?_ ?_ ?_
 ·exact ⟨ag.s, H5⟩
 ·rintro ⟨s7, s8⟩ _ a ap aa ⟨ha, ab⟩
  refine S1 ha <| C <| rR <| qm q <| qm q <| qi (qt_leq q q) q <| B ?_
  refine Yh q aa (fun aa => ?_) (fun aa => ?_)
  ·refine y <| C <| g <| rR <| qm q <| qm q <| O aa fun aq ah aa => qi (qt_shrO q q ah) q <| qi (qt_rem q q (by decide)) q <| qi (qt_eql q q) q <| B ?_
   refine Yh q aa (fun aa => ?_) (fun aa => ?_)
   ·refine zk <| qm q <| qm q <| qm q <| O aa fun ar ad aa => qe ab (hp0) ad u23 i70 q fun _ _ aj => qf uf70 fi70_2 nz3 q <| eI u3 aj.s.s q <| O aa fun ax ak aa => qc q c117 ab (fun _ => w_spec_l1Join ak) <| qa q <| Qn ab fun a ha ay al => zi <| X <| S1 ha <| Z <| qm q <| qi (qt_add q q) q <| qa q <| WL_nil fun a ha => ?_
    cases aa
    exact ⟨q, ha.s, al⟩
   cases aa
   exact WP_skip fun a ha => zi <| X <| S1 ha <| Z <| qm q <| qi (qt_add q q) q <| qa q <| WL_nil fun a ha => ⟨q, ha.s, ab⟩
  cases aa
  exact WP_exit fun a ha => zo (⟨exit_ne, q, ha.s, ab⟩)
 rintro _ a az ⟨rfl, ha, am⟩
 refine zn <| X <| S1 ha <| rR <| qm q <| qa q <| B <| W fun a ha => ?_
 obtain rfl := L h
 exact ret1 q ha q ⟨q, am⟩
theorem w_spec_l1Meet {w G p0 p1 r} (h : spec_l1MeetS p0 p1 = some r) (H : Ctx w G) : Calls Tryz.prog 86 #[iV p0, iV p1] w fun e w' => e = .returned (iV r) ∧ Holds M0 w w' [] G := by
 refine F0 12 H Tryz.func86 q fun H => ?_
 refine rR <| qa q <| B <| C <| zk <| qm q <| qm q <| qi (qt_add q q) q <| qm q <| qm q <| O h fun x1 aa h => qc q c117 H (fun _ => w_spec_l1Join aa) <| qi (qt_sub q q) q <| qa q <| Qn H fun a ha w3 H5 => X <| S1 ha <| W fun a ha => ?_
 cases h
 exact ret1 q ha q ⟨q, H5⟩
theorem w_spec_FreeOf {w G vp0 p0 p1 r} (h : spec_FreeOfS p0 p1 = some r) (hp0 : Has G ty12 vp0 p0) (H : Ctx w G) : Calls Tryz.prog 41 #[vp0, iV p1] w fun e w' => ∃ (v1 : Value), e = .returned (v1) ∧ Holds M0 w w' [.sl 3 tI v1 r] G := by
 refine F0 41 H Tryz.func41 q fun H => ?_
 refine rR <| qa q <| B <| C <| Z <| zs (t := tI) (args := []) (xs := ([] : List Int)) H (BltL.nil) u24 j3 q q q q q q fun v1 w2 H3 => qa q <| B <| C <| rR <| qa q <| B <| g <| O h fun o7 aq h => ?_
 refine fun a9 ar => zp (I := fun (s5, s6) a w2 => ∃ ah, Fr a 41 [(0, vp0), (1, iV p1), (5, ah), (6, iV s6)] ∧ Holds M0 w w2 [.sl 3 tI ah s5] G) (O := fun q0 e a w2 => e = .exit 0 ∧ ∃ am, Fr a 41 [(5, am)] ∧ Holds M0 w w2 [.sl 3 tI am q0] G) aq ?_ ?_ ?_
 ·exact ⟨v1, ar.s, H3⟩
 ·rintro ⟨s5, s6⟩ _ a aN aa ⟨ah, ha, aj⟩
  refine S1 ha <| C <| C <| zk <| qm q <| qm q <| qz aj.ctx (hp0.c) u23 q <| qi (qt_lss q q) q <| qm q <| O aa fun au ae aa => ?_
  refine Ga (res := au) 2 (if_f · ae) (fun ak aO av => ?_) ?_
  ·exact have ae := if_t ak ae; jm ak q <| O ae fun aP aw ae => jc ak q c84 aj (fun _ => w_spec_ItemsValid aw (hp0.c)) <| av 2 q q q ae
  refine qm q <| O aa fun ax af aa => ?_
  refine Ga (res := ax) 2 (if_f · af) (fun al aQ ay => ?_) ?_
  ·exact have af := if_t al af; jm al q <| O af fun aR az af => jc al q c39 aj (fun _ => w_spec_l1In az) <| ay 2 q q q af
  refine Qn aj fun a ha aS ag => X <| S1 ha ?_
  refine Yh q aa (fun aa => ?_) (fun aa => ?_)
  ·refine y <| C <| g <| C <| zk <| qm q <| qm q <| O aa fun aT ao aa => qe ag (hp0.c) ao u23 i70 q fun _ _ aA => qf uf70 fi70_0 nz3 q <| eI u3 aA.f q <| qi (qt_gtr q q) q <| qm q <| O aa fun aB ab aa => ?_
   refine Ga (res := aB) 6 (if_f · ab) (fun ad aX aC => ?_) ?_
   ·exact have ab := if_t ad ab; jm ad q <| jm ad q <| O ab fun aY aD ab => jc ad q c87 ag (fun _ => w_spec_MarksOf aD (hp0.c)) <| jm ad q <| O ab fun aZ aE ab => jc ad q c86 ag (fun _ => w_spec_l1Meet aE) <| ji (qt_eql q q) ad q <| aC 6 q q q ab
   refine Qn ag fun a ha a0 ap => X <| S1 ha ?_
   refine Yh q aa (fun aa => ?_) (fun aa => ?_)
   ·refine Z <| qm q <| qm q <| zs (t := tI) (args := [.tmp 37]) (xs := ([s6] : List Int)) ap (BltL.cons (Blt.int) q (BltL.nil)) u24 j3 q q q q q q fun a1 a2 aF => O aa fun a3 aH aa => zw aF.p1 hS1 aH u24 j3 q q q q q q fun aI a4 aJ => qa q <| WL_nil fun a ha => zi <| X <| S1 ha <| Z <| qm q <| qi (qt_add q q) q <| qa q <| WL_nil fun a ha => ?_
    cases aa
    exact ⟨q, aI, ha.s, aJ.q1⟩
   cases aa
   exact WP_skip fun a ha => zi <| X <| S1 ha <| Z <| qm q <| qi (qt_add q q) q <| qa q <| WL_nil fun a ha => ⟨q, ah, ha.s, ap⟩
  cases aa
  exact WP_exit fun a ha => zo (⟨exit_ne, q, ah, ha.s, ag⟩)
 rintro _ a a5 ⟨rfl, aL, ha, aM⟩
 refine zn <| X <| S1 ha <| rR <| qm q <| qa q <| B <| W fun a ha => ?_
 obtain rfl := L h
 exact ret1 q ha q ⟨aL, q, aM⟩
theorem w_spec_l1Has {w G vp0 p0 p1 r} (h : spec_l1HasS p0 p1 = some r) (hp0 : Has G tI vp0 p0) (H : Ctx w G) : Calls Tryz.prog 42 #[vp0, iV p1] w fun e w' => e = .returned (.bool r) ∧ Holds M0 w w' [] G := by
 refine F0 18 H Tryz.func42 q fun H => ?_
 refine rR <| qa q <| B <| C <| rR <| qa q <| B <| g <| O h fun o2 ae h => ?_
 refine fun a4 af => zp (I := fun s1 a w2 => (Fr a 18 [(0, vp0), (1, iV p1), (5, iV s1)] ∧ Holds M0 w w2 [] G)) (O := fun o e a w2 => match o with | .inl _ => e = .exit 0 ∧ (Fr a 18 [] ∧ Holds M0 w w2 [] G) | .inr q0 => e = .ret ∧ (Fr a 18 [(4, .bool q0)] ∧ Holds M0 w w2 [] G)) ae ?_ ?_ ?_
 ·exact ⟨af.s, H⟩
 ·rintro s1 _ a w6 aa ⟨ha, ab⟩
  refine S1 ha <| C <| rR <| qm q <| qm q <| qz ab.ctx (hp0) u24 q <| qi (qt_lss q q) q <| B ?_
  refine Yh q aa (fun aa => ?_) (fun aa => ?_)
  ·refine y <| C <| g <| rR <| qm q <| qm q <| O aa fun ak ad aa => qe ab (hp0) ad u24 i3 q fun _ _ ag => eI u3 ag q <| qm q <| qi (qt_eql q q) q <| B ?_
   refine Yh q aa (fun aa => ?_) (fun aa => ?_)
   ·cases aa
    exact rR <| qa q <| B <| W fun a ha => zj (m (⟨ret_ne, q, ha.s, ab⟩))
   cases aa
   exact WP_skip fun a ha => zi <| X <| S1 ha <| Z <| qm q <| qi (qt_add q q) q <| qa q <| WL_nil fun a ha => ⟨q, ha.s, ab⟩
  cases aa
  exact WP_exit fun a ha => zo (⟨exit_ne, q, ha.s, ab⟩)
 intro e a ap hO18
 rcases o2 with o2 | o2
 ·obtain ⟨rfl, ha, ah⟩ := hO18
  cases h
  exact zn <| X <| S1 ha <| rR <| qa q <| B <| W fun a ha => ret1 q ha q ⟨q, ah⟩
 obtain ⟨rfl, ha, aj⟩ := hO18
 obtain rfl := L h
 exact zj (m (ret1 q ha q ⟨q, aj⟩))
theorem w_spec_HouseValid {w G A0 B0 A1 B1 A2 B2 B3 A4 B4 r} (h : spec_HouseValidS B0 B1 B2 B3 B4 = some r) (C0 : Has G ty12 A0 B0) (C1 : Has G tI A1 B1) (C2 : Has G tI A2 B2) (C4 : Has G ty14 A4 B4) (H : Ctx w G) : Calls Tryz.prog 11 #[.agg #[A0, A1, A2, iV B3, A4]] w fun e w' => e = .returned (.bool r) ∧ Holds M0 w w' [] G := by
 refine F0 84 H Tryz.func11 q fun H => ?_
 refine C <| Z <| WL_box (cs := [A0, A1, A2, iV B3, A4]) H q q q q fun b1 w2 H3 => qa q <| B <| C <| C <| zk <| qf uf27 fi27_0 nz23 q <| ql u23 H3.p0 q <| qf uf27 fi27_1 nz24 q <| ql u24 H3.p0 q <| O h fun x7 aN h => qc q c37 H3 (fun _ => w_spec_PricesValid aN (C0.c) (C1.c)) <| qi (qt_not q) q <| qm q <| O h fun b9 aj h => ?_
 refine Go (res := b9) 6 (if_t · aj) (fun ah bu aO => ?_) ?_
 ·exact have aj := if_f ah aj; jf uf27 fi27_0 nz23 ah q <| jl u23 H3.p0 ah q <| jf uf27 fi27_2 nz24 ah q <| jl u24 H3.p0 ah q <| O aj fun bv aP aj => jc ah q c38 H3 (fun _ => w_spec_l1Amounts aP (C0.c) (C2.c)) <| ji (qt_not q) ah q <| aO 6 q q q aj
 refine qm q <| O h fun aA ak h => ?_
 refine Go (res := aA) 4 (if_t · ak) (fun aq bw aQ => ?_) ?_
 ·exact have ak := if_f aq ak; jf uf27 fi27_3 nz3 aq q <| jl u3 H3.p0 aq q <| O ak fun bz aR ak => jc aq q c39 H3 (fun _ => w_spec_l1In aR) <| ji (qt_not q) aq q <| aQ 4 q q q ak
 refine qm q ?_
 refine Go (res := (aA || (decide ((List.length B4 : Int) > 4)))) 4 os (fun ar bA aS => ?_) ?_
 ·exact jf uf27 fi27_4 nz25 ar q <| jl u25 H3.p0 ar q <| jz H3.ctx (C4.c) u25 ar q <| ji (qt_gtr q q) ar q <| aS 4 q q q (oi ar)
 refine Qn H3 fun a ha bB aB => X <| S1 ha ?_
 refine Yh q h (fun h => ?_) (fun h => ?_)
 ·cases h
  exact rR <| qa q <| B <| W fun a ha => m (ret1 q ha q ⟨q, aB.q0⟩)
 refine y <| C <| rR <| qa q <| B <| g <| O h fun ax aU h => ?_
 refine fun bC aV => zp (I := fun aw a w2 => (Fr a 84 [(1, pB b1), (3, iV aw)] ∧ Holds M0 w w2 [.bx b1 27 [A0, A1, A2, iV B3, A4]] G)) (O := fun o e a w2 => match o with | .inl _ => e = .exit 0 ∧ (Fr a 84 [] ∧ Holds M0 w w2 [] G) | .inr q0 => e = .ret ∧ (Fr a 84 [(2, .bool q0)] ∧ Holds M0 w w2 [] G)) aU ?_ ?_ ?_
 ·exact ⟨aV.s, aB⟩
 ·rintro aw _ a aW aa ⟨ha, al⟩
  refine S1 ha <| C <| rR <| qm q <| qf uf27 fi27_4 nz25 q <| ql u25 al.p0 q <| qz al.ctx (C4.c) u25 q <| qi (qt_lss q q) q <| B ?_
  refine Yh q aa (fun aa => ?_) (fun aa => ?_)
  ·refine y <| C <| g <| rR <| qf uf27 fi27_4 nz25 q <| ql u25 al.p0 q <| qm q <| O aa fun ad aC aa => qb al.ctx (C4.c) aC u25 i38 q fun bD bE bF aX => ?_
   obtain ⟨bG, aY, aZ⟩ := al.atN (C4.c) aC aX
   refine XL_load_agg (t := ty14) us38 uo38 i38 aY q q q fun bH a0 => ?_
   obtain ⟨c58, c59, bI, bJ, rfl, aD, a1, a2⟩ := a0
   obtain ⟨rfl, _⟩ := a1
   obtain ⟨c65, c66, bK, bL, rfl, aE, a3, a4⟩ := a2
   obtain ⟨am, rfl, a5⟩ := Rep.sl_inv a3
   obtain ⟨ao, rfl, a6⟩ := Rep.sl_inv a4
   have a7 : Holds _ w aW [.ro ty2 am ad.2.1, .ro tI ao ad.2.2, .bx b1 27 [A0, A1, A2, iV B3, A4]] G := aZ [.ro ty2 am ad.2.1, .ro tI ao ad.2.2] ⟨⟨_, _, _, _, q, a5, (fun k h => (fun k h => (fun _ h => h) k (by rw [aD]; exact zx _ h)) k (by rw [aE]; exact List.mem_append_left _ h))⟩, ⟨_, _, _, _, q, a6, (fun k h => (fun k h => (fun _ h => h) k (by rw [aD]; exact zx _ h)) k (by rw [aE]; exact zx _ h))⟩, trivial⟩
   change XL _ _ _ _ _ ((44, .agg #[iV ad.1, am, ao]) :: _) _
   refine zq (cs := [iV 0, nS, nS]) a7 z38 q q q fun aF bM ay => zl (cs' := [iV ad.1, am, ao]) ay q il38 q (T q (T (ay.ctx.sliceOne hR1) (T (ay.ctx.sliceOne hR2) q))) q q q fun bN ae => B <| C <| C <| zk <| qf uf38 fi38_0 nz3 q <| ql u3 ae.p0 q <| O aa fun bO a8 aa => qc q c39 ae (fun _ => w_spec_l1In a8) <| qi (qt_not q) q <| qm q <| O aa fun aG ap aa => ?_
   refine Go (res := aG) 4 (if_t · ap) (fun au bP a9 => ?_) ?_
   ·exact have ap := if_f au ap; jf uf38 fi38_1 nz36 au q <| jl u36 ae.p0 au q <| O ap fun bQ ba ap => jc au q c40 ae (fun _ => w_spec_TicketValid ba hR1) <| ji (qt_not q) au q <| a9 4 q q q ap
   refine qm q ?_
   refine Go (res := (aG || ((List.length ad.2.2 : Int) != (List.length ad.2.1 : Int)))) 7 os (fun af bR bb => ?_) ?_
   ·exact jf uf38 fi38_2 nz24 af q <| jl u24 ae.p0 af q <| jz ae.ctx hR2 u24 af q <| jf uf38 fi38_1 nz36 af q <| jl u36 ae.p0 af q <| jz ae.ctx hR1 u36 af q <| ji (qt_neq q q) af q <| bb 7 q q q (oi af)
   refine Qn ae fun a ha bS av => X <| S1 ha ?_
   refine Yh q aa (fun aa => ?_) (fun aa => ?_)
   ·cases aa
    exact rR <| qa q <| B <| W fun a ha => m (zj (m (⟨ret_ne, q, ha.s, av.q0.q0.q0.q0⟩)))
   refine y <| rR <| qf uf27 fi27_0 nz23 q <| ql u23 av.p3 q <| qf uf38 fi38_0 nz3 q <| ql u3 av.p0 q <| O aa fun bd be aa => U1 q c41 (w_spec_FreeOf be (C0.c.c.c.c) av.ctx) fun aH bT bf => have bg := av.cN1 [] bf; qa q <| rN <| qa q <| B <| g <| O aa fun az bh aa => ?_
   refine fun bU bj => zp (I := fun aI a w2 => (Fr a 84 [(1, pB b1), (3, iV aw), (4, pB aF), (5, aH), (6, iV aI)] ∧ Holds M0 w w2 [.bx b1 27 [A0, A1, A2, iV B3, A4], .bx aF 38 [iV ad.1, am, ao], .ro ty2 am ad.2.1, .ro tI ao ad.2.2, .sl 3 tI aH bd] G)) (O := fun o e a w2 => match o with | .inl _ => e = .exit 2 ∧ (Fr a 84 [(1, pB b1), (3, iV aw)] ∧ Holds M0 w w2 [.bx b1 27 [A0, A1, A2, iV B3, A4]] G) | .inr q0 => e = .ret ∧ (Fr a 84 [(2, .bool q0)] ∧ Holds M0 w w2 [] G)) bh ?_ ?_ ?_
   ·exact ⟨bj.s, bg.p3.p3.p3.p4⟩
   ·rintro aI _ a bV ab ⟨ha, ag⟩
    refine S1 ha <| C <| rR <| qm q <| qf uf38 fi38_2 nz24 q <| ql u24 ag.p1 q <| qz ag.ctx hR3 u24 q <| qi (qt_lss q q) q <| B ?_
    refine Yh q ab (fun ab => ?_) (fun ab => ?_)
    ·refine y <| C <| g <| C <| zk <| qm q <| qf uf38 fi38_2 nz24 q <| ql u24 ag.p1 q <| qm q <| O ab fun bW aJ ab => qe ag hR3 aJ u24 i3 q fun _ _ bk => eI u3 bk q <| O ab fun b0 bl ab => qc q c42 ag (fun _ => w_spec_l1Has bl hS4) <| qi (qt_not q) q <| Qn ag fun a ha b4 aK => X <| S1 ha ?_
     refine Yh q ab (fun ab => ?_) (fun ab => ?_)
     ·cases ab
      exact rR <| qa q <| B <| W fun a ha => zj (m (⟨ret_ne, q, ha.s, aK.q0.q0.q0.q0.q0⟩))
     cases ab
     exact WP_skip fun a ha => zi <| X <| S1 ha <| Z <| qm q <| qi (qt_add q q) q <| qa q <| WL_nil fun a ha => ⟨q, ha.s, aK.p4.p4.p4.p4.p4⟩
    cases ab
    exact WP_exit fun a ha => zo (⟨exit_ne, q, ha.s, ag.q1.q1.q1.q1⟩)
   intro e a b5 aL
   rcases az with az | az
   ·obtain ⟨rfl, ha, bp⟩ := aL
    cases aa
    exact zn <| zi <| X <| S1 ha <| Z <| qm q <| qi (qt_add q q) q <| qa q <| WL_nil fun a ha => ⟨q, ha.s, bp⟩
   obtain ⟨rfl, ha, bq⟩ := aL
   cases aa
   exact zj (zj (m (⟨ret_ne, q, ha.s, bq⟩)))
  cases aa
  exact WP_exit fun a ha => zo (⟨exit_ne, q, ha.s, al.q0⟩)
 intro e a b6 aM
 rcases ax with ax | ax
 ·obtain ⟨rfl, ha, bs⟩ := aM
  cases h
  exact zn <| X <| S1 ha <| rR <| qa q <| B <| W fun a ha => ret1 q ha q ⟨q, bs⟩
 obtain ⟨rfl, ha, bt⟩ := aM
 obtain rfl := L h
 exact zj (m (ret1 q ha q ⟨q, bt⟩))
end Go.Proofs.YtkhnponakhabdaaGreatDoor
