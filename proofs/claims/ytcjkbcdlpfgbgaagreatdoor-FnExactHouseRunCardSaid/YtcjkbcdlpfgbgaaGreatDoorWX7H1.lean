/- The walks: each Go function computes its shallow function. Printed by a program. -/
import Derived.Test.YtcjkbcdlpfgbgaaGreatDoorChecked
import Derived.Test.YtcjkbcdlpfgbgaaGreatDoorShX7H
import Derived.Test.YtcjkbcdlpfgbgaaGreatDoorShort3
set_option linter.unusedVariables false
set_option maxRecDepth 10000
namespace Go.Proofs.YtcjkbcdlpfgbgaaGreatDoor
open Go Go.RowKit
abbrev dt1 : DT := .sl 3 (.leaf (.int .i64))
abbrev ty2 : Ty := .pair (.int .i64) (.int .i64)
abbrev dt3 : DT := .leaf ty2
abbrev ty4 : Ty := .slice ty2
abbrev dt5 : DT := .sl 162 dt3
abbrev dt6 : DT := .sl 119 dt3
abbrev ty7 : Ty := .pair ty4 (.int .i64)
abbrev ty8 : Ty := .pair ty4 (.slice (.int .i64))
abbrev dt9 : DT := .pair dt5 (.leaf (.int .i64))
abbrev ty10 : Ty := .pair (.int .i64) ty7
abbrev dt11 : DT := .pair dt6 dt1
abbrev ty12 : Ty := .pair (.int .i64) ty8
abbrev dt13 : DT := .pair (.leaf (.int .i64)) dt9
abbrev dt14 : DT := .pair (.leaf (.int .i64)) dt11
noncomputable def fd103 : Array Field := match Tryz.prog.underlying 103 with | some (.struct fs) => fs | _ => #[]
theorem uf103 : Tryz.prog.underlying 103 = some (.struct fd103) := by kernel_rfl
noncomputable def fd107 : Array Field := match Tryz.prog.underlying 107 with | some (.struct fs) => fs | _ => #[]
theorem uf107 : Tryz.prog.underlying 107 = some (.struct fd107) := by kernel_rfl
noncomputable def fd115 : Array Field := match Tryz.prog.underlying 115 with | some (.struct fs) => fs | _ => #[]
theorem uf115 : Tryz.prog.underlying 115 = some (.struct fd115) := by kernel_rfl
noncomputable def fd119 : Array Field := match Tryz.prog.underlying 119 with | some (.struct fs) => fs | _ => #[]
theorem uf119 : Tryz.prog.underlying 119 = some (.struct fd119) := by kernel_rfl
noncomputable def fd143 : Array Field := match Tryz.prog.underlying 143 with | some (.struct fs) => fs | _ => #[]
theorem uf143 : Tryz.prog.underlying 143 = some (.struct fd143) := by kernel_rfl
noncomputable def fd162 : Array Field := match Tryz.prog.underlying 162 with | some (.struct fs) => fs | _ => #[]
theorem uf162 : Tryz.prog.underlying 162 = some (.struct fd162) := by kernel_rfl
noncomputable def fd172 : Array Field := match Tryz.prog.underlying 172 with | some (.struct fs) => fs | _ => #[]
theorem uf172 : Tryz.prog.underlying 172 = some (.struct fd172) := by kernel_rfl
noncomputable def fd174 : Array Field := match Tryz.prog.underlying 174 with | some (.struct fs) => fs | _ => #[]
theorem uf174 : Tryz.prog.underlying 174 = some (.struct fd174) := by kernel_rfl
noncomputable def fd26 : Array Field := match Tryz.prog.underlying 26 with | some (.struct fs) => fs | _ => #[]
theorem uf26 : Tryz.prog.underlying 26 = some (.struct fd26) := by kernel_rfl
noncomputable def fd31 : Array Field := match Tryz.prog.underlying 31 with | some (.struct fs) => fs | _ => #[]
theorem uf31 : Tryz.prog.underlying 31 = some (.struct fd31) := by kernel_rfl
noncomputable def fd46 : Array Field := match Tryz.prog.underlying 46 with | some (.struct fs) => fs | _ => #[]
theorem uf46 : Tryz.prog.underlying 46 = some (.struct fd46) := by kernel_rfl
noncomputable def fd49 : Array Field := match Tryz.prog.underlying 49 with | some (.struct fs) => fs | _ => #[]
theorem uf49 : Tryz.prog.underlying 49 = some (.struct fd49) := by kernel_rfl
noncomputable def fd89 : Array Field := match Tryz.prog.underlying 89 with | some (.struct fs) => fs | _ => #[]
theorem uf89 : Tryz.prog.underlying 89 = some (.struct fd89) := by kernel_rfl
noncomputable def sd103 : TypeDesc := (Tryz.prog.underlying 103).getD .bool
theorem us103 : Tryz.prog.underlying 103 = some sd103 := by kernel_rfl
theorem uo103 : oneB sd103 = false := by kernel_rfl
noncomputable def sd107 : TypeDesc := (Tryz.prog.underlying 107).getD .bool
theorem us107 : Tryz.prog.underlying 107 = some sd107 := by kernel_rfl
theorem uo107 : oneB sd107 = false := by kernel_rfl
noncomputable def sd115 : TypeDesc := (Tryz.prog.underlying 115).getD .bool
theorem us115 : Tryz.prog.underlying 115 = some sd115 := by kernel_rfl
theorem uo115 : oneB sd115 = false := by kernel_rfl
noncomputable def sd119 : TypeDesc := (Tryz.prog.underlying 119).getD .bool
theorem us119 : Tryz.prog.underlying 119 = some sd119 := by kernel_rfl
theorem uo119 : oneB sd119 = false := by kernel_rfl
noncomputable def sd143 : TypeDesc := (Tryz.prog.underlying 143).getD .bool
theorem us143 : Tryz.prog.underlying 143 = some sd143 := by kernel_rfl
theorem uo143 : oneB sd143 = false := by kernel_rfl
noncomputable def sd162 : TypeDesc := (Tryz.prog.underlying 162).getD .bool
theorem us162 : Tryz.prog.underlying 162 = some sd162 := by kernel_rfl
theorem uo162 : oneB sd162 = false := by kernel_rfl
noncomputable def sd172 : TypeDesc := (Tryz.prog.underlying 172).getD .bool
theorem us172 : Tryz.prog.underlying 172 = some sd172 := by kernel_rfl
theorem uo172 : oneB sd172 = false := by kernel_rfl
noncomputable def sd174 : TypeDesc := (Tryz.prog.underlying 174).getD .bool
theorem us174 : Tryz.prog.underlying 174 = some sd174 := by kernel_rfl
theorem uo174 : oneB sd174 = false := by kernel_rfl
noncomputable def sd26 : TypeDesc := (Tryz.prog.underlying 26).getD .bool
theorem us26 : Tryz.prog.underlying 26 = some sd26 := by kernel_rfl
theorem uo26 : oneB sd26 = false := by kernel_rfl
noncomputable def sd31 : TypeDesc := (Tryz.prog.underlying 31).getD .bool
theorem us31 : Tryz.prog.underlying 31 = some sd31 := by kernel_rfl
theorem uo31 : oneB sd31 = false := by kernel_rfl
noncomputable def sd46 : TypeDesc := (Tryz.prog.underlying 46).getD .bool
theorem us46 : Tryz.prog.underlying 46 = some sd46 := by kernel_rfl
theorem uo46 : oneB sd46 = false := by kernel_rfl
noncomputable def sd49 : TypeDesc := (Tryz.prog.underlying 49).getD .bool
theorem us49 : Tryz.prog.underlying 49 = some sd49 := by kernel_rfl
theorem uo49 : oneB sd49 = false := by kernel_rfl
noncomputable def sd89 : TypeDesc := (Tryz.prog.underlying 89).getD .bool
theorem us89 : Tryz.prog.underlying 89 = some sd89 := by kernel_rfl
theorem uo89 : oneB sd89 = false := by kernel_rfl
theorem i103 : (Tryz.prog.info? 103).map (·.size) = some (Ty.size ty10) := by kernel_rfl
theorem i107 : (Tryz.prog.info? 107).map (·.size) = some (Ty.size ty12) := by kernel_rfl
theorem i115 : (Tryz.prog.info? 115).map (·.size) = some (Ty.size ty10) := by kernel_rfl
theorem i119 : (Tryz.prog.info? 119).map (·.size) = some (Ty.size ty2) := by kernel_rfl
theorem i162 : (Tryz.prog.info? 162).map (·.size) = some (Ty.size ty2) := by kernel_rfl
theorem i172 : (Tryz.prog.info? 172).map (·.size) = some (Ty.size ty2) := by kernel_rfl
theorem i174 : (Tryz.prog.info? 174).map (·.size) = some (Ty.size ty2) := by kernel_rfl
theorem i3 : (Tryz.prog.info? 3).map (·.size) = some (Ty.size (.int .i64)) := by kernel_rfl
theorem i87 : (Tryz.prog.info? 87).map (·.size) = some (Ty.size ty4) := by kernel_rfl
theorem i89 : (Tryz.prog.info? 89).map (·.size) = some (Ty.size ty12) := by kernel_rfl
theorem il113 : (Tryz.prog.info? 113).map (·.size) = some 1 := by kernel_rfl
theorem il115 : (Tryz.prog.info? 115).map (·.size) = some 3 := by kernel_rfl
theorem il119 : (Tryz.prog.info? 119).map (·.size) = some 2 := by kernel_rfl
theorem il129 : (Tryz.prog.info? 129).map (·.size) = some 3 := by kernel_rfl
theorem il143 : (Tryz.prog.info? 143).map (·.size) = some 2 := by kernel_rfl
theorem il162 : (Tryz.prog.info? 162).map (·.size) = some 2 := by kernel_rfl
theorem il23 : (Tryz.prog.info? 23).map (·.size) = some 1 := by kernel_rfl
theorem il26 : (Tryz.prog.info? 26).map (·.size) = some 5 := by kernel_rfl
theorem il28 : (Tryz.prog.info? 28).map (·.size) = some 1 := by kernel_rfl
theorem il29 : (Tryz.prog.info? 29).map (·.size) = some 1 := by kernel_rfl
theorem il3 : (Tryz.prog.info? 3).map (·.size) = some 1 := by kernel_rfl
theorem il31 : (Tryz.prog.info? 31).map (·.size) = some 5 := by kernel_rfl
theorem il49 : (Tryz.prog.info? 49).map (·.size) = some 4 := by kernel_rfl
theorem il87 : (Tryz.prog.info? 87).map (·.size) = some 1 := by kernel_rfl
theorem il89 : (Tryz.prog.info? 89).map (·.size) = some 3 := by kernel_rfl
theorem j115 : (Tryz.prog.info? 115).map (fun i => (i.zero, i.size, i.bytes)) = some (some (.agg #[.int .i64 0, nS, .int .i64 0]), Ty.size ty10, 40) := by kernel_rfl
theorem j119 : (Tryz.prog.info? 119).map (fun i => (i.zero, i.size, i.bytes)) = some (some (.agg #[.int .i64 0, .int .i64 0]), Ty.size ty2, 16) := by kernel_rfl
theorem j162 : (Tryz.prog.info? 162).map (fun i => (i.zero, i.size, i.bytes)) = some (some (.agg #[.int .i64 0, .int .i64 0]), Ty.size ty2, 16) := by kernel_rfl
theorem j3 : (Tryz.prog.info? 3).map (fun i => (i.zero, i.size, i.bytes)) = some (some (.int .i64 0), Ty.size (.int .i64), 8) := by kernel_rfl
theorem j87 : (Tryz.prog.info? 87).map (fun i => (i.zero, i.size, i.bytes)) = some (some (nS), Ty.size ty4, 24) := by kernel_rfl
theorem j89 : (Tryz.prog.info? 89).map (fun i => (i.zero, i.size, i.bytes)) = some (some (.agg #[.int .i64 0, nS, nS]), Ty.size ty12, 56) := by kernel_rfl
theorem nz101 : (Tryz.prog.info? 101).map (fun i => Nat.beq i.size 0) = some false := by kernel_rfl
theorem nz105 : (Tryz.prog.info? 105).map (fun i => Nat.beq i.size 0) = some false := by kernel_rfl
theorem nz113 : (Tryz.prog.info? 113).map (fun i => Nat.beq i.size 0) = some false := by kernel_rfl
theorem nz22 : (Tryz.prog.info? 22).map (fun i => Nat.beq i.size 0) = some false := by kernel_rfl
theorem nz23 : (Tryz.prog.info? 23).map (fun i => Nat.beq i.size 0) = some false := by kernel_rfl
theorem nz24 : (Tryz.prog.info? 24).map (fun i => Nat.beq i.size 0) = some false := by kernel_rfl
theorem nz28 : (Tryz.prog.info? 28).map (fun i => Nat.beq i.size 0) = some false := by kernel_rfl
theorem nz29 : (Tryz.prog.info? 29).map (fun i => Nat.beq i.size 0) = some false := by kernel_rfl
theorem nz3 : (Tryz.prog.info? 3).map (fun i => Nat.beq i.size 0) = some false := by kernel_rfl
theorem nz87 : (Tryz.prog.info? 87).map (fun i => Nat.beq i.size 0) = some false := by kernel_rfl
theorem u101 : Tryz.prog.underlying 101 = some (.slice 172) := by kernel_rfl
theorem u105 : Tryz.prog.underlying 105 = some (.slice 174) := by kernel_rfl
theorem u113 : Tryz.prog.underlying 113 = some (.slice 162) := by kernel_rfl
theorem u128 : Tryz.prog.underlying 128 = some (.array 6 3) := by kernel_rfl
theorem u129 : Tryz.prog.underlying 129 = some (.array 3 3) := by kernel_rfl
theorem u22 : Tryz.prog.underlying 22 = some (.slice 103) := by kernel_rfl
theorem u23 : Tryz.prog.underlying 23 = some (.slice 3) := by kernel_rfl
theorem u24 : Tryz.prog.underlying 24 = some (.slice 107) := by kernel_rfl
theorem u28 : Tryz.prog.underlying 28 = some (.slice 115) := by kernel_rfl
theorem u29 : Tryz.prog.underlying 29 = some (.slice 89) := by kernel_rfl
theorem u3 : Tryz.prog.underlying 3 = some (.int .i64) := by kernel_rfl
theorem u4 : Tryz.prog.underlying 4 = some (.bool) := by kernel_rfl
theorem u74 : Tryz.prog.underlying 74 = some (.slice 87) := by kernel_rfl
theorem u87 : Tryz.prog.underlying 87 = some (.slice 119) := by kernel_rfl
theorem z115 : (Tryz.prog.info? 115).map (·.zero) = some (some (.agg #[.int .i64 0, nS, .int .i64 0])) := by kernel_rfl
theorem z119 : (Tryz.prog.info? 119).map (·.zero) = some (some (.agg #[.int .i64 0, .int .i64 0])) := by kernel_rfl
theorem z129 : (Tryz.prog.info? 129).map (·.zero) = some (some (.agg #[.int .i64 0, .int .i64 0, .int .i64 0])) := by kernel_rfl
theorem z143 : (Tryz.prog.info? 143).map (·.zero) = some (some (.agg #[nS, nS])) := by kernel_rfl
theorem z162 : (Tryz.prog.info? 162).map (·.zero) = some (some (.agg #[.int .i64 0, .int .i64 0])) := by kernel_rfl
theorem z31 : (Tryz.prog.info? 31).map (·.zero) = some (some (.agg #[nS, nS, nS, .int .i64 0, nS])) := by kernel_rfl
theorem z49 : (Tryz.prog.info? 49).map (·.zero) = some (some (.agg #[.int .i64 0, .int .i64 0, .int .i64 0, .int .i64 0])) := by kernel_rfl
theorem z89 : (Tryz.prog.info? 89).map (·.zero) = some (some (.agg #[.int .i64 0, nS, nS])) := by kernel_rfl
theorem fi103_0 : (fd103[0]?).map (fun f => (f.type, f.offset)) = some (3, 0) := by kernel_rfl
theorem fi103_1 : (fd103[1]?).map (fun f => (f.type, f.offset)) = some (101, 1) := by kernel_rfl
theorem fi103_2 : (fd103[2]?).map (fun f => (f.type, f.offset)) = some (3, 2) := by kernel_rfl
theorem fi107_0 : (fd107[0]?).map (fun f => (f.type, f.offset)) = some (3, 0) := by kernel_rfl
theorem fi107_1 : (fd107[1]?).map (fun f => (f.type, f.offset)) = some (105, 1) := by kernel_rfl
theorem fi107_2 : (fd107[2]?).map (fun f => (f.type, f.offset)) = some (23, 2) := by kernel_rfl
theorem fi115_0 : (fd115[0]?).map (fun f => (f.type, f.offset)) = some (3, 0) := by kernel_rfl
theorem fi115_1 : (fd115[1]?).map (fun f => (f.type, f.offset)) = some (113, 1) := by kernel_rfl
theorem fi115_2 : (fd115[2]?).map (fun f => (f.type, f.offset)) = some (3, 2) := by kernel_rfl
theorem fi119_0 : (fd119[0]?).map (fun f => (f.type, f.offset)) = some (3, 0) := by kernel_rfl
theorem fi119_1 : (fd119[1]?).map (fun f => (f.type, f.offset)) = some (3, 1) := by kernel_rfl
theorem fi143_0 : (fd143[0]?).map (fun f => (f.type, f.offset)) = some (23, 0) := by kernel_rfl
theorem fi162_0 : (fd162[0]?).map (fun f => (f.type, f.offset)) = some (3, 0) := by kernel_rfl
theorem fi162_1 : (fd162[1]?).map (fun f => (f.type, f.offset)) = some (3, 1) := by kernel_rfl
theorem fi172_0 : (fd172[0]?).map (fun f => (f.type, f.offset)) = some (3, 0) := by kernel_rfl
theorem fi172_1 : (fd172[1]?).map (fun f => (f.type, f.offset)) = some (3, 1) := by kernel_rfl
theorem fi174_0 : (fd174[0]?).map (fun f => (f.type, f.offset)) = some (3, 0) := by kernel_rfl
theorem fi174_1 : (fd174[1]?).map (fun f => (f.type, f.offset)) = some (3, 1) := by kernel_rfl
theorem fi26_0 : (fd26[0]?).map (fun f => (f.type, f.offset)) = some (22, 0) := by kernel_rfl
theorem fi26_1 : (fd26[1]?).map (fun f => (f.type, f.offset)) = some (23, 1) := by kernel_rfl
theorem fi26_2 : (fd26[2]?).map (fun f => (f.type, f.offset)) = some (23, 2) := by kernel_rfl
theorem fi26_3 : (fd26[3]?).map (fun f => (f.type, f.offset)) = some (3, 3) := by kernel_rfl
theorem fi26_4 : (fd26[4]?).map (fun f => (f.type, f.offset)) = some (24, 4) := by kernel_rfl
theorem fi31_0 : (fd31[0]?).map (fun f => (f.type, f.offset)) = some (28, 0) := by kernel_rfl
theorem fi31_1 : (fd31[1]?).map (fun f => (f.type, f.offset)) = some (23, 1) := by kernel_rfl
theorem fi31_2 : (fd31[2]?).map (fun f => (f.type, f.offset)) = some (23, 2) := by kernel_rfl
theorem fi31_3 : (fd31[3]?).map (fun f => (f.type, f.offset)) = some (3, 3) := by kernel_rfl
theorem fi31_4 : (fd31[4]?).map (fun f => (f.type, f.offset)) = some (29, 4) := by kernel_rfl
theorem fi46_0 : (fd46[0]?).map (fun f => (f.type, f.offset)) = some (3, 0) := by kernel_rfl
theorem fi46_1 : (fd46[1]?).map (fun f => (f.type, f.offset)) = some (3, 1) := by kernel_rfl
theorem fi46_2 : (fd46[2]?).map (fun f => (f.type, f.offset)) = some (3, 2) := by kernel_rfl
theorem fi46_3 : (fd46[3]?).map (fun f => (f.type, f.offset)) = some (3, 3) := by kernel_rfl
theorem fi49_0 : (fd49[0]?).map (fun f => (f.type, f.offset)) = some (3, 0) := by kernel_rfl
theorem fi49_1 : (fd49[1]?).map (fun f => (f.type, f.offset)) = some (3, 1) := by kernel_rfl
theorem fi49_2 : (fd49[2]?).map (fun f => (f.type, f.offset)) = some (3, 2) := by kernel_rfl
theorem fi49_3 : (fd49[3]?).map (fun f => (f.type, f.offset)) = some (3, 3) := by kernel_rfl
theorem fi89_0 : (fd89[0]?).map (fun f => (f.type, f.offset)) = some (3, 0) := by kernel_rfl
theorem fi89_1 : (fd89[1]?).map (fun f => (f.type, f.offset)) = some (87, 1) := by kernel_rfl
theorem fi89_2 : (fd89[2]?).map (fun f => (f.type, f.offset)) = some (23, 2) := by kernel_rfl
theorem c103 : Callable Tryz.prog 103 := ⟨Tryz.f103, Tryz.func103, by kernel_rfl, by kernel_rfl⟩
theorem c104 : Callable Tryz.prog 104 := ⟨Tryz.f104, Tryz.func104, by kernel_rfl, by kernel_rfl⟩
theorem c105 : Callable Tryz.prog 105 := ⟨Tryz.f105, Tryz.func105, by kernel_rfl, by kernel_rfl⟩
theorem c106 : Callable Tryz.prog 106 := ⟨Tryz.f106, Tryz.func106, by kernel_rfl, by kernel_rfl⟩
theorem c107 : Callable Tryz.prog 107 := ⟨Tryz.f107, Tryz.func107, by kernel_rfl, by kernel_rfl⟩
theorem c108 : Callable Tryz.prog 108 := ⟨Tryz.f108, Tryz.func108, by kernel_rfl, by kernel_rfl⟩
theorem c109 : Callable Tryz.prog 109 := ⟨Tryz.f109, Tryz.func109, by kernel_rfl, by kernel_rfl⟩
theorem c11 : Callable Tryz.prog 11 := ⟨Tryz.f11, Tryz.func11, by kernel_rfl, by kernel_rfl⟩
theorem c110 : Callable Tryz.prog 110 := ⟨Tryz.f110, Tryz.func110, by kernel_rfl, by kernel_rfl⟩
theorem c111 : Callable Tryz.prog 111 := ⟨Tryz.f111, Tryz.func111, by kernel_rfl, by kernel_rfl⟩
theorem c112 : Callable Tryz.prog 112 := ⟨Tryz.f112, Tryz.func112, by kernel_rfl, by kernel_rfl⟩
theorem c113 : Callable Tryz.prog 113 := ⟨Tryz.f113, Tryz.func113, by kernel_rfl, by kernel_rfl⟩
theorem c114 : Callable Tryz.prog 114 := ⟨Tryz.f114, Tryz.func114, by kernel_rfl, by kernel_rfl⟩
theorem c115 : Callable Tryz.prog 115 := ⟨Tryz.f115, Tryz.func115, by kernel_rfl, by kernel_rfl⟩
theorem c116 : Callable Tryz.prog 116 := ⟨Tryz.f116, Tryz.func116, by kernel_rfl, by kernel_rfl⟩
theorem c117 : Callable Tryz.prog 117 := ⟨Tryz.f117, Tryz.func117, by kernel_rfl, by kernel_rfl⟩
theorem c118 : Callable Tryz.prog 118 := ⟨Tryz.f118, Tryz.func118, by kernel_rfl, by kernel_rfl⟩
theorem c119 : Callable Tryz.prog 119 := ⟨Tryz.f119, Tryz.func119, by kernel_rfl, by kernel_rfl⟩
theorem c12 : Callable Tryz.prog 12 := ⟨Tryz.f12, Tryz.func12, by kernel_rfl, by kernel_rfl⟩
theorem c120 : Callable Tryz.prog 120 := ⟨Tryz.f120, Tryz.func120, by kernel_rfl, by kernel_rfl⟩
theorem c121 : Callable Tryz.prog 121 := ⟨Tryz.f121, Tryz.func121, by kernel_rfl, by kernel_rfl⟩
theorem c122 : Callable Tryz.prog 122 := ⟨Tryz.f122, Tryz.func122, by kernel_rfl, by kernel_rfl⟩
theorem c124 : Callable Tryz.prog 124 := ⟨Tryz.f124, Tryz.func124, by kernel_rfl, by kernel_rfl⟩
theorem c125 : Callable Tryz.prog 125 := ⟨Tryz.f125, Tryz.func125, by kernel_rfl, by kernel_rfl⟩
theorem c126 : Callable Tryz.prog 126 := ⟨Tryz.f126, Tryz.func126, by kernel_rfl, by kernel_rfl⟩
theorem c127 : Callable Tryz.prog 127 := ⟨Tryz.f127, Tryz.func127, by kernel_rfl, by kernel_rfl⟩
theorem c128 : Callable Tryz.prog 128 := ⟨Tryz.f128, Tryz.func128, by kernel_rfl, by kernel_rfl⟩
theorem c129 : Callable Tryz.prog 129 := ⟨Tryz.f129, Tryz.func129, by kernel_rfl, by kernel_rfl⟩
theorem c13 : Callable Tryz.prog 13 := ⟨Tryz.f13, Tryz.func13, by kernel_rfl, by kernel_rfl⟩
theorem c130 : Callable Tryz.prog 130 := ⟨Tryz.f130, Tryz.func130, by kernel_rfl, by kernel_rfl⟩
theorem c132 : Callable Tryz.prog 132 := ⟨Tryz.f132, Tryz.func132, by kernel_rfl, by kernel_rfl⟩
theorem c133 : Callable Tryz.prog 133 := ⟨Tryz.f133, Tryz.func133, by kernel_rfl, by kernel_rfl⟩
theorem c137 : Callable Tryz.prog 137 := ⟨Tryz.f137, Tryz.func137, by kernel_rfl, by kernel_rfl⟩
theorem c138 : Callable Tryz.prog 138 := ⟨Tryz.f138, Tryz.func138, by kernel_rfl, by kernel_rfl⟩
theorem c139 : Callable Tryz.prog 139 := ⟨Tryz.f139, Tryz.func139, by kernel_rfl, by kernel_rfl⟩
theorem c140 : Callable Tryz.prog 140 := ⟨Tryz.f140, Tryz.func140, by kernel_rfl, by kernel_rfl⟩
theorem c141 : Callable Tryz.prog 141 := ⟨Tryz.f141, Tryz.func141, by kernel_rfl, by kernel_rfl⟩
theorem c142 : Callable Tryz.prog 142 := ⟨Tryz.f142, Tryz.func142, by kernel_rfl, by kernel_rfl⟩
theorem c143 : Callable Tryz.prog 143 := ⟨Tryz.f143, Tryz.func143, by kernel_rfl, by kernel_rfl⟩
theorem c144 : Callable Tryz.prog 144 := ⟨Tryz.f144, Tryz.func144, by kernel_rfl, by kernel_rfl⟩
theorem c145 : Callable Tryz.prog 145 := ⟨Tryz.f145, Tryz.func145, by kernel_rfl, by kernel_rfl⟩
theorem c146 : Callable Tryz.prog 146 := ⟨Tryz.f146, Tryz.func146, by kernel_rfl, by kernel_rfl⟩
theorem c147 : Callable Tryz.prog 147 := ⟨Tryz.f147, Tryz.func147, by kernel_rfl, by kernel_rfl⟩
theorem c148 : Callable Tryz.prog 148 := ⟨Tryz.f148, Tryz.func148, by kernel_rfl, by kernel_rfl⟩
theorem c149 : Callable Tryz.prog 149 := ⟨Tryz.f149, Tryz.func149, by kernel_rfl, by kernel_rfl⟩
theorem c150 : Callable Tryz.prog 150 := ⟨Tryz.f150, Tryz.func150, by kernel_rfl, by kernel_rfl⟩
theorem c151 : Callable Tryz.prog 151 := ⟨Tryz.f151, Tryz.func151, by kernel_rfl, by kernel_rfl⟩
theorem c152 : Callable Tryz.prog 152 := ⟨Tryz.f152, Tryz.func152, by kernel_rfl, by kernel_rfl⟩
theorem c153 : Callable Tryz.prog 153 := ⟨Tryz.f153, Tryz.func153, by kernel_rfl, by kernel_rfl⟩
theorem c162 : Callable Tryz.prog 162 := ⟨Tryz.f162, Tryz.func162, by kernel_rfl, by kernel_rfl⟩
theorem c163 : Callable Tryz.prog 163 := ⟨Tryz.f163, Tryz.func163, by kernel_rfl, by kernel_rfl⟩
theorem c164 : Callable Tryz.prog 164 := ⟨Tryz.f164, Tryz.func164, by kernel_rfl, by kernel_rfl⟩
theorem c165 : Callable Tryz.prog 165 := ⟨Tryz.f165, Tryz.func165, by kernel_rfl, by kernel_rfl⟩
theorem c166 : Callable Tryz.prog 166 := ⟨Tryz.f166, Tryz.func166, by kernel_rfl, by kernel_rfl⟩
theorem c167 : Callable Tryz.prog 167 := ⟨Tryz.f167, Tryz.func167, by kernel_rfl, by kernel_rfl⟩
theorem c168 : Callable Tryz.prog 168 := ⟨Tryz.f168, Tryz.func168, by kernel_rfl, by kernel_rfl⟩
theorem c182 : Callable Tryz.prog 182 := ⟨Tryz.f182, Tryz.func182, by kernel_rfl, by kernel_rfl⟩
theorem c193 : Callable Tryz.prog 193 := ⟨Tryz.f193, Tryz.func193, by kernel_rfl, by kernel_rfl⟩
theorem c21 : Callable Tryz.prog 21 := ⟨Tryz.f21, Tryz.func21, by kernel_rfl, by kernel_rfl⟩
theorem c22 : Callable Tryz.prog 22 := ⟨Tryz.f22, Tryz.func22, by kernel_rfl, by kernel_rfl⟩
theorem c23 : Callable Tryz.prog 23 := ⟨Tryz.f23, Tryz.func23, by kernel_rfl, by kernel_rfl⟩
theorem c30 : Callable Tryz.prog 30 := ⟨Tryz.f30, Tryz.func30, by kernel_rfl, by kernel_rfl⟩
theorem c31 : Callable Tryz.prog 31 := ⟨Tryz.f31, Tryz.func31, by kernel_rfl, by kernel_rfl⟩
theorem c32 : Callable Tryz.prog 32 := ⟨Tryz.f32, Tryz.func32, by kernel_rfl, by kernel_rfl⟩
theorem c33 : Callable Tryz.prog 33 := ⟨Tryz.f33, Tryz.func33, by kernel_rfl, by kernel_rfl⟩
theorem c36 : Callable Tryz.prog 36 := ⟨Tryz.f36, Tryz.func36, by kernel_rfl, by kernel_rfl⟩
theorem c42 : Callable Tryz.prog 42 := ⟨Tryz.f42, Tryz.func42, by kernel_rfl, by kernel_rfl⟩
theorem c43 : Callable Tryz.prog 43 := ⟨Tryz.f43, Tryz.func43, by kernel_rfl, by kernel_rfl⟩
theorem c44 : Callable Tryz.prog 44 := ⟨Tryz.f44, Tryz.func44, by kernel_rfl, by kernel_rfl⟩
theorem c45 : Callable Tryz.prog 45 := ⟨Tryz.f45, Tryz.func45, by kernel_rfl, by kernel_rfl⟩
theorem c46 : Callable Tryz.prog 46 := ⟨Tryz.f46, Tryz.func46, by kernel_rfl, by kernel_rfl⟩
theorem c47 : Callable Tryz.prog 47 := ⟨Tryz.f47, Tryz.func47, by kernel_rfl, by kernel_rfl⟩
theorem c48 : Callable Tryz.prog 48 := ⟨Tryz.f48, Tryz.func48, by kernel_rfl, by kernel_rfl⟩
theorem c51 : Callable Tryz.prog 51 := ⟨Tryz.f51, Tryz.func51, by kernel_rfl, by kernel_rfl⟩
theorem c53 : Callable Tryz.prog 53 := ⟨Tryz.f53, Tryz.func53, by kernel_rfl, by kernel_rfl⟩
theorem c54 : Callable Tryz.prog 54 := ⟨Tryz.f54, Tryz.func54, by kernel_rfl, by kernel_rfl⟩
theorem c55 : Callable Tryz.prog 55 := ⟨Tryz.f55, Tryz.func55, by kernel_rfl, by kernel_rfl⟩
theorem c56 : Callable Tryz.prog 56 := ⟨Tryz.f56, Tryz.func56, by kernel_rfl, by kernel_rfl⟩
theorem c57 : Callable Tryz.prog 57 := ⟨Tryz.f57, Tryz.func57, by kernel_rfl, by kernel_rfl⟩
theorem c58 : Callable Tryz.prog 58 := ⟨Tryz.f58, Tryz.func58, by kernel_rfl, by kernel_rfl⟩
theorem c59 : Callable Tryz.prog 59 := ⟨Tryz.f59, Tryz.func59, by kernel_rfl, by kernel_rfl⟩
theorem c60 : Callable Tryz.prog 60 := ⟨Tryz.f60, Tryz.func60, by kernel_rfl, by kernel_rfl⟩
theorem c61 : Callable Tryz.prog 61 := ⟨Tryz.f61, Tryz.func61, by kernel_rfl, by kernel_rfl⟩
theorem c63 : Callable Tryz.prog 63 := ⟨Tryz.f63, Tryz.func63, by kernel_rfl, by kernel_rfl⟩
theorem c64 : Callable Tryz.prog 64 := ⟨Tryz.f64, Tryz.func64, by kernel_rfl, by kernel_rfl⟩
theorem c65 : Callable Tryz.prog 65 := ⟨Tryz.f65, Tryz.func65, by kernel_rfl, by kernel_rfl⟩
theorem c66 : Callable Tryz.prog 66 := ⟨Tryz.f66, Tryz.func66, by kernel_rfl, by kernel_rfl⟩
theorem c67 : Callable Tryz.prog 67 := ⟨Tryz.f67, Tryz.func67, by kernel_rfl, by kernel_rfl⟩
theorem c68 : Callable Tryz.prog 68 := ⟨Tryz.f68, Tryz.func68, by kernel_rfl, by kernel_rfl⟩
theorem c69 : Callable Tryz.prog 69 := ⟨Tryz.f69, Tryz.func69, by kernel_rfl, by kernel_rfl⟩
theorem c7 : Callable Tryz.prog 7 := ⟨Tryz.f7, Tryz.func7, by kernel_rfl, by kernel_rfl⟩
theorem c70 : Callable Tryz.prog 70 := ⟨Tryz.f70, Tryz.func70, by kernel_rfl, by kernel_rfl⟩
theorem c71 : Callable Tryz.prog 71 := ⟨Tryz.f71, Tryz.func71, by kernel_rfl, by kernel_rfl⟩
theorem c72 : Callable Tryz.prog 72 := ⟨Tryz.f72, Tryz.func72, by kernel_rfl, by kernel_rfl⟩
theorem c73 : Callable Tryz.prog 73 := ⟨Tryz.f73, Tryz.func73, by kernel_rfl, by kernel_rfl⟩
theorem c75 : Callable Tryz.prog 75 := ⟨Tryz.f75, Tryz.func75, by kernel_rfl, by kernel_rfl⟩
theorem c76 : Callable Tryz.prog 76 := ⟨Tryz.f76, Tryz.func76, by kernel_rfl, by kernel_rfl⟩
theorem c77 : Callable Tryz.prog 77 := ⟨Tryz.f77, Tryz.func77, by kernel_rfl, by kernel_rfl⟩
theorem c78 : Callable Tryz.prog 78 := ⟨Tryz.f78, Tryz.func78, by kernel_rfl, by kernel_rfl⟩
theorem c79 : Callable Tryz.prog 79 := ⟨Tryz.f79, Tryz.func79, by kernel_rfl, by kernel_rfl⟩
theorem c80 : Callable Tryz.prog 80 := ⟨Tryz.f80, Tryz.func80, by kernel_rfl, by kernel_rfl⟩
theorem c81 : Callable Tryz.prog 81 := ⟨Tryz.f81, Tryz.func81, by kernel_rfl, by kernel_rfl⟩
theorem c84 : Callable Tryz.prog 84 := ⟨Tryz.f84, Tryz.func84, by kernel_rfl, by kernel_rfl⟩
theorem c85 : Callable Tryz.prog 85 := ⟨Tryz.f85, Tryz.func85, by kernel_rfl, by kernel_rfl⟩
theorem c86 : Callable Tryz.prog 86 := ⟨Tryz.f86, Tryz.func86, by kernel_rfl, by kernel_rfl⟩
theorem c87 : Callable Tryz.prog 87 := ⟨Tryz.f87, Tryz.func87, by kernel_rfl, by kernel_rfl⟩
theorem c88 : Callable Tryz.prog 88 := ⟨Tryz.f88, Tryz.func88, by kernel_rfl, by kernel_rfl⟩
theorem c89 : Callable Tryz.prog 89 := ⟨Tryz.f89, Tryz.func89, by kernel_rfl, by kernel_rfl⟩
theorem c9 : Callable Tryz.prog 9 := ⟨Tryz.f9, Tryz.func9, by kernel_rfl, by kernel_rfl⟩
theorem c90 : Callable Tryz.prog 90 := ⟨Tryz.f90, Tryz.func90, by kernel_rfl, by kernel_rfl⟩
theorem c91 : Callable Tryz.prog 91 := ⟨Tryz.f91, Tryz.func91, by kernel_rfl, by kernel_rfl⟩
theorem c92 : Callable Tryz.prog 92 := ⟨Tryz.f92, Tryz.func92, by kernel_rfl, by kernel_rfl⟩
theorem c96 : Callable Tryz.prog 96 := ⟨Tryz.f96, Tryz.func96, by kernel_rfl, by kernel_rfl⟩
theorem c97 : Callable Tryz.prog 97 := ⟨Tryz.f97, Tryz.func97, by kernel_rfl, by kernel_rfl⟩
theorem c98 : Callable Tryz.prog 98 := ⟨Tryz.f98, Tryz.func98, by kernel_rfl, by kernel_rfl⟩
theorem c99 : Callable Tryz.prog 99 := ⟨Tryz.f99, Tryz.func99, by kernel_rfl, by kernel_rfl⟩
theorem w_laws_szPartS (w : World) (G : List Res) (vp0 : Value) (p0 : LP) (hp0 : Has G ty2 vp0 p0) (p1 : Int) (r : Int) (h : laws_szPartSS p0 p1 = some r) (H : Ctx w G) : Calls Tryz.prog 120 #[vp0, iV p1] w fun e w' => e = .returned (iV r) ∧ Holds M0 w w' [] G := by
 have H : Holds M0 w w [] G := zb H
 refine zg (args := [vp0, iV p1]) (n := 12) Tryz.func120 q q q ?_
 unfold laws_szPartSS at h
 refine rR <| qA q q q <| rN <| qM q q q <| qM q q q <| za H.ctx (t := ty2) (hp0) u101 q q q <| A q (qt_sub q q) q q ?_
 refine qA q q q <| B <| C <| rR <| qM q q q <| A q (qt_lss q q) q q <| B ?_
 refine Y q (fun hc1 => ?_) (fun hc1 => ?_)
 ·have h := if_t hc1 h
  refine rR <| qA q q q <| B <| W fun a ha => ?_
  obtain rfl := L h
  exact m (ret1 q ha q ⟨q, H⟩)
 have h := if_f hc1 h
 refine y <| rR <| qM q q q <| qA q q q <| B <| W fun a ha => ?_
 obtain rfl := L h
 exact ret1 q ha q ⟨q, H⟩
theorem w_laws_szItem (w : World) (G : List Res) (B0 : Int) (A1 : Value) (B1 : LP) (C1 : Has G ty2 A1 B1) (B2 : Int) (p1 : Int) (r : Int) (h : laws_szItemS B0 B1 B2 p1 = some r) (H : Ctx w G) : Calls Tryz.prog 75 #[.agg #[iV B0, A1, iV B2], iV p1] w fun e w' => e = .returned (iV r) ∧ Holds M0 w w' [] G := by
 have H : Holds M0 w w [] G := zb H
 refine zg (args := [.agg #[iV B0, A1, iV B2], iV p1]) (n := 12) Tryz.func75 q q q ?_
 unfold laws_szItemS at h
 refine C <| Z ?_
 refine WL_box (cs := [iV B0, A1, iV B2]) H q q q q (fun b1 w2 H3 => ?_)
 refine qA q q q <| B <| C <| zk <| qF uf103 fi103_1 nz101 q q q ?_
 have hB5 := R H3.p0
 refine l u101 q hB5 q q q q <| qM q q q ?_
 obtain ⟨x6, hx7, h⟩ := D h
 refine QC q q c120 (fun w' hb => w_laws_szPartS w' _ A1 B1 (C1.c) p1 x6 hx7 (H3.grow hb).ctx) (by rfl) <| qA q q q <| QL_nil fun a ha w8 hb9 => ?_
 have H10 := H3.grow hb9
 refine X (S ?_ ha)
 refine C <| rR <| qM q q q <| A q (qt_lss q q) q q <| B ?_
 refine Y q (fun hc11 => ?_) (fun hc11 => ?_)
 ·have h := if_t hc11 h
  refine rR <| qA q q q <| B <| W fun a ha => ?_
  obtain rfl := L h
  have H12 := H10.q0
  exact m (ret1 q ha q ⟨q, H12⟩)
 have h := if_f hc11 h
 refine y <| rR <| qM q q q <| qA q q q <| B <| W fun a ha => ?_
 obtain rfl := L h
 have H13 := H10.q0
 exact ret1 q ha q ⟨q, H13⟩
theorem w_laws_szItemS (w : World) (G : List Res) (vp0 : Value) (p0 : LI) (hp0 : Has G ty10 vp0 p0) (p1 : Int) (r : Int) (h : laws_szItemSS p0 p1 = some r) (H : Ctx w G) : Calls Tryz.prog 30 #[vp0, iV p1] w fun e w' => e = .returned (iV r) ∧ Holds M0 w w' [] G := by
 have H : Holds M0 w w [] G := zb H
 refine zg (args := [vp0, iV p1]) (n := 27) Tryz.func30 q q q ?_
 unfold laws_szItemSS at h
 refine rR <| qA q q q <| rN <| qM q q q <| qM q q q <| za H.ctx (t := ty10) (hp0) u22 q q q <| A q (qt_sub q q) q q ?_
 refine qA q q q <| B <| C <| rR <| qM q q q <| A q (qt_lss q q) q q <| B ?_
 refine Y q (fun hc1 => ?_) (fun hc1 => ?_)
 ·have h := if_t hc1 h
  refine rR <| qA q q q <| B <| W fun a ha => ?_
  obtain rfl := L h
  exact m (ret1 q ha q ⟨q, H⟩)
 have h := if_f hc1 h
 refine y <| C <| rR <| qA q q q <| B <| g ?_
 obtain ⟨o4, ho5, h⟩ := D h
 refine fun a6 ha7 => zp (I := fun s a w2 => match s with | (s2, s3) => (Fr a 27 [(0, vp0), (1, iV s2), (5, iV s3)] ∧ Holds M0 w w2 [] G)) (O := fun o e a w2 => match o with | .inl q0 => e = .exit 0 ∧ (Fr a 27 [(1, iV q0)] ∧ Holds M0 w w2 [] G) | .inr q0 => e = .ret ∧ (Fr a 27 [(4, iV q0)] ∧ Holds M0 w w2 [] G)) ho5 ?_ ?_ ?_
 ·exact ⟨ha7.sub ⟨q, q, q, trivial⟩, H⟩
 ·clear ha7
  intro s o10 a w8 hs9 hI11
  obtain ⟨s2, s3⟩ := s
  obtain ⟨ha, H12⟩ := hI11
  refine S ?_ ha
  clear ha
  refine C <| rR <| qM q q q <| qM q q q <| za H12.ctx (t := ty10) (hp0) u22 q q q <| A q (qt_lss q q) q q <| B ?_
  refine Y q (fun hc13 => ?_) (fun hc13 => ?_)
  ·have hs9 := if_t hc13 hs9
   refine y <| C <| g <| C <| zk <| qM q q q <| qM q q q ?_
   obtain ⟨x14, hx15, hs9⟩ := D hs9
   refine b H12.ctx (hp0) hx15 u22 i103 q q q q (fun b16 off17 cap18 hv19 => ?_)
   obtain ⟨F20, hat21, hdup22⟩ := H12.atN (hp0) hx15 hv19
   refine XL_load_agg (t := ty10) us103 uo103 i103 hat21 q q q (fun cs23 hr24 => ?_)
   obtain ⟨c25, c26, F27, F28, rfl, eF31, hr29, hr30⟩ := hr24
   obtain ⟨rfl, _⟩ := hr29
   obtain ⟨c32, c33, F34, F35, rfl, eF38, hr36, hr37⟩ := hr30
   obtain ⟨v39, rfl, hr40⟩ := Rep.sl_inv hr36
   obtain ⟨rfl, _⟩ := hr37
   have H41 : Holds _ w w8 [.ro ty2 v39 x14.2.1] G := hdup22 [.ro ty2 v39 x14.2.1] ⟨⟨_, _, _, _, q, hr40, (fun k h => (fun k h => (fun _ h => h) k (by rw [eF31]; exact zx _ h)) k (by rw [eF38]; exact List.mem_append_left _ h))⟩, trivial⟩
   change XL _ _ _ _ _ ((21, .agg #[iV x14.1, v39, iV x14.2.2]) :: _) _
   refine qM q q q ?_
   obtain ⟨x42, hx43, hs9⟩ := D hs9
   refine QC q q c75 (fun w' hb => w_laws_szItem w' _ x14.1 v39 x14.2.1 hR0 x14.2.2 s2 x42 hx43 (H41.grow hb).ctx) (by rfl) <| qA q q q <| QL_nil fun a ha w44 hb45 => ?_
   have H46 := H41.grow hb45
   refine X (S ?_ ha)
   refine rR <| qM q q q <| A q (qt_lss q q) q q <| B ?_
   refine Y q (fun hc47 => ?_) (fun hc47 => ?_)
   ·have hs9 := if_t hc47 hs9
    refine rR <| qA q q q <| B <| W fun a ha => ?_
    obtain rfl := L hs9
    have H48 := H46.q0
    exact zj (m (⟨ret_ne, q, ha.sub ⟨q, trivial⟩, H48⟩))
   have hs9 := if_f hc47 hs9
   refine WP_skip fun a ha => ?_
   refine zi (X (S ?_ ha))
   refine Z <| qM q q q <| A q (qt_add q q) q q <| qA q q q <| WL_nil fun a ha => ?_
   obtain rfl := L hs9
   have H49 := H46.q0
   exact ⟨q, ha.sub ⟨q, q, q, trivial⟩, H49⟩
  have hs9 := if_f hc13 hs9
  refine WP_exit fun a ha => ?_
  obtain rfl := L hs9
  exact zo (⟨exit_ne, q, ha.sub ⟨q, trivial⟩, H12⟩)
 intro e a6 w50 hO51
 rcases o4 with o4 | o4
 ·skip
  obtain ⟨p52, rfl⟩ : ∃ z, z = o4 := ⟨o4, q⟩
  obtain ⟨rfl, hO54⟩ := hO51
  obtain ⟨ha, H53⟩ := hO54
  refine zn (X (S ?_ ha))
  refine rR <| qM q q q <| qA q q q <| B <| W fun a ha => ?_
  obtain rfl := L h
  exact ret1 q ha q ⟨q, H53⟩
 skip
 obtain ⟨p55, rfl⟩ : ∃ z, z = o4 := ⟨o4, q⟩
 obtain ⟨rfl, hO57⟩ := hO51
 obtain ⟨ha, H56⟩ := hO57
 obtain rfl := L h
 exact zj (m (ret1 q ha q ⟨q, H56⟩))
theorem w_laws_szIntS (w : World) (G : List Res) (vp0 : Value) (p0 : List Int) (hp0 : Has G tI vp0 p0) (p1 : Int) (r : Int) (h : laws_szIntSS p0 p1 = some r) (H : Ctx w G) : Calls Tryz.prog 31 #[vp0, iV p1] w fun e w' => e = .returned (iV r) ∧ Holds M0 w w' [] G := by
 have H : Holds M0 w w [] G := zb H
 refine zg (args := [vp0, iV p1]) (n := 12) Tryz.func31 q q q ?_
 unfold laws_szIntSS at h
 refine rR <| qA q q q <| rN <| qM q q q <| qM q q q <| za H.ctx (t := tI) (hp0) u23 q q q <| A q (qt_sub q q) q q ?_
 refine qA q q q <| B <| C <| rR <| qM q q q <| A q (qt_lss q q) q q <| B ?_
 refine Y q (fun hc1 => ?_) (fun hc1 => ?_)
 ·have h := if_t hc1 h
  refine rR <| qA q q q <| B <| W fun a ha => ?_
  obtain rfl := L h
  exact m (ret1 q ha q ⟨q, H⟩)
 have h := if_f hc1 h
 refine y <| rR <| qM q q q <| qA q q q <| B <| W fun a ha => ?_
 obtain rfl := L h
 exact ret1 q ha q ⟨q, H⟩
theorem w_laws_szOrderS (w : World) (G : List Res) (vp0 : Value) (p0 : LP) (hp0 : Has G ty2 vp0 p0) (p1 : Int) (r : Int) (h : laws_szOrderSS p0 p1 = some r) (H : Ctx w G) : Calls Tryz.prog 121 #[vp0, iV p1] w fun e w' => e = .returned (iV r) ∧ Holds M0 w w' [] G := by
 have H : Holds M0 w w [] G := zb H
 refine zg (args := [vp0, iV p1]) (n := 12) Tryz.func121 q q q ?_
 unfold laws_szOrderSS at h
 refine rR <| qA q q q <| rN <| qM q q q <| qM q q q <| za H.ctx (t := ty2) (hp0) u105 q q q <| A q (qt_sub q q) q q ?_
 refine qA q q q <| B <| C <| rR <| qM q q q <| A q (qt_lss q q) q q <| B ?_
 refine Y q (fun hc1 => ?_) (fun hc1 => ?_)
 ·have h := if_t hc1 h
  refine rR <| qA q q q <| B <| W fun a ha => ?_
  obtain rfl := L h
  exact m (ret1 q ha q ⟨q, H⟩)
 have h := if_f hc1 h
 refine y <| rR <| qM q q q <| qA q q q <| B <| W fun a ha => ?_
 obtain rfl := L h
 exact ret1 q ha q ⟨q, H⟩
theorem w_laws_szTable (w : World) (G : List Res) (B0 : Int) (A1 : Value) (B1 : LP) (C1 : Has G ty2 A1 B1) (A2 : Value) (B2 : List Int) (C2 : Has G tI A2 B2) (p1 : Int) (r : Int) (h : laws_szTableS B0 B1 B2 p1 = some r) (H : Ctx w G) : Calls Tryz.prog 76 #[.agg #[iV B0, A1, A2], iV p1] w fun e w' => e = .returned (iV r) ∧ Holds M0 w w' [] G := by
 have H : Holds M0 w w [] G := zb H
 refine zg (args := [.agg #[iV B0, A1, A2], iV p1]) (n := 18) Tryz.func76 q q q ?_
 unfold laws_szTableS at h
 refine C <| Z ?_
 refine WL_box (cs := [iV B0, A1, A2]) H q q q q (fun b1 w2 H3 => ?_)
 refine qA q q q <| B <| C <| zk <| qF uf107 fi107_1 nz105 q q q ?_
 have hB5 := R H3.p0
 refine l u105 q hB5 q q q q <| qM q q q ?_
 obtain ⟨x6, hx7, h⟩ := D h
 refine QC q q c121 (fun w' hb => w_laws_szOrderS w' _ A1 B1 (C1.c) p1 x6 hx7 (H3.grow hb).ctx) (by rfl) <| qA q q q <| QL_nil fun a ha w8 hb9 => ?_
 have H10 := H3.grow hb9
 refine X (S ?_ ha)
 refine C <| rR <| qM q q q <| A q (qt_lss q q) q q <| B ?_
 refine Y q (fun hc11 => ?_) (fun hc11 => ?_)
 ·have h := if_t hc11 h
  refine rR <| qA q q q <| B <| W fun a ha => ?_
  obtain rfl := L h
  have H12 := H10.q0
  exact m (ret1 q ha q ⟨q, H12⟩)
 have h := if_f hc11 h
 refine y <| C <| zk <| qF uf107 fi107_2 nz23 q q q ?_
 have hB13 := R H10.p0
 refine l u23 q hB13 q q q q <| qM q q q ?_
 obtain ⟨x14, hx15, h⟩ := D h
 refine QC q q c31 (fun w' hb => w_laws_szIntS w' _ A2 B2 (C2.c) x6 x14 hx15 (H10.grow hb).ctx) (by rfl) <| qA q q q <| QL_nil fun a ha w16 hb17 => ?_
 have H18 := H10.grow hb17
 refine X (S ?_ ha)
 refine C <| rR <| qM q q q <| A q (qt_lss q q) q q <| B ?_
 refine Y q (fun hc19 => ?_) (fun hc19 => ?_)
 ·have h := if_t hc19 h
  refine rR <| qA q q q <| B <| W fun a ha => ?_
  obtain rfl := L h
  have H20 := H18.q0
  exact m (ret1 q ha q ⟨q, H20⟩)
 have h := if_f hc19 h
 refine y <| rR <| qM q q q <| qA q q q <| B <| W fun a ha => ?_
 obtain rfl := L h
 have H21 := H18.q0
 exact ret1 q ha q ⟨q, H21⟩
theorem w_laws_szTableS (w : World) (G : List Res) (vp0 : Value) (p0 : LT) (hp0 : Has G ty12 vp0 p0) (p1 : Int) (r : Int) (h : laws_szTableSS p0 p1 = some r) (H : Ctx w G) : Calls Tryz.prog 32 #[vp0, iV p1] w fun e w' => e = .returned (iV r) ∧ Holds M0 w w' [] G := by
 have H : Holds M0 w w [] G := zb H
 refine zg (args := [vp0, iV p1]) (n := 27) Tryz.func32 q q q ?_
 unfold laws_szTableSS at h
 refine rR <| qA q q q <| rN <| qM q q q <| qM q q q <| za H.ctx (t := ty12) (hp0) u24 q q q <| A q (qt_sub q q) q q ?_
 refine qA q q q <| B <| C <| rR <| qM q q q <| A q (qt_lss q q) q q <| B ?_
 refine Y q (fun hc1 => ?_) (fun hc1 => ?_)
 ·have h := if_t hc1 h
  refine rR <| qA q q q <| B <| W fun a ha => ?_
  obtain rfl := L h
  exact m (ret1 q ha q ⟨q, H⟩)
 have h := if_f hc1 h
 refine y <| C <| rR <| qA q q q <| B <| g ?_
 obtain ⟨o4, ho5, h⟩ := D h
 refine fun a6 ha7 => zp (I := fun s a w2 => match s with | (s2, s3) => (Fr a 27 [(0, vp0), (1, iV s2), (5, iV s3)] ∧ Holds M0 w w2 [] G)) (O := fun o e a w2 => match o with | .inl q0 => e = .exit 0 ∧ (Fr a 27 [(1, iV q0)] ∧ Holds M0 w w2 [] G) | .inr q0 => e = .ret ∧ (Fr a 27 [(4, iV q0)] ∧ Holds M0 w w2 [] G)) ho5 ?_ ?_ ?_
 ·exact ⟨ha7.sub ⟨q, q, q, trivial⟩, H⟩
 ·clear ha7
  intro s o10 a w8 hs9 hI11
  obtain ⟨s2, s3⟩ := s
  obtain ⟨ha, H12⟩ := hI11
  refine S ?_ ha
  clear ha
  refine C <| rR <| qM q q q <| qM q q q <| za H12.ctx (t := ty12) (hp0) u24 q q q <| A q (qt_lss q q) q q <| B ?_
  refine Y q (fun hc13 => ?_) (fun hc13 => ?_)
  ·have hs9 := if_t hc13 hs9
   refine y <| C <| g <| C <| zk <| qM q q q <| qM q q q ?_
   obtain ⟨x14, hx15, hs9⟩ := D hs9
   refine b H12.ctx (hp0) hx15 u24 i107 q q q q (fun b16 off17 cap18 hv19 => ?_)
   obtain ⟨F20, hat21, hdup22⟩ := H12.atN (hp0) hx15 hv19
   refine XL_load_agg (t := ty12) us107 uo107 i107 hat21 q q q (fun cs23 hr24 => ?_)
   obtain ⟨c25, c26, F27, F28, rfl, eF31, hr29, hr30⟩ := hr24
   obtain ⟨rfl, _⟩ := hr29
   obtain ⟨c32, c33, F34, F35, rfl, eF38, hr36, hr37⟩ := hr30
   obtain ⟨v39, rfl, hr40⟩ := Rep.sl_inv hr36
   obtain ⟨v41, rfl, hr42⟩ := Rep.sl_inv hr37
   have H43 : Holds _ w w8 [.ro ty2 v39 x14.2.1, .ro tI v41 x14.2.2] G := hdup22 [.ro ty2 v39 x14.2.1, .ro tI v41 x14.2.2] ⟨⟨_, _, _, _, q, hr40, (fun k h => (fun k h => (fun _ h => h) k (by rw [eF31]; exact zx _ h)) k (by rw [eF38]; exact List.mem_append_left _ h))⟩, ⟨_, _, _, _, q, hr42, (fun k h => (fun k h => (fun _ h => h) k (by rw [eF31]; exact zx _ h)) k (by rw [eF38]; exact zx _ h))⟩, trivial⟩
   change XL _ _ _ _ _ ((21, .agg #[iV x14.1, v39, v41]) :: _) _
   refine qM q q q ?_
   obtain ⟨x44, hx45, hs9⟩ := D hs9
   refine QC q q c76 (fun w' hb => w_laws_szTable w' _ x14.1 v39 x14.2.1 hR0 v41 x14.2.2 hR1 s2 x44 hx45 (H43.grow hb).ctx) (by rfl) <| qA q q q <| QL_nil fun a ha w46 hb47 => ?_
   have H48 := H43.grow hb47
   refine X (S ?_ ha)
   refine rR <| qM q q q <| A q (qt_lss q q) q q <| B ?_
   refine Y q (fun hc49 => ?_) (fun hc49 => ?_)
   ·have hs9 := if_t hc49 hs9
    refine rR <| qA q q q <| B <| W fun a ha => ?_
    obtain rfl := L hs9
    have H50 := H48.q0.q0
    exact zj (m (⟨ret_ne, q, ha.sub ⟨q, trivial⟩, H50⟩))
   have hs9 := if_f hc49 hs9
   refine WP_skip fun a ha => ?_
   refine zi (X (S ?_ ha))
   refine Z <| qM q q q <| A q (qt_add q q) q q <| qA q q q <| WL_nil fun a ha => ?_
   obtain rfl := L hs9
   have H51 := H48.q0.q0
   exact ⟨q, ha.sub ⟨q, q, q, trivial⟩, H51⟩
  have hs9 := if_f hc13 hs9
  refine WP_exit fun a ha => ?_
  obtain rfl := L hs9
  exact zo (⟨exit_ne, q, ha.sub ⟨q, trivial⟩, H12⟩)
 intro e a6 w52 hO53
 rcases o4 with o4 | o4
 ·skip
  obtain ⟨p54, rfl⟩ : ∃ z, z = o4 := ⟨o4, q⟩
  obtain ⟨rfl, hO56⟩ := hO53
  obtain ⟨ha, H55⟩ := hO56
  refine zn (X (S ?_ ha))
  refine rR <| qM q q q <| qA q q q <| B <| W fun a ha => ?_
  obtain rfl := L h
  exact ret1 q ha q ⟨q, H55⟩
 skip
 obtain ⟨p57, rfl⟩ : ∃ z, z = o4 := ⟨o4, q⟩
 obtain ⟨rfl, hO59⟩ := hO53
 obtain ⟨ha, H58⟩ := hO59
 obtain rfl := L h
 exact zj (m (ret1 q ha q ⟨q, H58⟩))
theorem w_laws_szHouse (w : World) (G : List Res) (A0 : Value) (B0 : LI) (C0 : Has G ty10 A0 B0) (A1 : Value) (B1 : List Int) (C1 : Has G tI A1 B1) (A2 : Value) (B2 : List Int) (C2 : Has G tI A2 B2) (B3 : Int) (A4 : Value) (B4 : LT) (C4 : Has G ty12 A4 B4) (p1 : Int) (r : Int) (h : laws_szHouseS B0 B1 B2 B3 B4 p1 = some r) (H : Ctx w G) : Calls Tryz.prog 7 #[.agg #[A0, A1, A2, iV B3, A4], iV p1] w fun e w' => e = .returned (iV r) ∧ Holds M0 w w' [] G := by
 have H : Holds M0 w w [] G := zb H
 refine zg (args := [.agg #[A0, A1, A2, iV B3, A4], iV p1]) (n := 30) Tryz.func7 q q q ?_
 unfold laws_szHouseS at h
 refine C <| Z ?_
 refine WL_box (cs := [A0, A1, A2, iV B3, A4]) H q q q q (fun b1 w2 H3 => ?_)
 refine qA q q q <| B <| C <| zk <| qF uf26 fi26_0 nz22 q q q ?_
 have hB5 := R H3.p0
 refine l u22 q hB5 q q q q <| qM q q q ?_
 obtain ⟨x6, hx7, h⟩ := D h
 refine QC q q c30 (fun w' hb => w_laws_szItemS w' _ A0 B0 (C0.c) p1 x6 hx7 (H3.grow hb).ctx) (by rfl) <| qA q q q <| QL_nil fun a ha w8 hb9 => ?_
 have H10 := H3.grow hb9
 refine X (S ?_ ha)
 refine C <| rR <| qM q q q <| A q (qt_lss q q) q q <| B ?_
 refine Y q (fun hc11 => ?_) (fun hc11 => ?_)
 ·have h := if_t hc11 h
  refine rR <| qA q q q <| B <| W fun a ha => ?_
  obtain rfl := L h
  have H12 := H10.q0
  exact m (ret1 q ha q ⟨q, H12⟩)
 have h := if_f hc11 h
 refine y <| C <| zk <| qF uf26 fi26_1 nz23 q q q ?_
 have hB13 := R H10.p0
 refine l u23 q hB13 q q q q <| qM q q q ?_
 obtain ⟨x14, hx15, h⟩ := D h
 refine QC q q c31 (fun w' hb => w_laws_szIntS w' _ A1 B1 (C1.c) x6 x14 hx15 (H10.grow hb).ctx) (by rfl) <| qA q q q <| QL_nil fun a ha w16 hb17 => ?_
 have H18 := H10.grow hb17
 refine X (S ?_ ha)
 refine C <| rR <| qM q q q <| A q (qt_lss q q) q q <| B ?_
 refine Y q (fun hc19 => ?_) (fun hc19 => ?_)
 ·have h := if_t hc19 h
  refine rR <| qA q q q <| B <| W fun a ha => ?_
  obtain rfl := L h
  have H20 := H18.q0
  exact m (ret1 q ha q ⟨q, H20⟩)
 have h := if_f hc19 h
 refine y <| C <| zk <| qF uf26 fi26_2 nz23 q q q ?_
 have hB21 := R H18.p0
 refine l u23 q hB21 q q q q <| qM q q q ?_
 obtain ⟨x22, hx23, h⟩ := D h
 refine QC q q c31 (fun w' hb => w_laws_szIntS w' _ A2 B2 (C2.c) x14 x22 hx23 (H18.grow hb).ctx) (by rfl) <| qA q q q <| QL_nil fun a ha w24 hb25 => ?_
 have H26 := H18.grow hb25
 refine X (S ?_ ha)
 refine C <| rR <| qM q q q <| A q (qt_lss q q) q q <| B ?_
 refine Y q (fun hc27 => ?_) (fun hc27 => ?_)
 ·have h := if_t hc27 h
  refine rR <| qA q q q <| B <| W fun a ha => ?_
  obtain rfl := L h
  have H28 := H26.q0
  exact m (ret1 q ha q ⟨q, H28⟩)
 have h := if_f hc27 h
 refine y <| C <| zk <| qF uf26 fi26_4 nz24 q q q ?_
 have hB29 := R H26.p0
 refine l u24 q hB29 q q q q <| qM q q q ?_
 obtain ⟨x30, hx31, h⟩ := D h
 refine QC q q c32 (fun w' hb => w_laws_szTableS w' _ A4 B4 (C4.c) x22 x30 hx31 (H26.grow hb).ctx) (by rfl) <| qA q q q <| QL_nil fun a ha w32 hb33 => ?_
 have H34 := H26.grow hb33
 refine X (S ?_ ha)
 refine C <| rR <| qM q q q <| A q (qt_lss q q) q q <| B ?_
 refine Y q (fun hc35 => ?_) (fun hc35 => ?_)
 ·have h := if_t hc35 h
  refine rR <| qA q q q <| B <| W fun a ha => ?_
  obtain rfl := L h
  have H36 := H34.q0
  exact m (ret1 q ha q ⟨q, H36⟩)
 have h := if_f hc35 h
 refine y <| rR <| qM q q q <| qA q q q <| B <| W fun a ha => ?_
 obtain rfl := L h
 have H37 := H34.q0
 exact ret1 q ha q ⟨q, H37⟩
theorem w_laws_toPart (w : World) (G : List Res) (B0 : Int) (B1 : Int) (r : (Int × Int)) (h : laws_toPartS B0 B1 = some r) (H : Ctx w G) : Calls Tryz.prog 150 #[.agg #[iV B0, iV B1]] w fun e w' => e = .returned (.agg #[iV r.1, iV r.2]) ∧ Holds M0 w w' [] G := by
 have H : Holds M0 w w [] G := zb H
 refine zg (args := [.agg #[iV B0, iV B1]]) (n := 11) Tryz.func150 q q q ?_
 unfold laws_toPartS at h
 refine C <| Z ?_
 refine WL_box (cs := [iV B0, iV B1]) H q q q q (fun b1 w2 H3 => ?_)
 refine zq (cs := [iV 0, iV 0]) H3 z162 q q q (fun b5 w6 H7 => ?_)
 refine B <| C <| Z ?_
 refine zq (cs := [iV 0, iV 0]) H7 z162 q q q (fun b9 w10 H11 => ?_)
 refine rN <| qF uf172 fi172_0 nz3 q q q ?_
 have hB13 := R H11.p2
 refine l u3 q hB13 q q q q <| qF uf162 fi162_0 nz3 q q q ?_
 refine WL_store_bx H11 q il3 q q q q q (fun w14 H15 => ?_)
 refine rN <| qF uf172 fi172_1 nz3 q q q ?_
 have hB17 := R H15.p2
 refine l u3 q hB17 q q q q <| qF uf162 fi162_1 nz3 q q q ?_
 refine WL_store_bx H15 q il3 q q q q q (fun w18 H19 => ?_)
 refine B <| C <| Z ?_
 have hB21 := R H19.p0
 refine zm (cs := [iV B0, iV B1]) us162 uo162 il162 hB21 q q q ?_
 change XL _ _ _ _ _ ((10, .agg #[iV B0, iV B1]) :: _) _
 have H22 := H19.p1
 refine zl (cs' := [iV B0, iV B1]) H22 q il162 q q q q q (fun w23 H24 => ?_)
 refine B <| W fun a ha => ?_
 obtain rfl := L h
 have hB26 := R H24.p0
 have H27 := H24.q0.q0.q0
 exact retc q ha q (run_loadVar_bx (cs := [iV B0, iV B1]) us162 uo162 il162 hB26) ⟨q, H27⟩
theorem w_laws_toPartS (w : World) (G : List Res) (vp0 : Value) (p0 : LP) (hp0 : Has G ty2 vp0 p0) (r : LP) (h : laws_toPartSS p0 = some r) (H : Ctx w G) : Calls Tryz.prog 127 #[vp0] w fun e w' => ∃ (v1 : Value), e = .returned (v1) ∧ Holds M0 w w' [.sl 162 ty2 v1 r] G := by
 have H : Holds M0 w w [] G := zb H
 refine zg (args := [vp0]) (n := 23) Tryz.func127 q q q ?_
 unfold laws_toPartSS at h
 refine rR <| qA q q q <| rN <| qM q q q <| za H.ctx (t := ty2) (hp0) u101 q q q ?_
 obtain ⟨x1, hx2, h⟩ := D h
 refine WL_makeH H hx2 u113 j162 q (fun _ => ⟨_, _, [], [], q, q, ⟨q, q⟩, ⟨q, q⟩⟩) q q q q q (fun v3 w4 H5 => ?_)
 refine qA q q q <| B <| C <| rR <| qA q q q <| B <| g ?_
 obtain ⟨o9, ho10, h⟩ := D h
 refine fun a11 ha12 => zp (I := fun s a w2 => match s with | (s7, s8) => (Fr a 23 [(0, vp0), (3, v3), (4, iV s7)] ∧ Holds M0 w w2 [.sl 162 ty2 v3 s8] G)) (O := fun o e a w2 => match o with | q0 => e = .exit 0 ∧ (Fr a 23 [(3, v3)] ∧ Holds M0 w w2 [.sl 162 ty2 v3 q0] G)) ho10 ?_ ?_ ?_
 ·exact ⟨ha12.sub ⟨q, q, q, trivial⟩, H5⟩
 ·clear ha12
  intro s o15 a w13 hs14 hI16
  obtain ⟨s7, s8⟩ := s
  obtain ⟨ha, H17⟩ := hI16
  refine S ?_ ha
  clear ha
  refine C <| rR <| qM q q q <| qM q q q <| za H17.ctx (t := ty2) (hp0.c) u101 q q q <| A q (qt_lss q q) q q <| B ?_
  refine Y q (fun hc18 => ?_) (fun hc18 => ?_)
  ·have hs14 := if_t hc18 hs14
   refine y <| C <| g <| Z <| qM q q q <| qM q q q <| qM q q q <| qM q q q ?_
   obtain ⟨x19, hx20, hs14⟩ := D hs14
   refine b H17.ctx (hp0.c) hx20 u101 i172 q q q q (fun b21 off22 cap23 hv24 => ?_)
   obtain ⟨F25, hat26, hdup27⟩ := H17.atN (hp0.c) hx20 hv24
   refine XL_load_agg (t := ty2) us172 uo172 i172 hat26 q q q (fun cs28 hr29 => ?_)
   obtain ⟨c30, c31, F32, F33, rfl, eF36, hr34, hr35⟩ := hr29
   obtain ⟨rfl, _⟩ := hr34
   obtain ⟨rfl, _⟩ := hr35
   change XL _ _ _ _ _ ((19, .agg #[iV x19.1, iV x19.2]) :: _) _
   obtain ⟨x37, hx38, hs14⟩ := D hs14
   refine zd q q c150 (w_laws_toPart w13 _ x19.1 x19.2 x37 hx38 H17.ctx) (by rfl) ?_
   rintro _ w39 ⟨rfl, H40⟩; refine ⟨_, q, ?_⟩
   have H41 := H17.cN0 [] H40
   obtain ⟨x42, hx43, hs14⟩ := D hs14
   refine b H41.ctx hS0 hx43 u113 i162 q q q q (fun b44 off45 cap46 hv47 => ?_)
   refine WL_storeH (fo := 0) (cs' := [iV x37.1, iV x37.2]) H41 hx43 hv47 (Upd.whole (Blt.pair (Blt.int) (Blt.int))) q il162 q q q q (fun w48 H49 => ?_)
   refine WL_nil fun a ha => ?_
   refine zi (X (S ?_ ha))
   refine Z <| qM q q q <| A q (qt_add q q) q q <| qA q q q <| WL_nil fun a ha => ?_
   obtain rfl := L hs14
   exact ⟨q, ha.sub ⟨q, q, q, trivial⟩, H49⟩
  have hs14 := if_f hc18 hs14
  refine WP_exit fun a ha => ?_
  obtain rfl := L hs14
  exact zo (⟨exit_ne, q, ha.sub ⟨q, trivial⟩, H17⟩)
 intro e a11 w51 hO52
 obtain ⟨p53, rfl⟩ : ∃ z, z = o9 := ⟨o9, q⟩
 obtain ⟨rfl, hO55⟩ := hO52
 obtain ⟨ha, H54⟩ := hO55
 refine zn (X (S ?_ ha))
 refine rR <| qM q q q <| qA q q q <| B <| W fun a ha => ?_
 obtain rfl := L h
 exact ret1 q ha q ⟨v3, q, H54⟩
theorem w_laws_toItem (w : World) (G : List Res) (B0 : Int) (A1 : Value) (B1 : LP) (C1 : Has G ty2 A1 B1) (B2 : Int) (r : (Int × LP × Int)) (h : laws_toItemS B0 B1 B2 = some r) (H : Ctx w G) : Calls Tryz.prog 88 #[.agg #[iV B0, A1, iV B2]] w fun e w' => ∃ (v1 : Value), e = .returned (.agg #[iV r.1, v1, iV r.2.2]) ∧ Holds M0 w w' [.sl 162 ty2 v1 r.2.1] G := by
 have H : Holds M0 w w [] G := zb H
 refine zg (args := [.agg #[iV B0, A1, iV B2]]) (n := 15) Tryz.func88 q q q ?_
 unfold laws_toItemS at h
 refine C <| Z ?_
 refine WL_box (cs := [iV B0, A1, iV B2]) H q q q q (fun b1 w2 H3 => ?_)
 refine zq (cs := [iV 0, nS, iV 0]) H3 z115 q q q (fun b5 w6 H7 => ?_)
 refine B <| C <| Z ?_
 refine zq (cs := [iV 0, nS, iV 0]) H7 z115 q q q (fun b9 w10 H11 => ?_)
 refine rN <| qF uf103 fi103_0 nz3 q q q ?_
 have hB13 := R H11.p2
 refine l u3 q hB13 q q q q <| qF uf115 fi115_0 nz3 q q q ?_
 refine WL_store_bx H11 q il3 q q q q q (fun w14 H15 => ?_)
 refine rN <| qF uf103 fi103_1 nz101 q q q ?_
 have hB17 := R H15.p2
 refine l u101 q hB17 q q q q ?_
 obtain ⟨x18, hx19, h⟩ := D h
 refine zd q q c127 (w_laws_toPartS w14 _ A1 B1 (C1.c.c.c) x18 hx19 H15.ctx) (by rfl) ?_
 rintro _ w20 ⟨v22, rfl, H21⟩; refine ⟨_, q, ?_⟩
 have H23 := H15.cN1 [] H21
 refine qF uf115 fi115_1 nz113 q q q ?_
 have H24 := H23.p1
 refine WL_store_bx H24 q il113 (H24.ctx.sliceCells hS1) (H24.ctx.sliceOne hS1) q q q (fun w25 H26 => ?_)
 refine rN <| qF uf103 fi103_2 nz3 q q q ?_
 have hB28 := R H26.p3
 refine l u3 q hB28 q q q q <| qF uf115 fi115_2 nz3 q q q ?_
 refine WL_store_bx H26 q il3 q q q q q (fun w29 H30 => ?_)
 refine B <| C <| Z ?_
 have hB32 := R H30.p0
 refine zm (cs := [iV B0, v22, iV B2]) us115 uo115 il115 hB32 q q q ?_
 change XL _ _ _ _ _ ((14, .agg #[iV B0, v22, iV B2]) :: _) _
 have H33 := H30.p2
 refine zl (cs' := [iV B0, v22, iV B2]) H33 q il115 q (T q (T (H33.ctx.sliceOne hS2) (T q q))) q q q (fun w34 H35 => ?_)
 refine B <| W fun a ha => ?_
 obtain rfl := L h
 have hB37 := R H35.p0
 have H38 := H35.q0.q0.q1
 exact retc q ha q (run_loadVar_bx (cs := [iV B0, v22, iV B2]) us115 uo115 il115 hB37) ⟨v22, q, H38⟩
theorem w_laws_toItemS (w : World) (G : List Res) (vp0 : Value) (p0 : LI) (hp0 : Has G ty10 vp0 p0) (r : LI) (h : laws_toItemSS p0 = some r) (H : Ctx w G) : Calls Tryz.prog 45 #[vp0] w fun e w' => ∃ (v1 : Value) (csv1 : List Value) (Fv1 : List Nat), e = .returned (v1) ∧ Holds M0 w w' [dpR 115 dt13 v1 csv1 r Fv1] G := by
 have H : Holds M0 w w [] G := zb H
 refine zg (args := [vp0]) (n := 23) Tryz.func45 q q q ?_
 unfold laws_toItemSS at h
 refine rR <| qA q q q <| rN <| qM q q q <| za H.ctx (t := ty10) (hp0) u22 q q q ?_
 obtain ⟨x1, hx2, h⟩ := D h
 refine WL_makeD (d := dt13) H hx2 u28 j115 q (DBlt.cast (DBlt.pair (DBlt.int (k := .i64) (n := 0)) (DBlt.pair (DBlt.nil (e := 162) (d := dt3)) (DBlt.int (k := .i64) (n := 0)))) q q) q q q q q (fun v3 cs6 F7 w4 H5 => ?_)
 refine qA q q q <| B <| C <| rR <| qA q q q <| B <| g ?_
 obtain ⟨o11, ho12, h⟩ := D h
 refine fun a13 ha14 => zp (I := fun s a w2 => match s with | (s9, s10) => ∃ css10 Fs10, Fr a 23 [(0, vp0), (3, v3), (4, iV s9)] ∧ Holds M0 w w2 [dpR 115 dt13 v3 css10 s10 Fs10] G) (O := fun o e a w2 => match o with | q0 => e = .exit 0 ∧ ∃ csq0 Fq0, Fr a 23 [(3, v3)] ∧ Holds M0 w w2 [dpR 115 dt13 v3 csq0 q0 Fq0] G) ho12 ?_ ?_ ?_
 ·exact ⟨cs6, F7, ha14.sub ⟨q, q, q, trivial⟩, H5⟩
 ·clear ha14
  intro s o17 a w15 hs16 hI18
  obtain ⟨s9, s10⟩ := s
  obtain ⟨css10, Fs10, ha, H19⟩ := hI18
  refine S ?_ ha
  clear ha
  refine C <| rR <| qM q q q <| qM q q q ?_
  have V20 := H19.viewG (Vw.d Vw.refl)
  refine za V20 (t := ty10) (hp0.c) u22 q q q <| A q (qt_lss q q) q q <| B ?_
  refine Y q (fun hc21 => ?_) (fun hc21 => ?_)
  ·have hs16 := if_t hc21 hs16
   refine y <| C <| g <| Z <| qM q q q <| qM q q q <| qM q q q <| qM q q q ?_
   obtain ⟨x22, hx23, hs16⟩ := D hs16
   refine b V20 (hp0.c) hx23 u22 i103 q q q q (fun b24 off25 cap26 hv27 => ?_)
   obtain ⟨F28, hat29, hdup30⟩ := H19.atN (hp0.c) hx23 hv27
   refine XL_load_agg (t := ty10) us103 uo103 i103 hat29 q q q (fun cs31 hr32 => ?_)
   obtain ⟨c33, c34, F35, F36, rfl, eF39, hr37, hr38⟩ := hr32
   obtain ⟨rfl, _⟩ := hr37
   obtain ⟨c40, c41, F42, F43, rfl, eF46, hr44, hr45⟩ := hr38
   obtain ⟨v47, rfl, hr48⟩ := Rep.sl_inv hr44
   obtain ⟨rfl, _⟩ := hr45
   have H49 : Holds _ w w15 [.ro ty2 v47 x22.2.1, dpR 115 dt13 v3 css10 s10 Fs10] G := hdup30 [.ro ty2 v47 x22.2.1] ⟨⟨_, _, _, _, q, hr48, (fun k h => (fun k h => (fun _ h => h) k (by rw [eF39]; exact zx _ h)) k (by rw [eF46]; exact List.mem_append_left _ h))⟩, trivial⟩
   change XL _ _ _ _ _ ((19, .agg #[iV x22.1, v47, iV x22.2.2]) :: _) _
   obtain ⟨x50, hx51, hs16⟩ := D hs16
   have V52 := H49.viewG (Vw.c (Vw.d Vw.refl))
   refine zd q q c88 (w_laws_toItem w15 _ x22.1 v47 x22.2.1 hR0 x22.2.2 x50 hx51 V52) (by rfl) ?_
   rintro _ w53 ⟨v55, rfl, H54⟩; refine ⟨_, q, ?_⟩
   have H56 := H49.cV1 [] H54 (zc (Pure.sl q) all_nil)
   obtain ⟨x57, hx58, hs16⟩ := D hs16
   have V63 := H56.viewG (Vw.c (Vw.c (Vw.d Vw.refl)))
   refine b V63 hR2 hx58 u28 i115 q q q q (fun b59 off60 cap61 hv62 => ?_)
   have H64 := H56.p2
   have H65 := H64.p1
   refine WL_storeD (Rs := [.sl 162 ty2 v55 x50.2.1]) (fo := 0) (cs' := [iV x50.1, v55, iV x50.2.2]) H65 hx58 hv62 (Foc.refl) (DBlt.cast (DBlt.pair (DBlt.int (k := .i64) (n := x50.1)) (DBlt.pair (DBlt.sl (e := 162) (t := ty2) (v := v55) (x := x50.2.1) q) (DBlt.int (k := .i64) (n := x50.2.2)))) q q) q il115 q q q (fun cs66 F67 w68 H69 => ?_)
   refine WL_nil fun a ha => ?_
   refine zi (X (S ?_ ha))
   refine Z <| qM q q q <| A q (qt_add q q) q q <| qA q q q <| WL_nil fun a ha => ?_
   obtain rfl := L hs16
   have H71 := H69.q1
   exact ⟨q, cs66, F67, ha.sub ⟨q, q, q, trivial⟩, H71⟩
  have hs16 := if_f hc21 hs16
  refine WP_exit fun a ha => ?_
  obtain rfl := L hs16
  exact zo (⟨exit_ne, q, css10, Fs10, ha.sub ⟨q, trivial⟩, H19⟩)
 intro e a13 w72 hO73
 obtain ⟨p74, rfl⟩ : ∃ z, z = o11 := ⟨o11, q⟩
 obtain ⟨rfl, hO76⟩ := hO73
 obtain ⟨csp74, Fp74, ha, H75⟩ := hO76
 refine zn (X (S ?_ ha))
 refine rR <| qM q q q <| qA q q q <| B <| W fun a ha => ?_
 obtain rfl := L h
 exact ret1 q ha q ⟨v3, csp74, Fp74, q, H75⟩
theorem w_laws_toIntS (w : World) (G : List Res) (vp0 : Value) (p0 : List Int) (hp0 : Has G tI vp0 p0) (r : (List Int)) (h : laws_toIntSS p0 = some r) (H : Ctx w G) : Calls Tryz.prog 46 #[vp0] w fun e w' => ∃ (v1 : Value), e = .returned (v1) ∧ Holds M0 w w' [.sl 3 tI v1 r] G := by
 have H : Holds M0 w w [] G := zb H
 refine zg (args := [vp0]) (n := 22) Tryz.func46 q q q ?_
 unfold laws_toIntSS at h
 refine rR <| qA q q q <| rN <| qM q q q <| za H.ctx (t := tI) (hp0) u23 q q q ?_
 obtain ⟨x1, hx2, h⟩ := D h
 refine WL_makeH H hx2 u23 j3 q (fun _ => ⟨q, q⟩) q q q q q (fun v3 w4 H5 => ?_)
 refine qA q q q <| B <| C <| rR <| qA q q q <| B <| g ?_
 obtain ⟨o9, ho10, h⟩ := D h
 refine fun a11 ha12 => zp (I := fun s a w2 => match s with | (s7, s8) => (Fr a 22 [(0, vp0), (3, v3), (4, iV s7)] ∧ Holds M0 w w2 [.sl 3 tI v3 s8] G)) (O := fun o e a w2 => match o with | q0 => e = .exit 0 ∧ (Fr a 22 [(3, v3)] ∧ Holds M0 w w2 [.sl 3 tI v3 q0] G)) ho10 ?_ ?_ ?_
 ·exact ⟨ha12.sub ⟨q, q, q, trivial⟩, H5⟩
 ·clear ha12
  intro s o15 a w13 hs14 hI16
  obtain ⟨s7, s8⟩ := s
  obtain ⟨ha, H17⟩ := hI16
  refine S ?_ ha
  clear ha
  refine C <| rR <| qM q q q <| qM q q q <| za H17.ctx (t := tI) (hp0.c) u23 q q q <| A q (qt_lss q q) q q <| B ?_
  refine Y q (fun hc18 => ?_) (fun hc18 => ?_)
  ·have hs14 := if_t hc18 hs14
   refine y <| C <| g <| Z <| qM q q q <| qM q q q <| qM q q q <| qM q q q ?_
   obtain ⟨x19, hx20, hs14⟩ := D hs14
   refine b H17.ctx (hp0.c) hx20 u23 i3 q q q q (fun b21 off22 cap23 hv24 => ?_)
   obtain ⟨F25, hat26, hdup27⟩ := H17.at (hp0.c) hx20 hv24
   refine zt (k := .i64) u3 q hat26 q q q ?_
   obtain ⟨x28, hx29, hs14⟩ := D hs14
   refine b H17.ctx hS0 hx29 u23 i3 q q q q (fun b30 off31 cap32 hv33 => ?_)
   refine WL_storeH (fo := 0) (cs' := [iV x19]) H17 hx29 hv33 (Upd.whole (Blt.int)) q il3 q q q q (fun w34 H35 => ?_)
   refine WL_nil fun a ha => ?_
   refine zi (X (S ?_ ha))
   refine Z <| qM q q q <| A q (qt_add q q) q q <| qA q q q <| WL_nil fun a ha => ?_
   obtain rfl := L hs14
   exact ⟨q, ha.sub ⟨q, q, q, trivial⟩, H35⟩
  have hs14 := if_f hc18 hs14
  refine WP_exit fun a ha => ?_
  obtain rfl := L hs14
  exact zo (⟨exit_ne, q, ha.sub ⟨q, trivial⟩, H17⟩)
 intro e a11 w37 hO38
 obtain ⟨p39, rfl⟩ : ∃ z, z = o9 := ⟨o9, q⟩
 obtain ⟨rfl, hO41⟩ := hO38
 obtain ⟨ha, H40⟩ := hO41
 refine zn (X (S ?_ ha))
 refine rR <| qM q q q <| qA q q q <| B <| W fun a ha => ?_
 obtain rfl := L h
 exact ret1 q ha q ⟨v3, q, H40⟩
theorem w_laws_toOrder (w : World) (G : List Res) (B0 : Int) (B1 : Int) (r : (Int × Int)) (h : laws_toOrderS B0 B1 = some r) (H : Ctx w G) : Calls Tryz.prog 151 #[.agg #[iV B0, iV B1]] w fun e w' => e = .returned (.agg #[iV r.1, iV r.2]) ∧ Holds M0 w w' [] G := by
 have H : Holds M0 w w [] G := zb H
 refine zg (args := [.agg #[iV B0, iV B1]]) (n := 11) Tryz.func151 q q q ?_
 unfold laws_toOrderS at h
 refine C <| Z ?_
 refine WL_box (cs := [iV B0, iV B1]) H q q q q (fun b1 w2 H3 => ?_)
 refine zq (cs := [iV 0, iV 0]) H3 z119 q q q (fun b5 w6 H7 => ?_)
 refine B <| C <| Z ?_
 refine zq (cs := [iV 0, iV 0]) H7 z119 q q q (fun b9 w10 H11 => ?_)
 refine rN <| qF uf174 fi174_0 nz3 q q q ?_
 have hB13 := R H11.p2
 refine l u3 q hB13 q q q q <| qF uf119 fi119_0 nz3 q q q ?_
 refine WL_store_bx H11 q il3 q q q q q (fun w14 H15 => ?_)
 refine rN <| qF uf174 fi174_1 nz3 q q q ?_
 have hB17 := R H15.p2
 refine l u3 q hB17 q q q q <| qF uf119 fi119_1 nz3 q q q ?_
 refine WL_store_bx H15 q il3 q q q q q (fun w18 H19 => ?_)
 refine B <| C <| Z ?_
 have hB21 := R H19.p0
 refine zm (cs := [iV B0, iV B1]) us119 uo119 il119 hB21 q q q ?_
 change XL _ _ _ _ _ ((10, .agg #[iV B0, iV B1]) :: _) _
 have H22 := H19.p1
 refine zl (cs' := [iV B0, iV B1]) H22 q il119 q q q q q (fun w23 H24 => ?_)
 refine B <| W fun a ha => ?_
 obtain rfl := L h
 have hB26 := R H24.p0
 have H27 := H24.q0.q0.q0
 exact retc q ha q (run_loadVar_bx (cs := [iV B0, iV B1]) us119 uo119 il119 hB26) ⟨q, H27⟩
theorem w_laws_toOrderS (w : World) (G : List Res) (vp0 : Value) (p0 : LP) (hp0 : Has G ty2 vp0 p0) (r : LP) (h : laws_toOrderSS p0 = some r) (H : Ctx w G) : Calls Tryz.prog 128 #[vp0] w fun e w' => ∃ (v1 : Value), e = .returned (v1) ∧ Holds M0 w w' [.sl 119 ty2 v1 r] G := by
 have H : Holds M0 w w [] G := zb H
 refine zg (args := [vp0]) (n := 23) Tryz.func128 q q q ?_
 unfold laws_toOrderSS at h
 refine rR <| qA q q q <| rN <| qM q q q <| za H.ctx (t := ty2) (hp0) u105 q q q ?_
 obtain ⟨x1, hx2, h⟩ := D h
 refine WL_makeH H hx2 u87 j119 q (fun _ => ⟨_, _, [], [], q, q, ⟨q, q⟩, ⟨q, q⟩⟩) q q q q q (fun v3 w4 H5 => ?_)
 refine qA q q q <| B <| C <| rR <| qA q q q <| B <| g ?_
 obtain ⟨o9, ho10, h⟩ := D h
 refine fun a11 ha12 => zp (I := fun s a w2 => match s with | (s7, s8) => (Fr a 23 [(0, vp0), (3, v3), (4, iV s7)] ∧ Holds M0 w w2 [.sl 119 ty2 v3 s8] G)) (O := fun o e a w2 => match o with | q0 => e = .exit 0 ∧ (Fr a 23 [(3, v3)] ∧ Holds M0 w w2 [.sl 119 ty2 v3 q0] G)) ho10 ?_ ?_ ?_
 ·exact ⟨ha12.sub ⟨q, q, q, trivial⟩, H5⟩
 ·clear ha12
  intro s o15 a w13 hs14 hI16
  obtain ⟨s7, s8⟩ := s
  obtain ⟨ha, H17⟩ := hI16
  refine S ?_ ha
  clear ha
  refine C <| rR <| qM q q q <| qM q q q <| za H17.ctx (t := ty2) (hp0.c) u105 q q q <| A q (qt_lss q q) q q <| B ?_
  refine Y q (fun hc18 => ?_) (fun hc18 => ?_)
  ·have hs14 := if_t hc18 hs14
   refine y <| C <| g <| Z <| qM q q q <| qM q q q <| qM q q q <| qM q q q ?_
   obtain ⟨x19, hx20, hs14⟩ := D hs14
   refine b H17.ctx (hp0.c) hx20 u105 i174 q q q q (fun b21 off22 cap23 hv24 => ?_)
   obtain ⟨F25, hat26, hdup27⟩ := H17.atN (hp0.c) hx20 hv24
   refine XL_load_agg (t := ty2) us174 uo174 i174 hat26 q q q (fun cs28 hr29 => ?_)
   obtain ⟨c30, c31, F32, F33, rfl, eF36, hr34, hr35⟩ := hr29
   obtain ⟨rfl, _⟩ := hr34
   obtain ⟨rfl, _⟩ := hr35
   change XL _ _ _ _ _ ((19, .agg #[iV x19.1, iV x19.2]) :: _) _
   obtain ⟨x37, hx38, hs14⟩ := D hs14
   refine zd q q c151 (w_laws_toOrder w13 _ x19.1 x19.2 x37 hx38 H17.ctx) (by rfl) ?_
   rintro _ w39 ⟨rfl, H40⟩; refine ⟨_, q, ?_⟩
   have H41 := H17.cN0 [] H40
   obtain ⟨x42, hx43, hs14⟩ := D hs14
   refine b H41.ctx hS0 hx43 u87 i119 q q q q (fun b44 off45 cap46 hv47 => ?_)
   refine WL_storeH (fo := 0) (cs' := [iV x37.1, iV x37.2]) H41 hx43 hv47 (Upd.whole (Blt.pair (Blt.int) (Blt.int))) q il119 q q q q (fun w48 H49 => ?_)
   refine WL_nil fun a ha => ?_
   refine zi (X (S ?_ ha))
   refine Z <| qM q q q <| A q (qt_add q q) q q <| qA q q q <| WL_nil fun a ha => ?_
   obtain rfl := L hs14
   exact ⟨q, ha.sub ⟨q, q, q, trivial⟩, H49⟩
  have hs14 := if_f hc18 hs14
  refine WP_exit fun a ha => ?_
  obtain rfl := L hs14
  exact zo (⟨exit_ne, q, ha.sub ⟨q, trivial⟩, H17⟩)
 intro e a11 w51 hO52
 obtain ⟨p53, rfl⟩ : ∃ z, z = o9 := ⟨o9, q⟩
 obtain ⟨rfl, hO55⟩ := hO52
 obtain ⟨ha, H54⟩ := hO55
 refine zn (X (S ?_ ha))
 refine rR <| qM q q q <| qA q q q <| B <| W fun a ha => ?_
 obtain rfl := L h
 exact ret1 q ha q ⟨v3, q, H54⟩
theorem w_laws_toTable (w : World) (G : List Res) (B0 : Int) (A1 : Value) (B1 : LP) (C1 : Has G ty2 A1 B1) (A2 : Value) (B2 : List Int) (C2 : Has G tI A2 B2) (r : (Int × LP × (List Int))) (h : laws_toTableS B0 B1 B2 = some r) (H : Ctx w G) : Calls Tryz.prog 89 #[.agg #[iV B0, A1, A2]] w fun e w' => ∃ (v1 : Value) (v2 : Value), e = .returned (.agg #[iV r.1, v1, v2]) ∧ Holds M0 w w' [.sl 119 ty2 v1 r.2.1, .sl 3 tI v2 r.2.2] G := by
 have H : Holds M0 w w [] G := zb H
 refine zg (args := [.agg #[iV B0, A1, A2]]) (n := 16) Tryz.func89 q q q ?_
 unfold laws_toTableS at h
 refine C <| Z ?_
 refine WL_box (cs := [iV B0, A1, A2]) H q q q q (fun b1 w2 H3 => ?_)
 refine zq (cs := [iV 0, nS, nS]) H3 z89 q q q (fun b5 w6 H7 => ?_)
 refine B <| C <| Z ?_
 refine zq (cs := [iV 0, nS, nS]) H7 z89 q q q (fun b9 w10 H11 => ?_)
 refine rN <| qF uf107 fi107_0 nz3 q q q ?_
 have hB13 := R H11.p2
 refine l u3 q hB13 q q q q <| qF uf89 fi89_0 nz3 q q q ?_
 refine WL_store_bx H11 q il3 q q q q q (fun w14 H15 => ?_)
 refine rN <| qF uf107 fi107_1 nz105 q q q ?_
 have hB17 := R H15.p2
 refine l u105 q hB17 q q q q ?_
 obtain ⟨x18, hx19, h⟩ := D h
 refine zd q q c128 (w_laws_toOrderS w14 _ A1 B1 (C1.c.c.c) x18 hx19 H15.ctx) (by rfl) ?_
 rintro _ w20 ⟨v22, rfl, H21⟩; refine ⟨_, q, ?_⟩
 have H23 := H15.cN1 [] H21
 refine qF uf89 fi89_1 nz87 q q q ?_
 have H24 := H23.p1
 refine WL_store_bx H24 q il87 (H24.ctx.sliceCells hS1) (H24.ctx.sliceOne hS1) q q q (fun w25 H26 => ?_)
 refine rN <| qF uf107 fi107_2 nz23 q q q ?_
 have hB28 := R H26.p3
 refine l u23 q hB28 q q q q ?_
 obtain ⟨x29, hx30, h⟩ := D h
 refine zd q q c46 (w_laws_toIntS w25 _ A2 B2 (C2.c.c.c.c) x29 hx30 H26.ctx) (by rfl) ?_
 rintro _ w31 ⟨v33, rfl, H32⟩; refine ⟨_, q, ?_⟩
 have H34 := H26.cN1 [] H32
 refine qF uf89 fi89_2 nz23 q q q ?_
 have H35 := H34.p1
 refine WL_store_bx H35 q il23 (H35.ctx.sliceCells hS1) (H35.ctx.sliceOne hS1) q q q (fun w36 H37 => ?_)
 refine B <| C <| Z ?_
 have hB39 := R H37.p0
 refine zm (cs := [iV B0, v22, v33]) us89 uo89 il89 hB39 q q q ?_
 change XL _ _ _ _ _ ((15, .agg #[iV B0, v22, v33]) :: _) _
 have H40 := H37.p3
 refine zl (cs' := [iV B0, v22, v33]) H40 q il89 q (T q (T (H40.ctx.sliceOne hS3) (T (H40.ctx.sliceOne hS2) q))) q q q (fun w41 H42 => ?_)
 refine B <| W fun a ha => ?_
 obtain rfl := L h
 have hB44 := R H42.p0
 have H45 := H42.q0.q0.q2.p1
 exact retc q ha q (run_loadVar_bx (cs := [iV B0, v22, v33]) us89 uo89 il89 hB44) ⟨v22, v33, q, H45⟩
theorem w_laws_toTableS (w : World) (G : List Res) (vp0 : Value) (p0 : LT) (hp0 : Has G ty12 vp0 p0) (r : LT) (h : laws_toTableSS p0 = some r) (H : Ctx w G) : Calls Tryz.prog 47 #[vp0] w fun e w' => ∃ (v1 : Value) (csv1 : List Value) (Fv1 : List Nat), e = .returned (v1) ∧ Holds M0 w w' [dpR 89 dt14 v1 csv1 r Fv1] G := by
 have H : Holds M0 w w [] G := zb H
 refine zg (args := [vp0]) (n := 23) Tryz.func47 q q q ?_
 unfold laws_toTableSS at h
 refine rR <| qA q q q <| rN <| qM q q q <| za H.ctx (t := ty12) (hp0) u24 q q q ?_
 obtain ⟨x1, hx2, h⟩ := D h
 refine WL_makeD (d := dt14) H hx2 u29 j89 q (DBlt.cast (DBlt.pair (DBlt.int (k := .i64) (n := 0)) (DBlt.pair (DBlt.nil (e := 119) (d := dt3)) (DBlt.nil (e := 3) (d := (.leaf tI))))) q q) q q q q q (fun v3 cs6 F7 w4 H5 => ?_)
 refine qA q q q <| B <| C <| rR <| qA q q q <| B <| g ?_
 obtain ⟨o11, ho12, h⟩ := D h
 refine fun a13 ha14 => zp (I := fun s a w2 => match s with | (s9, s10) => ∃ css10 Fs10, Fr a 23 [(0, vp0), (3, v3), (4, iV s9)] ∧ Holds M0 w w2 [dpR 89 dt14 v3 css10 s10 Fs10] G) (O := fun o e a w2 => match o with | q0 => e = .exit 0 ∧ ∃ csq0 Fq0, Fr a 23 [(3, v3)] ∧ Holds M0 w w2 [dpR 89 dt14 v3 csq0 q0 Fq0] G) ho12 ?_ ?_ ?_
 ·exact ⟨cs6, F7, ha14.sub ⟨q, q, q, trivial⟩, H5⟩
 ·clear ha14
  intro s o17 a w15 hs16 hI18
  obtain ⟨s9, s10⟩ := s
  obtain ⟨css10, Fs10, ha, H19⟩ := hI18
  refine S ?_ ha
  clear ha
  refine C <| rR <| qM q q q <| qM q q q ?_
  have V20 := H19.viewG (Vw.d Vw.refl)
  refine za V20 (t := ty12) (hp0.c) u24 q q q <| A q (qt_lss q q) q q <| B ?_
  refine Y q (fun hc21 => ?_) (fun hc21 => ?_)
  ·have hs16 := if_t hc21 hs16
   refine y <| C <| g <| Z <| qM q q q <| qM q q q <| qM q q q <| qM q q q ?_
   obtain ⟨x22, hx23, hs16⟩ := D hs16
   refine b V20 (hp0.c) hx23 u24 i107 q q q q (fun b24 off25 cap26 hv27 => ?_)
   obtain ⟨F28, hat29, hdup30⟩ := H19.atN (hp0.c) hx23 hv27
   refine XL_load_agg (t := ty12) us107 uo107 i107 hat29 q q q (fun cs31 hr32 => ?_)
   obtain ⟨c33, c34, F35, F36, rfl, eF39, hr37, hr38⟩ := hr32
   obtain ⟨rfl, _⟩ := hr37
   obtain ⟨c40, c41, F42, F43, rfl, eF46, hr44, hr45⟩ := hr38
   obtain ⟨v47, rfl, hr48⟩ := Rep.sl_inv hr44
   obtain ⟨v49, rfl, hr50⟩ := Rep.sl_inv hr45
   have H51 : Holds _ w w15 [.ro ty2 v47 x22.2.1, .ro tI v49 x22.2.2, dpR 89 dt14 v3 css10 s10 Fs10] G := hdup30 [.ro ty2 v47 x22.2.1, .ro tI v49 x22.2.2] ⟨⟨_, _, _, _, q, hr48, (fun k h => (fun k h => (fun _ h => h) k (by rw [eF39]; exact zx _ h)) k (by rw [eF46]; exact List.mem_append_left _ h))⟩, ⟨_, _, _, _, q, hr50, (fun k h => (fun k h => (fun _ h => h) k (by rw [eF39]; exact zx _ h)) k (by rw [eF46]; exact zx _ h))⟩, trivial⟩
   change XL _ _ _ _ _ ((19, .agg #[iV x22.1, v47, v49]) :: _) _
   obtain ⟨x52, hx53, hs16⟩ := D hs16
   have V54 := H51.viewG (Vw.c (Vw.c (Vw.d Vw.refl)))
   refine zd q q c89 (w_laws_toTable w15 _ x22.1 v47 x22.2.1 hR0 v49 x22.2.2 hR1 x52 hx53 V54) (by rfl) ?_
   rintro _ w55 ⟨v57, v58, rfl, H56⟩; refine ⟨_, q, ?_⟩
   have H59 := H51.cV2 [] H56 (zc (Pure.sl q) (zc (Pure.sl q) all_nil))
   obtain ⟨x60, hx61, hs16⟩ := D hs16
   have V66 := H59.viewG (Vw.c (Vw.c (Vw.c (Vw.c (Vw.d Vw.refl)))))
   refine b V66 hR4 hx61 u29 i89 q q q q (fun b62 off63 cap64 hv65 => ?_)
   have H67 := H59.p4
   have H68 := H67.p2
   have H69 := H68.p2
   refine WL_storeD (Rs := [.sl 119 ty2 v57 x52.2.1, .sl 3 tI v58 x52.2.2]) (fo := 0) (cs' := [iV x52.1, v57, v58]) H69 hx61 hv65 (Foc.refl) (DBlt.cast (DBlt.pair (DBlt.int (k := .i64) (n := x52.1)) (DBlt.pair (DBlt.sl (e := 119) (t := ty2) (v := v57) (x := x52.2.1) q) (DBlt.sl (e := 3) (t := tI) (v := v58) (x := x52.2.2) q))) q q) q il89 q q q (fun cs70 F71 w72 H73 => ?_)
   refine WL_nil fun a ha => ?_
   refine zi (X (S ?_ ha))
   refine Z <| qM q q q <| A q (qt_add q q) q q <| qA q q q <| WL_nil fun a ha => ?_
   obtain rfl := L hs16
   have H75 := H73.q1.q1
   exact ⟨q, cs70, F71, ha.sub ⟨q, q, q, trivial⟩, H75⟩
  have hs16 := if_f hc21 hs16
  refine WP_exit fun a ha => ?_
  obtain rfl := L hs16
  exact zo (⟨exit_ne, q, css10, Fs10, ha.sub ⟨q, trivial⟩, H19⟩)
 intro e a13 w76 hO77
 obtain ⟨p78, rfl⟩ : ∃ z, z = o11 := ⟨o11, q⟩
 obtain ⟨rfl, hO80⟩ := hO77
 obtain ⟨csp78, Fp78, ha, H79⟩ := hO80
 refine zn (X (S ?_ ha))
 refine rR <| qM q q q <| qA q q q <| B <| W fun a ha => ?_
 obtain rfl := L h
 exact ret1 q ha q ⟨v3, csp78, Fp78, q, H79⟩
theorem w_laws_toHouse (w : World) (G : List Res) (A0 : Value) (B0 : LI) (C0 : Has G ty10 A0 B0) (A1 : Value) (B1 : List Int) (C1 : Has G tI A1 B1) (A2 : Value) (B2 : List Int) (C2 : Has G tI A2 B2) (B3 : Int) (A4 : Value) (B4 : LT) (C4 : Has G ty12 A4 B4) (r : (LI × (List Int) × (List Int) × Int × LT)) (h : laws_toHouseS B0 B1 B2 B3 B4 = some r) (H : Ctx w G) : Calls Tryz.prog 9 #[.agg #[A0, A1, A2, iV B3, A4]] w fun e w' => ∃ (v1 : Value) (csv1 : List Value) (Fv1 : List Nat) (v4 : Value) (v5 : Value) (v6 : Value) (csv6 : List Value) (Fv6 : List Nat), e = .returned (.agg #[v1, v4, v5, iV r.2.2.2.1, v6]) ∧ Holds M0 w w' [dpR 115 dt13 v1 csv1 r.1 Fv1, .sl 3 tI v4 r.2.1, .sl 3 tI v5 r.2.2.1, dpR 89 dt14 v6 csv6 r.2.2.2.2 Fv6] G := by
 have H : Holds M0 w w [] G := zb H
 refine zg (args := [.agg #[A0, A1, A2, iV B3, A4]]) (n := 24) Tryz.func9 q q q ?_
 unfold laws_toHouseS at h
 refine C <| Z ?_
 refine WL_box (cs := [A0, A1, A2, iV B3, A4]) H q q q q (fun b1 w2 H3 => ?_)
 refine zq (cs := [nS, nS, nS, iV 0, nS]) H3 z31 q q q (fun b5 w6 H7 => ?_)
 refine B <| C <| Z ?_
 refine zq (cs := [nS, nS, nS, iV 0, nS]) H7 z31 q q q (fun b9 w10 H11 => ?_)
 refine rN <| qF uf26 fi26_0 nz22 q q q ?_
 have hB13 := R H11.p2
 refine l u22 q hB13 q q q q ?_
 obtain ⟨x14, hx15, h⟩ := D h
 refine zd q q c45 (w_laws_toItemS w10 _ A0 B0 (C0.c.c.c) x14 hx15 H11.ctx) (by rfl) ?_
 rintro _ w16 ⟨v18, cs19, F20, rfl, H17⟩; refine ⟨_, q, ?_⟩
 have H21 := H11.cN1 [] H17
 refine qF uf31 fi31_0 nz28 q q q ?_
 have H22 := H21.p1
 have V25 := H22.viewG (Vw.c (Vw.d (Vw.c (Vw.c Vw.refl))))
 refine WL_store_bx H22 q il28 (V25.sliceCells hR1) (V25.sliceOne hR1) q q q (fun w23 H24 => ?_)
 refine rN <| qF uf26 fi26_1 nz23 q q q ?_
 have hB27 := R H24.p3
 refine l u23 q hB27 q q q q ?_
 obtain ⟨x28, hx29, h⟩ := D h
 have V30 := H24.viewG (Vw.c (Vw.d (Vw.c (Vw.c Vw.refl))))
 refine zd q q c46 (w_laws_toIntS w23 _ A1 B1 (C1.c.c.c.c) x28 hx29 V30) (by rfl) ?_
 rintro _ w31 ⟨v33, rfl, H32⟩; refine ⟨_, q, ?_⟩
 have H34 := H24.cV1 [] H32 (zc (Pure.sl q) all_nil)
 refine qF uf31 fi31_1 nz23 q q q ?_
 have H35 := H34.p1
 have V38 := H35.viewG (Vw.c (Vw.c (Vw.d (Vw.c (Vw.c Vw.refl)))))
 refine WL_store_bx H35 q il23 (V38.sliceCells hS1) (V38.sliceOne hS1) q q q (fun w36 H37 => ?_)
 refine rN <| qF uf26 fi26_2 nz23 q q q ?_
 have hB40 := R H37.p4
 refine l u23 q hB40 q q q q ?_
 obtain ⟨x41, hx42, h⟩ := D h
 have V43 := H37.viewG (Vw.c (Vw.c (Vw.d (Vw.c (Vw.c Vw.refl)))))
 refine zd q q c46 (w_laws_toIntS w36 _ A2 B2 (C2.c.c.c.c.c) x41 hx42 V43) (by rfl) ?_
 rintro _ w44 ⟨v46, rfl, H45⟩; refine ⟨_, q, ?_⟩
 have H47 := H37.cV1 [] H45 (zc (Pure.sl q) all_nil)
 refine qF uf31 fi31_2 nz23 q q q ?_
 have H48 := H47.p1
 have V51 := H48.viewG (Vw.c (Vw.c (Vw.c (Vw.d (Vw.c (Vw.c Vw.refl))))))
 refine WL_store_bx H48 q il23 (V51.sliceCells hS1) (V51.sliceOne hS1) q q q (fun w49 H50 => ?_)
 refine rN <| qF uf26 fi26_3 nz3 q q q ?_
 have hB53 := R H50.p5
 refine l u3 q hB53 q q q q <| qF uf31 fi31_3 nz3 q q q ?_
 refine WL_store_bx H50 q il3 q q q q q (fun w54 H55 => ?_)
 refine rN <| qF uf26 fi26_4 nz24 q q q ?_
 have hB57 := R H55.p5
 refine l u24 q hB57 q q q q ?_
 obtain ⟨x58, hx59, h⟩ := D h
 have V60 := H55.viewG (Vw.c (Vw.c (Vw.c (Vw.d (Vw.c (Vw.c Vw.refl))))))
 refine zd q q c47 (w_laws_toTableS w54 _ A4 B4 (C4.c.c.c.c.c.c) x58 hx59 V60) (by rfl) ?_
 rintro _ w61 ⟨v63, cs64, F65, rfl, H62⟩; refine ⟨_, q, ?_⟩
 have H66 := H55.cV1 [] H62 (zc Pure.dp all_nil)
 refine qF uf31 fi31_4 nz29 q q q ?_
 have H67 := H66.p1
 have V70 := H67.viewG (Vw.c (Vw.d (Vw.c (Vw.c (Vw.d (Vw.c (Vw.c Vw.refl)))))))
 refine WL_store_bx H67 q il29 (V70.sliceCells hR1) (V70.sliceOne hR1) q q q (fun w68 H69 => ?_)
 refine B <| C <| Z ?_
 have hB72 := R H69.p0
 refine zm (cs := [v18, v33, v46, iV B3, v63]) us31 uo31 il31 hB72 q q q ?_
 change XL _ _ _ _ _ ((23, .agg #[v18, v33, v46, iV B3, v63]) :: _) _
 have H73 := H69.p5
 have V76 := H73.viewG (Vw.c (Vw.c (Vw.d (Vw.c (Vw.c (Vw.d (Vw.c Vw.refl)))))))
 refine zl (cs' := [v18, v33, v46, iV B3, v63]) H73 q il31 q (T (V76.sliceOne hR5) (T (V76.sliceOne hS4) (T (V76.sliceOne hS3) (T q (T (V76.sliceOne hR2) q))))) q q q (fun w74 H75 => ?_)
 refine B <| W fun a ha => ?_
 obtain rfl := L h
 have hB78 := R H75.p0
 have H79 := H75.q0.q0.q4.p1.p2.p3
 exact retc q ha q (run_loadVar_bx (cs := [v18, v33, v46, iV B3, v63]) us31 uo31 il31 hB78) ⟨v18, cs19, F20, v33, v46, v63, cs64, F65, q, H79⟩
theorem w_laws_toHouseDeed (w : World) (G : List Res) (B0 : Int) (B1 : Int) (B2 : Int) (B3 : Int) (r : (Int × Int × Int × Int)) (h : laws_toHouseDeedS B0 B1 B2 B3 = some r) (H : Ctx w G) : Calls Tryz.prog 22 #[.agg #[iV B0, iV B1, iV B2, iV B3]] w fun e w' => e = .returned (.agg #[iV r.1, iV r.2.1, iV r.2.2.1, iV r.2.2.2]) ∧ Holds M0 w w' [] G := by
 have H : Holds M0 w w [] G := zb H
 refine zg (args := [.agg #[iV B0, iV B1, iV B2, iV B3]]) (n := 17) Tryz.func22 q q q ?_
 unfold laws_toHouseDeedS at h
 refine C <| Z ?_
 refine WL_box (cs := [iV B0, iV B1, iV B2, iV B3]) H q q q q (fun b1 w2 H3 => ?_)
 refine zq (cs := [iV 0, iV 0, iV 0, iV 0]) H3 z49 q q q (fun b5 w6 H7 => ?_)
 refine B <| C <| Z ?_
 refine zq (cs := [iV 0, iV 0, iV 0, iV 0]) H7 z49 q q q (fun b9 w10 H11 => ?_)
 refine rN <| qF uf46 fi46_0 nz3 q q q ?_
 have hB13 := R H11.p2
 refine l u3 q hB13 q q q q <| qF uf49 fi49_0 nz3 q q q ?_
 refine WL_store_bx H11 q il3 q q q q q (fun w14 H15 => ?_)
 refine rN <| qF uf46 fi46_1 nz3 q q q ?_
 have hB17 := R H15.p2
 refine l u3 q hB17 q q q q <| qF uf49 fi49_1 nz3 q q q ?_
 refine WL_store_bx H15 q il3 q q q q q (fun w18 H19 => ?_)
 refine rN <| qF uf46 fi46_2 nz3 q q q ?_
 have hB21 := R H19.p2
 refine l u3 q hB21 q q q q <| qF uf49 fi49_2 nz3 q q q ?_
 refine WL_store_bx H19 q il3 q q q q q (fun w22 H23 => ?_)
 refine rN <| qF uf46 fi46_3 nz3 q q q ?_
 have hB25 := R H23.p2
 refine l u3 q hB25 q q q q <| qF uf49 fi49_3 nz3 q q q ?_
 refine WL_store_bx H23 q il3 q q q q q (fun w26 H27 => ?_)
 refine B <| C <| Z ?_
 have hB29 := R H27.p0
 refine zm (cs := [iV B0, iV B1, iV B2, iV B3]) us49 uo49 il49 hB29 q q q ?_
 change XL _ _ _ _ _ ((16, .agg #[iV B0, iV B1, iV B2, iV B3]) :: _) _
 have H30 := H27.p1
 refine zl (cs' := [iV B0, iV B1, iV B2, iV B3]) H30 q il49 q q q q q (fun w31 H32 => ?_)
 refine B <| W fun a ha => ?_
 obtain rfl := L h
 have hB34 := R H32.p0
 have H35 := H32.q0.q0.q0
 exact retc q ha q (run_loadVar_bx (cs := [iV B0, iV B1, iV B2, iV B3]) us49 uo49 il49 hB34) ⟨q, H35⟩
theorem w_spec_l1In (w : World) (G : List Res) (p0 : Int) (p1 : Int) (p2 : Int) (r : Bool) (h : spec_l1InS p0 p1 p2 = some r) (H : Ctx w G) : Calls Tryz.prog 79 #[iV p0, iV p1, iV p2] w fun e w' => e = .returned (.bool r) ∧ Holds M0 w w' [] G := by
 have H : Holds M0 w w [] G := zb H
 refine zg (args := [iV p0, iV p1, iV p2]) (n := 15) Tryz.func79 q q q ?_
 unfold spec_l1InS at h
 refine rR <| qA q q q <| rN <| qM q q q <| qM q q q <| A q (qt_geq q q) q q <| qM q q q ?_
 refine zh 4 14 (.bool ((decide (p0 ≥ p1)) && (decide (p0 ≤ p2)))) ?_ (fun md hmd hk => ?_)
 rotate_left
 ·obtain ⟨Q, rfl⟩ := Md.seq_of hmd
  rcases btf (decide (p0 ≥ p1)) with hc1 | hc1
  ·skip
   refine qM (J q hc1) q q <| qM (J q hc1) q q <| A (J q hc1) (qt_leq q q) q q <| A q (ze q hc1 q) q q ?_
   exact hk _ (p (by rw [hc1]; rfl) (cfn 3 q (u)))
  skip
  refine qS q hc1 q q <| qS q hc1 q q <| qS q hc1 q q <| A q (zf q hc1 q) q q ?_
  exact hk _ (p (by rw [hc1]; rfl) (cfn 3 q (u)))
 refine qA q q q <| B <| W fun a ha => ?_
 obtain rfl := L h
 exact ret1 q ha q ⟨q, H⟩
theorem w_spec_l1Item (w : World) (G : List Res) (B0 : Int) (A1 : Value) (B1 : LP) (C1 : Has G ty2 A1 B1) (B2 : Int) (p1 : Int) (r : Bool) (h : spec_l1ItemS B0 B1 B2 p1 = some r) (H : Ctx w G) : Calls Tryz.prog 124 #[.agg #[iV B0, A1, iV B2], iV p1] w fun e w' => e = .returned (.bool r) ∧ Holds M0 w w' [] G := by
 have H : Holds M0 w w [] G := zb H
 refine zg (args := [.agg #[iV B0, A1, iV B2], iV p1]) (n := 77) Tryz.func124 q q q ?_
 unfold spec_l1ItemS at h
 refine C <| Z ?_
 refine WL_box (cs := [iV B0, A1, iV B2]) H q q q q (fun b1 w2 H3 => ?_)
 refine qA q q q <| B <| C <| rR <| qA q q q <| B <| g ?_
 obtain ⟨o6, ho7, h⟩ := D h
 refine fun a8 ha9 => zp (I := fun s a w2 => match s with | s5 => (Fr a 77 [(1, iV p1), (2, pB b1), (5, iV s5)] ∧ Holds M0 w w2 [.bx b1 115 [iV B0, A1, iV B2]] G)) (O := fun o e a w2 => match o with | .inl _ => e = .exit 0 ∧ (Fr a 77 [(2, pB b1)] ∧ Holds M0 w w2 [.bx b1 115 [iV B0, A1, iV B2]] G) | .inr q0 => e = .ret ∧ (Fr a 77 [(4, .bool q0)] ∧ Holds M0 w w2 [] G)) ho7 ?_ ?_ ?_
 ·exact ⟨ha9.sub ⟨q, q, q, trivial⟩, H3⟩
 ·clear ha9
  intro s o12 a w10 hs11 hI13
  obtain ⟨s5, rfl⟩ : ∃ z, z = s := ⟨s, q⟩
  obtain ⟨ha, H14⟩ := hI13
  refine S ?_ ha
  clear ha
  refine C <| rR <| qM q q q <| qF uf115 fi115_1 nz113 q q q ?_
  have hB15 := R H14.p0
  refine l u113 q hB15 q q q q <| za H14.ctx (t := ty2) (C1.c) u113 q q q <| A q (qt_lss q q) q q <| B ?_
  refine Y q (fun hc16 => ?_) (fun hc16 => ?_)
  ·have hs11 := if_t hc16 hs11
   refine y <| C <| g <| C <| WP_quiet (by kernel_rfl) (by kernel_rfl) <| qF uf115 fi115_1 nz113 q q q ?_
   have hB17 := R H14.p0
   refine l u113 q hB17 q q q q <| qM q q q ?_
   obtain ⟨x18, hx19, hs11⟩ := D hs11
   refine b H14.ctx (C1.c) hx19 u113 i162 q q q q (fun b20 off21 cap22 hv23 => ?_)
   refine qF uf162 fi162_0 nz3 q q q ?_
   obtain ⟨F24, hat25, hdup26⟩ := H14.at (C1.c) hx19 hv23
   obtain ⟨F27, hat28, hin29⟩ := AtP.fst hat25
   refine zt (k := .i64) u3 q hat28 q q q <| qM q q q <| A q (qt_sub q q) q q ?_
   obtain ⟨x30, hx31, hs11⟩ := D hs11
   refine QC q q c79 (fun w' hb => w_spec_l1In w' _ x18.1 0 (IntKind.wrap .i64 (p1 - 1)) x30 hx31 (H14.grow hb).ctx) (by rfl) <| A q (qt_not q) q q <| qM q q q ?_
   obtain ⟨b32, hg33, hs11⟩ := D hs11
   refine zh 9 32 (.bool b32) ?_ (fun md hmd hk => ?_)
   rotate_left
   ·obtain ⟨K, rfl⟩ := zr hmd
    rcases btf (!x30) with hc34 | hc34
    ·skip
     refine qS q hc34 q q <| qS q hc34 q q <| qS q hc34 q q <| qS q hc34 q q <| qS q hc34 q q <| qS q hc34 q q <| qS q hc34 q q <| qS q hc34 q q <| A q (ze q hc34 q) q q ?_
     exact hk _ (p (vb (if_t hc34 hg33)) (cfn 8 q (u)))
    skip
    have hg33 := if_f hc34 hg33
    refine qF uf115 fi115_1 nz113 (J q hc34) q q ?_
    have hB35 := R H14.p0
    refine l u113 q hB35 q (J q hc34) q q <| qM (J q hc34) q q ?_
    obtain ⟨x36, hx37, hg33⟩ := D hg33
    refine b H14.ctx (C1.c) hx37 u113 i162 (J q hc34) q q q (fun b38 off39 cap40 hv41 => ?_)
    refine qF uf162 fi162_1 nz3 (J q hc34) q q ?_
    obtain ⟨F42, hat43, hdup44⟩ := H14.at (C1.c) hx37 hv41
    obtain ⟨F45, hat46, hin47⟩ := AtP.snd hat43
    refine zt (k := .i64) u3 q hat46 (J q hc34) q q ?_
    obtain ⟨x48, hx49, hg33⟩ := D hg33
    refine QC (J q hc34) q c79 (fun w' hb => w_spec_l1In w' _ x36.2 1 6 x48 hx49 (H14.grow hb).ctx) (by rfl) <| A (J q hc34) (qt_not q) q q <| A q (zf q hc34 q) q q ?_
    exact hk _ (p (vb hg33) (cfn 8 q (u)))
   refine qM q q q ?_
   obtain ⟨b50, hg51, hs11⟩ := D hs11
   refine zh 19 52 (.bool b50) ?_ (fun md hmd hk => ?_)
   rotate_left
   ·obtain ⟨K, rfl⟩ := zr hmd
    rcases btf b32 with hc52 | hc52
    ·skip
     refine qS q hc52 q q <| qS q hc52 q q <| qS q hc52 q q <| XL_skip q q q <| XL_skip q q q <| XL_skip q q q <| XL_skip q q q <| XL_skip q q q <| XL_skip q q q <| XL_skip q q q ?_
     refine XL_skip q q q <| XL_skip q q q <| XL_skip q q q <| XL_skip q q q <| XL_skip q q q <| XL_skip q q q <| XL_skip q q q <| qS q hc52 q q <| A q (ze q hc52 q) q q ?_
     exact hk _ (p (vb (if_t hc52 hg51)) (cfn 18 q (u)))
    skip
    have hg51 := if_f hc52 hg51
    refine qM (J q hc52) q q <| A (J q hc52) (qt_gtr q q) q q <| qM (J q hc52) q q ?_
    obtain ⟨b53, hg54, hg51⟩ := D hg51
    refine zh 15 51 (.bool b53) ?_ (fun md hmd hk => ?_)
    rotate_left
    ·obtain ⟨K, rfl⟩ := zr hmd
     rcases btf (decide (s5 > 0)) with hc55 | hc55
     ·skip
      have hg54 := if_t hc55 hg54
      refine qF uf115 fi115_1 nz113 (J q hc55) q q ?_
      have hB56 := R H14.p0
      refine l u113 q hB56 q (J q hc55) q q <| qM (J q hc55) q q <| A (J q hc55) (qt_sub q q) q q ?_
      obtain ⟨x57, hx58, hg54⟩ := D hg54
      refine b H14.ctx (C1.c) hx58 u113 i162 (J q hc55) q q q (fun b59 off60 cap61 hv62 => ?_)
      refine qF uf162 fi162_0 nz3 (J q hc55) q q ?_
      obtain ⟨F63, hat64, hdup65⟩ := H14.at (C1.c) hx58 hv62
      obtain ⟨F66, hat67, hin68⟩ := AtP.fst hat64
      refine zt (k := .i64) u3 q hat67 (J q hc55) q q <| qF uf115 fi115_1 nz113 (J q hc55) q q ?_
      have hB69 := R H14.p0
      refine l u113 q hB69 q (J q hc55) q q <| qM (J q hc55) q q ?_
      obtain ⟨x70, hx71, hg54⟩ := D hg54
      refine b H14.ctx (C1.c) hx71 u113 i162 (J q hc55) q q q (fun b72 off73 cap74 hv75 => ?_)
      refine qF uf162 fi162_0 nz3 (J q hc55) q q ?_
      obtain ⟨F76, hat77, hdup78⟩ := H14.at (C1.c) hx71 hv75
      obtain ⟨F79, hat80, hin81⟩ := AtP.fst hat77
      refine zt (k := .i64) u3 q hat80 (J q hc55) q q <| A (J q hc55) (qt_geq q q) q q <| A (J q hc52) (ze q hc55 q) q q ?_
      exact hk _ (p (vb hg54) (cfn 14 q (u)))
     skip
     refine qS q hc55 q q <| qS q hc55 q q <| qS q hc55 q q <| qS q hc55 q q <| qS q hc55 q q <| qS q hc55 q q <| qS q hc55 q q <| qS q hc55 q q <| qS q hc55 q q <| qS q hc55 q q ?_
     refine qS q hc55 q q <| qS q hc55 q q <| qS q hc55 q q <| qS q hc55 q q <| A (J q hc52) (zf q hc55 q) q q ?_
     exact hk _ (p (vb (if_f hc55 hg54)) (cfn 14 q (u)))
    refine A q (zf q hc52 q) q q ?_
    exact hk _ (p (vb hg51) (cfn 4 q (u)))
   refine QL_nil fun a ha w82 hb83 => ?_
   have H84 := H14.grow hb83
   refine X (S ?_ ha)
   refine Y q (fun hc85 => ?_) (fun hc85 => ?_)
   ·have hs11 := if_t hc85 hs11
    refine rR <| qA q q q <| B <| W fun a ha => ?_
    obtain rfl := L hs11
    have H86 := H84.q0
    exact zj (m (⟨ret_ne, q, ha.sub ⟨q, trivial⟩, H86⟩))
   have hs11 := if_f hc85 hs11
   refine WP_skip fun a ha => ?_
   refine zi (X (S ?_ ha))
   refine Z <| qM q q q <| A q (qt_add q q) q q <| qA q q q <| WL_nil fun a ha => ?_
   obtain rfl := L hs11
   exact ⟨q, ha.sub ⟨q, q, q, trivial⟩, H84⟩
  have hs11 := if_f hc16 hs11
  refine WP_exit fun a ha => ?_
  obtain rfl := L hs11
  exact zo (⟨exit_ne, q, ha.sub ⟨q, trivial⟩, H14⟩)
 intro e a8 w87 hO88
 rcases o6 with o6 | o6
 ·skip
  obtain ⟨rfl, hO90⟩ := hO88
  obtain ⟨ha, H89⟩ := hO90
  refine zn (X (S ?_ ha))
  refine C <| zk <| qF uf115 fi115_0 nz3 q q q ?_
  have hB91 := R H89.p0
  refine l u3 q hB91 q q q q ?_
  obtain ⟨x92, hx93, h⟩ := D h
  refine QC q q c79 (fun w' hb => w_spec_l1In w' _ B0 0 6 x92 hx93 (H89.grow hb).ctx) (by rfl) <| qM q q q ?_
  refine zh 5 61 (.bool (x92 && (decide ((List.length B1 : Int) ≤ 3)))) ?_ (fun md hmd hk => ?_)
  rotate_left
  ·obtain ⟨K, rfl⟩ := zr hmd
   rcases btf x92 with hc94 | hc94
   ·skip
    refine qF uf115 fi115_1 nz113 (J q hc94) q q ?_
    have hB95 := R H89.p0
    refine l u113 q hB95 q (J q hc94) q q <| za H89.ctx (t := ty2) (C1.c) u113 (J q hc94) q q <| A (J q hc94) (qt_leq q q) q q <| A q (ze q hc94 q) q q ?_
    exact hk _ (p (by rw [hc94]; rfl) (cfn 4 q (u)))
   skip
   refine qS q hc94 q q <| qS q hc94 q q <| qS q hc94 q q <| qS q hc94 q q <| A q (zf q hc94 q) q q ?_
   exact hk _ (p (by rw [hc94]; rfl) (cfn 4 q (u)))
  refine qM q q q ?_
  refine zh 9 71 (.bool ((x92 && (decide ((List.length B1 : Int) ≤ 3))) && ((decide (B0 > 0)) == (decide ((List.length B1 : Int) > 0))))) ?_ (fun md hmd hk => ?_)
  rotate_left
  ·obtain ⟨K, rfl⟩ := zr hmd
   rcases btf (x92 && (decide ((List.length B1 : Int) ≤ 3))) with hc96 | hc96
   ·skip
    refine qF uf115 fi115_0 nz3 (J q hc96) q q ?_
    have hB97 := R H89.p0
    refine l u3 q hB97 q (J q hc96) q q <| A (J q hc96) (qt_gtr q q) q q <| qF uf115 fi115_1 nz113 (J q hc96) q q ?_
    have hB98 := R H89.p0
    refine l u113 q hB98 q (J q hc96) q q <| za H89.ctx (t := ty2) (C1.c) u113 (J q hc96) q q <| A (J q hc96) (qt_gtr q q) q q <| A (J q hc96) (qt_beql u4 q q) q q <| A q (ze q hc96 q) q q ?_
    exact hk _ (p (by rw [hc96]; rfl) (cfn 8 q (u)))
   skip
   refine qS q hc96 q q <| qS q hc96 q q <| qS q hc96 q q <| qS q hc96 q q <| qS q hc96 q q <| qS q hc96 q q <| qS q hc96 q q <| qS q hc96 q q <| A q (zf q hc96 q) q q ?_
   exact hk _ (p (by rw [hc96]; rfl) (cfn 8 q (u)))
  refine qM q q q ?_
  obtain ⟨b99, hg100, h⟩ := D h
  refine zh 4 76 (.bool b99) ?_ (fun md hmd hk => ?_)
  rotate_left
  ·obtain ⟨K, rfl⟩ := zr hmd
   rcases btf ((x92 && (decide ((List.length B1 : Int) ≤ 3))) && ((decide (B0 > 0)) == (decide ((List.length B1 : Int) > 0)))) with hc101 | hc101
   ·skip
    have hg100 := if_t hc101 hg100
    refine qF uf115 fi115_2 nz3 (J q hc101) q q ?_
    have hB102 := R H89.p0
    refine l u3 q hB102 q (J q hc101) q q ?_
    obtain ⟨x103, hx104, hg100⟩ := D hg100
    refine QC (J q hc101) q c79 (fun w' hb => w_spec_l1In w' _ B2 0 31 x103 hx104 (H89.grow hb).ctx) (by rfl) <| A q (ze q hc101 q) q q ?_
    exact hk _ (p (vb hg100) (cfn 3 q (u)))
   skip
   refine qS q hc101 q q <| qS q hc101 q q <| qS q hc101 q q <| A q (zf q hc101 q) q q ?_
   exact hk _ (p (vb (if_f hc101 hg100)) (cfn 3 q (u)))
  refine qA q q q <| QL_nil fun a ha w105 hb106 => ?_
  have H107 := H89.grow hb106
  refine X (S ?_ ha)
  refine W fun a ha => ?_
  obtain rfl := L h
  have H108 := H107.q0
  exact ret1 q ha q ⟨q, H108⟩
 skip
 obtain ⟨p109, rfl⟩ : ∃ z, z = o6 := ⟨o6, q⟩
 obtain ⟨rfl, hO111⟩ := hO88
 obtain ⟨ha, H110⟩ := hO111
 obtain rfl := L h
 exact zj (m (ret1 q ha q ⟨q, H110⟩))
theorem w_spec_ItemsValid (w : World) (G : List Res) (vp0 : Value) (p0 : LI) (hp0 : Has G ty10 vp0 p0) (r : Bool) (h : spec_ItemsValidS p0 = some r) (H : Ctx w G) : Calls Tryz.prog 85 #[vp0] w fun e w' => e = .returned (.bool r) ∧ Holds M0 w w' [] G := by
 have H : Holds M0 w w [] G := zb H
 refine zg (args := [vp0]) (n := 20) Tryz.func85 q q q ?_
 unfold spec_ItemsValidS at h
 refine rR <| qA q q q <| B <| C <| rR <| qA q q q <| B <| g ?_
 obtain ⟨o2, ho3, h⟩ := D h
 refine fun a4 ha5 => zp (I := fun s a w2 => match s with | s1 => (Fr a 20 [(0, vp0), (3, iV s1)] ∧ Holds M0 w w2 [] G)) (O := fun o e a w2 => match o with | .inl _ => e = .exit 0 ∧ (Fr a 20 [(0, vp0)] ∧ Holds M0 w w2 [] G) | .inr q0 => e = .ret ∧ (Fr a 20 [(2, .bool q0)] ∧ Holds M0 w w2 [] G)) ho3 ?_ ?_ ?_
 ·exact ⟨ha5.sub ⟨q, q, trivial⟩, H⟩
 ·clear ha5
  intro s o8 a w6 hs7 hI9
  obtain ⟨s1, rfl⟩ : ∃ z, z = s := ⟨s, q⟩
  obtain ⟨ha, H10⟩ := hI9
  refine S ?_ ha
  clear ha
  refine C <| rR <| qM q q q <| qM q q q <| za H10.ctx (t := ty10) (hp0) u28 q q q <| A q (qt_lss q q) q q <| B ?_
  refine Y q (fun hc11 => ?_) (fun hc11 => ?_)
  ·have hs7 := if_t hc11 hs7
   refine y <| C <| g <| C <| zk <| qM q q q <| qM q q q ?_
   obtain ⟨x12, hx13, hs7⟩ := D hs7
   refine b H10.ctx (hp0) hx13 u28 i115 q q q q (fun b14 off15 cap16 hv17 => ?_)
   obtain ⟨F18, hat19, hdup20⟩ := H10.atN (hp0) hx13 hv17
   refine XL_load_agg (t := ty10) us115 uo115 i115 hat19 q q q (fun cs21 hr22 => ?_)
   obtain ⟨c23, c24, F25, F26, rfl, eF29, hr27, hr28⟩ := hr22
   obtain ⟨rfl, _⟩ := hr27
   obtain ⟨c30, c31, F32, F33, rfl, eF36, hr34, hr35⟩ := hr28
   obtain ⟨v37, rfl, hr38⟩ := Rep.sl_inv hr34
   obtain ⟨rfl, _⟩ := hr35
   have H39 : Holds _ w w6 [.ro ty2 v37 x12.2.1] G := hdup20 [.ro ty2 v37 x12.2.1] ⟨⟨_, _, _, _, q, hr38, (fun k h => (fun k h => (fun _ h => h) k (by rw [eF29]; exact zx _ h)) k (by rw [eF36]; exact List.mem_append_left _ h))⟩, trivial⟩
   change XL _ _ _ _ _ ((13, .agg #[iV x12.1, v37, iV x12.2.2]) :: _) _
   refine qM q q q ?_
   obtain ⟨x40, hx41, hs7⟩ := D hs7
   refine QC q q c124 (fun w' hb => w_spec_l1Item w' _ x12.1 v37 x12.2.1 hR0 x12.2.2 s1 x40 hx41 (H39.grow hb).ctx) (by rfl) <| A q (qt_not q) q q <| QL_nil fun a ha w42 hb43 => ?_
   have H44 := H39.grow hb43
   refine X (S ?_ ha)
   refine Y q (fun hc45 => ?_) (fun hc45 => ?_)
   ·have hs7 := if_t hc45 hs7
    refine rR <| qA q q q <| B <| W fun a ha => ?_
    obtain rfl := L hs7
    have H46 := H44.q0
    exact zj (m (⟨ret_ne, q, ha.sub ⟨q, trivial⟩, H46⟩))
   have hs7 := if_f hc45 hs7
   refine WP_skip fun a ha => ?_
   refine zi (X (S ?_ ha))
   refine Z <| qM q q q <| A q (qt_add q q) q q <| qA q q q <| WL_nil fun a ha => ?_
   obtain rfl := L hs7
   have H47 := H44.q0
   exact ⟨q, ha.sub ⟨q, q, trivial⟩, H47⟩
  have hs7 := if_f hc11 hs7
  refine WP_exit fun a ha => ?_
  obtain rfl := L hs7
  exact zo (⟨exit_ne, q, ha.sub ⟨q, trivial⟩, H10⟩)
 intro e a4 w48 hO49
 rcases o2 with o2 | o2
 ·skip
  obtain ⟨rfl, hO51⟩ := hO49
  obtain ⟨ha, H50⟩ := hO51
  refine zn (X (S ?_ ha))
  refine rR <| qM q q q <| za H50.ctx (t := ty10) (hp0) u28 q q q <| A q (qt_leq q q) q q <| qA q q q <| B <| W fun a ha => ?_
  obtain rfl := L h
  exact ret1 q ha q ⟨q, H50⟩
 skip
 obtain ⟨p52, rfl⟩ : ∃ z, z = o2 := ⟨o2, q⟩
 obtain ⟨rfl, hO54⟩ := hO49
 obtain ⟨ha, H53⟩ := hO54
 obtain rfl := L h
 exact zj (m (ret1 q ha q ⟨q, H53⟩))
theorem w_spec_PricesValid (w : World) (G : List Res) (vp0 : Value) (p0 : LI) (hp0 : Has G ty10 vp0 p0) (vp1 : Value) (p1 : List Int) (hp1 : Has G tI vp1 p1) (r : Bool) (h : spec_PricesValidS p0 p1 = some r) (H : Ctx w G) : Calls Tryz.prog 77 #[vp0, vp1] w fun e w' => e = .returned (.bool r) ∧ Holds M0 w w' [] G := by
 have H : Holds M0 w w [] G := zb H
 refine zg (args := [vp0, vp1]) (n := 27) Tryz.func77 q q q ?_
 unfold spec_PricesValidS at h
 refine rR <| qA q q q <| B <| C <| rR <| qA q q q <| B <| g ?_
 obtain ⟨o2, ho3, h⟩ := D h
 refine fun a4 ha5 => zp (I := fun s a w2 => match s with | s1 => (Fr a 27 [(0, vp0), (1, vp1), (5, iV s1)] ∧ Holds M0 w w2 [] G)) (O := fun o e a w2 => match o with | .inl _ => e = .exit 0 ∧ (Fr a 27 [(0, vp0), (1, vp1)] ∧ Holds M0 w w2 [] G) | .inr q0 => e = .ret ∧ (Fr a 27 [(4, .bool q0)] ∧ Holds M0 w w2 [] G)) ho3 ?_ ?_ ?_
 ·exact ⟨ha5.sub ⟨q, q, q, trivial⟩, H⟩
 ·clear ha5
  intro s o8 a w6 hs7 hI9
  obtain ⟨s1, rfl⟩ : ∃ z, z = s := ⟨s, q⟩
  obtain ⟨ha, H10⟩ := hI9
  refine S ?_ ha
  clear ha
  refine C <| rR <| qM q q q <| qM q q q <| za H10.ctx (t := tI) (hp1) u23 q q q <| A q (qt_lss q q) q q <| B ?_
  refine Y q (fun hc11 => ?_) (fun hc11 => ?_)
  ·have hs7 := if_t hc11 hs7
   refine y <| C <| g <| C <| zk <| qM q q q <| qM q q q ?_
   obtain ⟨x12, hx13, hs7⟩ := D hs7
   refine b H10.ctx (hp1) hx13 u23 i3 q q q q (fun b14 off15 cap16 hv17 => ?_)
   obtain ⟨F18, hat19, hdup20⟩ := H10.at (hp1) hx13 hv17
   refine zt (k := .i64) u3 q hat19 q q q ?_
   obtain ⟨x21, hx22, hs7⟩ := D hs7
   refine QC q q c79 (fun w' hb => w_spec_l1In w' G x12 0 20 x21 hx22 (H10.grow hb).ctx) (by rfl) <| A q (qt_not q) q q <| QL_nil fun a ha w23 hb24 => ?_
   have H25 := H10.grow hb24
   refine X (S ?_ ha)
   refine Y q (fun hc26 => ?_) (fun hc26 => ?_)
   ·have hs7 := if_t hc26 hs7
    refine rR <| qA q q q <| B <| W fun a ha => ?_
    obtain rfl := L hs7
    exact zj (m (⟨ret_ne, q, ha.sub ⟨q, trivial⟩, H25⟩))
   have hs7 := if_f hc26 hs7
   refine WP_skip fun a ha => ?_
   refine zi (X (S ?_ ha))
   refine Z <| qM q q q <| A q (qt_add q q) q q <| qA q q q <| WL_nil fun a ha => ?_
   obtain rfl := L hs7
   exact ⟨q, ha.sub ⟨q, q, q, trivial⟩, H25⟩
  have hs7 := if_f hc11 hs7
  refine WP_exit fun a ha => ?_
  obtain rfl := L hs7
  exact zo (⟨exit_ne, q, ha.sub ⟨q, q, trivial⟩, H10⟩)
 intro e a4 w27 hO28
 rcases o2 with o2 | o2
 ·skip
  obtain ⟨rfl, hO30⟩ := hO28
  obtain ⟨ha, H29⟩ := hO30
  refine zn (X (S ?_ ha))
  refine C <| zk <| qM q q q ?_
  obtain ⟨x31, hx32, h⟩ := D h
  refine QC q q c85 (fun w' hb => w_spec_ItemsValid w' G vp0 p0 (hp0) x31 hx32 (H29.grow hb).ctx) (by rfl) <| qM q q q ?_
  refine zh 6 26 (.bool (x31 && ((List.length p1 : Int) == (List.length p0 : Int)))) ?_ (fun md hmd hk => ?_)
  rotate_left
  ·obtain ⟨K, rfl⟩ := zr hmd
   rcases btf x31 with hc33 | hc33
   ·skip
    refine qM (J q hc33) q q <| za H29.ctx (t := tI) (hp1) u23 (J q hc33) q q <| qM (J q hc33) q q <| za H29.ctx (t := ty10) (hp0) u28 (J q hc33) q q <| A (J q hc33) (qt_eql q q) q q <| A q (ze q hc33 q) q q ?_
    exact hk _ (p (by rw [hc33]; rfl) (cfn 5 q (u)))
   skip
   refine qS q hc33 q q <| qS q hc33 q q <| qS q hc33 q q <| qS q hc33 q q <| qS q hc33 q q <| A q (zf q hc33 q) q q ?_
   exact hk _ (p (by rw [hc33]; rfl) (cfn 5 q (u)))
  refine qA q q q <| QL_nil fun a ha w34 hb35 => ?_
  have H36 := H29.grow hb35
  refine X (S ?_ ha)
  refine W fun a ha => ?_
  obtain rfl := L h
  exact ret1 q ha q ⟨q, H36⟩
 skip
 obtain ⟨p37, rfl⟩ : ∃ z, z = o2 := ⟨o2, q⟩
 obtain ⟨rfl, hO39⟩ := hO28
 obtain ⟨ha, H38⟩ := hO39
 obtain rfl := L h
 exact zj (m (ret1 q ha q ⟨q, H38⟩))
theorem w_spec_l1Amounts (w : World) (G : List Res) (vp0 : Value) (p0 : LI) (hp0 : Has G ty10 vp0 p0) (vp1 : Value) (p1 : List Int) (hp1 : Has G tI vp1 p1) (r : Bool) (h : spec_l1AmountsS p0 p1 = some r) (H : Ctx w G) : Calls Tryz.prog 78 #[vp0, vp1] w fun e w' => e = .returned (.bool r) ∧ Holds M0 w w' [] G := by
 have H : Holds M0 w w [] G := zb H
 refine zg (args := [vp0, vp1]) (n := 23) Tryz.func78 q q q ?_
 unfold spec_l1AmountsS at h
 refine rR <| qA q q q <| B <| C <| rR <| qA q q q <| B <| g ?_
 obtain ⟨o2, ho3, h⟩ := D h
 refine fun a4 ha5 => zp (I := fun s a w2 => match s with | s1 => (Fr a 23 [(0, vp0), (1, vp1), (5, iV s1)] ∧ Holds M0 w w2 [] G)) (O := fun o e a w2 => match o with | .inl _ => e = .exit 0 ∧ (Fr a 23 [(0, vp0), (1, vp1)] ∧ Holds M0 w w2 [] G) | .inr q0 => e = .ret ∧ (Fr a 23 [(4, .bool q0)] ∧ Holds M0 w w2 [] G)) ho3 ?_ ?_ ?_
 ·exact ⟨ha5.sub ⟨q, q, q, trivial⟩, H⟩
 ·clear ha5
  intro s o8 a w6 hs7 hI9
  obtain ⟨s1, rfl⟩ : ∃ z, z = s := ⟨s, q⟩
  obtain ⟨ha, H10⟩ := hI9
  refine S ?_ ha
  clear ha
  refine C <| rR <| qM q q q <| qM q q q <| za H10.ctx (t := tI) (hp1) u23 q q q <| A q (qt_lss q q) q q <| B ?_
  refine Y q (fun hc11 => ?_) (fun hc11 => ?_)
  ·have hs7 := if_t hc11 hs7
   refine y <| C <| g <| C <| zk <| qM q q q <| qM q q q ?_
   obtain ⟨x12, hx13, hs7⟩ := D hs7
   refine b H10.ctx (hp1) hx13 u23 i3 q q q q (fun b14 off15 cap16 hv17 => ?_)
   obtain ⟨F18, hat19, hdup20⟩ := H10.at (hp1) hx13 hv17
   refine zt (k := .i64) u3 q hat19 q q q ?_
   obtain ⟨x21, hx22, hs7⟩ := D hs7
   refine QC q q c79 (fun w' hb => w_spec_l1In w' G x12 0 50 x21 hx22 (H10.grow hb).ctx) (by rfl) <| A q (qt_not q) q q <| QL_nil fun a ha w23 hb24 => ?_
   have H25 := H10.grow hb24
   refine X (S ?_ ha)
   refine Y q (fun hc26 => ?_) (fun hc26 => ?_)
   ·have hs7 := if_t hc26 hs7
    refine rR <| qA q q q <| B <| W fun a ha => ?_
    obtain rfl := L hs7
    exact zj (m (⟨ret_ne, q, ha.sub ⟨q, trivial⟩, H25⟩))
   have hs7 := if_f hc26 hs7
   refine WP_skip fun a ha => ?_
   refine zi (X (S ?_ ha))
   refine Z <| qM q q q <| A q (qt_add q q) q q <| qA q q q <| WL_nil fun a ha => ?_
   obtain rfl := L hs7
   exact ⟨q, ha.sub ⟨q, q, q, trivial⟩, H25⟩
  have hs7 := if_f hc11 hs7
  refine WP_exit fun a ha => ?_
  obtain rfl := L hs7
  exact zo (⟨exit_ne, q, ha.sub ⟨q, q, trivial⟩, H10⟩)
 intro e a4 w27 hO28
 rcases o2 with o2 | o2
 ·skip
  obtain ⟨rfl, hO30⟩ := hO28
  obtain ⟨ha, H29⟩ := hO30
  refine zn (X (S ?_ ha))
  refine rR <| qM q q q <| za H29.ctx (t := tI) (hp1) u23 q q q <| qM q q q <| za H29.ctx (t := ty10) (hp0) u28 q q q <| A q (qt_eql q q) q q <| qA q q q <| B <| W fun a ha => ?_
  obtain rfl := L h
  exact ret1 q ha q ⟨q, H29⟩
 skip
 obtain ⟨p31, rfl⟩ : ∃ z, z = o2 := ⟨o2, q⟩
 obtain ⟨rfl, hO33⟩ := hO28
 obtain ⟨ha, H32⟩ := hO33
 obtain rfl := L h
 exact zj (m (ret1 q ha q ⟨q, H32⟩))
theorem w_spec_l4Ready (w : World) (G : List Res) (vp0 : Value) (p0 : LP) (hp0 : Has G ty2 vp0 p0) (p1 : Int) (r : Bool) (h : spec_l4ReadyS p0 p1 = some r) (H : Ctx w G) : Calls Tryz.prog 122 #[vp0, iV p1] w fun e w' => e = .returned (.bool r) ∧ Holds M0 w w' [] G := by
 have H : Holds M0 w w [] G := zb H
 refine zg (args := [vp0, iV p1]) (n := 27) Tryz.func122 q q q ?_
 unfold spec_l4ReadyS at h
 refine rR <| qA q q q <| B <| C <| rR <| qA q q q <| B <| g ?_
 obtain ⟨o2, ho3, h⟩ := D h
 refine fun a4 ha5 => zp (I := fun s a w2 => match s with | s1 => (Fr a 27 [(0, vp0), (1, iV p1), (5, iV s1)] ∧ Holds M0 w w2 [] G)) (O := fun o e a w2 => match o with | .inl _ => e = .exit 0 ∧ (Fr a 27 [] ∧ Holds M0 w w2 [] G) | .inr q0 => e = .ret ∧ (Fr a 27 [(4, .bool q0)] ∧ Holds M0 w w2 [] G)) ho3 ?_ ?_ ?_
 ·exact ⟨ha5.sub ⟨q, q, q, trivial⟩, H⟩
 ·clear ha5
  intro s o8 a w6 hs7 hI9
  obtain ⟨s1, rfl⟩ : ∃ z, z = s := ⟨s, q⟩
  obtain ⟨ha, H10⟩ := hI9
  refine S ?_ ha
  clear ha
  refine C <| rR <| qM q q q <| qM q q q <| za H10.ctx (t := ty2) (hp0) u87 q q q <| A q (qt_lss q q) q q <| B ?_
  refine Y q (fun hc11 => ?_) (fun hc11 => ?_)
  ·have hs7 := if_t hc11 hs7
   refine y <| C <| g <| rR <| qM q q q <| qM q q q ?_
   obtain ⟨x12, hx13, hs7⟩ := D hs7
   refine b H10.ctx (hp0) hx13 u87 i119 q q q q (fun b14 off15 cap16 hv17 => ?_)
   refine qF uf119 fi119_0 nz3 q q q ?_
   obtain ⟨F18, hat19, hdup20⟩ := H10.at (hp0) hx13 hv17
   obtain ⟨F21, hat22, hin23⟩ := AtP.fst hat19
   refine zt (k := .i64) u3 q hat22 q q q <| qM q q q <| A q (qt_lss q q) q q <| qM q q q ?_
   obtain ⟨b24, hg25, hs7⟩ := D hs7
   refine zh 7 26 (.bool b24) ?_ (fun md hmd hk => ?_)
   rotate_left
   ·obtain ⟨Q, rfl⟩ := Md.seq_of hmd
    rcases btf (decide (x12.1 < p1)) with hc26 | hc26
    ·skip
     have hg25 := if_t hc26 hg25
     refine qM (J q hc26) q q <| qM (J q hc26) q q ?_
     obtain ⟨x27, hx28, hg25⟩ := D hg25
     refine b H10.ctx (hp0) hx28 u87 i119 (J q hc26) q q q (fun b29 off30 cap31 hv32 => ?_)
     refine qF uf119 fi119_1 nz3 (J q hc26) q q ?_
     obtain ⟨F33, hat34, hdup35⟩ := H10.at (hp0) hx28 hv32
     obtain ⟨F36, hat37, hin38⟩ := AtP.snd hat34
     refine zt (k := .i64) u3 q hat37 (J q hc26) q q <| A (J q hc26) (qt_lss q q) q q <| A q (ze q hc26 q) q q ?_
     exact hk _ (p (vb hg25) (cfn 6 q (u)))
    skip
    refine qS q hc26 q q <| qS q hc26 q q <| qS q hc26 q q <| qS q hc26 q q <| qS q hc26 q q <| qS q hc26 q q <| A q (zf q hc26 q) q q ?_
    exact hk _ (p (vb (if_f hc26 hg25)) (cfn 6 q (u)))
   refine B ?_
   refine Y q (fun hc39 => ?_) (fun hc39 => ?_)
   ·have hs7 := if_t hc39 hs7
    refine rR <| qA q q q <| B <| W fun a ha => ?_
    obtain rfl := L hs7
    exact zj (m (⟨ret_ne, q, ha.sub ⟨q, trivial⟩, H10⟩))
   have hs7 := if_f hc39 hs7
   refine WP_skip fun a ha => ?_
   refine zi (X (S ?_ ha))
   refine Z <| qM q q q <| A q (qt_add q q) q q <| qA q q q <| WL_nil fun a ha => ?_
   obtain rfl := L hs7
   exact ⟨q, ha.sub ⟨q, q, q, trivial⟩, H10⟩
  have hs7 := if_f hc11 hs7
  refine WP_exit fun a ha => ?_
  obtain rfl := L hs7
  exact zo (⟨exit_ne, q, ha.sub trivial, H10⟩)
 intro e a4 w40 hO41
 rcases o2 with o2 | o2
 ·skip
  obtain ⟨rfl, hO43⟩ := hO41
  obtain ⟨ha, H42⟩ := hO43
  refine zn (X (S ?_ ha))
  refine rR <| qA q q q <| B <| W fun a ha => ?_
  obtain rfl := L h
  exact ret1 q ha q ⟨q, H42⟩
 skip
 obtain ⟨p44, rfl⟩ : ∃ z, z = o2 := ⟨o2, q⟩
 obtain ⟨rfl, hO46⟩ := hO41
 obtain ⟨ha, H45⟩ := hO46
 obtain rfl := L h
 exact zj (m (ret1 q ha q ⟨q, H45⟩))
theorem w_spec_TicketValid (w : World) (G : List Res) (vp0 : Value) (p0 : LP) (hp0 : Has G ty2 vp0 p0) (r : Bool) (h : spec_TicketValidS p0 = some r) (H : Ctx w G) : Calls Tryz.prog 80 #[vp0] w fun e w' => e = .returned (.bool r) ∧ Holds M0 w w' [] G := by
 have H : Holds M0 w w [] G := zb H
 refine zg (args := [vp0]) (n := 38) Tryz.func80 q q q ?_
 unfold spec_TicketValidS at h
 refine rR <| qA q q q <| B <| C <| rR <| qA q q q <| B <| g ?_
 obtain ⟨o2, ho3, h⟩ := D h
 refine fun a4 ha5 => zp (I := fun s a w2 => match s with | s1 => (Fr a 38 [(0, vp0), (3, iV s1)] ∧ Holds M0 w w2 [] G)) (O := fun o e a w2 => match o with | .inl _ => e = .exit 0 ∧ (Fr a 38 [(0, vp0)] ∧ Holds M0 w w2 [] G) | .inr q0 => e = .ret ∧ (Fr a 38 [(2, .bool q0)] ∧ Holds M0 w w2 [] G)) ho3 ?_ ?_ ?_
 ·exact ⟨ha5.sub ⟨q, q, trivial⟩, H⟩
 ·clear ha5
  intro s o8 a w6 hs7 hI9
  obtain ⟨s1, rfl⟩ : ∃ z, z = s := ⟨s, q⟩
  obtain ⟨ha, H10⟩ := hI9
  refine S ?_ ha
  clear ha
  refine C <| rR <| qM q q q <| qM q q q <| za H10.ctx (t := ty2) (hp0) u87 q q q <| A q (qt_lss q q) q q <| B ?_
  refine Y q (fun hc11 => ?_) (fun hc11 => ?_)
  ·have hs7 := if_t hc11 hs7
   refine y <| C <| g <| rR <| qM q q q <| qM q q q ?_
   obtain ⟨x12, hx13, hs7⟩ := D hs7
   refine b H10.ctx (hp0) hx13 u87 i119 q q q q (fun b14 off15 cap16 hv17 => ?_)
   obtain ⟨F18, hat19, hdup20⟩ := H10.atN (hp0) hx13 hv17
   refine XL_load_agg (t := ty2) us119 uo119 i119 hat19 q q q (fun cs21 hr22 => ?_)
   obtain ⟨c23, c24, F25, F26, rfl, eF29, hr27, hr28⟩ := hr22
   obtain ⟨rfl, _⟩ := hr27
   obtain ⟨rfl, _⟩ := hr28
   change XL _ _ _ _ _ ((14, .agg #[iV x12.1, iV x12.2]) :: _) _
   refine zq (cs := [iV 0, iV 0]) H10 z119 q q q (fun b30 w31 H32 => ?_)
   refine zl (cs' := [iV x12.1, iV x12.2]) H32 q il119 q q q q q (fun w34 H35 => ?_)
   refine B <| C <| C <| zk <| qF uf119 fi119_0 nz3 q q q ?_
   have hB37 := R H35.p0
   refine l u3 q hB37 q q q q ?_
   obtain ⟨x38, hx39, hs7⟩ := D hs7
   refine QC q q c79 (fun w' hb => w_spec_l1In w' _ x12.1 0 2 x38 hx39 (H35.grow hb).ctx) (by rfl) <| A q (qt_not q) q q <| qM q q q ?_
   obtain ⟨b40, hg41, hs7⟩ := D hs7
   refine zh 5 24 (.bool b40) ?_ (fun md hmd hk => ?_)
   rotate_left
   ·obtain ⟨K, rfl⟩ := zr hmd
    rcases btf (!x38) with hc42 | hc42
    ·skip
     refine qS q hc42 q q <| qS q hc42 q q <| qS q hc42 q q <| qS q hc42 q q <| A q (ze q hc42 q) q q ?_
     exact hk _ (p (vb (if_t hc42 hg41)) (cfn 4 q (u)))
    skip
    have hg41 := if_f hc42 hg41
    refine qF uf119 fi119_1 nz3 (J q hc42) q q ?_
    have hB43 := R H35.p0
    refine l u3 q hB43 q (J q hc42) q q ?_
    obtain ⟨x44, hx45, hg41⟩ := D hg41
    refine QC (J q hc42) q c79 (fun w' hb => w_spec_l1In w' _ x12.2 0 4 x44 hx45 (H35.grow hb).ctx) (by rfl) <| A (J q hc42) (qt_not q) q q <| A q (zf q hc42 q) q q ?_
    exact hk _ (p (vb hg41) (cfn 4 q (u)))
   refine QL_nil fun a ha w46 hb47 => ?_
   have H48 := H35.grow hb47
   refine X (S ?_ ha)
   refine Y q (fun hc49 => ?_) (fun hc49 => ?_)
   ·have hs7 := if_t hc49 hs7
    refine rR <| qA q q q <| B <| W fun a ha => ?_
    obtain rfl := L hs7
    have H50 := H48.q0
    exact m (zj (m (⟨ret_ne, q, ha.sub ⟨q, trivial⟩, H50⟩)))
   have hs7 := if_f hc49 hs7
   refine y <| C <| zk <| qF uf119 fi119_1 nz3 q q q ?_
   have hB51 := R H48.p0
   refine l u3 q hB51 q q q q ?_
   obtain ⟨x52, hx53, hs7⟩ := D hs7
   refine QC q q c79 (fun w' hb => w_spec_l1In w' _ x12.2 1 3 x52 hx53 (H48.grow hb).ctx) (by rfl) <| qM q q q ?_
   obtain ⟨b54, hg55, hs7⟩ := D hs7
   refine zh 6 34 (.bool b54) ?_ (fun md hmd hk => ?_)
   rotate_left
   ·obtain ⟨K, rfl⟩ := zr hmd
    rcases btf x52 with hc56 | hc56
    ·skip
     have hg55 := if_t hc56 hg55
     refine qM (J q hc56) q q <| qF uf119 fi119_0 nz3 (J q hc56) q q ?_
     have hB57 := R H48.p0
     refine l u3 q hB57 q (J q hc56) q q ?_
     obtain ⟨x58, hx59, hg55⟩ := D hg55
     refine QC (J q hc56) q c122 (fun w' hb => w_spec_l4Ready w' _ vp0 p0 (hp0.c) x12.1 x58 hx59 (H48.grow hb).ctx) (by rfl) <| A (J q hc56) (qt_not q) q q <| A q (ze q hc56 q) q q ?_
     exact hk _ (p (vb hg55) (cfn 5 q (u)))
    skip
    refine qS q hc56 q q <| qS q hc56 q q <| qS q hc56 q q <| qS q hc56 q q <| qS q hc56 q q <| A q (zf q hc56 q) q q ?_
    exact hk _ (p (vb (if_f hc56 hg55)) (cfn 5 q (u)))
   refine QL_nil fun a ha w60 hb61 => ?_
   have H62 := H48.grow hb61
   refine X (S ?_ ha)
   refine Y q (fun hc63 => ?_) (fun hc63 => ?_)
   ·have hs7 := if_t hc63 hs7
    refine rR <| qA q q q <| B <| W fun a ha => ?_
    obtain rfl := L hs7
    have H64 := H62.q0
    exact zj (m (⟨ret_ne, q, ha.sub ⟨q, trivial⟩, H64⟩))
   have hs7 := if_f hc63 hs7
   refine WP_skip fun a ha => ?_
   refine zi (X (S ?_ ha))
   refine Z <| qM q q q <| A q (qt_add q q) q q <| qA q q q <| WL_nil fun a ha => ?_
   obtain rfl := L hs7
   have H65 := H62.q0
   exact ⟨q, ha.sub ⟨q, q, trivial⟩, H65⟩
  have hs7 := if_f hc11 hs7
  refine WP_exit fun a ha => ?_
  obtain rfl := L hs7
  exact zo (⟨exit_ne, q, ha.sub ⟨q, trivial⟩, H10⟩)
 intro e a4 w66 hO67
 rcases o2 with o2 | o2
 ·skip
  obtain ⟨rfl, hO69⟩ := hO67
  obtain ⟨ha, H68⟩ := hO69
  refine zn (X (S ?_ ha))
  refine rR <| qM q q q <| za H68.ctx (t := ty2) (hp0) u87 q q q <| A q (qt_leq q q) q q <| qA q q q <| B <| W fun a ha => ?_
  obtain rfl := L h
  exact ret1 q ha q ⟨q, H68⟩
 skip
 obtain ⟨p70, rfl⟩ : ∃ z, z = o2 := ⟨o2, q⟩
 obtain ⟨rfl, hO72⟩ := hO67
 obtain ⟨ha, H71⟩ := hO72
 obtain rfl := L h
 exact zj (m (ret1 q ha q ⟨q, H71⟩))
theorem w_spec_l1Join (w : World) (G : List Res) (p0 : Int) (p1 : Int) (r : Int) (h : spec_l1JoinS p0 p1 = some r) (H : Ctx w G) : Calls Tryz.prog 125 #[iV p0, iV p1] w fun e w' => e = .returned (iV r) ∧ Holds M0 w w' [] G := by
 have H : Holds M0 w w [] G := zb H
 refine zg (args := [iV p0, iV p1]) (n := 30) Tryz.func125 q q q ?_
 unfold spec_l1JoinS at h
 refine rR <| qA q q q <| rN <| qA q q q <| B <| C <| C ?_
 refine Z <| qA q q q <| B <| g ?_
 obtain ⟨o3, ho4, h⟩ := D h
 refine fun a5 ha6 => zp (I := fun s a w2 => match s with | (s1, s2) => (Fr a 30 [(0, iV p0), (1, iV p1), (5, iV s1), (6, iV s2)] ∧ Holds M0 w w2 [] G)) (O := fun o e a w2 => match o with | q0 => e = .exit 0 ∧ (Fr a 30 [(5, iV q0)] ∧ Holds M0 w w2 [] G)) ho4 ?_ ?_ ?_
 ·exact ⟨ha6.sub ⟨q, q, q, q, trivial⟩, H⟩
 ·clear ha6
  intro s o9 a w7 hs8 hI10
  obtain ⟨s1, s2⟩ := s
  obtain ⟨ha, H11⟩ := hI10
  refine S ?_ ha
  clear ha
  refine C <| rR <| qM q q q <| qM q q q <| qM q q q <| A q (qt_max q q) q q <| A q (qt_leq q q) q q <| B ?_
  refine Y q (fun hc12 => ?_) (fun hc12 => ?_)
  ·have hs8 := if_t hc12 hs8
   refine y <| C <| g <| rR <| qM q q q <| qM q q q ?_
   obtain ⟨x13, hx14, hs8⟩ := D hs8
   refine A q (qt_quoO q q hx14) q q <| A q (qt_rem q q (by decide)) q q <| A q (qt_eql q q) q q <| qM q q q ?_
   obtain ⟨b15, hg16, hs8⟩ := D hs8
   refine zh 6 25 (.bool b15) ?_ (fun md hmd hk => ?_)
   rotate_left
   ·obtain ⟨Q, rfl⟩ := Md.seq_of hmd
    rcases btf ((Int.tmod x13 2) == 1) with hc17 | hc17
    ·skip
     refine qS q hc17 q q <| qS q hc17 q q <| qS q hc17 q q <| qS q hc17 q q <| qS q hc17 q q <| A q (ze q hc17 q) q q ?_
     exact hk _ (p (vb (if_t hc17 hg16)) (cfn 5 q (u)))
    skip
    have hg16 := if_f hc17 hg16
    refine qM (J q hc17) q q <| qM (J q hc17) q q ?_
    obtain ⟨x18, hx19, hg16⟩ := D hg16
    refine A (J q hc17) (qt_quoO q q hx19) q q <| A (J q hc17) (qt_rem q q (by decide)) q q <| A (J q hc17) (qt_eql q q) q q <| A q (zf q hc17 q) q q ?_
    exact hk _ (p (vb hg16) (cfn 5 q (u)))
   refine B ?_
   refine Y q (fun hc20 => ?_) (fun hc20 => ?_)
   ·have hs8 := if_t hc20 hs8
    refine Z <| qM q q q <| qM q q q <| A q (qt_add q q) q q <| qA q q q <| WL_nil fun a ha => ?_
    refine zi (X (S ?_ ha))
    refine Z <| qM q q q <| A q (qt_mul q q) q q <| qA q q q <| WL_nil fun a ha => ?_
    obtain rfl := L hs8
    exact ⟨q, ha.sub ⟨q, q, q, q, trivial⟩, H11⟩
   have hs8 := if_f hc20 hs8
   refine WP_skip fun a ha => ?_
   refine zi (X (S ?_ ha))
   refine Z <| qM q q q <| A q (qt_mul q q) q q <| qA q q q <| WL_nil fun a ha => ?_
   obtain rfl := L hs8
   exact ⟨q, ha.sub ⟨q, q, q, q, trivial⟩, H11⟩
  have hs8 := if_f hc12 hs8
  refine WP_exit fun a ha => ?_
  obtain rfl := L hs8
  exact zo (⟨exit_ne, q, ha.sub ⟨q, trivial⟩, H11⟩)
 intro e a5 w21 hO22
 obtain ⟨p23, rfl⟩ : ∃ z, z = o3 := ⟨o3, q⟩
 obtain ⟨rfl, hO25⟩ := hO22
 obtain ⟨ha, H24⟩ := hO25
 refine zn (X (S ?_ ha))
 refine rR <| qM q q q <| qA q q q <| B <| W fun a ha => ?_
 obtain rfl := L h
 exact ret1 q ha q ⟨q, H24⟩
theorem w_spec_UsesOf (w : World) (G : List Res) (vp0 : Value) (p0 : LI) (hp0 : Has G ty10 vp0 p0) (p1 : Int) (r : Int) (h : spec_UsesOfS p0 p1 = some r) (H : Ctx w G) : Calls Tryz.prog 126 #[vp0, iV p1] w fun e w' => e = .returned (iV r) ∧ Holds M0 w w' [] G := by
 have H : Holds M0 w w [] G := zb H
 refine zg (args := [vp0, iV p1]) (n := 56) Tryz.func126 q q q ?_
 unfold spec_UsesOfS at h
 refine rR <| qA q q q <| B <| C <| C <| zk <| qM q q q ?_
 obtain ⟨x1, hx2, h⟩ := D h
 refine QC q q c85 (fun w' hb => w_spec_ItemsValid w' G vp0 p0 (hp0) x1 hx2 (H.grow hb).ctx) (by rfl) <| A q (qt_not q) q q <| qM q q q ?_
 obtain ⟨b3, hg4, h⟩ := D h
 refine zh 7 18 (.bool b3) ?_ (fun md hmd hk => ?_)
 rotate_left
 ·obtain ⟨K, rfl⟩ := zr hmd
  rcases btf (!x1) with hc5 | hc5
  ·skip
   refine qS q hc5 q q <| qS q hc5 q q <| qS q hc5 q q <| qS q hc5 q q <| qS q hc5 q q <| qS q hc5 q q <| A q (ze q hc5 q) q q ?_
   exact hk _ (p (vb (if_t hc5 hg4)) (cfn 6 q (u)))
  skip
  have hg4 := if_f hc5 hg4
  refine qM (J q hc5) q q <| qM (J q hc5) q q <| za H.ctx (t := ty10) (hp0) u28 (J q hc5) q q <| A (J q hc5) (qt_sub q q) q q ?_
  obtain ⟨x6, hx7, hg4⟩ := D hg4
  refine QC (J q hc5) q c79 (fun w' hb => w_spec_l1In w' G p1 0 (IntKind.wrap .i64 ((List.length p0 : Int) - 1)) x6 hx7 (H.grow hb).ctx) (by rfl) <| A (J q hc5) (qt_not q) q q <| A q (zf q hc5 q) q q ?_
  exact hk _ (p (vb hg4) (cfn 6 q (u)))
 refine QL_nil fun a ha w8 hb9 => ?_
 have H10 := H.grow hb9
 refine X (S ?_ ha)
 refine Y q (fun hc11 => ?_) (fun hc11 => ?_)
 ·have h := if_t hc11 h
  refine rR <| qA q q q <| B <| W fun a ha => ?_
  obtain rfl := L h
  exact m (ret1 q ha q ⟨q, H10⟩)
 have h := if_f hc11 h
 refine y <| rR <| qM q q q ?_
 obtain ⟨x12, hx13, h⟩ := D h
 refine A q (qt_shlO q q hx13) q q <| qA q q q <| B <| C <| rR <| qM q q q <| qA q q q <| B <| g ?_
 obtain ⟨o16, ho17, h⟩ := D h
 refine fun a18 ha19 => zp (I := fun s a w2 => match s with | (s14, s15) => (Fr a 56 [(0, vp0), (5, iV s14), (6, iV s15)] ∧ Holds M0 w w2 [] G)) (O := fun o e a w2 => match o with | q0 => e = .exit 0 ∧ (Fr a 56 [(5, iV q0)] ∧ Holds M0 w w2 [] G)) ho17 ?_ ?_ ?_
 ·exact ⟨ha19.sub ⟨q, q, q, trivial⟩, H10⟩
 ·clear ha19
  intro s o22 a w20 hs21 hI23
  obtain ⟨s14, s15⟩ := s
  obtain ⟨ha, H24⟩ := hI23
  refine S ?_ ha
  clear ha
  refine C <| rR <| qM q q q <| A q (qt_geq q q) q q <| B ?_
  refine Y q (fun hc25 => ?_) (fun hc25 => ?_)
  ·have hs21 := if_t hc25 hs21
   refine y <| C <| g <| rR <| qA q q q <| B <| g ?_
   obtain ⟨o28, ho29, hs21⟩ := D hs21
   refine fun a30 ha31 => zp (I := fun s a w2 => match s with | (s26, s27) => (Fr a 56 [(0, vp0), (5, iV s26), (6, iV s15), (7, iV s27)] ∧ Holds M0 w w2 [] G)) (O := fun o e a w2 => match o with | q0 => e = .exit 2 ∧ (Fr a 56 [(0, vp0), (5, iV q0), (6, iV s15)] ∧ Holds M0 w w2 [] G)) ho29 ?_ ?_ ?_
   ·exact ⟨ha31.sub ⟨q, q, q, q, trivial⟩, H24⟩
   ·clear ha31
    intro s o34 a w32 hs33 hI35
    obtain ⟨s26, s27⟩ := s
    obtain ⟨ha, H36⟩ := hI35
    refine S ?_ ha
    clear ha
    refine C <| rR <| qM q q q <| qM q q q <| qM q q q ?_
    obtain ⟨x37, hx38, hs33⟩ := D hs33
    refine b H36.ctx (hp0) hx38 u28 i115 q q q q (fun b39 off40 cap41 hv42 => ?_)
    refine qF uf115 fi115_1 nz113 q q q ?_
    obtain ⟨F43, hat44, hdup45⟩ := H36.at (hp0) hx38 hv42
    obtain ⟨F46, hat47, hin48⟩ := AtP.snd hat44
    obtain ⟨F49, hat50, hin51⟩ := AtP.fst hat47
    refine XL_load (t := ty4) u113 q q hat50 q q q (fun v52 hr53 => ?_)
    have H54 : Holds _ w w32 [.ro ty2 v52 x37.2.1] G := hdup45 _ _ _ _ hr53 (fun k h => (fun k h => (fun _ h => h) k (hin48 k h)) k (hin51 k h))
    refine za H54.ctx (t := ty2) hR0 u113 q q q <| A q (qt_lss q q) q q <| qM q q q ?_
    obtain ⟨b55, hg56, hs33⟩ := D hs33
    refine zh 6 40 (.bool b55) ?_ (fun md hmd hk => ?_)
    rotate_left
    ·obtain ⟨Q, rfl⟩ := Md.seq_of hmd
     rcases btf (decide (s27 < (List.length x37.2.1 : Int))) with hc57 | hc57
     ·skip
      have hg56 := if_t hc57 hg56
      refine qM (J q hc57) q q <| qM (J q hc57) q q ?_
      obtain ⟨x58, hx59, hg56⟩ := D hg56
      refine A (J q hc57) (qt_shrO q q hx59) q q <| A (J q hc57) (qt_rem q q (by decide)) q q <| A (J q hc57) (qt_eql q q) q q <| A q (ze q hc57 q) q q ?_
      exact hk _ (p (vb hg56) (cfn 5 q (u)))
     skip
     refine qS q hc57 q q <| qS q hc57 q q <| qS q hc57 q q <| qS q hc57 q q <| qS q hc57 q q <| A q (zf q hc57 q) q q ?_
     exact hk _ (p (vb (if_f hc57 hg56)) (cfn 5 q (u)))
    refine B ?_
    refine Y q (fun hc60 => ?_) (fun hc60 => ?_)
    ·have hs33 := if_t hc60 hs33
     refine y <| C <| g <| zk <| qM q q q <| qM q q q <| qM q q q ?_
     obtain ⟨x61, hx62, hs33⟩ := D hs33
     refine b H54.ctx (hp0.c) hx62 u28 i115 q q q q (fun b63 off64 cap65 hv66 => ?_)
     refine qF uf115 fi115_1 nz113 q q q ?_
     obtain ⟨F67, hat68, hdup69⟩ := H54.at (hp0.c) hx62 hv66
     obtain ⟨F70, hat71, hin72⟩ := AtP.snd hat68
     obtain ⟨F73, hat74, hin75⟩ := AtP.fst hat71
     refine XL_load (t := ty4) u113 q q hat74 q q q (fun v76 hr77 => ?_)
     have H78 : Holds _ w w32 [.ro ty2 v76 x61.2.1, .ro ty2 v52 x37.2.1] G := hdup69 _ _ _ _ hr77 (fun k h => (fun k h => (fun _ h => h) k (hin72 k h)) k (hin75 k h))
     refine qM q q q ?_
     obtain ⟨x79, hx80, hs33⟩ := D hs33
     refine b H78.ctx hR0 hx80 u113 i162 q q q q (fun b81 off82 cap83 hv84 => ?_)
     refine qF uf162 fi162_0 nz3 q q q ?_
     obtain ⟨F85, hat86, hdup87⟩ := H78.at hR0 hx80 hv84
     obtain ⟨F88, hat89, hin90⟩ := AtP.fst hat86
     refine zt (k := .i64) u3 q hat89 q q q ?_
     obtain ⟨x91, hx92, hs33⟩ := D hs33
     refine A q (qt_shlO q q hx92) q q ?_
     obtain ⟨x93, hx94, hs33⟩ := D hs33
     refine QC q q c125 (fun w' hb => w_spec_l1Join w' _ s26 x91 x93 hx94 (H78.grow hb).ctx) (by rfl) <| qA q q q <| QL_nil fun a ha w95 hb96 => ?_
     have H97 := H78.grow hb96
     refine zi (X (S ?_ ha))
     refine Z <| qM q q q <| A q (qt_add q q) q q <| qA q q q <| WL_nil fun a ha => ?_
     obtain rfl := L hs33
     have H98 := H97.q0.q0
     exact ⟨q, ha.sub ⟨q, q, q, q, trivial⟩, H98⟩
    have hs33 := if_f hc60 hs33
    refine WP_exit fun a ha => ?_
    obtain rfl := L hs33
    have H99 := H54.q0
    exact zo (⟨exit_ne, q, ha.sub ⟨q, q, q, trivial⟩, H99⟩)
   intro e a30 w100 hO101
   obtain ⟨p102, rfl⟩ : ∃ z, z = o28 := ⟨o28, q⟩
   obtain ⟨rfl, hO104⟩ := hO101
   obtain ⟨ha, H103⟩ := hO104
   refine zn (zi (X (S ?_ ha)))
   refine Z <| qM q q q <| A q (qt_sub q q) q q <| qA q q q <| WL_nil fun a ha => ?_
   obtain rfl := L hs21
   exact ⟨q, ha.sub ⟨q, q, q, trivial⟩, H103⟩
  have hs21 := if_f hc25 hs21
  refine WP_exit fun a ha => ?_
  obtain rfl := L hs21
  exact zo (⟨exit_ne, q, ha.sub ⟨q, trivial⟩, H24⟩)
 intro e a18 w105 hO106
 obtain ⟨p107, rfl⟩ : ∃ z, z = o16 := ⟨o16, q⟩
 obtain ⟨rfl, hO109⟩ := hO106
 obtain ⟨ha, H108⟩ := hO109
 refine zn (X (S ?_ ha))
 refine rR <| qM q q q <| qA q q q <| B <| W fun a ha => ?_
 obtain rfl := L h
 exact ret1 q ha q ⟨q, H108⟩
theorem w_spec_MarksOf (w : World) (G : List Res) (vp0 : Value) (p0 : LI) (hp0 : Has G ty10 vp0 p0) (p1 : Int) (r : Int) (h : spec_MarksOfS p0 p1 = some r) (H : Ctx w G) : Calls Tryz.prog 87 #[vp0, iV p1] w fun e w' => e = .returned (iV r) ∧ Holds M0 w w' [] G := by
 have H : Holds M0 w w [] G := zb H
 refine zg (args := [vp0, iV p1]) (n := 31) Tryz.func87 q q q ?_
 unfold spec_MarksOfS at h
 refine rR <| qA q q q <| B <| C <| zk <| qM q q q <| qM q q q ?_
 obtain ⟨x1, hx2, h⟩ := D h
 refine QC q q c126 (fun w' hb => w_spec_UsesOf w' G vp0 p0 (hp0) p1 x1 hx2 (H.grow hb).ctx) (by rfl) <| qA q q q <| QL_nil fun a ha w3 hb4 => ?_
 have H5 := H.grow hb4
 refine X (S ?_ ha)
 refine C <| rR <| qM q q q <| A q (qt_lss q q) q q <| B ?_
 refine Y q (fun hc6 => ?_) (fun hc6 => ?_)
 ·have h := if_t hc6 h
  refine rR <| qA q q q <| B <| W fun a ha => ?_
  obtain rfl := L h
  exact m (ret1 q ha q ⟨q, H5⟩)
 have h := if_f hc6 h
 refine y <| rR <| qA q q q <| B <| C <| rR <| qA q q q <| B ?_
 refine g ?_
 obtain ⟨o9, ho10, h⟩ := D h
 refine fun a11 ha12 => zp (I := fun s a w2 => match s with | (s7, s8) => (Fr a 31 [(0, vp0), (1, iV p1), (5, iV x1), (6, iV s7), (7, iV s8)] ∧ Holds M0 w w2 [] G)) (O := fun o e a w2 => match o with | q0 => e = .exit 0 ∧ (Fr a 31 [(6, iV q0)] ∧ Holds M0 w w2 [] G)) ho10 ?_ ?_ ?_
 ·exact ⟨ha12.sub ⟨q, q, q, q, q, trivial⟩, H5⟩
 ·clear ha12
  intro s o15 a w13 hs14 hI16
  obtain ⟨s7, s8⟩ := s
  obtain ⟨ha, H17⟩ := hI16
  refine S ?_ ha
  clear ha
  refine C <| rR <| qM q q q <| qM q q q <| A q (qt_leq q q) q q <| B ?_
  refine Y q (fun hc18 => ?_) (fun hc18 => ?_)
  ·have hs14 := if_t hc18 hs14
   refine y <| C <| g <| rR <| qM q q q <| qM q q q ?_
   obtain ⟨x19, hx20, hs14⟩ := D hs14
   refine A q (qt_shrO q q hx20) q q <| A q (qt_rem q q (by decide)) q q <| A q (qt_eql q q) q q <| B ?_
   refine Y q (fun hc21 => ?_) (fun hc21 => ?_)
   ·have hs14 := if_t hc21 hs14
    refine zk <| qM q q q <| qM q q q <| qM q q q ?_
    obtain ⟨x22, hx23, hs14⟩ := D hs14
    refine b H17.ctx (hp0) hx23 u28 i115 q q q q (fun b24 off25 cap26 hv27 => ?_)
    refine qF uf115 fi115_2 nz3 q q q ?_
    obtain ⟨F28, hat29, hdup30⟩ := H17.at (hp0) hx23 hv27
    obtain ⟨F31, hat32, hin33⟩ := AtP.snd hat29
    obtain ⟨F34, hat35, hin36⟩ := AtP.snd hat32
    refine zt (k := .i64) u3 q hat35 q q q ?_
    obtain ⟨x37, hx38, hs14⟩ := D hs14
    refine QC q q c125 (fun w' hb => w_spec_l1Join w' G s7 x22.2.2 x37 hx38 (H17.grow hb).ctx) (by rfl) <| qA q q q <| QL_nil fun a ha w39 hb40 => ?_
    have H41 := H17.grow hb40
    refine zi (X (S ?_ ha))
    refine Z <| qM q q q <| A q (qt_add q q) q q <| qA q q q <| WL_nil fun a ha => ?_
    obtain rfl := L hs14
    exact ⟨q, ha.sub ⟨q, q, q, q, q, trivial⟩, H41⟩
   have hs14 := if_f hc21 hs14
   refine WP_skip fun a ha => ?_
   refine zi (X (S ?_ ha))
   refine Z <| qM q q q <| A q (qt_add q q) q q <| qA q q q <| WL_nil fun a ha => ?_
   obtain rfl := L hs14
   exact ⟨q, ha.sub ⟨q, q, q, q, q, trivial⟩, H17⟩
  have hs14 := if_f hc18 hs14
  refine WP_exit fun a ha => ?_
  obtain rfl := L hs14
  exact zo (⟨exit_ne, q, ha.sub ⟨q, trivial⟩, H17⟩)
 intro e a11 w42 hO43
 obtain ⟨p44, rfl⟩ : ∃ z, z = o9 := ⟨o9, q⟩
 obtain ⟨rfl, hO46⟩ := hO43
 obtain ⟨ha, H45⟩ := hO46
 refine zn (X (S ?_ ha))
 refine rR <| qM q q q <| qA q q q <| B <| W fun a ha => ?_
 obtain rfl := L h
 exact ret1 q ha q ⟨q, H45⟩
theorem w_spec_l1Meet (w : World) (G : List Res) (p0 : Int) (p1 : Int) (r : Int) (h : spec_l1MeetS p0 p1 = some r) (H : Ctx w G) : Calls Tryz.prog 86 #[iV p0, iV p1] w fun e w' => e = .returned (iV r) ∧ Holds M0 w w' [] G := by
 have H : Holds M0 w w [] G := zb H
 refine zg (args := [iV p0, iV p1]) (n := 12) Tryz.func86 q q q ?_
 unfold spec_l1MeetS at h
 refine rR <| qA q q q <| B <| C <| zk <| qM q q q <| qM q q q <| A q (qt_add q q) q q <| qM q q q ?_
 refine qM q q q ?_
 obtain ⟨x1, hx2, h⟩ := D h
 refine QC q q c125 (fun w' hb => w_spec_l1Join w' G p0 p1 x1 hx2 (H.grow hb).ctx) (by rfl) <| A q (qt_sub q q) q q <| qA q q q <| QL_nil fun a ha w3 hb4 => ?_
 have H5 := H.grow hb4
 refine X (S ?_ ha)
 refine W fun a ha => ?_
 obtain rfl := L h
 exact ret1 q ha q ⟨q, H5⟩
theorem w_spec_FreeOf (w : World) (G : List Res) (vp0 : Value) (p0 : LI) (hp0 : Has G ty10 vp0 p0) (p1 : Int) (r : (List Int)) (h : spec_FreeOfS p0 p1 = some r) (H : Ctx w G) : Calls Tryz.prog 44 #[vp0, iV p1] w fun e w' => ∃ (v1 : Value), e = .returned (v1) ∧ Holds M0 w w' [.sl 3 tI v1 r] G := by
 have H : Holds M0 w w [] G := zb H
 refine zg (args := [vp0, iV p1]) (n := 41) Tryz.func44 q q q ?_
 unfold spec_FreeOfS at h
 refine rR <| qA q q q <| B <| C <| Z ?_
 refine zs (t := tI) (args := []) (xs := ([] : List Int)) H (BltL.nil) u23 j3 q q q q q q (fun v1 w2 H3 => ?_)
 refine qA q q q <| B <| C <| rR <| qA q q q <| B <| g ?_
 obtain ⟨o7, ho8, h⟩ := D h
 refine fun a9 ha10 => zp (I := fun s a w2 => match s with | (s5, s6) => ∃ vs5, Fr a 41 [(0, vp0), (1, iV p1), (5, vs5), (6, iV s6)] ∧ Holds M0 w w2 [.sl 3 tI vs5 s5] G) (O := fun o e a w2 => match o with | q0 => e = .exit 0 ∧ ∃ vq0, Fr a 41 [(5, vq0)] ∧ Holds M0 w w2 [.sl 3 tI vq0 q0] G) ho8 ?_ ?_ ?_
 ·exact ⟨v1, ha10.sub ⟨q, q, q, q, trivial⟩, H3⟩
 ·clear ha10
  intro s o13 a w11 hs12 hI14
  obtain ⟨s5, s6⟩ := s
  obtain ⟨vs5, ha, H15⟩ := hI14
  refine S ?_ ha
  clear ha
  refine C <| C <| zk <| qM q q q <| qM q q q <| za H15.ctx (t := ty10) (hp0.c) u28 q q q <| A q (qt_lss q q) q q <| qM q q q ?_
  obtain ⟨b16, hg17, hs12⟩ := D hs12
  refine zh 3 15 (.bool b16) ?_ (fun md hmd hk => ?_)
  rotate_left
  ·obtain ⟨K, rfl⟩ := zr hmd
   rcases btf (decide (s6 < (List.length p0 : Int))) with hc18 | hc18
   ·skip
    have hg17 := if_t hc18 hg17
    refine qM (J q hc18) q q ?_
    obtain ⟨x19, hx20, hg17⟩ := D hg17
    refine QC (J q hc18) q c85 (fun w' hb => w_spec_ItemsValid w' _ vp0 p0 (hp0.c) x19 hx20 (H15.grow hb).ctx) (by rfl) <| A q (ze q hc18 q) q q ?_
    exact hk _ (p (vb hg17) (cfn 2 q (u)))
   skip
   refine qS q hc18 q q <| qS q hc18 q q <| A q (zf q hc18 q) q q ?_
   exact hk _ (p (vb (if_f hc18 hg17)) (cfn 2 q (u)))
  refine qM q q q ?_
  obtain ⟨b21, hg22, hs12⟩ := D hs12
  refine zh 3 19 (.bool b21) ?_ (fun md hmd hk => ?_)
  rotate_left
  ·obtain ⟨K, rfl⟩ := zr hmd
   rcases btf b16 with hc23 | hc23
   ·skip
    have hg22 := if_t hc23 hg22
    refine qM (J q hc23) q q ?_
    obtain ⟨x24, hx25, hg22⟩ := D hg22
    refine QC (J q hc23) q c79 (fun w' hb => w_spec_l1In w' _ p1 0 31 x24 hx25 (H15.grow hb).ctx) (by rfl) <| A q (ze q hc23 q) q q ?_
    exact hk _ (p (vb hg22) (cfn 2 q (u)))
   skip
   refine qS q hc23 q q <| qS q hc23 q q <| A q (zf q hc23 q) q q ?_
   exact hk _ (p (vb (if_f hc23 hg22)) (cfn 2 q (u)))
  refine QL_nil fun a ha w26 hb27 => ?_
  have H28 := H15.grow hb27
  refine X (S ?_ ha)
  refine Y q (fun hc29 => ?_) (fun hc29 => ?_)
  ·have hs12 := if_t hc29 hs12
   refine y <| C <| g <| C <| zk <| qM q q q <| qM q q q ?_
   obtain ⟨x30, hx31, hs12⟩ := D hs12
   refine b H28.ctx (hp0.c) hx31 u28 i115 q q q q (fun b32 off33 cap34 hv35 => ?_)
   refine qF uf115 fi115_0 nz3 q q q ?_
   obtain ⟨F36, hat37, hdup38⟩ := H28.at (hp0.c) hx31 hv35
   obtain ⟨F39, hat40, hin41⟩ := AtP.fst hat37
   refine zt (k := .i64) u3 q hat40 q q q <| A q (qt_gtr q q) q q <| qM q q q ?_
   obtain ⟨b42, hg43, hs12⟩ := D hs12
   refine zh 7 35 (.bool b42) ?_ (fun md hmd hk => ?_)
   rotate_left
   ·obtain ⟨K, rfl⟩ := zr hmd
    rcases btf (decide (x30.1 > 0)) with hc44 | hc44
    ·skip
     have hg43 := if_t hc44 hg43
     refine qM (J q hc44) q q <| qM (J q hc44) q q ?_
     obtain ⟨x45, hx46, hg43⟩ := D hg43
     refine QC (J q hc44) q c87 (fun w' hb => w_spec_MarksOf w' _ vp0 p0 (hp0.c) s6 x45 hx46 (H28.grow hb).ctx) (by rfl) <| qM (J q hc44) q q ?_
     obtain ⟨x47, hx48, hg43⟩ := D hg43
     refine QC (J q hc44) q c86 (fun w' hb => w_spec_l1Meet w' _ x45 p1 x47 hx48 (H28.grow hb).ctx) (by rfl) <| A (J q hc44) (qt_eql q q) q q <| A q (ze q hc44 q) q q ?_
     exact hk _ (p (vb hg43) (cfn 6 q (u)))
    skip
    refine qS q hc44 q q <| qS q hc44 q q <| qS q hc44 q q <| qS q hc44 q q <| qS q hc44 q q <| qS q hc44 q q <| A q (zf q hc44 q) q q ?_
    exact hk _ (p (vb (if_f hc44 hg43)) (cfn 6 q (u)))
   refine QL_nil fun a ha w49 hb50 => ?_
   have H51 := H28.grow hb50
   refine X (S ?_ ha)
   refine Y q (fun hc52 => ?_) (fun hc52 => ?_)
   ·have hs12 := if_t hc52 hs12
    refine Z <| qM q q q <| qM q q q ?_
    refine zs (t := tI) (args := [.tmp 37]) (xs := ([s6] : List Int)) H51 (BltL.cons (Blt.int) q (BltL.nil)) u23 j3 q q q q q q (fun v53 w54 H55 => ?_)
    have H57 := H55.p1
    obtain ⟨x58, hx59, hs12⟩ := D hs12
    refine zw H57 hS1 hx59 u23 j3 q q q q q q (fun v60 w61 H62 => ?_)
    refine qA q q q <| WL_nil fun a ha => ?_
    refine zi (X (S ?_ ha))
    refine Z <| qM q q q <| A q (qt_add q q) q q <| qA q q q <| WL_nil fun a ha => ?_
    obtain rfl := L hs12
    have H64 := H62.q1
    exact ⟨q, v60, ha.sub ⟨q, q, q, q, trivial⟩, H64⟩
   have hs12 := if_f hc52 hs12
   refine WP_skip fun a ha => ?_
   refine zi (X (S ?_ ha))
   refine Z <| qM q q q <| A q (qt_add q q) q q <| qA q q q <| WL_nil fun a ha => ?_
   obtain rfl := L hs12
   exact ⟨q, vs5, ha.sub ⟨q, q, q, q, trivial⟩, H51⟩
  have hs12 := if_f hc29 hs12
  refine WP_exit fun a ha => ?_
  obtain rfl := L hs12
  exact zo (⟨exit_ne, q, vs5, ha.sub ⟨q, trivial⟩, H28⟩)
 intro e a9 w65 hO66
 obtain ⟨p67, rfl⟩ : ∃ z, z = o7 := ⟨o7, q⟩
 obtain ⟨rfl, hO69⟩ := hO66
 obtain ⟨vp67, ha, H68⟩ := hO69
 refine zn (X (S ?_ ha))
 refine rR <| qM q q q <| qA q q q <| B <| W fun a ha => ?_
 obtain rfl := L h
 exact ret1 q ha q ⟨vp67, q, H68⟩
theorem w_spec_l1Has (w : World) (G : List Res) (vp0 : Value) (p0 : List Int) (hp0 : Has G tI vp0 p0) (p1 : Int) (r : Bool) (h : spec_l1HasS p0 p1 = some r) (H : Ctx w G) : Calls Tryz.prog 81 #[vp0, iV p1] w fun e w' => e = .returned (.bool r) ∧ Holds M0 w w' [] G := by
 have H : Holds M0 w w [] G := zb H
 refine zg (args := [vp0, iV p1]) (n := 18) Tryz.func81 q q q ?_
 unfold spec_l1HasS at h
 refine rR <| qA q q q <| B <| C <| rR <| qA q q q <| B <| g ?_
 obtain ⟨o2, ho3, h⟩ := D h
 refine fun a4 ha5 => zp (I := fun s a w2 => match s with | s1 => (Fr a 18 [(0, vp0), (1, iV p1), (5, iV s1)] ∧ Holds M0 w w2 [] G)) (O := fun o e a w2 => match o with | .inl _ => e = .exit 0 ∧ (Fr a 18 [] ∧ Holds M0 w w2 [] G) | .inr q0 => e = .ret ∧ (Fr a 18 [(4, .bool q0)] ∧ Holds M0 w w2 [] G)) ho3 ?_ ?_ ?_
 ·exact ⟨ha5.sub ⟨q, q, q, trivial⟩, H⟩
 ·clear ha5
  intro s o8 a w6 hs7 hI9
  obtain ⟨s1, rfl⟩ : ∃ z, z = s := ⟨s, q⟩
  obtain ⟨ha, H10⟩ := hI9
  refine S ?_ ha
  clear ha
  refine C <| rR <| qM q q q <| qM q q q <| za H10.ctx (t := tI) (hp0) u23 q q q <| A q (qt_lss q q) q q <| B ?_
  refine Y q (fun hc11 => ?_) (fun hc11 => ?_)
  ·have hs7 := if_t hc11 hs7
   refine y <| C <| g <| rR <| qM q q q <| qM q q q ?_
   obtain ⟨x12, hx13, hs7⟩ := D hs7
   refine b H10.ctx (hp0) hx13 u23 i3 q q q q (fun b14 off15 cap16 hv17 => ?_)
   obtain ⟨F18, hat19, hdup20⟩ := H10.at (hp0) hx13 hv17
   refine zt (k := .i64) u3 q hat19 q q q <| qM q q q <| A q (qt_eql q q) q q <| B ?_
   refine Y q (fun hc21 => ?_) (fun hc21 => ?_)
   ·have hs7 := if_t hc21 hs7
    refine rR <| qA q q q <| B <| W fun a ha => ?_
    obtain rfl := L hs7
    exact zj (m (⟨ret_ne, q, ha.sub ⟨q, trivial⟩, H10⟩))
   have hs7 := if_f hc21 hs7
   refine WP_skip fun a ha => ?_
   refine zi (X (S ?_ ha))
   refine Z <| qM q q q <| A q (qt_add q q) q q <| qA q q q <| WL_nil fun a ha => ?_
   obtain rfl := L hs7
   exact ⟨q, ha.sub ⟨q, q, q, trivial⟩, H10⟩
  have hs7 := if_f hc11 hs7
  refine WP_exit fun a ha => ?_
  obtain rfl := L hs7
  exact zo (⟨exit_ne, q, ha.sub trivial, H10⟩)
 intro e a4 w22 hO23
 rcases o2 with o2 | o2
 ·skip
  obtain ⟨rfl, hO25⟩ := hO23
  obtain ⟨ha, H24⟩ := hO25
  refine zn (X (S ?_ ha))
  refine rR <| qA q q q <| B <| W fun a ha => ?_
  obtain rfl := L h
  exact ret1 q ha q ⟨q, H24⟩
 skip
 obtain ⟨p26, rfl⟩ : ∃ z, z = o2 := ⟨o2, q⟩
 obtain ⟨rfl, hO28⟩ := hO23
 obtain ⟨ha, H27⟩ := hO28
 obtain rfl := L h
 exact zj (m (ret1 q ha q ⟨q, H27⟩))
theorem w_spec_HouseValid (w : World) (G : List Res) (A0 : Value) (B0 : LI) (C0 : Has G ty10 A0 B0) (A1 : Value) (B1 : List Int) (C1 : Has G tI A1 B1) (A2 : Value) (B2 : List Int) (C2 : Has G tI A2 B2) (B3 : Int) (A4 : Value) (B4 : LT) (C4 : Has G ty12 A4 B4) (r : Bool) (h : spec_HouseValidS B0 B1 B2 B3 B4 = some r) (H : Ctx w G) : Calls Tryz.prog 33 #[.agg #[A0, A1, A2, iV B3, A4]] w fun e w' => e = .returned (.bool r) ∧ Holds M0 w w' [] G := by
 have H : Holds M0 w w [] G := zb H
 refine zg (args := [.agg #[A0, A1, A2, iV B3, A4]]) (n := 84) Tryz.func33 q q q ?_
 unfold spec_HouseValidS at h
 refine C <| Z ?_
 refine WL_box (cs := [A0, A1, A2, iV B3, A4]) H q q q q (fun b1 w2 H3 => ?_)
 refine qA q q q <| B <| C <| C <| zk <| qF uf31 fi31_0 nz28 q q q ?_
 have hB5 := R H3.p0
 refine l u28 q hB5 q q q q <| qF uf31 fi31_1 nz23 q q q ?_
 have hB6 := R H3.p0
 refine l u23 q hB6 q q q q ?_
 obtain ⟨x7, hx8, h⟩ := D h
 refine QC q q c77 (fun w' hb => w_spec_PricesValid w' _ A0 B0 (C0.c) A1 B1 (C1.c) x7 hx8 (H3.grow hb).ctx) (by rfl) <| A q (qt_not q) q q <| qM q q q ?_
 obtain ⟨b9, hg10, h⟩ := D h
 refine zh 7 20 (.bool b9) ?_ (fun md hmd hk => ?_)
 rotate_left
 ·obtain ⟨K, rfl⟩ := zr hmd
  rcases btf (!x7) with hc11 | hc11
  ·skip
   refine qS q hc11 q q <| qS q hc11 q q <| qS q hc11 q q <| qS q hc11 q q <| qS q hc11 q q <| qS q hc11 q q <| A q (ze q hc11 q) q q ?_
   exact hk _ (p (vb (if_t hc11 hg10)) (cfn 6 q (u)))
  skip
  have hg10 := if_f hc11 hg10
  refine qF uf31 fi31_0 nz28 (J q hc11) q q ?_
  have hB12 := R H3.p0
  refine l u28 q hB12 q (J q hc11) q q <| qF uf31 fi31_2 nz23 (J q hc11) q q ?_
  have hB13 := R H3.p0
  refine l u23 q hB13 q (J q hc11) q q ?_
  obtain ⟨x14, hx15, hg10⟩ := D hg10
  refine QC (J q hc11) q c78 (fun w' hb => w_spec_l1Amounts w' _ A0 B0 (C0.c) A2 B2 (C2.c) x14 hx15 (H3.grow hb).ctx) (by rfl) <| A (J q hc11) (qt_not q) q q <| A q (zf q hc11 q) q q ?_
  exact hk _ (p (vb hg10) (cfn 6 q (u)))
 refine qM q q q ?_
 obtain ⟨b16, hg17, h⟩ := D h
 refine zh 5 26 (.bool b16) ?_ (fun md hmd hk => ?_)
 rotate_left
 ·obtain ⟨K, rfl⟩ := zr hmd
  rcases btf b9 with hc18 | hc18
  ·skip
   refine qS q hc18 q q <| qS q hc18 q q <| qS q hc18 q q <| qS q hc18 q q <| A q (ze q hc18 q) q q ?_
   exact hk _ (p (vb (if_t hc18 hg17)) (cfn 4 q (u)))
  skip
  have hg17 := if_f hc18 hg17
  refine qF uf31 fi31_3 nz3 (J q hc18) q q ?_
  have hB19 := R H3.p0
  refine l u3 q hB19 q (J q hc18) q q ?_
  obtain ⟨x20, hx21, hg17⟩ := D hg17
  refine QC (J q hc18) q c79 (fun w' hb => w_spec_l1In w' _ B3 0 99999 x20 hx21 (H3.grow hb).ctx) (by rfl) <| A (J q hc18) (qt_not q) q q <| A q (zf q hc18 q) q q ?_
  exact hk _ (p (vb hg17) (cfn 4 q (u)))
 refine qM q q q ?_
 refine zh 5 32 (.bool (b16 || (decide ((List.length B4 : Int) > 4)))) ?_ (fun md hmd hk => ?_)
 rotate_left
 ·obtain ⟨K, rfl⟩ := zr hmd
  rcases btf b16 with hc22 | hc22
  ·skip
   refine qS q hc22 q q <| qS q hc22 q q <| qS q hc22 q q <| qS q hc22 q q <| A q (ze q hc22 q) q q ?_
   exact hk _ (p (by rw [hc22]; rfl) (cfn 4 q (u)))
  skip
  refine qF uf31 fi31_4 nz29 (J q hc22) q q ?_
  have hB23 := R H3.p0
  refine l u29 q hB23 q (J q hc22) q q <| za H3.ctx (t := ty12) (C4.c) u29 (J q hc22) q q <| A (J q hc22) (qt_gtr q q) q q <| A q (zf q hc22 q) q q ?_
  exact hk _ (p (by rw [hc22]; rfl) (cfn 4 q (u)))
 refine QL_nil fun a ha w24 hb25 => ?_
 have H26 := H3.grow hb25
 refine X (S ?_ ha)
 refine Y q (fun hc27 => ?_) (fun hc27 => ?_)
 ·have h := if_t hc27 h
  refine rR <| qA q q q <| B <| W fun a ha => ?_
  obtain rfl := L h
  have H28 := H26.q0
  exact m (ret1 q ha q ⟨q, H28⟩)
 have h := if_f hc27 h
 refine y <| C <| rR <| qA q q q <| B <| g ?_
 obtain ⟨o30, ho31, h⟩ := D h
 refine fun a32 ha33 => zp (I := fun s a w2 => match s with | s29 => (Fr a 84 [(1, pB b1), (3, iV s29)] ∧ Holds M0 w w2 [.bx b1 31 [A0, A1, A2, iV B3, A4]] G)) (O := fun o e a w2 => match o with | .inl _ => e = .exit 0 ∧ (Fr a 84 [] ∧ Holds M0 w w2 [] G) | .inr q0 => e = .ret ∧ (Fr a 84 [(2, .bool q0)] ∧ Holds M0 w w2 [] G)) ho31 ?_ ?_ ?_
 ·exact ⟨ha33.sub ⟨q, q, trivial⟩, H26⟩
 ·clear ha33
  intro s o36 a w34 hs35 hI37
  obtain ⟨s29, rfl⟩ : ∃ z, z = s := ⟨s, q⟩
  obtain ⟨ha, H38⟩ := hI37
  refine S ?_ ha
  clear ha
  refine C <| rR <| qM q q q <| qF uf31 fi31_4 nz29 q q q ?_
  have hB39 := R H38.p0
  refine l u29 q hB39 q q q q <| za H38.ctx (t := ty12) (C4.c) u29 q q q <| A q (qt_lss q q) q q <| B ?_
  refine Y q (fun hc40 => ?_) (fun hc40 => ?_)
  ·have hs35 := if_t hc40 hs35
   refine y <| C <| g <| rR <| qF uf31 fi31_4 nz29 q q q ?_
   have hB41 := R H38.p0
   refine l u29 q hB41 q q q q <| qM q q q ?_
   obtain ⟨x42, hx43, hs35⟩ := D hs35
   refine b H38.ctx (C4.c) hx43 u29 i89 q q q q (fun b44 off45 cap46 hv47 => ?_)
   obtain ⟨F48, hat49, hdup50⟩ := H38.atN (C4.c) hx43 hv47
   refine XL_load_agg (t := ty12) us89 uo89 i89 hat49 q q q (fun cs51 hr52 => ?_)
   obtain ⟨c53, c54, F55, F56, rfl, eF59, hr57, hr58⟩ := hr52
   obtain ⟨rfl, _⟩ := hr57
   obtain ⟨c60, c61, F62, F63, rfl, eF66, hr64, hr65⟩ := hr58
   obtain ⟨v67, rfl, hr68⟩ := Rep.sl_inv hr64
   obtain ⟨v69, rfl, hr70⟩ := Rep.sl_inv hr65
   have H71 : Holds _ w w34 [.ro ty2 v67 x42.2.1, .ro tI v69 x42.2.2, .bx b1 31 [A0, A1, A2, iV B3, A4]] G := hdup50 [.ro ty2 v67 x42.2.1, .ro tI v69 x42.2.2] ⟨⟨_, _, _, _, q, hr68, (fun k h => (fun k h => (fun _ h => h) k (by rw [eF59]; exact zx _ h)) k (by rw [eF66]; exact List.mem_append_left _ h))⟩, ⟨_, _, _, _, q, hr70, (fun k h => (fun k h => (fun _ h => h) k (by rw [eF59]; exact zx _ h)) k (by rw [eF66]; exact zx _ h))⟩, trivial⟩
   change XL _ _ _ _ _ ((44, .agg #[iV x42.1, v67, v69]) :: _) _
   refine zq (cs := [iV 0, nS, nS]) H71 z89 q q q (fun b72 w73 H74 => ?_)
   refine zl (cs' := [iV x42.1, v67, v69]) H74 q il89 q (T q (T (H74.ctx.sliceOne hR1) (T (H74.ctx.sliceOne hR2) q))) q q q (fun w76 H77 => ?_)
   refine B <| C <| C <| zk <| qF uf89 fi89_0 nz3 q q q ?_
   have hB79 := R H77.p0
   refine l u3 q hB79 q q q q ?_
   obtain ⟨x80, hx81, hs35⟩ := D hs35
   refine QC q q c79 (fun w' hb => w_spec_l1In w' _ x42.1 0 31 x80 hx81 (H77.grow hb).ctx) (by rfl) <| A q (qt_not q) q q <| qM q q q ?_
   obtain ⟨b82, hg83, hs35⟩ := D hs35
   refine zh 5 54 (.bool b82) ?_ (fun md hmd hk => ?_)
   rotate_left
   ·obtain ⟨K, rfl⟩ := zr hmd
    rcases btf (!x80) with hc84 | hc84
    ·skip
     refine qS q hc84 q q <| qS q hc84 q q <| qS q hc84 q q <| qS q hc84 q q <| A q (ze q hc84 q) q q ?_
     exact hk _ (p (vb (if_t hc84 hg83)) (cfn 4 q (u)))
    skip
    have hg83 := if_f hc84 hg83
    refine qF uf89 fi89_1 nz87 (J q hc84) q q ?_
    have hB85 := R H77.p0
    refine l u87 q hB85 q (J q hc84) q q ?_
    obtain ⟨x86, hx87, hg83⟩ := D hg83
    refine QC (J q hc84) q c80 (fun w' hb => w_spec_TicketValid w' _ v67 x42.2.1 hR1 x86 hx87 (H77.grow hb).ctx) (by rfl) <| A (J q hc84) (qt_not q) q q <| A q (zf q hc84 q) q q ?_
    exact hk _ (p (vb hg83) (cfn 4 q (u)))
   refine qM q q q ?_
   refine zh 8 63 (.bool (b82 || ((List.length x42.2.2 : Int) != (List.length x42.2.1 : Int)))) ?_ (fun md hmd hk => ?_)
   rotate_left
   ·obtain ⟨K, rfl⟩ := zr hmd
    rcases btf b82 with hc88 | hc88
    ·skip
     refine qS q hc88 q q <| qS q hc88 q q <| qS q hc88 q q <| qS q hc88 q q <| qS q hc88 q q <| qS q hc88 q q <| qS q hc88 q q <| A q (ze q hc88 q) q q ?_
     exact hk _ (p (by rw [hc88]; rfl) (cfn 7 q (u)))
    skip
    refine qF uf89 fi89_2 nz23 (J q hc88) q q ?_
    have hB89 := R H77.p0
    refine l u23 q hB89 q (J q hc88) q q <| za H77.ctx (t := tI) hR2 u23 (J q hc88) q q <| qF uf89 fi89_1 nz87 (J q hc88) q q ?_
    have hB90 := R H77.p0
    refine l u87 q hB90 q (J q hc88) q q <| za H77.ctx (t := ty2) hR1 u87 (J q hc88) q q <| A (J q hc88) (qt_neq q q) q q <| A q (zf q hc88 q) q q ?_
    exact hk _ (p (by rw [hc88]; rfl) (cfn 7 q (u)))
   refine QL_nil fun a ha w91 hb92 => ?_
   have H93 := H77.grow hb92
   refine X (S ?_ ha)
   refine Y q (fun hc94 => ?_) (fun hc94 => ?_)
   ·have hs35 := if_t hc94 hs35
    refine rR <| qA q q q <| B <| W fun a ha => ?_
    obtain rfl := L hs35
    have H95 := H93.q0.q0.q0.q0
    exact m (zj (m (⟨ret_ne, q, ha.sub ⟨q, trivial⟩, H95⟩)))
   have hs35 := if_f hc94 hs35
   refine y <| rR <| qF uf31 fi31_0 nz28 q q q ?_
   have hB96 := R H93.p3
   refine l u28 q hB96 q q q q <| qF uf89 fi89_0 nz3 q q q ?_
   have hB97 := R H93.p0
   refine l u3 q hB97 q q q q ?_
   obtain ⟨x98, hx99, hs35⟩ := D hs35
   refine zd q q c44 (w_spec_FreeOf w91 _ A0 B0 (C0.c.c.c.c) x42.1 x98 hx99 H93.ctx) (by rfl) ?_
   rintro _ w100 ⟨v102, rfl, H101⟩; refine ⟨_, q, ?_⟩
   have H103 := H93.cN1 [] H101
   refine qA q q q <| rN <| qA q q q <| B <| g ?_
   obtain ⟨o105, ho106, hs35⟩ := D hs35
   have H109 := H103.p3.p3.p3.p4
   refine fun a107 ha108 => zp (I := fun s a w2 => match s with | s104 => (Fr a 84 [(1, pB b1), (3, iV s29), (4, pB b72), (5, v102), (6, iV s104)] ∧ Holds M0 w w2 [.bx b1 31 [A0, A1, A2, iV B3, A4], .bx b72 89 [iV x42.1, v67, v69], .ro ty2 v67 x42.2.1, .ro tI v69 x42.2.2, .sl 3 tI v102 x98] G)) (O := fun o e a w2 => match o with | .inl _ => e = .exit 2 ∧ (Fr a 84 [(1, pB b1), (3, iV s29)] ∧ Holds M0 w w2 [.bx b1 31 [A0, A1, A2, iV B3, A4]] G) | .inr q0 => e = .ret ∧ (Fr a 84 [(2, .bool q0)] ∧ Holds M0 w w2 [] G)) ho106 ?_ ?_ ?_
   ·exact ⟨ha108.sub ⟨q, q, q, q, q, trivial⟩, H109⟩
   ·clear ha108
    intro s o112 a w110 hs111 hI113
    obtain ⟨s104, rfl⟩ : ∃ z, z = s := ⟨s, q⟩
    obtain ⟨ha, H114⟩ := hI113
    refine S ?_ ha
    clear ha
    refine C <| rR <| qM q q q <| qF uf89 fi89_2 nz23 q q q ?_
    have hB115 := R H114.p1
    refine l u23 q hB115 q q q q <| za H114.ctx (t := tI) hR3 u23 q q q <| A q (qt_lss q q) q q <| B ?_
    refine Y q (fun hc116 => ?_) (fun hc116 => ?_)
    ·have hs111 := if_t hc116 hs111
     refine y <| C <| g <| C <| zk <| qM q q q <| qF uf89 fi89_2 nz23 q q q ?_
     have hB117 := R H114.p1
     refine l u23 q hB117 q q q q <| qM q q q ?_
     obtain ⟨x118, hx119, hs111⟩ := D hs111
     refine b H114.ctx hR3 hx119 u23 i3 q q q q (fun b120 off121 cap122 hv123 => ?_)
     obtain ⟨F124, hat125, hdup126⟩ := H114.at hR3 hx119 hv123
     refine zt (k := .i64) u3 q hat125 q q q ?_
     obtain ⟨x127, hx128, hs111⟩ := D hs111
     refine QC q q c81 (fun w' hb => w_spec_l1Has w' _ v102 x98 hS4 x118 x127 hx128 (H114.grow hb).ctx) (by rfl) <| A q (qt_not q) q q <| QL_nil fun a ha w129 hb130 => ?_
     have H131 := H114.grow hb130
     refine X (S ?_ ha)
     refine Y q (fun hc132 => ?_) (fun hc132 => ?_)
     ·have hs111 := if_t hc132 hs111
      refine rR <| qA q q q <| B <| W fun a ha => ?_
      obtain rfl := L hs111
      have H133 := H131.q0.q0.q0.q0.q0
      exact zj (m (⟨ret_ne, q, ha.sub ⟨q, trivial⟩, H133⟩))
     have hs111 := if_f hc132 hs111
     refine WP_skip fun a ha => ?_
     refine zi (X (S ?_ ha))
     refine Z <| qM q q q <| A q (qt_add q q) q q <| qA q q q <| WL_nil fun a ha => ?_
     obtain rfl := L hs111
     have H134 := H131.p4.p4.p4.p4.p4
     exact ⟨q, ha.sub ⟨q, q, q, q, q, trivial⟩, H134⟩
    have hs111 := if_f hc116 hs111
    refine WP_exit fun a ha => ?_
    obtain rfl := L hs111
    have H135 := H114.q1.q1.q1.q1
    exact zo (⟨exit_ne, q, ha.sub ⟨q, q, trivial⟩, H135⟩)
   intro e a107 w136 hO137
   rcases o105 with o105 | o105
   ·skip
    obtain ⟨rfl, hO139⟩ := hO137
    obtain ⟨ha, H138⟩ := hO139
    refine zn (zi (X (S ?_ ha)))
    refine Z <| qM q q q <| A q (qt_add q q) q q <| qA q q q <| WL_nil fun a ha => ?_
    obtain rfl := L hs35
    exact ⟨q, ha.sub ⟨q, q, trivial⟩, H138⟩
   skip
   obtain ⟨p140, rfl⟩ : ∃ z, z = o105 := ⟨o105, q⟩
   obtain ⟨rfl, hO142⟩ := hO137
   obtain ⟨ha, H141⟩ := hO142
   obtain rfl := L hs35
   exact zj (zj (m (⟨ret_ne, q, ha.sub ⟨q, trivial⟩, H141⟩)))
  have hs35 := if_f hc40 hs35
  refine WP_exit fun a ha => ?_
  obtain rfl := L hs35
  have H143 := H38.q0
  exact zo (⟨exit_ne, q, ha.sub trivial, H143⟩)
 intro e a32 w144 hO145
 rcases o30 with o30 | o30
 ·skip
  obtain ⟨rfl, hO147⟩ := hO145
  obtain ⟨ha, H146⟩ := hO147
  refine zn (X (S ?_ ha))
  refine rR <| qA q q q <| B <| W fun a ha => ?_
  obtain rfl := L h
  exact ret1 q ha q ⟨q, H146⟩
 skip
 obtain ⟨p148, rfl⟩ : ∃ z, z = o30 := ⟨o30, q⟩
 obtain ⟨rfl, hO150⟩ := hO145
 obtain ⟨ha, H149⟩ := hO150
 obtain rfl := L h
 exact zj (m (ret1 q ha q ⟨q, H149⟩))
end Go.Proofs.YtcjkbcdlpfgbgaaGreatDoor
