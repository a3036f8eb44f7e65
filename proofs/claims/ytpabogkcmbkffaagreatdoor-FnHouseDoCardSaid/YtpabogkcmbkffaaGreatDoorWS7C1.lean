/- The walks: each Go function computes its shallow function. Printed by a program. -/
import Derived.Test.YtpabogkcmbkffaaGreatDoorChecked
import Derived.Test.YtpabogkcmbkffaaGreatDoorShS7C
import Derived.Test.YtpabogkcmbkffaaGreatDoorMSt
import Derived.Test.YtpabogkcmbkffaaGreatDoorAlive
import Derived.Test.YtpabogkcmbkffaaGreatDoorRetcc
set_option linter.unusedVariables false
set_option maxRecDepth 10000
set_option maxHeartbeats 8000000
namespace Go.Proofs.YtpabogkcmbkffaaGreatDoor
open Go Go.RowKit
abbrev dt1 : DT := .sl 3 (.leaf (.int .i64))
abbrev ty2 : Ty := .pair (.int .i64) (.int .i64)
abbrev dt3 : DT := .leaf ty2
abbrev ty4 : Ty := .slice ty2
abbrev dt5 : DT := .sl 57 dt3
abbrev dt6 : DT := .sl 49 dt3
abbrev ty7 : Ty := .pair ty4 (.int .i64)
abbrev ty8 : Ty := .pair ty4 (.slice (.int .i64))
abbrev dt9 : DT := .pair dt5 (.leaf (.int .i64))
abbrev ty10 : Ty := .pair (.int .i64) ty7
abbrev dt11 : DT := .pair dt6 dt1
abbrev ty12 : Ty := .pair (.int .i64) ty8
abbrev dt13 : DT := .pair (.leaf (.int .i64)) dt9
abbrev dt14 : DT := .pair (.leaf (.int .i64)) dt11
noncomputable def fd101 : Array Field := match Tryz.prog.underlying 101 with | some (.struct fs) => fs | _ => #[]
theorem uf101 : Tryz.prog.underlying 101 = some (.struct fd101) := by kernel_rfl
noncomputable def fd27 : Array Field := match Tryz.prog.underlying 27 with | some (.struct fs) => fs | _ => #[]
theorem uf27 : Tryz.prog.underlying 27 = some (.struct fd27) := by kernel_rfl
noncomputable def fd29 : Array Field := match Tryz.prog.underlying 29 with | some (.struct fs) => fs | _ => #[]
theorem uf29 : Tryz.prog.underlying 29 = some (.struct fd29) := by kernel_rfl
noncomputable def fd47 : Array Field := match Tryz.prog.underlying 47 with | some (.struct fs) => fs | _ => #[]
theorem uf47 : Tryz.prog.underlying 47 = some (.struct fd47) := by kernel_rfl
noncomputable def fd49 : Array Field := match Tryz.prog.underlying 49 with | some (.struct fs) => fs | _ => #[]
theorem uf49 : Tryz.prog.underlying 49 = some (.struct fd49) := by kernel_rfl
noncomputable def fd55 : Array Field := match Tryz.prog.underlying 55 with | some (.struct fs) => fs | _ => #[]
theorem uf55 : Tryz.prog.underlying 55 = some (.struct fd55) := by kernel_rfl
noncomputable def fd57 : Array Field := match Tryz.prog.underlying 57 with | some (.struct fs) => fs | _ => #[]
theorem uf57 : Tryz.prog.underlying 57 = some (.struct fd57) := by kernel_rfl
noncomputable def fd89 : Array Field := match Tryz.prog.underlying 89 with | some (.struct fs) => fs | _ => #[]
theorem uf89 : Tryz.prog.underlying 89 = some (.struct fd89) := by kernel_rfl
theorem fl49 : (Tryz.prog.fieldsOf 49).toList.map (fun f => (f.name == "_", f.type, f.offset)) = keysI 3 0 2 := by kernel_rfl
theorem fu49 : Tryz.prog.underlying 49 = some (.struct (Tryz.prog.fieldsOf 49)) := by kernel_rfl
theorem fl57 : (Tryz.prog.fieldsOf 57).toList.map (fun f => (f.name == "_", f.type, f.offset)) = keysI 3 0 2 := by kernel_rfl
theorem fu57 : Tryz.prog.underlying 57 = some (.struct (Tryz.prog.fieldsOf 57)) := by kernel_rfl
noncomputable def sd101 : TypeDesc := (Tryz.prog.underlying 101).getD .bool
theorem us101 : Tryz.prog.underlying 101 = some sd101 := by kernel_rfl
theorem uo101 : oneB sd101 = false := by kernel_rfl
noncomputable def sd27 : TypeDesc := (Tryz.prog.underlying 27).getD .bool
theorem us27 : Tryz.prog.underlying 27 = some sd27 := by kernel_rfl
theorem uo27 : oneB sd27 = false := by kernel_rfl
noncomputable def sd29 : TypeDesc := (Tryz.prog.underlying 29).getD .bool
theorem us29 : Tryz.prog.underlying 29 = some sd29 := by kernel_rfl
theorem uo29 : oneB sd29 = false := by kernel_rfl
noncomputable def sd47 : TypeDesc := (Tryz.prog.underlying 47).getD .bool
theorem us47 : Tryz.prog.underlying 47 = some sd47 := by kernel_rfl
theorem uo47 : oneB sd47 = false := by kernel_rfl
noncomputable def sd49 : TypeDesc := (Tryz.prog.underlying 49).getD .bool
theorem us49 : Tryz.prog.underlying 49 = some sd49 := by kernel_rfl
theorem uo49 : oneB sd49 = false := by kernel_rfl
noncomputable def sd55 : TypeDesc := (Tryz.prog.underlying 55).getD .bool
theorem us55 : Tryz.prog.underlying 55 = some sd55 := by kernel_rfl
theorem uo55 : oneB sd55 = false := by kernel_rfl
noncomputable def sd57 : TypeDesc := (Tryz.prog.underlying 57).getD .bool
theorem us57 : Tryz.prog.underlying 57 = some sd57 := by kernel_rfl
theorem uo57 : oneB sd57 = false := by kernel_rfl
theorem i3 : (Tryz.prog.info? 3).map (·.size) = some (Ty.size (.int .i64)) := by kernel_rfl
theorem i45 : (Tryz.prog.info? 45).map (·.size) = some (Ty.size ty4) := by kernel_rfl
theorem i47 : (Tryz.prog.info? 47).map (·.size) = some (Ty.size ty12) := by kernel_rfl
theorem i49 : (Tryz.prog.info? 49).map (·.size) = some (Ty.size ty2) := by kernel_rfl
theorem i5 : (Tryz.prog.info? 5).map (·.size) = some (Ty.size (.int .u8)) := by kernel_rfl
theorem i55 : (Tryz.prog.info? 55).map (·.size) = some (Ty.size ty10) := by kernel_rfl
theorem i57 : (Tryz.prog.info? 57).map (·.size) = some (Ty.size ty2) := by kernel_rfl
theorem il101 : (Tryz.prog.info? 101).map (·.size) = some 2 := by kernel_rfl
theorem il23 : (Tryz.prog.info? 23).map (·.size) = some 1 := by kernel_rfl
theorem il24 : (Tryz.prog.info? 24).map (·.size) = some 1 := by kernel_rfl
theorem il25 : (Tryz.prog.info? 25).map (·.size) = some 1 := by kernel_rfl
theorem il27 : (Tryz.prog.info? 27).map (·.size) = some 5 := by kernel_rfl
theorem il29 : (Tryz.prog.info? 29).map (·.size) = some 4 := by kernel_rfl
theorem il3 : (Tryz.prog.info? 3).map (·.size) = some 1 := by kernel_rfl
theorem il45 : (Tryz.prog.info? 45).map (·.size) = some 1 := by kernel_rfl
theorem il47 : (Tryz.prog.info? 47).map (·.size) = some 3 := by kernel_rfl
theorem il49 : (Tryz.prog.info? 49).map (·.size) = some 2 := by kernel_rfl
theorem il53 : (Tryz.prog.info? 53).map (·.size) = some 1 := by kernel_rfl
theorem il55 : (Tryz.prog.info? 55).map (·.size) = some 3 := by kernel_rfl
theorem il57 : (Tryz.prog.info? 57).map (·.size) = some 2 := by kernel_rfl
theorem il94 : (Tryz.prog.info? 94).map (·.size) = some 3 := by kernel_rfl
theorem j3 : (Tryz.prog.info? 3).map (fun i => (i.zero, i.size, i.bytes)) = some (some (.int .i64 0), Ty.size (.int .i64), 8) := by kernel_rfl
theorem j45 : (Tryz.prog.info? 45).map (fun i => (i.zero, i.size, i.bytes)) = some (some (nS), Ty.size ty4, 24) := by kernel_rfl
theorem j47 : (Tryz.prog.info? 47).map (fun i => (i.zero, i.size, i.bytes)) = some (some (.agg #[.int .i64 0, nS, nS]), Ty.size ty12, 56) := by kernel_rfl
theorem j49 : (Tryz.prog.info? 49).map (fun i => (i.zero, i.size, i.bytes)) = some (some (.agg #[.int .i64 0, .int .i64 0]), Ty.size ty2, 16) := by kernel_rfl
theorem j55 : (Tryz.prog.info? 55).map (fun i => (i.zero, i.size, i.bytes)) = some (some (.agg #[.int .i64 0, nS, .int .i64 0]), Ty.size ty10, 40) := by kernel_rfl
theorem j57 : (Tryz.prog.info? 57).map (fun i => (i.zero, i.size, i.bytes)) = some (some (.agg #[.int .i64 0, .int .i64 0]), Ty.size ty2, 16) := by kernel_rfl
theorem nz22 : (Tryz.prog.info? 22).map (fun i => Nat.beq i.size 0) = some false := by kernel_rfl
theorem nz23 : (Tryz.prog.info? 23).map (fun i => Nat.beq i.size 0) = some false := by kernel_rfl
theorem nz24 : (Tryz.prog.info? 24).map (fun i => Nat.beq i.size 0) = some false := by kernel_rfl
theorem nz25 : (Tryz.prog.info? 25).map (fun i => Nat.beq i.size 0) = some false := by kernel_rfl
theorem nz3 : (Tryz.prog.info? 3).map (fun i => Nat.beq i.size 0) = some false := by kernel_rfl
theorem nz45 : (Tryz.prog.info? 45).map (fun i => Nat.beq i.size 0) = some false := by kernel_rfl
theorem nz53 : (Tryz.prog.info? 53).map (fun i => Nat.beq i.size 0) = some false := by kernel_rfl
theorem u22 : Tryz.prog.underlying 22 = some (.slice 5) := by kernel_rfl
theorem u23 : Tryz.prog.underlying 23 = some (.slice 55) := by kernel_rfl
theorem u24 : Tryz.prog.underlying 24 = some (.slice 3) := by kernel_rfl
theorem u25 : Tryz.prog.underlying 25 = some (.slice 47) := by kernel_rfl
theorem u3 : Tryz.prog.underlying 3 = some (.int .i64) := by kernel_rfl
theorem u4 : Tryz.prog.underlying 4 = some (.bool) := by kernel_rfl
theorem u45 : Tryz.prog.underlying 45 = some (.slice 49) := by kernel_rfl
theorem u5 : Tryz.prog.underlying 5 = some (.int .u8) := by kernel_rfl
theorem u53 : Tryz.prog.underlying 53 = some (.slice 57) := by kernel_rfl
theorem u81 : Tryz.prog.underlying 81 = some (.slice 45) := by kernel_rfl
theorem u94 : Tryz.prog.underlying 94 = some (.array 3 3) := by kernel_rfl
theorem u95 : Tryz.prog.underlying 95 = some (.array 6 3) := by kernel_rfl
theorem z101 : (Tryz.prog.info? 101).map (·.zero) = some (some (.agg #[nS, nS])) := by kernel_rfl
theorem z27 : (Tryz.prog.info? 27).map (·.zero) = some (some (.agg #[nS, nS, nS, .int .i64 0, nS])) := by kernel_rfl
theorem z29 : (Tryz.prog.info? 29).map (·.zero) = some (some (.agg #[.int .i64 0, .int .i64 0, .int .i64 0, .int .i64 0])) := by kernel_rfl
theorem z47 : (Tryz.prog.info? 47).map (·.zero) = some (some (.agg #[.int .i64 0, nS, nS])) := by kernel_rfl
theorem z49 : (Tryz.prog.info? 49).map (·.zero) = some (some (.agg #[.int .i64 0, .int .i64 0])) := by kernel_rfl
theorem z55 : (Tryz.prog.info? 55).map (·.zero) = some (some (.agg #[.int .i64 0, nS, .int .i64 0])) := by kernel_rfl
theorem z57 : (Tryz.prog.info? 57).map (·.zero) = some (some (.agg #[.int .i64 0, .int .i64 0])) := by kernel_rfl
theorem z94 : (Tryz.prog.info? 94).map (·.zero) = some (some (.agg #[.int .i64 0, .int .i64 0, .int .i64 0])) := by kernel_rfl
theorem eqs49 (a0 b0 a1 b1 : Int) (w : World) : (Op.equalIn 10000 49 (.agg #[i64 a0, i64 a1]) (.agg #[i64 b0, i64 b1])).run Tryz.prog w = .ok (((a0, a1) : Int × Int) == ((b0, b1) : Int × Int)) w := by
 rw [run_equalIn_struct w 9999 49 _ _ fu49 (by kernel_rfl), run_eqFields_int (d := 9998) u3 _ _ [a0, a1] [b0, b1] _ 0 w q fl49 (fun i a h => by cases i with | zero => (simp at h; subst h; rfl) | succ i => cases i with | zero => (simp at h; subst h; rfl) | succ i => simp at h) (fun i a h => by cases i with | zero => (simp at h; subst h; rfl) | succ i => cases i with | zero => (simp at h; subst h; rfl) | succ i => simp at h)]
 congr 1
 rw [Bool.eq_iff_iff]
 simp
theorem eqs57 (a0 b0 a1 b1 : Int) (w : World) : (Op.equalIn 10000 57 (.agg #[i64 a0, i64 a1]) (.agg #[i64 b0, i64 b1])).run Tryz.prog w = .ok (((a0, a1) : Int × Int) == ((b0, b1) : Int × Int)) w := by
 rw [run_equalIn_struct w 9999 57 _ _ fu57 (by kernel_rfl), run_eqFields_int (d := 9998) u3 _ _ [a0, a1] [b0, b1] _ 0 w q fl57 (fun i a h => by cases i with | zero => (simp at h; subst h; rfl) | succ i => cases i with | zero => (simp at h; subst h; rfl) | succ i => simp at h) (fun i a h => by cases i with | zero => (simp at h; subst h; rfl) | succ i => cases i with | zero => (simp at h; subst h; rfl) | succ i => simp at h)]
 congr 1
 rw [Bool.eq_iff_iff]
 simp
theorem fi101_0 : (fd101[0]?).map (fun f => (f.type, f.offset)) = some (24, 0) := by kernel_rfl
theorem fi27_0 : (fd27[0]?).map (fun f => (f.type, f.offset)) = some (23, 0) := by kernel_rfl
theorem fi27_1 : (fd27[1]?).map (fun f => (f.type, f.offset)) = some (24, 1) := by kernel_rfl
theorem fi27_2 : (fd27[2]?).map (fun f => (f.type, f.offset)) = some (24, 2) := by kernel_rfl
theorem fi27_3 : (fd27[3]?).map (fun f => (f.type, f.offset)) = some (3, 3) := by kernel_rfl
theorem fi27_4 : (fd27[4]?).map (fun f => (f.type, f.offset)) = some (25, 4) := by kernel_rfl
theorem fi29_0 : (fd29[0]?).map (fun f => (f.type, f.offset)) = some (3, 0) := by kernel_rfl
theorem fi29_1 : (fd29[1]?).map (fun f => (f.type, f.offset)) = some (3, 1) := by kernel_rfl
theorem fi29_2 : (fd29[2]?).map (fun f => (f.type, f.offset)) = some (3, 2) := by kernel_rfl
theorem fi29_3 : (fd29[3]?).map (fun f => (f.type, f.offset)) = some (3, 3) := by kernel_rfl
theorem fi47_0 : (fd47[0]?).map (fun f => (f.type, f.offset)) = some (3, 0) := by kernel_rfl
theorem fi47_1 : (fd47[1]?).map (fun f => (f.type, f.offset)) = some (45, 1) := by kernel_rfl
theorem fi47_2 : (fd47[2]?).map (fun f => (f.type, f.offset)) = some (24, 2) := by kernel_rfl
theorem fi49_0 : (fd49[0]?).map (fun f => (f.type, f.offset)) = some (3, 0) := by kernel_rfl
theorem fi49_1 : (fd49[1]?).map (fun f => (f.type, f.offset)) = some (3, 1) := by kernel_rfl
theorem fi55_0 : (fd55[0]?).map (fun f => (f.type, f.offset)) = some (3, 0) := by kernel_rfl
theorem fi55_1 : (fd55[1]?).map (fun f => (f.type, f.offset)) = some (53, 1) := by kernel_rfl
theorem fi55_2 : (fd55[2]?).map (fun f => (f.type, f.offset)) = some (3, 2) := by kernel_rfl
theorem fi57_0 : (fd57[0]?).map (fun f => (f.type, f.offset)) = some (3, 0) := by kernel_rfl
theorem fi57_1 : (fd57[1]?).map (fun f => (f.type, f.offset)) = some (3, 1) := by kernel_rfl
theorem fi89_0 : (fd89[0]?).map (fun f => (f.type, f.offset)) = some (22, 0) := by kernel_rfl
theorem fi89_1 : (fd89[1]?).map (fun f => (f.type, f.offset)) = some (3, 1) := by kernel_rfl
theorem c10 : Callable Tryz.prog 10 := ⟨Tryz.f10, Tryz.func10, by kernel_rfl, by kernel_rfl⟩
theorem c100 : Callable Tryz.prog 100 := ⟨Tryz.f100, Tryz.func100, by kernel_rfl, by kernel_rfl⟩
theorem c101 : Callable Tryz.prog 101 := ⟨Tryz.f101, Tryz.func101, by kernel_rfl, by kernel_rfl⟩
theorem c102 : Callable Tryz.prog 102 := ⟨Tryz.f102, Tryz.func102, by kernel_rfl, by kernel_rfl⟩
theorem c103 : Callable Tryz.prog 103 := ⟨Tryz.f103, Tryz.func103, by kernel_rfl, by kernel_rfl⟩
theorem c106 : Callable Tryz.prog 106 := ⟨Tryz.f106, Tryz.func106, by kernel_rfl, by kernel_rfl⟩
theorem c107 : Callable Tryz.prog 107 := ⟨Tryz.f107, Tryz.func107, by kernel_rfl, by kernel_rfl⟩
theorem c108 : Callable Tryz.prog 108 := ⟨Tryz.f108, Tryz.func108, by kernel_rfl, by kernel_rfl⟩
theorem c109 : Callable Tryz.prog 109 := ⟨Tryz.f109, Tryz.func109, by kernel_rfl, by kernel_rfl⟩
theorem c11 : Callable Tryz.prog 11 := ⟨Tryz.f11, Tryz.func11, by kernel_rfl, by kernel_rfl⟩
theorem c110 : Callable Tryz.prog 110 := ⟨Tryz.f110, Tryz.func110, by kernel_rfl, by kernel_rfl⟩
theorem c111 : Callable Tryz.prog 111 := ⟨Tryz.f111, Tryz.func111, by kernel_rfl, by kernel_rfl⟩
theorem c112 : Callable Tryz.prog 112 := ⟨Tryz.f112, Tryz.func112, by kernel_rfl, by kernel_rfl⟩
theorem c115 : Callable Tryz.prog 115 := ⟨Tryz.f115, Tryz.func115, by kernel_rfl, by kernel_rfl⟩
theorem c12 : Callable Tryz.prog 12 := ⟨Tryz.f12, Tryz.func12, by kernel_rfl, by kernel_rfl⟩
theorem c120 : Callable Tryz.prog 120 := ⟨Tryz.f120, Tryz.func120, by kernel_rfl, by kernel_rfl⟩
theorem c17 : Callable Tryz.prog 17 := ⟨Tryz.f17, Tryz.func17, by kernel_rfl, by kernel_rfl⟩
theorem c19 : Callable Tryz.prog 19 := ⟨Tryz.f19, Tryz.func19, by kernel_rfl, by kernel_rfl⟩
theorem c23 : Callable Tryz.prog 23 := ⟨Tryz.f23, Tryz.func23, by kernel_rfl, by kernel_rfl⟩
theorem c24 : Callable Tryz.prog 24 := ⟨Tryz.f24, Tryz.func24, by kernel_rfl, by kernel_rfl⟩
theorem c25 : Callable Tryz.prog 25 := ⟨Tryz.f25, Tryz.func25, by kernel_rfl, by kernel_rfl⟩
theorem c26 : Callable Tryz.prog 26 := ⟨Tryz.f26, Tryz.func26, by kernel_rfl, by kernel_rfl⟩
theorem c27 : Callable Tryz.prog 27 := ⟨Tryz.f27, Tryz.func27, by kernel_rfl, by kernel_rfl⟩
theorem c28 : Callable Tryz.prog 28 := ⟨Tryz.f28, Tryz.func28, by kernel_rfl, by kernel_rfl⟩
theorem c29 : Callable Tryz.prog 29 := ⟨Tryz.f29, Tryz.func29, by kernel_rfl, by kernel_rfl⟩
theorem c30 : Callable Tryz.prog 30 := ⟨Tryz.f30, Tryz.func30, by kernel_rfl, by kernel_rfl⟩
theorem c31 : Callable Tryz.prog 31 := ⟨Tryz.f31, Tryz.func31, by kernel_rfl, by kernel_rfl⟩
theorem c32 : Callable Tryz.prog 32 := ⟨Tryz.f32, Tryz.func32, by kernel_rfl, by kernel_rfl⟩
theorem c33 : Callable Tryz.prog 33 := ⟨Tryz.f33, Tryz.func33, by kernel_rfl, by kernel_rfl⟩
theorem c34 : Callable Tryz.prog 34 := ⟨Tryz.f34, Tryz.func34, by kernel_rfl, by kernel_rfl⟩
theorem c35 : Callable Tryz.prog 35 := ⟨Tryz.f35, Tryz.func35, by kernel_rfl, by kernel_rfl⟩
theorem c36 : Callable Tryz.prog 36 := ⟨Tryz.f36, Tryz.func36, by kernel_rfl, by kernel_rfl⟩
theorem c37 : Callable Tryz.prog 37 := ⟨Tryz.f37, Tryz.func37, by kernel_rfl, by kernel_rfl⟩
theorem c38 : Callable Tryz.prog 38 := ⟨Tryz.f38, Tryz.func38, by kernel_rfl, by kernel_rfl⟩
theorem c39 : Callable Tryz.prog 39 := ⟨Tryz.f39, Tryz.func39, by kernel_rfl, by kernel_rfl⟩
theorem c40 : Callable Tryz.prog 40 := ⟨Tryz.f40, Tryz.func40, by kernel_rfl, by kernel_rfl⟩
theorem c41 : Callable Tryz.prog 41 := ⟨Tryz.f41, Tryz.func41, by kernel_rfl, by kernel_rfl⟩
theorem c42 : Callable Tryz.prog 42 := ⟨Tryz.f42, Tryz.func42, by kernel_rfl, by kernel_rfl⟩
theorem c43 : Callable Tryz.prog 43 := ⟨Tryz.f43, Tryz.func43, by kernel_rfl, by kernel_rfl⟩
theorem c45 : Callable Tryz.prog 45 := ⟨Tryz.f45, Tryz.func45, by kernel_rfl, by kernel_rfl⟩
theorem c47 : Callable Tryz.prog 47 := ⟨Tryz.f47, Tryz.func47, by kernel_rfl, by kernel_rfl⟩
theorem c49 : Callable Tryz.prog 49 := ⟨Tryz.f49, Tryz.func49, by kernel_rfl, by kernel_rfl⟩
theorem c50 : Callable Tryz.prog 50 := ⟨Tryz.f50, Tryz.func50, by kernel_rfl, by kernel_rfl⟩
theorem c51 : Callable Tryz.prog 51 := ⟨Tryz.f51, Tryz.func51, by kernel_rfl, by kernel_rfl⟩
theorem c52 : Callable Tryz.prog 52 := ⟨Tryz.f52, Tryz.func52, by kernel_rfl, by kernel_rfl⟩
theorem c53 : Callable Tryz.prog 53 := ⟨Tryz.f53, Tryz.func53, by kernel_rfl, by kernel_rfl⟩
theorem c54 : Callable Tryz.prog 54 := ⟨Tryz.f54, Tryz.func54, by kernel_rfl, by kernel_rfl⟩
theorem c55 : Callable Tryz.prog 55 := ⟨Tryz.f55, Tryz.func55, by kernel_rfl, by kernel_rfl⟩
theorem c57 : Callable Tryz.prog 57 := ⟨Tryz.f57, Tryz.func57, by kernel_rfl, by kernel_rfl⟩
theorem c58 : Callable Tryz.prog 58 := ⟨Tryz.f58, Tryz.func58, by kernel_rfl, by kernel_rfl⟩
theorem c59 : Callable Tryz.prog 59 := ⟨Tryz.f59, Tryz.func59, by kernel_rfl, by kernel_rfl⟩
theorem c6 : Callable Tryz.prog 6 := ⟨Tryz.f6, Tryz.func6, by kernel_rfl, by kernel_rfl⟩
theorem c60 : Callable Tryz.prog 60 := ⟨Tryz.f60, Tryz.func60, by kernel_rfl, by kernel_rfl⟩
theorem c61 : Callable Tryz.prog 61 := ⟨Tryz.f61, Tryz.func61, by kernel_rfl, by kernel_rfl⟩
theorem c62 : Callable Tryz.prog 62 := ⟨Tryz.f62, Tryz.func62, by kernel_rfl, by kernel_rfl⟩
theorem c63 : Callable Tryz.prog 63 := ⟨Tryz.f63, Tryz.func63, by kernel_rfl, by kernel_rfl⟩
theorem c64 : Callable Tryz.prog 64 := ⟨Tryz.f64, Tryz.func64, by kernel_rfl, by kernel_rfl⟩
theorem c65 : Callable Tryz.prog 65 := ⟨Tryz.f65, Tryz.func65, by kernel_rfl, by kernel_rfl⟩
theorem c66 : Callable Tryz.prog 66 := ⟨Tryz.f66, Tryz.func66, by kernel_rfl, by kernel_rfl⟩
theorem c67 : Callable Tryz.prog 67 := ⟨Tryz.f67, Tryz.func67, by kernel_rfl, by kernel_rfl⟩
theorem c68 : Callable Tryz.prog 68 := ⟨Tryz.f68, Tryz.func68, by kernel_rfl, by kernel_rfl⟩
theorem c69 : Callable Tryz.prog 69 := ⟨Tryz.f69, Tryz.func69, by kernel_rfl, by kernel_rfl⟩
theorem c7 : Callable Tryz.prog 7 := ⟨Tryz.f7, Tryz.func7, by kernel_rfl, by kernel_rfl⟩
theorem c70 : Callable Tryz.prog 70 := ⟨Tryz.f70, Tryz.func70, by kernel_rfl, by kernel_rfl⟩
theorem c71 : Callable Tryz.prog 71 := ⟨Tryz.f71, Tryz.func71, by kernel_rfl, by kernel_rfl⟩
theorem c72 : Callable Tryz.prog 72 := ⟨Tryz.f72, Tryz.func72, by kernel_rfl, by kernel_rfl⟩
theorem c73 : Callable Tryz.prog 73 := ⟨Tryz.f73, Tryz.func73, by kernel_rfl, by kernel_rfl⟩
theorem c74 : Callable Tryz.prog 74 := ⟨Tryz.f74, Tryz.func74, by kernel_rfl, by kernel_rfl⟩
theorem c75 : Callable Tryz.prog 75 := ⟨Tryz.f75, Tryz.func75, by kernel_rfl, by kernel_rfl⟩
theorem c76 : Callable Tryz.prog 76 := ⟨Tryz.f76, Tryz.func76, by kernel_rfl, by kernel_rfl⟩
theorem c77 : Callable Tryz.prog 77 := ⟨Tryz.f77, Tryz.func77, by kernel_rfl, by kernel_rfl⟩
theorem c78 : Callable Tryz.prog 78 := ⟨Tryz.f78, Tryz.func78, by kernel_rfl, by kernel_rfl⟩
theorem c8 : Callable Tryz.prog 8 := ⟨Tryz.f8, Tryz.func8, by kernel_rfl, by kernel_rfl⟩
theorem c83 : Callable Tryz.prog 83 := ⟨Tryz.f83, Tryz.func83, by kernel_rfl, by kernel_rfl⟩
theorem c84 : Callable Tryz.prog 84 := ⟨Tryz.f84, Tryz.func84, by kernel_rfl, by kernel_rfl⟩
theorem c85 : Callable Tryz.prog 85 := ⟨Tryz.f85, Tryz.func85, by kernel_rfl, by kernel_rfl⟩
theorem c86 : Callable Tryz.prog 86 := ⟨Tryz.f86, Tryz.func86, by kernel_rfl, by kernel_rfl⟩
theorem c87 : Callable Tryz.prog 87 := ⟨Tryz.f87, Tryz.func87, by kernel_rfl, by kernel_rfl⟩
theorem c88 : Callable Tryz.prog 88 := ⟨Tryz.f88, Tryz.func88, by kernel_rfl, by kernel_rfl⟩
theorem c89 : Callable Tryz.prog 89 := ⟨Tryz.f89, Tryz.func89, by kernel_rfl, by kernel_rfl⟩
theorem c9 : Callable Tryz.prog 9 := ⟨Tryz.f9, Tryz.func9, by kernel_rfl, by kernel_rfl⟩
theorem c90 : Callable Tryz.prog 90 := ⟨Tryz.f90, Tryz.func90, by kernel_rfl, by kernel_rfl⟩
theorem c91 : Callable Tryz.prog 91 := ⟨Tryz.f91, Tryz.func91, by kernel_rfl, by kernel_rfl⟩
theorem c92 : Callable Tryz.prog 92 := ⟨Tryz.f92, Tryz.func92, by kernel_rfl, by kernel_rfl⟩
theorem c93 : Callable Tryz.prog 93 := ⟨Tryz.f93, Tryz.func93, by kernel_rfl, by kernel_rfl⟩
theorem c94 : Callable Tryz.prog 94 := ⟨Tryz.f94, Tryz.func94, by kernel_rfl, by kernel_rfl⟩
theorem c95 : Callable Tryz.prog 95 := ⟨Tryz.f95, Tryz.func95, by kernel_rfl, by kernel_rfl⟩
theorem c96 : Callable Tryz.prog 96 := ⟨Tryz.f96, Tryz.func96, by kernel_rfl, by kernel_rfl⟩
theorem c97 : Callable Tryz.prog 97 := ⟨Tryz.f97, Tryz.func97, by kernel_rfl, by kernel_rfl⟩
theorem c98 : Callable Tryz.prog 98 := ⟨Tryz.f98, Tryz.func98, by kernel_rfl, by kernel_rfl⟩
theorem c99 : Callable Tryz.prog 99 := ⟨Tryz.f99, Tryz.func99, by kernel_rfl, by kernel_rfl⟩
theorem w_spec_l20Open (w : World) (G : List Res) (vp0 : Value) (p0 : List Int) (hp0 : HasRo G (.int .u8) vp0 p0) (r : ((List Int) × Int)) (h : spec_l20OpenS p0 = some r) (H : Ctx w G) : Calls Tryz.prog 23 #[vp0] w fun e w' => ∃ (v1 : Value) (b2 : Nat), e = .returned (pB b2) ∧ Holds M0 w w' [.ro (.int .u8) v1 r.1, .bx b2 89 [v1, iV r.2]] G := by
 have H : Holds M0 w w [] G := zb H
 refine zg (args := [vp0]) (n := 11) Tryz.func23 q q q ?_
 unfold spec_l20OpenS at h
 refine rR <| qA q q q <| B <| C <| rR <| qM q q q <| za H.ctx (t := (.int .u8)) (hp0.has) u22 q q q <| A q (qt_gtr q q) q q ?_
 refine B ?_
 obtain ⟨o2, aa, h⟩ := D h
 obtain ⟨j1, rfl⟩ : ∃ z, z = o2 := ⟨o2, q⟩
 refine WP_join (M := fun a w2 => ∃ ab, Fr a 11 [(0, ab)] ∧ Holds M0 w w2 [.ro (.int .u8) ab j1] G) ?_ ?_
 ·refine Y q (fun ad => ?_) (fun ad => ?_)
  ·have aa := if_t ad aa
   refine Z <| qM q q q ?_
   obtain ⟨x5, ae, aa⟩ := D aa
   refine XL_sliceH H.ctx (hp0.has) ae u22 i5 q ⟨_, q⟩ q q q <| qA q q q <| WL_nil fun a ha => ?_
   obtain rfl := L aa
   have H7 : Holds _ w w [.ro (.int .u8) (subV (Ty.size (.int .u8)) vp0 (Int.toNat 0) (Int.toNat 2000)) x5] G := H.dup (HasRo.sub (hp0) ae)
   exact X (⟨(subV (Ty.size (.int .u8)) vp0 (Int.toNat 0) (Int.toNat 2000)), ha.sub ⟨q, trivial⟩, H7⟩)
  have aa := if_f ad aa
  refine WP_skip fun a ha => ?_
  obtain rfl := L aa
  have H8 : Holds _ w w [.ro (.int .u8) vp0 p0] G := H.dup (hp0)
  exact X (⟨vp0, ha.sub ⟨q, trivial⟩, H8⟩)
 intro a w9 ag
 obtain ⟨ab, ha, af⟩ := ag
 refine S ?_ ha
 clear ha
 refine rR <| qM q q q <| A q (qt_build (args := [(0, .tmp 8)]) (css := [#[ab]]) (cells := #[ab, iV 0]) q ⟨(af.ctx.sliceCells hR0), trivial⟩ (by kernel_rfl)) q q ?_
 refine WL_box (cs := [ab, iV 0]) af q q q q (fun ah ak ai => ?_)
 refine qA q q q <| B <| W fun a ha => ?_
 obtain rfl := L h
 have aj := ai.p1
 exact ret1 q ha q ⟨ab, ah, q, aj⟩
theorem w_spec_l20Rd__pick (w : World) (G : List Res) (bp0 : Nat) (A0 : Value) (B0 : List Int) (C0 : Has G (.int .u8) A0 B0) (B1 : Int) (p1 : Int) (r : Int × Int) (h : spec_l20Rd__pickS B0 B1 p1 = some r) (H : Ctx w ([.bx bp0 89 [A0, iV B1]] ++ G)) : Calls Tryz.prog 60 #[pB bp0, iV p1] w fun e w' => e = .returned (iV r.2) ∧ Holds (([.bx bp0 89 [A0, iV B1]] : List Res).flatMap Res.own) w w' [.bx bp0 89 [A0, iV r.1]] G := by
 have H : Holds (([.bx bp0 89 [A0, iV B1]] : List Res).flatMap Res.own) w w [.bx bp0 89 [A0, iV B1]] G := zb H
 refine zg (args := [pB bp0, iV p1]) (n := 99) Tryz.func60 q q q ?_
 unfold spec_l20Rd__pickS at h
 refine rR <| qA q q q <| rN <| qM q q q <| qM q q q <| qN q q q <| qF uf89 fi89_1 nz3 q q q ?_
 have ah := R H.p0
 refine l u3 q ah q q q q <| A q (qt_add q q) q q <| qN q q q <| qF uf89 fi89_1 nz3 q q q ?_
 refine WL_store_bx H q il3 q q q q q (fun w2 H3 => ?_)
 refine B <| C <| rR <| qM q q q <| A q (qt_lss q q) q q <| qM q q q ?_
 refine zh 7 24 (.bool ((decide (p1 < 1)) || ((List.length B0 : Int) == 0))) ?_ (fun md hmd hk => ?_)
 rotate_left
 ·obtain ⟨Q, rfl⟩ := Md.seq_of hmd
  rcases btf (decide (p1 < 1)) with aa | aa
  ·skip
   refine qS q aa q q <| qS q aa q q <| qS q aa q q <| qS q aa q q <| qS q aa q q <| qS q aa q q <| A q (ze q aa q) q q ?_
   exact hk _ (p (by rw [aa]; rfl) (cfn 6 q (u)))
  skip
  refine qM (J q aa) q q <| qN (J q aa) q q <| qF uf89 fi89_0 nz22 (J q aa) q q ?_
  have ai := R H3.p0
  refine l u22 q ai q (J q aa) q q <| za H3.ctx (t := (.int .u8)) (C0.c) u22 (J q aa) q q <| A (J q aa) (qt_eql q q) q q <| A q (zf q aa q) q q ?_
  exact hk _ (p (by rw [aa]; rfl) (cfn 6 q (u)))
 refine B ?_
 refine Y q (fun ab => ?_) (fun ab => ?_)
 ·have h := if_t ab h
  refine rR <| qA q q q <| B <| W fun a ha => ?_
  obtain rfl := L h
  exact m (ret1 q ha q ⟨q, H3⟩)
 have h := if_f ab h
 refine y <| rR <| qM q q q <| qN q q q <| qF uf89 fi89_1 nz3 q q q ?_
 have aj := R H3.p0
 refine l u3 q aj q q q q <| A q (qt_sub q q) q q <| qA q q q <| B <| C <| rR <| qM q q q <| qM q q q <| qN q q q ?_
 refine qF uf89 fi89_0 nz22 q q q ?_
 have ak := R H3.p0
 refine l u22 q ak q q q q <| za H3.ctx (t := (.int .u8)) (C0.c) u22 q q q <| A q (qt_lss q q) q q <| B ?_
 refine Y q (fun ad => ?_) (fun ad => ?_)
 ·have h := if_t ad h
  refine rR <| qM q q q <| qN q q q <| qF uf89 fi89_0 nz22 q q q ?_
  have al := R H3.p0
  refine l u22 q al q q q q <| qM q q q ?_
  obtain ⟨aI, ae, h⟩ := D h
  refine b H3.ctx (C0.c) ae u22 i5 q q q q (fun aJ aK aL am => ?_)
  obtain ⟨aM, an, aN⟩ := H3.at (C0.c) ae am
  refine zt (k := .u8) u5 q an q q q <| A q (qt_int u3 q u5) q q <| qM q q q ?_
  obtain ⟨aO, ao, h⟩ := D h
  refine A q (qt_remO q q ao) q q <| qA q q q <| B <| W fun a ha => ?_
  obtain rfl := L h
  exact m (ret1 q ha q ⟨q, H3⟩)
 have h := if_f ad h
 refine y <| C <| WP_quiet (by kernel_rfl) (by kernel_rfl) <| qM q q q <| qN q q q <| qF uf89 fi89_0 nz22 q q q ?_
 have ap := R H3.p0
 refine l u22 q ap q q q q <| qM q q q <| qM q q q <| qN q q q <| qF uf89 fi89_0 nz22 q q q ?_
 have aq := R H3.p0
 refine l u22 q aq q q q q <| za H3.ctx (t := (.int .u8)) (C0.c) u22 q q q ?_
 obtain ⟨aP, ar, h⟩ := D h
 refine A q (qt_remO q q ar) q q ?_
 obtain ⟨aQ, af, h⟩ := D h
 refine b H3.ctx (C0.c) af u22 i5 q q q q (fun aR aS aT au => ?_)
 obtain ⟨aU, av, aV⟩ := H3.at (C0.c) af au
 refine zt (k := .u8) u5 q av q q q <| A q (qt_int u3 q u5) q q <| A q (qt_mul q q) q q <| qM q q q <| qN q q q <| qF uf89 fi89_0 nz22 q q q ?_
 have aw := R H3.p0
 refine l u22 q aw q q q q <| qM q q q <| A q (qt_mul q q) q q <| A q (qt_add q q) q q <| qM q q q <| qN q q q <| qF uf89 fi89_0 nz22 q q q ?_
 have ax := R H3.p0
 refine l u22 q ax q q q q <| za H3.ctx (t := (.int .u8)) (C0.c) u22 q q q ?_
 obtain ⟨aW, ay, h⟩ := D h
 refine A q (qt_remO q q ay) q q ?_
 obtain ⟨aX, ag, h⟩ := D h
 refine b H3.ctx (C0.c) ag u22 i5 q q q q (fun aY aZ a0 az => ?_)
 obtain ⟨a1, aA, a2⟩ := H3.at (C0.c) ag az
 refine zt (k := .u8) u5 q aA q q q <| A q (qt_int u3 q u5) q q <| A q (qt_mul q q) q q <| A q (qt_add q q) q q <| qM q q q <| A q (qt_mul q q) q q ?_
 obtain ⟨a3, aB, h⟩ := D h
 refine XL_qe q (qt_add q q) (vi aB) q q <| qM q q q <| qM q q q <| qN q q q <| qF uf89 fi89_0 nz22 q q q ?_
 have aC := R H3.p0
 refine l u22 q aC q q q q <| za H3.ctx (t := (.int .u8)) (C0.c) u22 q q q ?_
 obtain ⟨a4, aD, h⟩ := D h
 refine A q (qt_quoO q q aD) q q <| A q (qt_mul q q) q q <| A q (qt_add q q) q q <| qA q q q <| QL_nil fun a ha a5 aE => ?_
 have aF := H3.grow aE
 refine X (S ?_ ha)
 refine rR <| qM q q q <| qM q q q <| A q (qt_quo q q (by decide)) q q ?_
 obtain ⟨a6, aG, h⟩ := D h
 refine XL_qe q (qt_xor q q) (vi aG) q q <| qA q q q <| rN <| qM q q q <| qM q q q ?_
 obtain ⟨a7, aH, h⟩ := D h
 refine A q (qt_remO q q aH) q q <| qA q q q <| B <| W fun a ha => ?_
 obtain rfl := L h
 exact ret1 q ha q ⟨q, aF⟩
theorem w_spec_l20Rd__odd (w : World) (G : List Res) (bp0 : Nat) (A0 : Value) (B0 : List Int) (C0 : Has G (.int .u8) A0 B0) (B1 : Int) (p1 : Int) (r : Int × Bool) (h : spec_l20Rd__oddS B0 B1 p1 = some r) (H : Ctx w ([.bx bp0 89 [A0, iV B1]] ++ G)) : Calls Tryz.prog 61 #[pB bp0, iV p1] w fun e w' => e = .returned (.bool r.2) ∧ Holds (([.bx bp0 89 [A0, iV B1]] : List Res).flatMap Res.own) w w' [.bx bp0 89 [A0, iV r.1]] G := by
 have H : Holds (([.bx bp0 89 [A0, iV B1]] : List Res).flatMap Res.own) w w [.bx bp0 89 [A0, iV B1]] G := zb H
 refine zg (args := [pB bp0, iV p1]) (n := 15) Tryz.func61 q q q ?_
 unfold spec_l20Rd__oddS at h
 refine rR <| qA q q q <| rN <| qM q q q <| A q (qt_gtr q q) q q <| qM q q q ?_
 obtain ⟨o3, ab, h⟩ := D h
 obtain ⟨g1, b2⟩ := o3
 refine WL_cutM 7 (fun a w2 => (Fr a 15 [(0, pB bp0), (14, .bool b2)] ∧ Holds (([.bx bp0 89 [A0, iV B1]] : List Res).flatMap Res.own) w w2 [.bx bp0 89 [A0, iV g1]] G)) ?_ ?_
 ·rcases btf (decide (p1 > 0)) with aa | aa
  ·have ab := if_t aa ab
   refine qM (J q aa) q q <| qM (J q aa) q q ?_
   obtain ⟨x6, ad, ab⟩ := D ab
   refine zd (J q aa) q c60 (w_spec_l20Rd__pick w G bp0 A0 B0 (C0) B1 p1 x6 ad H.ctx) (by rfl) ?_
   rintro _ w8 ⟨rfl, H9⟩; refine ⟨_, q, ?_⟩
   have ae := H.cN1 [_] H9
   refine qM (J q aa) q q <| A (J q aa) (qt_sub q q) q q <| A (J q aa) (qt_eql q q) q q <| A q (ze q aa q) q q <| WL_nil fun a ha => ?_
   obtain ⟨rfl, rfl⟩ := L ab |> Prod.mk.inj
   exact X ⟨ha.sub ⟨q, q, trivial⟩, ae⟩
  have ab := if_f aa ab
  refine qS q aa q q <| qS q aa q q <| qS q aa q q <| qS q aa q q <| qS q aa q q <| qS q aa q q <| A q (zf q aa q) q q <| WL_nil fun a ha => ?_
  obtain ⟨rfl, rfl⟩ := L ab |> Prod.mk.inj
  exact X ⟨ha.sub ⟨q, q, trivial⟩, H⟩
 intro a ah af
 obtain ⟨ha, ag⟩ := af
 refine SL_app ?_ ha
 clear ha
 refine qA q q q <| B <| W fun a ha => ?_
 obtain rfl := L h
 exact ret1 q ha q ⟨q, ag⟩
theorem w_spec_l20Item (w : World) (G : List Res) (bp0 : Nat) (A0 : Value) (B0 : List Int) (C0 : Has G (.int .u8) A0 B0) (B1 : Int) (p1 : Int) (p2 : Int) (r : Int × (Int × LP × Int)) (h : spec_l20ItemS B0 B1 p1 p2 = some r) (H : Ctx w ([.bx bp0 89 [A0, iV B1]] ++ G)) : Calls Tryz.prog 90 #[pB bp0, iV p1, iV p2] w fun e w' => ∃ (v1 : Value), e = .returned (.agg #[iV r.2.1, v1, iV r.2.2.2]) ∧ Holds (([.bx bp0 89 [A0, iV B1]] : List Res).flatMap Res.own) w w' [.sl 57 ty2 v1 r.2.2.1, .bx bp0 89 [A0, iV r.1]] G := by
 have H : Holds (([.bx bp0 89 [A0, iV B1]] : List Res).flatMap Res.own) w w [.bx bp0 89 [A0, iV B1]] G := zb H
 refine zg (args := [pB bp0, iV p1, iV p2]) (n := 94) Tryz.func90 q q q ?_
 unfold spec_l20ItemS at h
 refine C <| Z ?_
 refine zq (cs := [iV 0, nS, iV 0]) H z55 q q q (fun b1 w2 H3 => ?_)
 refine rN <| qM q q q ?_
 have H7 := H3.p1
 obtain ⟨x5, a8, h⟩ := D h
 refine zd q q c60 (w_spec_l20Rd__pick w2 _ bp0 A0 B0 (C0.c) B1 32 x5 a8 H7.ctx) (by rfl) ?_
 rintro _ w8 ⟨rfl, H9⟩; refine ⟨_, q, ?_⟩
 have aQ := H7.cN1 [_] H9
 refine qM q q q ?_
 obtain ⟨ah, a9, h⟩ := D h
 refine zd q q c60 (w_spec_l20Rd__pick w8 _ bp0 A0 B0 (C0.c) x5.1 2 ah a9 aQ.ctx) (by rfl) ?_
 rintro _ cT ⟨rfl, ba⟩; refine ⟨_, q, ?_⟩
 have bb := aQ.cN1 [_] ba
 refine A q (qt_mul q q) q q <| A q (qt_build (args := [(2, .tmp 13)]) (css := [#[iV (IntKind.wrap .i64 (x5.2 * ah.2))]]) (cells := #[iV 0, nS, iV (IntKind.wrap .i64 (x5.2 * ah.2))]) q ⟨q, trivial⟩ (by kernel_rfl)) q q ?_
 refine zq (cs := [iV 0, nS, iV 0]) bb z55 q q q (fun ae cU bc => ?_)
 refine zl (cs' := [iV 0, nS, iV (IntKind.wrap .i64 (x5.2 * ah.2))]) bc q il55 q q q q q (fun bd aR => ?_)
 refine B <| C <| rR <| qM q q q <| A q (qt_gtr q q) q q <| qM q q q ?_
 obtain ⟨be, an, h⟩ := D h
 obtain ⟨aS, bf⟩ := be
 refine WL_cutM 4 (fun a w2 => (Fr a 94 [(0, pB bp0), (1, iV p1), (2, iV p2), (6, pB b1), (7, pB ae), (21, .bool bf)] ∧ Holds (([.bx bp0 89 [A0, iV B1]] : List Res).flatMap Res.own) w w2 [.bx bp0 89 [A0, iV aS], .bx b1 55 [iV 0, nS, iV 0], .bx ae 55 [iV 0, nS, iV (IntKind.wrap .i64 (x5.2 * ah.2))]] G)) ?_ ?_
 ·rcases btf (decide (p1 > 0)) with ai | ai
  ·have an := if_t ai an
   refine qM (J q ai) q q ?_
   have aT := aR.p1
   obtain ⟨bg, bh, an⟩ := D an
   refine zd (J q ai) q c60 (w_spec_l20Rd__pick bd _ bp0 A0 B0 (C0.c.c) ah.1 3 bg bh aT.ctx) (by rfl) ?_
   rintro _ cV ⟨rfl, bi⟩; refine ⟨_, q, ?_⟩
   have bj := aT.cN1 [_] bi
   refine A (J q ai) (qt_gtr q q) q q <| A q (ze q ai q) q q <| WL_nil fun a ha => ?_
   obtain ⟨rfl, rfl⟩ := L an |> Prod.mk.inj
   have bk := bj.p1.p2.p2
   exact X ⟨ha.sub ⟨q, q, q, q, q, q, trivial⟩, bk⟩
  have an := if_f ai an
  refine qS q ai q q <| qS q ai q q <| qS q ai q q <| A q (zf q ai q) q q <| WL_nil fun a ha => ?_
  obtain ⟨rfl, rfl⟩ := L an |> Prod.mk.inj
  have bl := aR.p2.p2
  exact X ⟨ha.sub ⟨q, q, q, q, q, q, trivial⟩, bl⟩
 intro a bm bn
 obtain ⟨ha, aB⟩ := bn
 refine SL_app ?_ ha
 clear ha
 refine B ?_
 obtain ⟨bo, al, h⟩ := D h
 obtain ⟨aU, bp, bq⟩ := bo
 refine WP_join (M := fun a w2 => ∃ aq, Fr a 94 [(0, pB bp0), (1, iV p1), (2, iV p2), (6, pB b1), (7, pB ae)] ∧ Holds (([.bx bp0 89 [A0, iV B1]] : List Res).flatMap Res.own) w w2 [.bx bp0 89 [A0, iV aU], .bx b1 55 [iV 0, nS, iV 0], .bx ae 55 [iV bp, aq, iV (IntKind.wrap .i64 (x5.2 * ah.2))], .sl 57 ty2 aq bq] G) ?_ ?_
 ·refine Y q (fun aC => ?_) (fun aC => ?_)
  ·have al := if_t aC al
   refine rR <| qM q q q ?_
   obtain ⟨ar, br, al⟩ := D al
   refine zd q q c60 (w_spec_l20Rd__pick bm _ bp0 A0 B0 (C0.c.c) aS 6 ar br aB.ctx) (by rfl) ?_
   rintro _ cW ⟨rfl, bs⟩; refine ⟨_, q, ?_⟩
   have bt := aB.cN1 [_] bs
   refine A q (qt_add q q) q q <| qF uf55 fi55_0 nz3 q q q ?_
   have bu := bt.p2
   refine WL_store_bx bu q il3 q q q q q (fun cX bv => ?_)
   refine rN <| qA q q q <| B <| g ?_
   have bw := bv.nS 57 ty2
   obtain ⟨bz, bA, al⟩ := D al
   have bB := bw.p1.p3.p3
   refine fun bC aV => zp (I := fun s a w2 => match s with | (aj, aD, am) => ∃ ak, Fr a 94 [(0, pB bp0), (1, iV p1), (2, iV p2), (6, pB b1), (7, pB ae), (8, iV aj)] ∧ Holds (([.bx bp0 89 [A0, iV B1]] : List Res).flatMap Res.own) w w2 [.bx bp0 89 [A0, iV aD], .bx b1 55 [iV 0, nS, iV 0], .bx ae 55 [iV (IntKind.wrap .i64 (1 + ar.2)), ak, iV (IntKind.wrap .i64 (x5.2 * ah.2))], .sl 57 ty2 ak am] G) (O := fun o e a w2 => match o with | (q0, q1) => e = .exit 0 ∧ ∃ aW, Fr a 94 [(0, pB bp0), (1, iV p1), (2, iV p2), (6, pB b1), (7, pB ae)] ∧ Holds (([.bx bp0 89 [A0, iV B1]] : List Res).flatMap Res.own) w w2 [.bx bp0 89 [A0, iV q0], .bx b1 55 [iV 0, nS, iV 0], .bx ae 55 [iV (IntKind.wrap .i64 (1 + ar.2)), aW, iV (IntKind.wrap .i64 (x5.2 * ah.2))], .sl 57 ty2 aW q1] G) bA ?_ ?_ ?_
   ·exact ⟨(nS), aV.sub ⟨q, q, q, q, q, q, trivial⟩, bB⟩
   ·clear aV
    intro s cY a bD ad bE
    obtain ⟨aj, aD, am⟩ := s
    obtain ⟨ak, ha, au⟩ := bE
    refine S ?_ ha
    clear ha
    refine C <| rR <| qM q q q <| qM q q q <| A q (qt_lss q q) q q <| qM q q q ?_
    refine zh 5 34 (.bool ((decide (aj < p1)) && (decide ((List.length am : Int) < 3)))) ?_ (fun md hmd hk => ?_)
    rotate_left
    ·obtain ⟨Q, rfl⟩ := Md.seq_of hmd
     rcases btf (decide (aj < p1)) with af | af
     ·skip
      refine qF uf55 fi55_1 nz53 (J q af) q q ?_
      have bF := R au.p2
      refine l u53 q bF q (J q af) q q <| za au.ctx (t := ty2) hS3 u53 (J q af) q q <| A (J q af) (qt_lss q q) q q <| A q (ze q af q) q q ?_
      exact hk _ (p (by rw [af]; rfl) (cfn 4 q (u)))
     skip
     refine qS q af q q <| qS q af q q <| qS q af q q <| qS q af q q <| A q (zf q af q) q q ?_
     exact hk _ (p (by rw [af]; rfl) (cfn 4 q (u)))
    refine B ?_
    refine Y q (fun aE => ?_) (fun aE => ?_)
    ·have ad := if_t aE ad
     refine y <| C <| g <| rR <| qM q q q ?_
     obtain ⟨ao, bG, ad⟩ := D ad
     refine zd q q c60 (w_spec_l20Rd__pick bD _ bp0 A0 B0 (C0.c.c.c) aD 2 ao bG au.ctx) (by rfl) ?_
     rintro _ cZ ⟨rfl, bH⟩; refine ⟨_, q, ?_⟩
     have az := au.cN1 [_] bH
     refine A q (qt_eql q q) q q <| qM q q q ?_
     refine zh 11 51 (.bool ((ao.2 == 0) || ((aj == (IntKind.wrap .i64 (p1 - 1))) && ((List.length am : Int) == 0)))) ?_ (fun md hmd hk => ?_)
     rotate_left
     ·obtain ⟨Q, rfl⟩ := Md.seq_of hmd
      rcases btf (ao.2 == 0) with ab | ab
      ·skip
       refine qS q ab q q <| qS q ab q q <| qS q ab q q <| qS q ab q q <| qS q ab q q <| XL_skip q q q <| XL_skip q q q <| XL_skip q q q <| XL_skip q q q <| qS q ab q q ?_
       refine A q (ze q ab q) q q ?_
       exact hk _ (p (by rw [ab]; rfl) (cfn 10 q (u)))
      skip
      refine qM (J q ab) q q <| qM (J q ab) q q <| A (J q ab) (qt_sub q q) q q <| A (J q ab) (qt_eql q q) q q <| qM (J q ab) q q ?_
      refine zh 5 50 (.bool ((aj == (IntKind.wrap .i64 (p1 - 1))) && ((List.length am : Int) == 0))) ?_ (fun md hmd hk => ?_)
      rotate_left
      ·obtain ⟨Q, rfl⟩ := Md.seq_of hmd
       rcases btf (aj == (IntKind.wrap .i64 (p1 - 1))) with ag | ag
       ·skip
        refine qF uf55 fi55_1 nz53 (J q ag) q q ?_
        have bI := R az.p2
        refine l u53 q bI q (J q ag) q q <| za az.ctx (t := ty2) hS3 u53 (J q ag) q q <| A (J q ag) (qt_eql q q) q q <| A (J q ab) (ze q ag q) q q ?_
        exact hk _ (p (by rw [ag]; rfl) (cfn 4 q (u)))
       skip
       refine qS q ag q q <| qS q ag q q <| qS q ag q q <| qS q ag q q <| A (J q ab) (zf q ag q) q q ?_
       exact hk _ (p (by rw [ag]; rfl) (cfn 4 q (u)))
      refine A q (zf q ab q) q q ?_
      exact hk _ (p (by rw [ab]; rfl) (cfn 6 q (u)))
     refine B ?_
     refine Y q (fun aF => ?_) (fun aF => ?_)
     ·have ad := if_t aF ad
      obtain ⟨av, bJ, ad⟩ := D ad
      obtain ⟨bK, bL, ad⟩ := D ad
      refine WP_mid (Mid := fun a w2 => ∃ aA, Fr a 94 [(0, pB bp0), (1, iV p1), (2, iV p2), (6, pB b1), (7, pB ae), (8, iV aj)] ∧ Holds (([.bx bp0 89 [A0, iV B1]] : List Res).flatMap Res.own) w w2 [.bx bp0 89 [A0, iV av.1], .bx b1 55 [iV 0, nS, iV 0], .bx ae 55 [iV (IntKind.wrap .i64 (1 + ar.2)), aA, iV (IntKind.wrap .i64 (x5.2 * ah.2))], .sl 57 ty2 aA bK] G) ?_ ?_
      ·refine WP_ordersT (fun w1 w2 => Chg (([.bx bp0 89 [A0, iV ao.1], .sl 57 ty2 ak am] : List Res).flatMap Res.own) w1 w2) 9 (by kernel_rfl) (fun aG bM => ?_)
       have bN := az.grow bM
       have bO := bN.p3
       have aX := bO.p1
       have aY : Ctx aG ([.bx bp0 89 [A0, iV ao.1], .sl 57 ty2 ak am] ++ ([.bx b1 55 [iV 0, nS, iV 0], .bx ae 55 [iV (IntKind.wrap .i64 (1 + ar.2)), ak, iV (IntKind.wrap .i64 (x5.2 * ah.2))]] ++ G)) := aX.ctx
       have bP : Holds _ aG aG [.bx bp0 89 [A0, iV ao.1], .sl 57 ty2 ak am] ([.bx b1 55 [iV 0, nS, iV 0], .bx ae 55 [iV (IntKind.wrap .i64 (1 + ar.2)), ak, iV (IntKind.wrap .i64 (x5.2 * ah.2))]] ++ G) := zb (Rs := [.bx bp0 89 [A0, iV ao.1], .sl 57 ty2 ak am]) aY
       have Hc := bP
       repeat' first
        | refine XDo 4 q <| zd q q c60 (w_spec_l20Rd__pick _ _ bp0 A0 B0 (C0.c.c.c) ao.1 4 av bJ Hc.ctx) (by rfl) ?_; rintro _ _ ⟨rfl, HK⟩; refine ⟨_, q, ?_⟩; have Hc := Hc.cN1 [_] HK; refine XN Hc.chg ?_
        | refine XDo 7 q ?_; refine zs (t := ty2) (args := [.tmp 58]) (xs := ([(aj, IntKind.wrap .i64 (1 + av.2))] : LP)) Hc (BltL.cons (Blt.pair (Blt.int) (Blt.int)) q (BltL.nil)) u53 j57 q q q q q q (fun c0 _ Hc => ?_); refine XN Hc.chg ?_
        | refine XDo 8 q ?_; have Hc := Hc.p2; refine zw Hc hS1 bL u53 j57 q q q q q q (fun bQ _ Hc => ?_); refine XN Hc.chg ?_
        | have Hc := aX.cN3 [_, _] Hc; refine XDo 9 q <| qF uf55 fi55_1 nz53 q q q <| XE q ?_
        | refine XDo 10 q ?_; have Hc := Hc.p4; refine WL_store_bx Hc q il53 (Hc.ctx.sliceCells hS1) (Hc.ctx.sliceOne hS1) q q q (fun _ Hc => ?_); refine XE q ?_
        | refine XQ (i := 0) q (by decide +kernel) q Hc.chg q (fun _ => qt_fieldAddr uf55 fi55_1 nz53 q) q q ?_
        | have bR := HasB.bx (HasB.c (HasB.c (HasB.c (HasB.hd)))) Hc.ctx; refine XT (i := 1) q (by decide +kernel) q Hc.chg q (qs_cell u53 q q (bR.cell (i := 1) q) Hc.chg (Ctx.outB aY (HasB.c (HasB.hd)))) q q ?_
        | refine XQ (i := 2) q (by decide +kernel) q Hc.chg q (fun _ => qt_move q) q q ?_
        | refine XQ (i := 3) q (by decide +kernel) q Hc.chg q (fun _ => qt_move q) q q ?_
        | refine XQ (i := 5) q (by decide +kernel) q Hc.chg q (fun _ => qt_add q q) q q ?_
        | refine XQ (i := 6) q (by decide +kernel) q Hc.chg q (fun _ => qt_build (args := [(0, .tmp 54), (1, .tmp 57)]) (css := [#[iV aj], #[iV (IntKind.wrap .i64 (1 + av.2))]]) (cells := #[iV aj, iV (IntKind.wrap .i64 (1 + av.2))]) q ⟨q, q, trivial⟩ (by kernel_rfl)) q q ?_
        | refine XV [4] (by decide +kernel) q (allc ?_ alln)
        | refine XV [7] (by decide +kernel) q (allc ?_ alln)
        | refine XV [8] (by decide +kernel) q (allc ?_ alln)
        | refine XV [9] (by decide +kernel) q (allc ?_ alln)
        | refine XV [10] (by decide +kernel) q (allc ?_ alln)
        | refine XC_done (by decide +kernel) (fun a ha => ?_); have Hc := (((((Hc.q2).p1).p1).p3).p3); exact ⟨bQ, ha.sub ⟨q, q, q, q, q, q, trivial⟩, Hc⟩
      intro a c1 bS
      obtain ⟨aA, ha, bT⟩ := bS
      refine zi (X (S ?_ ha))
      refine Z <| qM q q q <| A q (qt_add q q) q q <| qA q q q <| WL_nil fun a ha => ?_
      obtain rfl := L ad
      have bU := bT.p3.p3.p3.p3
      exact ⟨q, aA, ha.sub ⟨q, q, q, q, q, q, trivial⟩, bU⟩
     have ad := if_f aF ad
     refine WP_skip fun a ha => ?_
     refine zi (X (S ?_ ha))
     refine Z <| qM q q q <| A q (qt_add q q) q q <| qA q q q <| WL_nil fun a ha => ?_
     obtain rfl := L ad
     have bV := az.p3.p3.p3.p3
     exact ⟨q, ak, ha.sub ⟨q, q, q, q, q, q, trivial⟩, bV⟩
    have ad := if_f aE ad
    refine WP_exit fun a ha => ?_
    obtain rfl := L ad
    have bW := au.p3.p3.p3.p3
    exact zo (⟨exit_ne, q, ak, ha.sub ⟨q, q, q, q, q, trivial⟩, bW⟩)
   intro e bC c2 bX
   obtain ⟨c3, c4⟩ := bz
   obtain ⟨rfl, bY⟩ := bX
   obtain ⟨bZ, ha, b0⟩ := bY
   obtain ⟨rfl, rfl, rfl⟩ := (by simpa only [Option.some.injEq, Prod.mk.injEq] using al : _)
   have b4 := b0.p3.p3.p3.p3
   exact zn (X (⟨bZ, ha.sub ⟨q, q, q, q, q, trivial⟩, b4⟩))
  have al := if_f aC al
  refine WP_skip fun a ha => ?_
  obtain ⟨rfl, rfl, rfl⟩ := (by simpa only [Option.some.injEq, Prod.mk.injEq] using al : _)
  have b5 := aB.nS 57 ty2
  have b6 := b5.p3.p3.p3
  exact X (⟨(nS), ha.sub ⟨q, q, q, q, q, trivial⟩, b6⟩)
 intro a b7 b8
 obtain ⟨aq, ha, aZ⟩ := b8
 refine S ?_ ha
 clear ha
 refine C <| rR <| qM q q q <| qM q q q ?_
 obtain ⟨a0, b9, h⟩ := D h
 refine zd q q c61 (w_spec_l20Rd__odd b7 _ bp0 A0 B0 (C0.c.c.c) aU p2 a0 b9 aZ.ctx) (by rfl) ?_
 rintro _ ca ⟨rfl, cb⟩; refine ⟨_, q, ?_⟩
 have aH := aZ.cN1 [_] cb
 refine B ?_
 obtain ⟨cc, aa, h⟩ := D h
 obtain ⟨cd, aw, ce, ax⟩ := cc
 refine WP_join (M := fun a w2 => ∃ ap, Fr a 94 [(0, pB bp0), (6, pB b1), (7, pB ae)] ∧ Holds (([.bx bp0 89 [A0, iV B1]] : List Res).flatMap Res.own) w w2 [.bx bp0 89 [A0, iV cd], .bx b1 55 [iV 0, nS, iV 0], .bx ae 55 [iV aw, ap, iV ax], .sl 57 ty2 ap ce] G) ?_ ?_
 ·refine Y q (fun aI => ?_) (fun aI => ?_)
  ·have aa := if_t aI aa
   refine rR <| qM q q q ?_
   obtain ⟨aJ, cf, aa⟩ := D aa
   refine zd q q c60 (w_spec_l20Rd__pick ca _ bp0 A0 B0 (C0.c.c.c) a0.1 4 aJ cf aH.ctx) (by rfl) ?_
   rintro _ c5 ⟨rfl, cg⟩; refine ⟨_, q, ?_⟩
   have ay := aH.cN1 [_] cg
   refine B <| g <| rR <| A q (qt_eql q q) q q <| qA q q q <| B ?_
   refine Y q (fun aK => ?_) (fun aK => ?_)
   ·have aa := if_t aK aa
    refine Z ?_
    refine zs (t := tI) (args := [.const (iV (-1)), .const (iV 32)]) (xs := ([(-1), 32] : List Int)) ay (BltL.cons (Blt.int) q (BltL.cons (Blt.int) q (BltL.nil))) u24 j3 q q q q q q (fun da ch ci => ?_)
    refine qM q q q ?_
    have a1 := ci.p1
    obtain ⟨cj, ck, aa⟩ := D aa
    refine zd q q c60 (w_spec_l20Rd__pick ch _ bp0 A0 B0 (C0.c.c.c.c) aJ.1 2 cj ck a1.ctx) (by rfl) ?_
    rintro _ db ⟨rfl, cl⟩; refine ⟨_, q, ?_⟩
    have aL := a1.cN1 [_] cl
    obtain ⟨dc, a2, aa⟩ := D aa
    refine b aL.ctx hS1 a2 u24 i3 q q q q (fun dd de df cm => ?_)
    obtain ⟨dg, cn, dh⟩ := aL.at hS1 a2 cm
    refine zt (k := .i64) u3 q cn q q q <| qF uf55 fi55_2 nz3 q q q ?_
    have co := aL.p3
    refine WL_store_bx co q il3 q q q q q (fun di cp => ?_)
    refine WL_nil fun a ha => ?_
    obtain ⟨rfl, rfl, rfl, rfl⟩ := (by simpa only [Option.some.injEq, Prod.mk.injEq] using aa : _)
    have cq := cp.q2.p3.p1.p3.p3
    exact zi (X (⟨aq, ha.sub ⟨q, q, q, trivial⟩, cq⟩))
   have aa := if_f aK aa
   refine rR <| A q (qt_eql q q) q q <| qA q q q <| B ?_
   refine Y q (fun aM => ?_) (fun aM => ?_)
   ·have aa := if_t aM aa
    refine Z ?_
    refine zs (t := tI) (args := [.const (iV (-1)), .const (iV 7)]) (xs := ([(-1), 7] : List Int)) ay (BltL.cons (Blt.int) q (BltL.cons (Blt.int) q (BltL.nil))) u24 j3 q q q q q q (fun dj cr ct => ?_)
    refine qM q q q ?_
    have a3 := ct.p1
    obtain ⟨cu, cv, aa⟩ := D aa
    refine zd q q c60 (w_spec_l20Rd__pick cr _ bp0 A0 B0 (C0.c.c.c.c) aJ.1 2 cu cv a3.ctx) (by rfl) ?_
    rintro _ dk ⟨rfl, cw⟩; refine ⟨_, q, ?_⟩
    have aN := a3.cN1 [_] cw
    obtain ⟨dl, a4, aa⟩ := D aa
    refine b aN.ctx hS1 a4 u24 i3 q q q q (fun dm dn dq cx => ?_)
    obtain ⟨dr, cy, ds⟩ := aN.at hS1 a4 cx
    refine zt (k := .i64) u3 q cy q q q <| qF uf55 fi55_0 nz3 q q q ?_
    have cz := aN.p3
    refine WL_store_bx cz q il3 q q q q q (fun dt cA => ?_)
    refine WL_nil fun a ha => ?_
    obtain ⟨rfl, rfl, rfl, rfl⟩ := (by simpa only [Option.some.injEq, Prod.mk.injEq] using aa : _)
    have cB := cA.q2.p3.p1.p3.p3
    exact zi (X (⟨aq, ha.sub ⟨q, q, q, trivial⟩, cB⟩))
   have aa := if_f aM aa
   refine rR <| A q (qt_eql q q) q q <| qA q q q <| B ?_
   refine Y q (fun aO => ?_) (fun aO => ?_)
   ·have aa := if_t aO aa
    refine Z <| qF uf55 fi55_1 nz53 q q q ?_
    have cC := R ay.p2
    refine l u53 q cC q q q q <| qM q q q <| A q (qt_build (args := [(0, .tmp 88), (1, .const (iV 1))]) (css := [#[iV p1], #[iV 1]]) (cells := #[iV p1, iV 1]) q ⟨q, q, trivial⟩ (by kernel_rfl)) q q ?_
    refine zs (t := ty2) (args := [.tmp 89]) (xs := ([(p1, 1)] : LP)) ay (BltL.cons (Blt.pair (Blt.int) (Blt.int)) q (BltL.nil)) u53 j57 q q q q q q (fun du dv cD => ?_)
    have cE := cD.p4
    obtain ⟨dw, cF, aa⟩ := D aa
    refine zw cE hS1 cF u53 j57 q q q q q q (fun cG dx cH => ?_)
    refine qF uf55 fi55_1 nz53 q q q ?_
    have aP := cH.p4
    refine WL_store_bx aP q il53 (aP.ctx.sliceCells hS1) (aP.ctx.sliceOne hS1) q q q (fun dy cI => ?_)
    refine WL_nil fun a ha => ?_
    obtain ⟨rfl, rfl, rfl, rfl⟩ := (by simpa only [Option.some.injEq, Prod.mk.injEq] using aa : _)
    have cJ := cI.q2.p1.p1.p3.p3
    exact zi (X (⟨cG, ha.sub ⟨q, q, q, trivial⟩, cJ⟩))
   have aa := if_f aO aa
   refine Z <| A q (qt_build (args := [(0, .const (iV 2))]) (css := [#[iV 2]]) (cells := #[iV 2, nS, iV 0]) q ⟨q, trivial⟩ (by kernel_rfl)) q q ?_
   have cK := ay.p2
   refine zl (cs' := [iV 2, nS, iV 0]) cK q il55 q q q q q (fun dz cL => ?_)
   refine WL_nil fun a ha => ?_
   obtain ⟨rfl, rfl, rfl, rfl⟩ := (by simpa only [Option.some.injEq, Prod.mk.injEq] using aa : _)
   have cM := cL.nS 57 ty2
   have cN := cM.q4.p1.p3.p3
   exact zi (X (⟨(nS), ha.sub ⟨q, q, q, trivial⟩, cN⟩))
  have aa := if_f aI aa
  refine WP_skip fun a ha => ?_
  obtain ⟨rfl, rfl, rfl, rfl⟩ := (by simpa only [Option.some.injEq, Prod.mk.injEq] using aa : _)
  have cO := aH.p3.p3.p3.p3
  exact X (⟨aq, ha.sub ⟨q, q, q, trivial⟩, cO⟩)
 intro a dA cP
 obtain ⟨ap, ha, a5⟩ := cP
 refine S ?_ ha
 clear ha
 refine C <| Z ?_
 have cQ := R a5.p2
 refine zm (cs := [iV aw, ap, iV ax]) us55 uo55 il55 cQ q q q ?_
 change XL _ _ _ _ _ ((93, .agg #[iV aw, ap, iV ax]) :: _) _
 have a6 := a5.p1
 refine zl (cs' := [iV aw, ap, iV ax]) a6 q il55 q (T q (T (a6.ctx.sliceOne hS3) (T q q))) q q q (fun dB a7 => ?_)
 refine B <| W fun a ha => ?_
 obtain rfl := L h
 have cR := R a7.p0
 have cS := a7.q0.q1.p1
 exact retc q ha q (run_loadVar_bx (cs := [iV aw, ap, iV ax]) us55 uo55 il55 cR) ⟨ap, q, cS⟩
theorem w_spec_l20Items (w : World) (G : List Res) (bp0 : Nat) (A0 : Value) (B0 : List Int) (C0 : Has G (.int .u8) A0 B0) (B1 : Int) (p1 : Int) (r : Int × LI) (h : spec_l20ItemsS B0 B1 p1 = some r) (H : Ctx w ([.bx bp0 89 [A0, iV B1]] ++ G)) : Calls Tryz.prog 57 #[pB bp0, iV p1] w fun e w' => ∃ (v1 : Value), e = .returned (v1) ∧ Holds (([.bx bp0 89 [A0, iV B1]] : List Res).flatMap Res.own) w w' [.sl 55 ty10 v1 r.2, .bx bp0 89 [A0, iV r.1]] G := by
 have H : Holds (([.bx bp0 89 [A0, iV B1]] : List Res).flatMap Res.own) w w [.bx bp0 89 [A0, iV B1]] G := zb H
 refine zg (args := [pB bp0, iV p1]) (n := 36) Tryz.func57 q q q ?_
 unfold spec_l20ItemsS at h
 refine rR <| qA q q q <| B <| C <| Z ?_
 refine zs (t := ty10) (args := []) (xs := ([] : LI)) H (BltL.nil) u23 j55 q q q q q q (fun v1 w2 H3 => ?_)
 refine qA q q q <| B <| C <| rR <| qM q q q ?_
 have H7 := H3.p1
 obtain ⟨x5, av, h⟩ := D h
 refine zd q q c60 (w_spec_l20Rd__pick w2 _ bp0 A0 B0 (C0.c) B1 7 x5 av H7.ctx) (by rfl) ?_
 rintro _ w8 ⟨rfl, H9⟩; refine ⟨_, q, ?_⟩
 have aw := H7.cN1 [_] H9
 refine qA q q q <| B <| g ?_
 obtain ⟨ax, ay, h⟩ := D h
 have az := aw.p1.p1
 refine fun aA an => zp (I := fun s a w2 => match s with | (ah, ao, ai) => ∃ ab, Fr a 36 [(0, pB bp0), (1, iV p1), (5, ab), (6, iV ao)] ∧ Holds (([.bx bp0 89 [A0, iV B1]] : List Res).flatMap Res.own) w w2 [.bx bp0 89 [A0, iV ai], .sl 55 ty10 ab ah] G) (O := fun o e a w2 => match o with | (q0, q1) => e = .exit 0 ∧ ∃ ap, Fr a 36 [(0, pB bp0), (1, iV p1), (5, ap)] ∧ Holds (([.bx bp0 89 [A0, iV B1]] : List Res).flatMap Res.own) w w2 [.bx bp0 89 [A0, iV q1], .sl 55 ty10 ap q0] G) ay ?_ ?_ ?_
 ·exact ⟨v1, an.sub ⟨q, q, q, q, trivial⟩, az⟩
 ·clear an
  intro s bf a aB aa aC
  obtain ⟨ah, ao, ai⟩ := s
  obtain ⟨ab, ha, ad⟩ := aC
  refine S ?_ ha
  clear ha
  refine C <| rR <| qM q q q <| A q (qt_gtr q q) q q <| B ?_
  refine Y q (fun aj => ?_) (fun aj => ?_)
  ·have aa := if_t aj aa
   refine y <| C <| g <| Z <| qM q q q <| qM q q q <| qM q q q <| za ad.ctx (t := ty10) hS1 u23 q q q ?_
   obtain ⟨ae, aD, aa⟩ := D aa
   refine zd q q c90 (w_spec_l20Item aB _ bp0 A0 B0 (C0.c) ai (List.length ah : Int) 0 ae aD ad.ctx) (by rfl) ?_
   rintro _ bg ⟨bh, rfl, aE⟩; refine ⟨_, q, ?_⟩
   have aF := ad.cN2 [_] aE
   have aG := aF.freeze
   refine zs (t := ty10) (args := [.tmp 18]) (xs := ([(ae.2.1, ae.2.2.1, ae.2.2.2)] : LI)) aG (BltL.cons (Blt.pair (Blt.int) (Blt.pair (Blt.slice hO0) (Blt.int))) q (BltL.nil)) u23 j55 q q q q q q (fun bi bj aH => ?_)
   have aI := aH.p3
   obtain ⟨bk, aJ, aa⟩ := D aa
   refine zw aI hS1 aJ u23 j55 q q q q q q (fun aK bl aL => ?_)
   refine qA q q q <| WL_nil fun a ha => ?_
   refine zi (X (S ?_ ha))
   refine Z <| qM q q q <| A q (qt_sub q q) q q <| qA q q q <| WL_nil fun a ha => ?_
   obtain rfl := L aa
   have aM := aL.q1.q1.p1
   exact ⟨q, aK, ha.sub ⟨q, q, q, q, trivial⟩, aM⟩
  have aa := if_f aj aa
  refine WP_exit fun a ha => ?_
  obtain rfl := L aa
  have aN := ad.p1.p1
  exact zo (⟨exit_ne, q, ab, ha.sub ⟨q, q, q, trivial⟩, aN⟩)
 intro e aA aO aP
 obtain ⟨aQ, aR⟩ := ax
 obtain ⟨rfl, aS⟩ := aP
 obtain ⟨aT, ha, aq⟩ := aS
 refine zn (X (S ?_ ha))
 refine C <| rR <| qM q q q <| qM q q q ?_
 obtain ⟨ar, aU, h⟩ := D h
 refine zd q q c61 (w_spec_l20Rd__odd aO _ bp0 A0 B0 (C0.c) aR p1 ar aU aq.ctx) (by rfl) ?_
 rintro _ aV ⟨rfl, aW⟩; refine ⟨_, q, ?_⟩
 have ak := aq.cN1 [_] aW
 refine B ?_
 refine Y q (fun al => ?_) (fun al => ?_)
 ·have h := if_t al h
  refine C <| rR <| qM q q q ?_
  obtain ⟨au, aX, h⟩ := D h
  refine zd q q c60 (w_spec_l20Rd__pick aV _ bp0 A0 B0 (C0.c) ar.1 3 au aX ak.ctx) (by rfl) ?_
  rintro _ aY ⟨rfl, aZ⟩; refine ⟨_, q, ?_⟩
  have af := ak.cN1 [_] aZ
  refine A q (qt_eql q q) q q <| B ?_
  refine Y q (fun am => ?_) (fun am => ?_)
  ·have h := if_t am h
   refine C <| Z ?_
   obtain ⟨bm, a0, h⟩ := D h
   refine WL_makeH af a0 u23 j55 q (fun _ => ⟨_, _, [], [], q, q, ⟨q, q⟩, ⟨_, _, [], [], q, q, ⟨none, 0, q, Nat.le_refl _, .inl ⟨q, q⟩⟩, ⟨q, q⟩⟩⟩) q q q q q (fun a1 bn a2 => ?_)
   refine qA q q q <| B <| W fun a ha => ?_
   obtain rfl := L h
   have a3 := a2.q2.p1.p1
   exact m (m (ret1 q ha q ⟨a1, q, a3⟩))
  have h := if_f am h
  refine y <| rR <| qM q q q <| qM q q q <| qM q q q <| za af.ctx (t := ty10) hS1 u23 q q q ?_
  obtain ⟨ag, a4, h⟩ := D h
  refine zd q q c90 (w_spec_l20Item aY _ bp0 A0 B0 (C0.c) au.1 (List.length aQ : Int) 1 ag a4 af.ctx) (by rfl) ?_
  rintro _ bo ⟨bp, rfl, a5⟩; refine ⟨_, q, ?_⟩
  have a6 := af.cN2 [_] a5
  have a7 := a6.freeze
  refine zs (t := ty10) (args := [.tmp 32]) (xs := ([(ag.2.1, ag.2.2.1, ag.2.2.2)] : LI)) a7 (BltL.cons (Blt.pair (Blt.int) (Blt.pair (Blt.slice hO0) (Blt.int))) q (BltL.nil)) u23 j55 q q q q q q (fun bq br a8 => ?_)
  have a9 := a8.p3
  obtain ⟨bs, ba, h⟩ := D h
  refine zw a9 hS1 ba u23 j55 q q q q q q (fun bb bt bc => ?_)
  refine qA q q q <| B <| W fun a ha => ?_
  obtain rfl := L h
  have bd := bc.q1.q1.p1.p1
  exact m (ret1 q ha q ⟨bb, q, bd⟩)
 have h := if_f al h
 refine y <| rR <| qM q q q <| qA q q q <| B <| W fun a ha => ?_
 obtain rfl := L h
 have be := ak.p1
 exact ret1 q ha q ⟨aT, q, be⟩
theorem w_spec_l20Prices (w : World) (G : List Res) (bp0 : Nat) (A0 : Value) (B0 : List Int) (C0 : Has G (.int .u8) A0 B0) (B1 : Int) (vp1 : Value) (p1 : LI) (hp1 : Has G ty10 vp1 p1) (p2 : Int) (r : Int × (List Int)) (h : spec_l20PricesS B0 B1 p1 p2 = some r) (H : Ctx w ([.bx bp0 89 [A0, iV B1]] ++ G)) : Calls Tryz.prog 58 #[pB bp0, vp1, iV p2] w fun e w' => ∃ (v1 : Value), e = .returned (v1) ∧ Holds (([.bx bp0 89 [A0, iV B1]] : List Res).flatMap Res.own) w w' [.sl 3 tI v1 r.2, .bx bp0 89 [A0, iV r.1]] G := by
 have H : Holds (([.bx bp0 89 [A0, iV B1]] : List Res).flatMap Res.own) w w [.bx bp0 89 [A0, iV B1]] G := zb H
 refine zg (args := [pB bp0, vp1, iV p2]) (n := 44) Tryz.func58 q q q ?_
 unfold spec_l20PricesS at h
 refine rR <| qA q q q <| B <| C <| Z ?_
 refine zs (t := tI) (args := []) (xs := ([] : List Int)) H (BltL.nil) u24 j3 q q q q q q (fun v1 w2 H3 => ?_)
 refine qA q q q <| B <| C <| rR <| qA q q q <| B <| g ?_
 obtain ⟨o8, az, h⟩ := D h
 have aA := H3.p1
 refine fun aB am => zp (I := fun s a w2 => match s with | (s5, s6, s7) => ∃ af, Fr a 44 [(0, pB bp0), (1, vp1), (2, iV p2), (7, af), (8, iV s6)] ∧ Holds (([.bx bp0 89 [A0, iV B1]] : List Res).flatMap Res.own) w w2 [.bx bp0 89 [A0, iV s7], .sl 3 tI af s5] G) (O := fun o e a w2 => match o with | (q0, q1) => e = .exit 0 ∧ ∃ an, Fr a 44 [(0, pB bp0), (2, iV p2), (7, an)] ∧ Holds (([.bx bp0 89 [A0, iV B1]] : List Res).flatMap Res.own) w w2 [.bx bp0 89 [A0, iV q1], .sl 3 tI an q0] G) az ?_ ?_ ?_
 ·exact ⟨v1, am.sub ⟨q, q, q, q, q, trivial⟩, aA⟩
 ·clear am
  intro s bn a aC ab aD
  obtain ⟨s5, s6, s7⟩ := s
  obtain ⟨af, ha, ag⟩ := aD
  refine S ?_ ha
  clear ha
  refine C <| rR <| qM q q q <| qM q q q <| za ag.ctx (t := ty10) (hp1.c.c) u23 q q q <| A q (qt_lss q q) q q <| B ?_
  refine Y q (fun aj => ?_) (fun aj => ?_)
  ·have ab := if_t aj ab
   refine y <| C <| g <| Z <| qM q q q <| qM q q q ?_
   obtain ⟨ao, aE, ab⟩ := D ab
   refine zd q q c60 (w_spec_l20Rd__pick aC _ bp0 A0 B0 (C0.c) s7 21 ao aE ag.ctx) (by rfl) ?_
   rintro _ bo ⟨rfl, aF⟩; refine ⟨_, q, ?_⟩
   have aG := ag.cN1 [_] aF
   refine zs (t := tI) (args := [.tmp 18]) (xs := ([ao.2] : List Int)) aG (BltL.cons (Blt.int) q (BltL.nil)) u24 j3 q q q q q q (fun bp bq aH => ?_)
   have aI := aH.p2
   obtain ⟨br, aJ, ab⟩ := D ab
   refine zw aI hS1 aJ u24 j3 q q q q q q (fun aK bs aL => ?_)
   refine qA q q q <| WL_nil fun a ha => ?_
   refine zi (X (S ?_ ha))
   refine Z <| qM q q q <| A q (qt_add q q) q q <| qA q q q <| WL_nil fun a ha => ?_
   obtain rfl := L ab
   have aM := aL.q1.p1
   exact ⟨q, aK, ha.sub ⟨q, q, q, q, q, trivial⟩, aM⟩
  have ab := if_f aj ab
  refine WP_exit fun a ha => ?_
  obtain rfl := L ab
  have aN := ag.p1.p1
  exact zo (⟨exit_ne, q, af, ha.sub ⟨q, q, q, trivial⟩, aN⟩)
 intro e aB aO aP
 obtain ⟨ap, aQ⟩ := o8
 obtain ⟨rfl, aR⟩ := aP
 obtain ⟨ah, ha, aq⟩ := aR
 refine zn (X (S ?_ ha))
 refine C <| rR <| qM q q q <| qM q q q ?_
 obtain ⟨ar, aS, h⟩ := D h
 refine zd q q c61 (w_spec_l20Rd__odd aO _ bp0 A0 B0 (C0.c) aQ p2 ar aS aq.ctx) (by rfl) ?_
 rintro _ aT ⟨rfl, aU⟩; refine ⟨_, q, ?_⟩
 have ae := aq.cN1 [_] aU
 refine B ?_
 refine Y q (fun ak => ?_) (fun ak => ?_)
 ·have h := if_t ak h
  refine C <| rR <| qM q q q <| za ae.ctx (t := tI) hS1 u24 q q q <| A q (qt_gtr q q) q q <| qM q q q ?_
  obtain ⟨aV, ad, h⟩ := D h
  obtain ⟨au, aW⟩ := aV
  refine WL_cutM 4 (fun a w2 => (Fr a 44 [(0, pB bp0), (7, ah), (31, .bool aW)] ∧ Holds (([.bx bp0 89 [A0, iV B1]] : List Res).flatMap Res.own) w w2 [.bx bp0 89 [A0, iV au], .sl 3 tI ah ap] G)) ?_ ?_
  ·rcases btf (decide ((List.length ap : Int) > 0)) with aa | aa
   ·have ad := if_t aa ad
    refine qM (J q aa) q q ?_
    obtain ⟨aX, aY, ad⟩ := D ad
    refine zd (J q aa) q c60 (w_spec_l20Rd__pick aT _ bp0 A0 B0 (C0.c) ar.1 2 aX aY ae.ctx) (by rfl) ?_
    rintro _ bt ⟨rfl, aZ⟩; refine ⟨_, q, ?_⟩
    have a0 := ae.cN1 [_] aZ
    refine A (J q aa) (qt_eql q q) q q <| A q (ze q aa q) q q <| WL_nil fun a ha => ?_
    obtain ⟨rfl, rfl⟩ := L ad |> Prod.mk.inj
    have a1 := a0.p1.p1
    exact X ⟨ha.sub ⟨q, q, q, trivial⟩, a1⟩
   have ad := if_f aa ad
   refine qS q aa q q <| qS q aa q q <| qS q aa q q <| A q (zf q aa q) q q <| WL_nil fun a ha => ?_
   obtain ⟨rfl, rfl⟩ := L ad |> Prod.mk.inj
   have a2 := ae.p1.p1
   exact X ⟨ha.sub ⟨q, q, q, trivial⟩, a2⟩
  intro a bu a3
  obtain ⟨ha, av⟩ := a3
  refine SL_app ?_ ha
  clear ha
  refine B ?_
  refine Y q (fun al => ?_) (fun al => ?_)
  ·have h := if_t al h
   refine rR <| qM q q q ?_
   refine zs (t := tI) (args := [.const (iV (-1)), .const (iV 21)]) (xs := ([(-1), 21] : List Int)) av (BltL.cons (Blt.int) q (BltL.cons (Blt.int) q (BltL.nil))) u24 j3 q q q q q q (fun bv a4 a5 => ?_)
   refine qM q q q ?_
   have aw := a5.p1
   obtain ⟨a6, a7, h⟩ := D h
   refine zd q q c60 (w_spec_l20Rd__pick a4 _ bp0 A0 B0 (C0.c.c) au 2 a6 a7 aw.ctx) (by rfl) ?_
   rintro _ bw ⟨rfl, a8⟩; refine ⟨_, q, ?_⟩
   have ai := aw.cN1 [_] a8
   obtain ⟨a9, ax, h⟩ := D h
   refine b ai.ctx hS1 ax u24 i3 q q q q (fun bz bA bB ba => ?_)
   obtain ⟨bC, bb, bD⟩ := ai.at hS1 ax ba
   refine zt (k := .i64) u3 q bb q q q ?_
   obtain ⟨bE, ay, h⟩ := D h
   refine b ai.ctx hS2 ay u24 i3 q q q q (fun bF bG bH bc => ?_)
   have bd := ai.p2
   refine WL_storeH (fo := 0) (cs' := [iV a9]) bd ay bc (Upd.whole (Blt.int)) q il3 q q q q (fun bI be => ?_)
   refine rN <| qM q q q <| qA q q q <| B <| W fun a ha => ?_
   obtain rfl := L h
   have bf := be.q2.p1.p1
   exact m (m (ret1 q ha q ⟨ah, q, bf⟩))
  have h := if_f al h
  refine y <| rR <| qM q q q ?_
  refine zs (t := tI) (args := [.const (iV 1)]) (xs := ([1] : List Int)) av (BltL.cons (Blt.int) q (BltL.nil)) u24 j3 q q q q q q (fun bJ bK bg => ?_)
  have bh := bg.p2
  obtain ⟨bL, bi, h⟩ := D h
  refine zw bh hS1 bi u24 j3 q q q q q q (fun bj bM bk => ?_)
  refine qA q q q <| B <| W fun a ha => ?_
  obtain rfl := L h
  have bl := bk.q1.p1.p1
  exact m (ret1 q ha q ⟨bj, q, bl⟩)
 have h := if_f ak h
 refine y <| rR <| qM q q q <| qA q q q <| B <| W fun a ha => ?_
 obtain rfl := L h
 have bm := ae.p1
 exact ret1 q ha q ⟨ah, q, bm⟩
theorem w_spec_l20Amounts (w : World) (G : List Res) (bp0 : Nat) (A0 : Value) (B0 : List Int) (C0 : Has G (.int .u8) A0 B0) (B1 : Int) (vp1 : Value) (p1 : LI) (hp1 : Has G ty10 vp1 p1) (p2 : Int) (r : Int × (List Int)) (h : spec_l20AmountsS B0 B1 p1 p2 = some r) (H : Ctx w ([.bx bp0 89 [A0, iV B1]] ++ G)) : Calls Tryz.prog 59 #[pB bp0, vp1, iV p2] w fun e w' => ∃ (v1 : Value), e = .returned (v1) ∧ Holds (([.bx bp0 89 [A0, iV B1]] : List Res).flatMap Res.own) w w' [.sl 3 tI v1 r.2, .bx bp0 89 [A0, iV r.1]] G := by
 have H : Holds (([.bx bp0 89 [A0, iV B1]] : List Res).flatMap Res.own) w w [.bx bp0 89 [A0, iV B1]] G := zb H
 refine zg (args := [pB bp0, vp1, iV p2]) (n := 47) Tryz.func59 q q q ?_
 unfold spec_l20AmountsS at h
 refine rR <| qA q q q <| B <| C <| Z ?_
 refine zs (t := tI) (args := []) (xs := ([] : List Int)) H (BltL.nil) u24 j3 q q q q q q (fun v1 w2 H3 => ?_)
 refine qA q q q <| B <| C <| rR <| qA q q q <| B <| g ?_
 obtain ⟨o8, aB, h⟩ := D h
 have aC := H3.p1
 refine fun aD an => zp (I := fun s a w2 => match s with | (s5, s6, s7) => ∃ af, Fr a 47 [(0, pB bp0), (1, vp1), (2, iV p2), (7, af), (8, iV s6)] ∧ Holds (([.bx bp0 89 [A0, iV B1]] : List Res).flatMap Res.own) w w2 [.bx bp0 89 [A0, iV s7], .sl 3 tI af s5] G) (O := fun o e a w2 => match o with | (q0, q1) => e = .exit 0 ∧ ∃ ao, Fr a 47 [(0, pB bp0), (2, iV p2), (7, ao)] ∧ Holds (([.bx bp0 89 [A0, iV B1]] : List Res).flatMap Res.own) w w2 [.bx bp0 89 [A0, iV q1], .sl 3 tI ao q0] G) aB ?_ ?_ ?_
 ·exact ⟨v1, an.sub ⟨q, q, q, q, q, trivial⟩, aC⟩
 ·clear an
  intro s bs a aE aa aF
  obtain ⟨s5, s6, s7⟩ := s
  obtain ⟨af, ha, ag⟩ := aF
  refine S ?_ ha
  clear ha
  refine C <| rR <| qM q q q <| qM q q q <| za ag.ctx (t := ty10) (hp1.c.c) u23 q q q <| A q (qt_lss q q) q q <| B ?_
  refine Y q (fun aj => ?_) (fun aj => ?_)
  ·have aa := if_t aj aa
   refine y <| C <| g <| Z <| qM q q q <| qM q q q ?_
   obtain ⟨ak, aG, aa⟩ := D aa
   refine zd q q c60 (w_spec_l20Rd__pick aE _ bp0 A0 B0 (C0.c) s7 12 ak aG ag.ctx) (by rfl) ?_
   rintro _ aH ⟨rfl, aI⟩; refine ⟨_, q, ?_⟩
   have ap := ag.cN1 [_] aI
   refine qM q q q ?_
   obtain ⟨aq, aJ, aa⟩ := D aa
   refine zd q q c60 (w_spec_l20Rd__pick aH _ bp0 A0 B0 (C0.c) ak.1 3 aq aJ ap.ctx) (by rfl) ?_
   rintro _ bt ⟨rfl, aK⟩; refine ⟨_, q, ?_⟩
   have aL := ap.cN1 [_] aK
   refine A q (qt_mul q q) q q ?_
   refine zs (t := tI) (args := [.tmp 21]) (xs := ([IntKind.wrap .i64 (ak.2 * aq.2)] : List Int)) aL (BltL.cons (Blt.int) q (BltL.nil)) u24 j3 q q q q q q (fun bu bv aM => ?_)
   have aN := aM.p2
   obtain ⟨bw, aO, aa⟩ := D aa
   refine zw aN hS1 aO u24 j3 q q q q q q (fun aP bz aQ => ?_)
   refine qA q q q <| WL_nil fun a ha => ?_
   refine zi (X (S ?_ ha))
   refine Z <| qM q q q <| A q (qt_add q q) q q <| qA q q q <| WL_nil fun a ha => ?_
   obtain rfl := L aa
   have aR := aQ.q1.p1
   exact ⟨q, aP, ha.sub ⟨q, q, q, q, q, trivial⟩, aR⟩
  have aa := if_f aj aa
  refine WP_exit fun a ha => ?_
  obtain rfl := L aa
  have aS := ag.p1.p1
  exact zo (⟨exit_ne, q, af, ha.sub ⟨q, q, q, trivial⟩, aS⟩)
 intro e aD aT aU
 obtain ⟨ar, aV⟩ := o8
 obtain ⟨rfl, aW⟩ := aU
 obtain ⟨ah, ha, au⟩ := aW
 refine zn (X (S ?_ ha))
 refine C <| rR <| qM q q q <| qM q q q ?_
 obtain ⟨av, aX, h⟩ := D h
 refine zd q q c61 (w_spec_l20Rd__odd aT _ bp0 A0 B0 (C0.c) aV p2 av aX au.ctx) (by rfl) ?_
 rintro _ aY ⟨rfl, aZ⟩; refine ⟨_, q, ?_⟩
 have ae := au.cN1 [_] aZ
 refine B ?_
 refine Y q (fun al => ?_) (fun al => ?_)
 ·have h := if_t al h
  refine C <| rR <| qM q q q <| za ae.ctx (t := tI) hS1 u24 q q q <| A q (qt_gtr q q) q q <| qM q q q ?_
  obtain ⟨a0, ad, h⟩ := D h
  obtain ⟨aw, a1⟩ := a0
  refine WL_cutM 4 (fun a w2 => (Fr a 47 [(0, pB bp0), (7, ah), (34, .bool a1)] ∧ Holds (([.bx bp0 89 [A0, iV B1]] : List Res).flatMap Res.own) w w2 [.bx bp0 89 [A0, iV aw], .sl 3 tI ah ar] G)) ?_ ?_
  ·rcases btf (decide ((List.length ar : Int) > 0)) with ab | ab
   ·have ad := if_t ab ad
    refine qM (J q ab) q q ?_
    obtain ⟨a2, a3, ad⟩ := D ad
    refine zd (J q ab) q c60 (w_spec_l20Rd__pick aY _ bp0 A0 B0 (C0.c) av.1 2 a2 a3 ae.ctx) (by rfl) ?_
    rintro _ bA ⟨rfl, a4⟩; refine ⟨_, q, ?_⟩
    have a5 := ae.cN1 [_] a4
    refine A (J q ab) (qt_eql q q) q q <| A q (ze q ab q) q q <| WL_nil fun a ha => ?_
    obtain ⟨rfl, rfl⟩ := L ad |> Prod.mk.inj
    have a6 := a5.p1.p1
    exact X ⟨ha.sub ⟨q, q, q, trivial⟩, a6⟩
   have ad := if_f ab ad
   refine qS q ab q q <| qS q ab q q <| qS q ab q q <| A q (zf q ab q) q q <| WL_nil fun a ha => ?_
   obtain ⟨rfl, rfl⟩ := L ad |> Prod.mk.inj
   have a7 := ae.p1.p1
   exact X ⟨ha.sub ⟨q, q, q, trivial⟩, a7⟩
  intro a bB a8
  obtain ⟨ha, ax⟩ := a8
  refine SL_app ?_ ha
  clear ha
  refine B ?_
  refine Y q (fun am => ?_) (fun am => ?_)
  ·have h := if_t am h
   refine rR <| qM q q q ?_
   refine zs (t := tI) (args := [.const (iV (-1)), .const (iV 51)]) (xs := ([(-1), 51] : List Int)) ax (BltL.cons (Blt.int) q (BltL.cons (Blt.int) q (BltL.nil))) u24 j3 q q q q q q (fun bC a9 ba => ?_)
   refine qM q q q ?_
   have ay := ba.p1
   obtain ⟨bb, bc, h⟩ := D h
   refine zd q q c60 (w_spec_l20Rd__pick a9 _ bp0 A0 B0 (C0.c.c) aw 2 bb bc ay.ctx) (by rfl) ?_
   rintro _ bD ⟨rfl, bd⟩; refine ⟨_, q, ?_⟩
   have ai := ay.cN1 [_] bd
   obtain ⟨be, az, h⟩ := D h
   refine b ai.ctx hS1 az u24 i3 q q q q (fun bE bF bG bf => ?_)
   obtain ⟨bH, bg, bI⟩ := ai.at hS1 az bf
   refine zt (k := .i64) u3 q bg q q q ?_
   obtain ⟨bJ, aA, h⟩ := D h
   refine b ai.ctx hS2 aA u24 i3 q q q q (fun bK bL bM bh => ?_)
   have bi := ai.p2
   refine WL_storeH (fo := 0) (cs' := [iV be]) bi aA bh (Upd.whole (Blt.int)) q il3 q q q q (fun bN bj => ?_)
   refine rN <| qM q q q <| qA q q q <| B <| W fun a ha => ?_
   obtain rfl := L h
   have bk := bj.q2.p1.p1
   exact m (m (ret1 q ha q ⟨ah, q, bk⟩))
  have h := if_f am h
  refine y <| rR <| qM q q q ?_
  refine zs (t := tI) (args := [.const (iV 1)]) (xs := ([1] : List Int)) ax (BltL.cons (Blt.int) q (BltL.nil)) u24 j3 q q q q q q (fun bO bP bl => ?_)
  have bm := bl.p2
  obtain ⟨bQ, bn, h⟩ := D h
  refine zw bm hS1 bn u24 j3 q q q q q q (fun bo bR bp => ?_)
  refine qA q q q <| B <| W fun a ha => ?_
  obtain rfl := L h
  have bq := bp.q1.p1.p1
  exact m (ret1 q ha q ⟨bo, q, bq⟩)
 have h := if_f al h
 refine y <| rR <| qM q q q <| qA q q q <| B <| W fun a ha => ?_
 obtain rfl := L h
 have br := ae.p1
 exact ret1 q ha q ⟨ah, q, br⟩
theorem w_spec_l20HouseDeed (w : World) (G : List Res) (bp0 : Nat) (A0 : Value) (B0 : List Int) (C0 : Has G (.int .u8) A0 B0) (B1 : Int) (A1_0 : Value) (p1_0 : LI) (hp1_0 : Has G ty10 A1_0 p1_0) (A1_1 : Value) (p1_1 : List Int) (hp1_1 : Has G tI A1_1 p1_1) (A1_2 : Value) (p1_2 : List Int) (hp1_2 : Has G tI A1_2 p1_2) (p1_3 : Int) (A1_4 : Value) (p1_4 : LT) (hp1_4 : Has G ty12 A1_4 p1_4) (r : Int × (Int × Int × Int × Int)) (h : spec_l20HouseDeedS B0 B1 p1_0 p1_1 p1_2 p1_3 p1_4 = some r) (H : Ctx w ([.bx bp0 89 [A0, iV B1]] ++ G)) : Calls Tryz.prog 25 #[pB bp0, .agg #[A1_0, A1_1, A1_2, iV p1_3, A1_4]] w fun e w' => e = .returned (.agg #[iV r.2.1, iV r.2.2.1, iV r.2.2.2.1, iV r.2.2.2.2]) ∧ Holds (([.bx bp0 89 [A0, iV B1]] : List Res).flatMap Res.own) w w' [.bx bp0 89 [A0, iV r.1]] G := by
 have H : Holds (([.bx bp0 89 [A0, iV B1]] : List Res).flatMap Res.own) w w [.bx bp0 89 [A0, iV B1]] G := zb H
 refine zg (args := [pB bp0, .agg #[A1_0, A1_1, A1_2, iV p1_3, A1_4]]) (n := 87) Tryz.func25 q q q ?_
 unfold spec_l20HouseDeedS at h
 refine C <| Z ?_
 refine WL_box (cs := [A1_0, A1_1, A1_2, iV p1_3, A1_4]) H q q q q (fun b1 w2 H3 => ?_)
 refine zq (cs := [iV 0, iV 0, iV 0, iV 0]) H3 z29 q q q (fun b5 w6 H7 => ?_)
 refine B <| C ?_
 obtain ⟨ah, ax, h⟩ := D h
 obtain ⟨af, ai, h⟩ := D h
 obtain ⟨ab, an, h⟩ := D h
 obtain ⟨ad, ao, h⟩ := D h
 refine WP_join (M := fun a w2 => ∃ ag, Fr a 87 [(0, pB bp0), (3, pB b1), (4, pB b5), (5, pB ag)] ∧ Holds (([.bx bp0 89 [A0, iV B1]] : List Res).flatMap Res.own) w w2 [.bx bp0 89 [A0, iV ad.1], .bx b1 27 [A1_0, A1_1, A1_2, iV p1_3, A1_4], .bx b5 29 [iV 0, iV 0, iV 0, iV 0], .bx ag 29 [iV (IntKind.wrap .i64 (af + (IntKind.wrap .i64 ((IntKind.wrap .i64 (Int.tdiv ab.2 59)) * 6)))), iV ad.2, iV 0, iV 0]] G) ?_ ?_
 ·refine WP_ordersT (fun w1 w2 => Chg (([.bx bp0 89 [A0, iV B1]] : List Res).flatMap Res.own) w1 w2) 18 (by kernel_rfl) (fun ay a3 => ?_)
  have a4 := H7.grow a3
  have av := a4.p2
  have aJ : Ctx ay ([.bx bp0 89 [A0, iV B1]] ++ ([.bx b5 29 [iV 0, iV 0, iV 0, iV 0], .bx b1 27 [A1_0, A1_1, A1_2, iV p1_3, A1_4]] ++ G)) := av.ctx
  have a5 : Holds _ ay ay [.bx bp0 89 [A0, iV B1]] ([.bx b5 29 [iV 0, iV 0, iV 0, iV 0], .bx b1 27 [A1_0, A1_1, A1_2, iV p1_3, A1_4]] ++ G) := zb (Rs := [.bx bp0 89 [A0, iV B1]]) aJ
  have Hc := a5
  repeat' first
   | refine XDo 0 q ?_; refine zs (t := tI) (args := [.const (iV 0), .const (iV 0), .const (iV 1), .const (iV 1), .const (iV 2), .const (iV 3), .const (iV 3), .const (iV 3), .const (iV 4), .const (iV 4), .const (iV 4), .const (iV 5)]) (xs := ([0, 0, 1, 1, 2, 3, 3, 3, 4, 4, 4, 5] : List Int)) Hc (BltL.cons (Blt.int) q (BltL.cons (Blt.int) q (BltL.cons (Blt.int) q (BltL.cons (Blt.int) q (BltL.cons (Blt.int) q (BltL.cons (Blt.int) q (BltL.cons (Blt.int) q (BltL.cons (Blt.int) q (BltL.cons (Blt.int) q (BltL.cons (Blt.int) q (BltL.cons (Blt.int) q (BltL.cons (Blt.int) q (BltL.nil))))))))))))) u24 j3 q q q q q q (fun cu _ Hc => ?_); refine XN Hc.chg ?_
   | refine XDo 2 q ?_; have Hc := Hc.p1; refine zd q q c60 (w_spec_l20Rd__pick _ _ bp0 A0 B0 (C0.c.c.c) B1 12 ah ax Hc.ctx) (by rfl) ?_; rintro _ _ ⟨rfl, HK⟩; refine ⟨_, q, ?_⟩; have Hc := Hc.cN1 [_] HK; refine XN Hc.chg ?_
   | refine XDo 2 q ?_; have Hc := Hc.p2; refine zd q q c60 (w_spec_l20Rd__pick _ _ bp0 A0 B0 (C0.c.c.c.c) B1 12 ah ax Hc.ctx) (by rfl) ?_; rintro _ _ ⟨rfl, HK⟩; refine ⟨_, q, ?_⟩; have Hc := Hc.cN1 [_] HK; refine XN Hc.chg ?_
   | refine XDo 2 q <| zd q q c60 (w_spec_l20Rd__pick _ _ bp0 A0 B0 (C0.c.c) B1 12 ah ax Hc.ctx) (by rfl) ?_; rintro _ _ ⟨rfl, HK⟩; refine ⟨_, q, ?_⟩; have Hc := Hc.cN1 [_] HK; refine XN Hc.chg ?_
   | refine XDo 4 q ?_; obtain ⟨aK, aq, aL⟩ := Hc.at hS1 ai al; refine zt (k := .i64) u3 q aq q q q <| XN Hc.chg ?_
   | refine XDo 4 q ?_; obtain ⟨aK, aq, aL⟩ := Hc.at hS2 ai al; refine zt (k := .i64) u3 q aq q q q <| XN Hc.chg ?_
   | refine XDo 4 q ?_; obtain ⟨aK, aq, aL⟩ := Hc.at hS0 ai al; refine zt (k := .i64) u3 q aq q q q <| XN Hc.chg ?_
   | refine XDo 6 q <| zd q q c60 (w_spec_l20Rd__pick _ _ bp0 A0 B0 (C0.c.c.c) ah.1 60 ab an Hc.ctx) (by rfl) ?_; rintro _ _ ⟨rfl, HK⟩; refine ⟨_, q, ?_⟩; have Hc := Hc.cN1 [_] HK; refine XN Hc.chg ?_
   | refine XDo 6 q ?_; have Hc := Hc.p1; refine zd q q c60 (w_spec_l20Rd__pick _ _ bp0 A0 B0 (C0.c.c.c.c) ah.1 60 ab an Hc.ctx) (by rfl) ?_; rintro _ _ ⟨rfl, HK⟩; refine ⟨_, q, ?_⟩; have Hc := Hc.cN1 [_] HK; refine XN Hc.chg ?_
   | refine XDo 6 q <| zd q q c60 (w_spec_l20Rd__pick _ _ bp0 A0 B0 (C0.c.c.c.c) ah.1 60 ab an Hc.ctx) (by rfl) ?_; rintro _ _ ⟨rfl, HK⟩; refine ⟨_, q, ?_⟩; have Hc := Hc.cN1 [_] HK; refine XN Hc.chg ?_
   | refine XDo 6 q ?_; have Hc := Hc.p1; refine zd q q c60 (w_spec_l20Rd__pick _ _ bp0 A0 B0 (C0.c.c.c) ah.1 60 ab an Hc.ctx) (by rfl) ?_; rintro _ _ ⟨rfl, HK⟩; refine ⟨_, q, ?_⟩; have Hc := Hc.cN1 [_] HK; refine XN Hc.chg ?_
   | refine XDo 6 q ?_; have Hc := Hc.p2; refine zd q q c60 (w_spec_l20Rd__pick _ _ bp0 A0 B0 (C0.c.c.c.c) ah.1 60 ab an Hc.ctx) (by rfl) ?_; rintro _ _ ⟨rfl, HK⟩; refine ⟨_, q, ?_⟩; have Hc := Hc.cN1 [_] HK; refine XN Hc.chg ?_
   | refine XDo 6 q <| zd q q c60 (w_spec_l20Rd__pick _ _ bp0 A0 B0 (C0.c.c) ah.1 60 ab an Hc.ctx) (by rfl) ?_; rintro _ _ ⟨rfl, HK⟩; refine ⟨_, q, ?_⟩; have Hc := Hc.cN1 [_] HK; refine XN Hc.chg ?_
   | refine XDo 15 q <| zd q q c60 (w_spec_l20Rd__pick _ _ bp0 A0 B0 (C0.c.c.c) ab.1 (if 1 > (List.length p1_0 : Int) then 1 else (List.length p1_0 : Int)) ad ao Hc.ctx) (by rfl) ?_; rintro _ _ ⟨rfl, HK⟩; refine ⟨_, q, ?_⟩; have Hc := Hc.cN1 [_] HK; refine XN Hc.chg ?_
   | refine XDo 15 q ?_; have Hc := Hc.p1; refine zd q q c60 (w_spec_l20Rd__pick _ _ bp0 A0 B0 (C0.c.c.c.c) ab.1 (if 1 > (List.length p1_0 : Int) then 1 else (List.length p1_0 : Int)) ad ao Hc.ctx) (by rfl) ?_; rintro _ _ ⟨rfl, HK⟩; refine ⟨_, q, ?_⟩; have Hc := Hc.cN1 [_] HK; refine XN Hc.chg ?_
   | refine XDo 15 q <| zd q q c60 (w_spec_l20Rd__pick _ _ bp0 A0 B0 (C0.c.c.c.c) ab.1 (if 1 > (List.length p1_0 : Int) then 1 else (List.length p1_0 : Int)) ad ao Hc.ctx) (by rfl) ?_; rintro _ _ ⟨rfl, HK⟩; refine ⟨_, q, ?_⟩; have Hc := Hc.cN1 [_] HK; refine XN Hc.chg ?_
   | refine XDo 15 q ?_; have Hc := Hc.p1; refine zd q q c60 (w_spec_l20Rd__pick _ _ bp0 A0 B0 (C0.c.c.c) ab.1 (if 1 > (List.length p1_0 : Int) then 1 else (List.length p1_0 : Int)) ad ao Hc.ctx) (by rfl) ?_; rintro _ _ ⟨rfl, HK⟩; refine ⟨_, q, ?_⟩; have Hc := Hc.cN1 [_] HK; refine XN Hc.chg ?_
   | refine XDo 15 q ?_; have Hc := Hc.p2; refine zd q q c60 (w_spec_l20Rd__pick _ _ bp0 A0 B0 (C0.c.c.c.c) ab.1 (if 1 > (List.length p1_0 : Int) then 1 else (List.length p1_0 : Int)) ad ao Hc.ctx) (by rfl) ?_; rintro _ _ ⟨rfl, HK⟩; refine ⟨_, q, ?_⟩; have Hc := Hc.cN1 [_] HK; refine XN Hc.chg ?_
   | refine XDo 15 q <| zd q q c60 (w_spec_l20Rd__pick _ _ bp0 A0 B0 (C0.c.c) ab.1 (if 1 > (List.length p1_0 : Int) then 1 else (List.length p1_0 : Int)) ad ao Hc.ctx) (by rfl) ?_; rintro _ _ ⟨rfl, HK⟩; refine ⟨_, q, ?_⟩; have Hc := Hc.cN1 [_] HK; refine XN Hc.chg ?_
   | refine XDo 17 q ?_; refine zq (cs := [iV 0, iV 0, iV 0, iV 0]) Hc z29 q q q (fun aM _ Hc => ?_); refine XN Hc.chg ?_
   | have Hc := av.cN3 [_] Hc; refine XDo 18 q ?_; refine zl (cs' := [iV (IntKind.wrap .i64 (af + (IntKind.wrap .i64 ((IntKind.wrap .i64 (Int.tdiv ab.2 59)) * 6)))), iV ad.2, iV 0, iV 0]) Hc q il29 q q q q q (fun _ Hc => ?_); refine XE q ?_
   | have Hc := av.cN3 [_] Hc; refine XDo 18 q ?_; have Hc := Hc.p1; refine zl (cs' := [iV (IntKind.wrap .i64 (af + (IntKind.wrap .i64 ((IntKind.wrap .i64 (Int.tdiv ab.2 59)) * 6)))), iV ad.2, iV 0, iV 0]) Hc q il29 q q q q q (fun _ Hc => ?_); refine XE q ?_
   | have Hc := av.cN3 [_] Hc; refine XDo 18 q ?_; have Hc := Hc.p2; refine zl (cs' := [iV (IntKind.wrap .i64 (af + (IntKind.wrap .i64 ((IntKind.wrap .i64 (Int.tdiv ab.2 59)) * 6)))), iV ad.2, iV 0, iV 0]) Hc q il29 q q q q q (fun _ Hc => ?_); refine XE q ?_
   | refine XQ (i := 1) q (by decide +kernel) q Hc.chg q (fun _ => qt_move q) q q ?_
   | obtain ⟨aN, aO, aP, al⟩ := Ctx.isAt Hc.ctx hS1 ai; refine XT (i := 3) q (by decide +kernel) q Hc.chg q (qs_index ai al u24 i3 q q) q q ?_
   | obtain ⟨aN, aO, aP, al⟩ := Ctx.isAt Hc.ctx hS2 ai; refine XT (i := 3) q (by decide +kernel) q Hc.chg q (qs_index ai al u24 i3 q q) q q ?_
   | obtain ⟨aN, aO, aP, al⟩ := Ctx.isAt Hc.ctx hS0 ai; refine XT (i := 3) q (by decide +kernel) q Hc.chg q (qs_index ai al u24 i3 q q) q q ?_
   | refine XQ (i := 5) q (by decide +kernel) q Hc.chg q (fun _ => qt_move q) q q ?_
   | refine XQ (i := 7) q (by decide +kernel) q Hc.chg q (fun _ => qt_quo q q (by decide)) q q ?_
   | refine XQ (i := 8) q (by decide +kernel) q Hc.chg q (fun _ => qt_mul q q) q q ?_
   | refine XQ (i := 9) q (by decide +kernel) q Hc.chg q (fun _ => qt_add q q) q q ?_
   | refine XQ (i := 10) q (by decide +kernel) q Hc.chg q (fun _ => qt_move q) q q ?_
   | refine XQ (i := 11) q (by decide +kernel) q Hc.chg q (fun _ => qt_fieldAddr uf27 fi27_0 nz23 q) q q ?_
   | have a6 := HasB.bx (HasB.c (HasB.c (HasB.hd))) Hc.ctx; refine XT (i := 12) q (by decide +kernel) q Hc.chg q (qs_cell u23 q q (a6.cell (i := 0) q) Hc.chg (Ctx.outB aJ (HasB.c (HasB.hd)))) q q ?_
   | refine XT (i := 13) q (by decide +kernel) q Hc.chg q (qs_len (t := ty10) Hc.ctx (hp1_0.c.c.c) u23 q) q q ?_
   | refine XQ (i := 14) q (by decide +kernel) q Hc.chg q (fun _ => qt_max q q) q q ?_
   | refine XQ (i := 16) q (by decide +kernel) q Hc.chg q (fun _ => qt_build (args := [(0, .tmp 15), (1, .tmp 21)]) (css := [#[iV (IntKind.wrap .i64 (af + (IntKind.wrap .i64 ((IntKind.wrap .i64 (Int.tdiv ab.2 59)) * 6))))], #[iV ad.2]]) (cells := #[iV (IntKind.wrap .i64 (af + (IntKind.wrap .i64 ((IntKind.wrap .i64 (Int.tdiv ab.2 59)) * 6)))), iV ad.2, iV 0, iV 0]) q ⟨q, q, trivial⟩ (by kernel_rfl)) q q ?_
   | refine XV [0, 2, 17] (by decide +kernel) q (allc ?_ (allc ?_ (allc ?_ alln)))
   | refine XV [2, 17] (by decide +kernel) q (allc ?_ (allc ?_ alln))
   | refine XV [4, 6, 17] (by decide +kernel) q (allc ?_ (allc ?_ (allc ?_ alln)))
   | refine XV [6, 17] (by decide +kernel) q (allc ?_ (allc ?_ alln))
   | refine XV [15, 17] (by decide +kernel) q (allc ?_ (allc ?_ alln))
   | refine XV [17] (by decide +kernel) q (allc ?_ alln)
   | refine XV [18] (by decide +kernel) q (allc ?_ alln)
   | refine XV [15] (by decide +kernel) q (allc ?_ alln)
   | refine XV [6] (by decide +kernel) q (allc ?_ alln)
   | refine XV [4, 15, 17] (by decide +kernel) q (allc ?_ (allc ?_ (allc ?_ alln)))
   | refine XV [4, 17] (by decide +kernel) q (allc ?_ (allc ?_ alln))
   | refine XV [4] (by decide +kernel) q (allc ?_ alln)
   | refine XV [4, 15] (by decide +kernel) q (allc ?_ (allc ?_ alln))
   | refine XV [4, 6] (by decide +kernel) q (allc ?_ (allc ?_ alln))
   | refine XV [2] (by decide +kernel) q (allc ?_ alln)
   | refine XV [0, 6, 17] (by decide +kernel) q (allc ?_ (allc ?_ (allc ?_ alln)))
   | refine XV [0, 15, 17] (by decide +kernel) q (allc ?_ (allc ?_ (allc ?_ alln)))
   | refine XV [0, 17] (by decide +kernel) q (allc ?_ (allc ?_ alln))
   | refine XV [0] (by decide +kernel) q (allc ?_ alln)
   | refine XV [0, 15] (by decide +kernel) q (allc ?_ (allc ?_ alln))
   | refine XV [0, 6] (by decide +kernel) q (allc ?_ (allc ?_ alln))
   | refine XV [0, 2] (by decide +kernel) q (allc ?_ (allc ?_ alln))
   | refine XC_done (by decide +kernel) (fun a ha => ?_); have Hc := ((((Hc.q2).p2).p3).p3); exact ⟨aM, ha.sub ⟨q, q, q, q, trivial⟩, Hc⟩
   | refine XC_done (by decide +kernel) (fun a ha => ?_); have Hc := ((((Hc.q1).p2).p3).p3); exact ⟨aM, ha.sub ⟨q, q, q, q, trivial⟩, Hc⟩
 intro a ar a7
 obtain ⟨ag, ha, ae⟩ := a7
 refine S ?_ ha
 clear ha
 refine C <| rR <| qF uf29 fi29_0 nz3 q q q ?_
 have a8 := R ae.p3
 refine l u3 q a8 q q q q <| B ?_
 obtain ⟨a9, aa, h⟩ := D h
 obtain ⟨aQ, aj, aw, ak⟩ := a9
 refine WP_join (M := fun a w2 => (Fr a 87 [(0, pB bp0), (4, pB b5), (5, pB ag)] ∧ Holds (([.bx bp0 89 [A0, iV B1]] : List Res).flatMap Res.own) w w2 [.bx bp0 89 [A0, iV aQ], .bx b5 29 [iV 0, iV 0, iV 0, iV 0], .bx ag 29 [iV (IntKind.wrap .i64 (af + (IntKind.wrap .i64 ((IntKind.wrap .i64 (Int.tdiv ab.2 59)) * 6)))), iV aj, iV aw, iV ak]] G)) ?_ ?_
 ·refine g ?_
  refine rR <| A q (qt_eql q q) q q <| qA q q q <| B ?_
  refine Y q (fun az => ?_) (fun az => ?_)
  ·have aa := if_t az aa
   refine Z <| qM q q q ?_
   obtain ⟨ba, bb, aa⟩ := D aa
   refine zd q q c60 (w_spec_l20Rd__pick ar _ bp0 A0 B0 (C0.c.c.c) ad.1 12 ba bb ae.ctx) (by rfl) ?_
   rintro _ cv ⟨rfl, bc⟩; refine ⟨_, q, ?_⟩
   have bd := ae.cN1 [_] bc
   refine A q (qt_add q q) q q <| qF uf29 fi29_2 nz3 q q q ?_
   have be := bd.p3
   refine WL_store_bx be q il3 q q q q q (fun cw bf => ?_)
   refine WL_nil fun a ha => ?_
   obtain ⟨rfl, rfl, rfl, rfl⟩ := (by simpa only [Option.some.injEq, Prod.mk.injEq] using aa : _)
   have bg := bf.q2.p2.p2
   exact zi (X (⟨ha.sub ⟨q, q, q, trivial⟩, bg⟩))
  have aa := if_f az aa
  refine rR <| A q (qt_eql q q) q q <| qA q q q <| B ?_
  refine Y q (fun aA => ?_) (fun aA => ?_)
  ·have aa := if_t aA aa
   refine Z <| qM q q q ?_
   obtain ⟨bh, bi, aa⟩ := D aa
   refine zd q q c60 (w_spec_l20Rd__pick ar _ bp0 A0 B0 (C0.c.c.c) ad.1 3 bh bi ae.ctx) (by rfl) ?_
   rintro _ cx ⟨rfl, bj⟩; refine ⟨_, q, ?_⟩
   have bk := ae.cN1 [_] bj
   refine A q (qt_add q q) q q <| qF uf29 fi29_2 nz3 q q q ?_
   have bl := bk.p3
   refine WL_store_bx bl q il3 q q q q q (fun cy bm => ?_)
   refine WL_nil fun a ha => ?_
   obtain ⟨rfl, rfl, rfl, rfl⟩ := (by simpa only [Option.some.injEq, Prod.mk.injEq] using aa : _)
   have bn := bm.q2.p2.p2
   exact zi (X (⟨ha.sub ⟨q, q, q, trivial⟩, bn⟩))
  have aa := if_f aA aa
  refine rR <| A q (qt_eql q q) q q <| qA q q q <| B ?_
  refine Y q (fun aB => ?_) (fun aB => ?_)
  ·have aa := if_t aB aa
   refine Z <| qM q q q ?_
   obtain ⟨aR, bo, aa⟩ := D aa
   refine zd q q c60 (w_spec_l20Rd__pick ar _ bp0 A0 B0 (C0.c.c.c) ad.1 32 aR bo ae.ctx) (by rfl) ?_
   rintro _ bp ⟨rfl, bq⟩; refine ⟨_, q, ?_⟩
   have aS := ae.cN1 [_] bq
   refine qM q q q ?_
   obtain ⟨br, bs, aa⟩ := D aa
   refine zd q q c60 (w_spec_l20Rd__pick bp _ bp0 A0 B0 (C0.c.c.c) aR.1 3 br bs aS.ctx) (by rfl) ?_
   rintro _ cz ⟨rfl, bt⟩; refine ⟨_, q, ?_⟩
   have bu := aS.cN1 [_] bt
   refine A q (qt_quo q q (by decide)) q q <| A q (qt_mul q q) q q <| qF uf29 fi29_1 nz3 q q q ?_
   have bv := bu.p3
   refine WL_store_bx bv q il3 q q q q q (fun cA bw => ?_)
   refine WL_nil fun a ha => ?_
   obtain ⟨rfl, rfl, rfl, rfl⟩ := (by simpa only [Option.some.injEq, Prod.mk.injEq] using aa : _)
   have bz := bw.q2.p2.p2
   exact zi (X (⟨ha.sub ⟨q, q, q, trivial⟩, bz⟩))
  have aa := if_f aB aa
  refine rR <| A q (qt_eql q q) q q <| qA q q q <| B ?_
  refine Y q (fun aC => ?_) (fun aC => ?_)
  ·have aa := if_t aC aa
   refine rR <| qM q q q <| qF uf27 fi27_4 nz25 q q q ?_
   have bA := R ae.p1
   refine l u25 q bA q q q q <| za ae.ctx (t := ty12) (hp1_4.c.c.c.c) u25 q q q <| A q (qt_add q q) q q ?_
   obtain ⟨aT, bB, aa⟩ := D aa
   refine zd q q c60 (w_spec_l20Rd__pick ar _ bp0 A0 B0 (C0.c.c.c) ad.1 (IntKind.wrap .i64 ((List.length p1_4 : Int) + 1)) aT bB ae.ctx) (by rfl) ?_
   rintro _ cB ⟨rfl, bC⟩; refine ⟨_, q, ?_⟩
   have bD := ae.cN1 [_] bC
   refine qF uf29 fi29_1 nz3 q q q ?_
   have bE := bD.p3
   refine WL_store_bx bE q il3 q q q q q (fun bF aD => ?_)
   refine rN <| qM q q q <| qF uf27 fi27_0 nz23 q q q ?_
   have bG := R aD.p2
   refine l u23 q bG q q q q <| za aD.ctx (t := ty10) (hp1_0.c.c.c.c) u23 q q q <| A q (qt_max q q) q q ?_
   have aU := aD.p1
   obtain ⟨aV, bH, aa⟩ := D aa
   refine zd q q c60 (w_spec_l20Rd__pick bF _ bp0 A0 B0 (C0.c.c.c) aT.1 (if 1 > (List.length p1_0 : Int) then 1 else (List.length p1_0 : Int)) aV bH aU.ctx) (by rfl) ?_
   rintro _ cC ⟨rfl, bI⟩; refine ⟨_, q, ?_⟩
   have bJ := aU.cN1 [_] bI
   refine qF uf29 fi29_2 nz3 q q q ?_
   have bK := bJ.p1
   refine WL_store_bx bK q il3 q q q q q (fun bL bM => ?_)
   refine B <| Z <| qM q q q ?_
   have aW := bM.p1
   obtain ⟨bN, bO, aa⟩ := D aa
   refine zd q q c60 (w_spec_l20Rd__pick bL _ bp0 A0 B0 (C0.c.c.c) aV.1 3 bN bO aW.ctx) (by rfl) ?_
   rintro _ cD ⟨rfl, bP⟩; refine ⟨_, q, ?_⟩
   have bQ := aW.cN1 [_] bP
   refine qF uf29 fi29_3 nz3 q q q ?_
   have bR := bQ.p1
   refine WL_store_bx bR q il3 q q q q q (fun cE bS => ?_)
   refine WL_nil fun a ha => ?_
   obtain ⟨rfl, rfl, rfl, rfl⟩ := (by simpa only [Option.some.injEq, Prod.mk.injEq] using aa : _)
   have bT := bS.q2.p2.p2
   exact zi (X (⟨ha.sub ⟨q, q, q, trivial⟩, bT⟩))
  have aa := if_f aC aa
  refine rR <| A q (qt_eql q q) q q <| qA q q q <| B ?_
  refine Y q (fun aE => ?_) (fun aE => ?_)
  ·have aa := if_t aE aa
   refine Z <| qF uf29 fi29_1 nz3 q q q ?_
   have bU := ae.p3
   refine WL_store_bx bU q il3 q q q q q (fun cF bV => ?_)
   refine WL_nil fun a ha => ?_
   obtain ⟨rfl, rfl, rfl, rfl⟩ := (by simpa only [Option.some.injEq, Prod.mk.injEq] using aa : _)
   have bW := bV.q2.p2.p2
   exact zi (X (⟨ha.sub ⟨q, q, q, trivial⟩, bW⟩))
  have aa := if_f aE aa
  refine rR <| A q (qt_eql q q) q q <| qA q q q <| B ?_
  refine Y q (fun aF => ?_) (fun aF => ?_)
  ·have aa := if_t aF aa
   refine Z <| qM q q q <| qF uf27 fi27_4 nz25 q q q ?_
   have bX := R ae.p1
   refine l u25 q bX q q q q <| za ae.ctx (t := ty12) (hp1_4.c.c.c.c) u25 q q q <| A q (qt_add q q) q q ?_
   obtain ⟨bY, bZ, aa⟩ := D aa
   refine zd q q c60 (w_spec_l20Rd__pick ar _ bp0 A0 B0 (C0.c.c.c) ad.1 (IntKind.wrap .i64 ((List.length p1_4 : Int) + 1)) bY bZ ae.ctx) (by rfl) ?_
   rintro _ cG ⟨rfl, b0⟩; refine ⟨_, q, ?_⟩
   have b4 := ae.cN1 [_] b0
   refine qF uf29 fi29_1 nz3 q q q ?_
   have b6 := b4.p3
   refine WL_store_bx b6 q il3 q q q q q (fun cH b7 => ?_)
   refine WL_nil fun a ha => ?_
   obtain ⟨rfl, rfl, rfl, rfl⟩ := (by simpa only [Option.some.injEq, Prod.mk.injEq] using aa : _)
   have b8 := b7.q2.p2.p2
   exact zi (X (⟨ha.sub ⟨q, q, q, trivial⟩, b8⟩))
  have aa := if_f aF aa
  refine WP_skip fun a ha => ?_
  obtain ⟨rfl, rfl, rfl, rfl⟩ := (by simpa only [Option.some.injEq, Prod.mk.injEq] using aa : _)
  have b9 := ae.q1.p2.p2.p2
  exact zi (X (⟨ha.sub ⟨q, q, q, trivial⟩, b9⟩))
 intro a ca cb
 obtain ⟨ha, aX⟩ := cb
 refine S ?_ ha
 clear ha
 refine C <| rR <| qM q q q ?_
 obtain ⟨ap, cc, h⟩ := D h
 refine zd q q c61 (w_spec_l20Rd__odd ca _ bp0 A0 B0 (C0.c.c) aQ 30 ap cc aX.ctx) (by rfl) ?_
 rintro _ cI ⟨rfl, cd⟩; refine ⟨_, q, ?_⟩
 have aY := aX.cN1 [_] cd
 refine B ?_
 obtain ⟨ce, am, h⟩ := D h
 obtain ⟨cf, au⟩ := ce
 refine WP_join (M := fun a w2 => (Fr a 87 [(0, pB bp0), (4, pB b5), (5, pB ag)] ∧ Holds (([.bx bp0 89 [A0, iV B1]] : List Res).flatMap Res.own) w w2 [.bx bp0 89 [A0, iV cf], .bx b5 29 [iV 0, iV 0, iV 0, iV 0], .bx ag 29 [iV (IntKind.wrap .i64 (af + (IntKind.wrap .i64 ((IntKind.wrap .i64 (Int.tdiv ab.2 59)) * 6)))), iV aj, iV au, iV ak]] G)) ?_ ?_
 ·refine Y q (fun aG => ?_) (fun aG => ?_)
  ·have am := if_t aG am
   obtain ⟨aH, cg, am⟩ := D am
   refine WP_mid (Mid := fun a w2 => (Fr a 87 [(0, pB bp0), (4, pB b5), (5, pB ag)] ∧ Holds (([.bx bp0 89 [A0, iV B1]] : List Res).flatMap Res.own) w w2 [.bx bp0 89 [A0, iV aH.1], .bx b5 29 [iV 0, iV 0, iV 0, iV 0], .bx ag 29 [iV (IntKind.wrap .i64 (af + (IntKind.wrap .i64 ((IntKind.wrap .i64 (Int.tdiv ab.2 59)) * 6)))), iV aj, iV (IntKind.wrap .i64 ((IntKind.wrap .i64 (aw + aH.2)) - 5)), iV ak]] G)) ?_ ?_
   ·refine WP_ordersT (fun w1 w2 => Chg (([.bx bp0 89 [A0, iV ap.1]] : List Res).flatMap Res.own) w1 w2) 6 (by kernel_rfl) (fun aI ch => ?_)
    have aZ := aY.grow ch
    have a0 : Ctx aI ([.bx bp0 89 [A0, iV ap.1]] ++ ([.bx b5 29 [iV 0, iV 0, iV 0, iV 0], .bx ag 29 [iV (IntKind.wrap .i64 (af + (IntKind.wrap .i64 ((IntKind.wrap .i64 (Int.tdiv ab.2 59)) * 6)))), iV aj, iV aw, iV ak]] ++ G)) := aZ.ctx
    have ci : Holds _ aI aI [.bx bp0 89 [A0, iV ap.1]] ([.bx b5 29 [iV 0, iV 0, iV 0, iV 0], .bx ag 29 [iV (IntKind.wrap .i64 (af + (IntKind.wrap .i64 ((IntKind.wrap .i64 (Int.tdiv ab.2 59)) * 6)))), iV aj, iV aw, iV ak]] ++ G) := zb (Rs := [.bx bp0 89 [A0, iV ap.1]]) a0
    have Hc := ci
    repeat' first
     | refine XDo 3 q <| zd q q c60 (w_spec_l20Rd__pick _ _ bp0 A0 B0 (C0.c.c) ap.1 60 aH cg Hc.ctx) (by rfl) ?_; rintro _ _ ⟨rfl, HK⟩; refine ⟨_, q, ?_⟩; have Hc := Hc.cN1 [_] HK; refine XN Hc.chg ?_
     | have Hc := aZ.cN1 [_] Hc; refine XDo 6 q <| qF uf29 fi29_2 nz3 q q q <| XE q ?_
     | refine XDo 7 q ?_; have Hc := Hc.p2; refine WL_store_bx Hc q il3 q q q q q (fun _ Hc => ?_); refine XE q ?_
     | refine XQ (i := 0) q (by decide +kernel) q Hc.chg q (fun _ => qt_fieldAddr uf29 fi29_2 nz3 q) q q ?_
     | have cj := HasB.bx (HasB.c (HasB.c (HasB.hd))) Hc.ctx; refine XT (i := 1) q (by decide +kernel) q Hc.chg q (qs_cell u3 q q (cj.cell (i := 2) q) Hc.chg (Ctx.outB a0 (HasB.c (HasB.hd)))) q q ?_
     | refine XQ (i := 2) q (by decide +kernel) q Hc.chg q (fun _ => qt_move q) q q ?_
     | refine XQ (i := 4) q (by decide +kernel) q Hc.chg q (fun _ => qt_add q q) q q ?_
     | refine XQ (i := 5) q (by decide +kernel) q Hc.chg q (fun _ => qt_sub q q) q q ?_
     | refine XV [3] (by decide +kernel) q (allc ?_ alln)
     | refine XV [6] (by decide +kernel) q (allc ?_ alln)
     | refine XV [7] (by decide +kernel) q (allc ?_ alln)
     | refine XC_done (by decide +kernel) (fun a ha => ?_); have Hc := ((Hc.p2).p2); exact ⟨ha.sub ⟨q, q, q, trivial⟩, Hc⟩
   intro a cJ ck
   obtain ⟨ha, cl⟩ := ck
   obtain ⟨rfl, rfl⟩ := L am |> Prod.mk.inj
   have cm := cl.p2.p2.p2
   exact X (⟨ha.sub ⟨q, q, q, trivial⟩, cm⟩)
  have am := if_f aG am
  refine WP_skip fun a ha => ?_
  obtain ⟨rfl, rfl⟩ := L am |> Prod.mk.inj
  have cn := aY.p2.p2.p2
  exact X (⟨ha.sub ⟨q, q, q, trivial⟩, cn⟩)
 intro a cK co
 obtain ⟨ha, a1⟩ := co
 refine S ?_ ha
 clear ha
 refine C <| Z ?_
 have cp := R a1.p2
 refine zm (cs := [iV (IntKind.wrap .i64 (af + (IntKind.wrap .i64 ((IntKind.wrap .i64 (Int.tdiv ab.2 59)) * 6)))), iV aj, iV au, iV ak]) us29 uo29 il29 cp q q q ?_
 change XL _ _ _ _ _ ((86, .agg #[iV (IntKind.wrap .i64 (af + (IntKind.wrap .i64 ((IntKind.wrap .i64 (Int.tdiv ab.2 59)) * 6)))), iV aj, iV au, iV ak]) :: _) _
 have cq := a1.p1
 refine zl (cs' := [iV (IntKind.wrap .i64 (af + (IntKind.wrap .i64 ((IntKind.wrap .i64 (Int.tdiv ab.2 59)) * 6)))), iV aj, iV au, iV ak]) cq q il29 q q q q q (fun cL a2 => ?_)
 refine B <| W fun a ha => ?_
 obtain rfl := L h
 have cr := R a2.p0
 have ct := a2.q0.q1
 exact retc q ha q (run_loadVar_bx (cs := [iV (IntKind.wrap .i64 (af + (IntKind.wrap .i64 ((IntKind.wrap .i64 (Int.tdiv ab.2 59)) * 6)))), iV aj, iV au, iV ak]) us29 uo29 il29 cr) ⟨q, ct⟩
theorem w_spec_l1In (w : World) (G : List Res) (p0 : Int) (p1 : Int) (p2 : Int) (r : Bool) (h : spec_l1InS p0 p1 p2 = some r) (H : Ctx w G) : Calls Tryz.prog 52 #[iV p0, iV p1, iV p2] w fun e w' => e = .returned (.bool r) ∧ Holds M0 w w' [] G := by
 have H : Holds M0 w w [] G := zb H
 refine zg (args := [iV p0, iV p1, iV p2]) (n := 15) Tryz.func52 q q q ?_
 unfold spec_l1InS at h
 refine rR <| qA q q q <| rN <| qM q q q <| qM q q q <| A q (qt_geq q q) q q <| qM q q q ?_
 refine zh 4 14 (.bool ((decide (p0 ≥ p1)) && (decide (p0 ≤ p2)))) ?_ (fun md hmd hk => ?_)
 rotate_left
 ·obtain ⟨Q, rfl⟩ := Md.seq_of hmd
  rcases btf (decide (p0 ≥ p1)) with aa | aa
  ·skip
   refine qM (J q aa) q q <| qM (J q aa) q q <| A (J q aa) (qt_leq q q) q q <| A q (ze q aa q) q q ?_
   exact hk _ (p (by rw [aa]; rfl) (cfn 3 q (u)))
  skip
  refine qS q aa q q <| qS q aa q q <| qS q aa q q <| A q (zf q aa q) q q ?_
  exact hk _ (p (by rw [aa]; rfl) (cfn 3 q (u)))
 refine qA q q q <| B <| W fun a ha => ?_
 obtain rfl := L h
 exact ret1 q ha q ⟨q, H⟩
theorem w_spec_l1Item (w : World) (G : List Res) (B0 : Int) (A1 : Value) (B1 : LP) (C1 : Has G ty2 A1 B1) (B2 : Int) (p1 : Int) (r : Bool) (h : spec_l1ItemS B0 B1 B2 p1 = some r) (H : Ctx w G) : Calls Tryz.prog 106 #[.agg #[iV B0, A1, iV B2], iV p1] w fun e w' => e = .returned (.bool r) ∧ Holds M0 w w' [] G := by
 have H : Holds M0 w w [] G := zb H
 refine zg (args := [.agg #[iV B0, A1, iV B2], iV p1]) (n := 77) Tryz.func106 q q q ?_
 unfold spec_l1ItemS at h
 refine C <| Z ?_
 refine WL_box (cs := [iV B0, A1, iV B2]) H q q q q (fun b1 w2 H3 => ?_)
 refine qA q q q <| B <| C <| rR <| qA q q q <| B <| g ?_
 obtain ⟨o6, aC, h⟩ := D h
 refine fun a8 ar => zp (I := fun s a w2 => match s with | s5 => (Fr a 77 [(1, iV p1), (2, pB b1), (5, iV s5)] ∧ Holds M0 w w2 [.bx b1 55 [iV B0, A1, iV B2]] G)) (O := fun o e a w2 => match o with | .inl _ => e = .exit 0 ∧ (Fr a 77 [(2, pB b1)] ∧ Holds M0 w w2 [.bx b1 55 [iV B0, A1, iV B2]] G) | .inr q0 => e = .ret ∧ (Fr a 77 [(4, .bool q0)] ∧ Holds M0 w w2 [] G)) aC ?_ ?_ ?_
 ·exact ⟨ar.sub ⟨q, q, q, trivial⟩, H3⟩
 ·clear ar
  intro s bk a bl ae aD
  obtain ⟨s5, rfl⟩ : ∃ z, z = s := ⟨s, q⟩
  obtain ⟨ha, af⟩ := aD
  refine S ?_ ha
  clear ha
  refine C <| rR <| qM q q q <| qF uf55 fi55_1 nz53 q q q ?_
  have aE := R af.p0
  refine l u53 q aE q q q q <| za af.ctx (t := ty2) (C1.c) u53 q q q <| A q (qt_lss q q) q q <| B ?_
  refine Y q (fun ap => ?_) (fun ap => ?_)
  ·have ae := if_t ap ae
   refine y <| C <| g <| C <| WP_quiet (by kernel_rfl) (by kernel_rfl) <| qF uf55 fi55_1 nz53 q q q ?_
   have aF := R af.p0
   refine l u53 q aF q q q q <| qM q q q ?_
   obtain ⟨aG, au, ae⟩ := D ae
   refine b af.ctx (C1.c) au u53 i57 q q q q (fun bm bn bo aH => ?_)
   refine qF uf57 fi57_0 nz3 q q q ?_
   obtain ⟨bp, aI, bq⟩ := af.at (C1.c) au aH
   obtain ⟨br, aJ, bs⟩ := AtP.fst aI
   refine zt (k := .i64) u3 q aJ q q q <| qM q q q <| A q (qt_sub q q) q q ?_
   obtain ⟨av, aK, ae⟩ := D ae
   refine QC q q c52 (fun w' hb => w_spec_l1In w' _ aG.1 0 (IntKind.wrap .i64 (p1 - 1)) av aK (af.grow hb).ctx) (by rfl) <| A q (qt_not q) q q <| qM q q q ?_
   obtain ⟨aw, ak, ae⟩ := D ae
   refine zh 9 32 (.bool aw) ?_ (fun md hmd hk => ?_)
   rotate_left
   ·obtain ⟨K, rfl⟩ := zr hmd
    rcases btf (!av) with ab | ab
    ·skip
     refine qS q ab q q <| qS q ab q q <| qS q ab q q <| qS q ab q q <| qS q ab q q <| qS q ab q q <| qS q ab q q <| qS q ab q q <| A q (ze q ab q) q q ?_
     exact hk _ (p (vb (if_t ab ak)) (cfn 8 q (u)))
    skip
    have ak := if_f ab ak
    refine qF uf55 fi55_1 nz53 (J q ab) q q ?_
    have aL := R af.p0
    refine l u53 q aL q (J q ab) q q <| qM (J q ab) q q ?_
    obtain ⟨aM, ax, ak⟩ := D ak
    refine b af.ctx (C1.c) ax u53 i57 (J q ab) q q q (fun bt bu bv aN => ?_)
    refine qF uf57 fi57_1 nz3 (J q ab) q q ?_
    obtain ⟨bw, aO, bz⟩ := af.at (C1.c) ax aN
    obtain ⟨bA, aP, bB⟩ := AtP.snd aO
    refine zt (k := .i64) u3 q aP (J q ab) q q ?_
    obtain ⟨aQ, aR, ak⟩ := D ak
    refine QC (J q ab) q c52 (fun w' hb => w_spec_l1In w' _ aM.2 1 6 aQ aR (af.grow hb).ctx) (by rfl) <| A (J q ab) (qt_not q) q q <| A q (zf q ab q) q q ?_
    exact hk _ (p (vb ak) (cfn 8 q (u)))
   refine qM q q q ?_
   obtain ⟨aS, am, ae⟩ := D ae
   refine zh 19 52 (.bool aS) ?_ (fun md hmd hk => ?_)
   rotate_left
   ·obtain ⟨K, rfl⟩ := zr hmd
    rcases btf aw with ag | ag
    ·skip
     refine qS q ag q q <| qS q ag q q <| qS q ag q q <| XL_skip q q q <| XL_skip q q q <| XL_skip q q q <| XL_skip q q q <| XL_skip q q q <| XL_skip q q q <| XL_skip q q q ?_
     refine XL_skip q q q <| XL_skip q q q <| XL_skip q q q <| XL_skip q q q <| XL_skip q q q <| XL_skip q q q <| XL_skip q q q <| qS q ag q q <| A q (ze q ag q) q q ?_
     exact hk _ (p (vb (if_t ag am)) (cfn 18 q (u)))
    skip
    have am := if_f ag am
    refine qM (J q ag) q q <| A (J q ag) (qt_gtr q q) q q <| qM (J q ag) q q ?_
    obtain ⟨aT, al, am⟩ := D am
    refine zh 15 51 (.bool aT) ?_ (fun md hmd hk => ?_)
    rotate_left
    ·obtain ⟨K, rfl⟩ := zr hmd
     rcases btf (decide (s5 > 0)) with aa | aa
     ·skip
      have al := if_t aa al
      refine qF uf55 fi55_1 nz53 (J q aa) q q ?_
      have aU := R af.p0
      refine l u53 q aU q (J q aa) q q <| qM (J q aa) q q <| A (J q aa) (qt_sub q q) q q ?_
      obtain ⟨bC, ay, al⟩ := D al
      refine b af.ctx (C1.c) ay u53 i57 (J q aa) q q q (fun bD bE bF aV => ?_)
      refine qF uf57 fi57_0 nz3 (J q aa) q q ?_
      obtain ⟨bG, aW, bH⟩ := af.at (C1.c) ay aV
      obtain ⟨bI, aX, bJ⟩ := AtP.fst aW
      refine zt (k := .i64) u3 q aX (J q aa) q q <| qF uf55 fi55_1 nz53 (J q aa) q q ?_
      have aY := R af.p0
      refine l u53 q aY q (J q aa) q q <| qM (J q aa) q q ?_
      obtain ⟨bK, az, al⟩ := D al
      refine b af.ctx (C1.c) az u53 i57 (J q aa) q q q (fun bL bM bN aZ => ?_)
      refine qF uf57 fi57_0 nz3 (J q aa) q q ?_
      obtain ⟨bO, a0, bP⟩ := af.at (C1.c) az aZ
      obtain ⟨bQ, a1, bR⟩ := AtP.fst a0
      refine zt (k := .i64) u3 q a1 (J q aa) q q <| A (J q aa) (qt_geq q q) q q <| A (J q ag) (ze q aa q) q q ?_
      exact hk _ (p (vb al) (cfn 14 q (u)))
     skip
     refine qS q aa q q <| qS q aa q q <| qS q aa q q <| qS q aa q q <| qS q aa q q <| qS q aa q q <| qS q aa q q <| qS q aa q q <| qS q aa q q <| qS q aa q q ?_
     refine qS q aa q q <| qS q aa q q <| qS q aa q q <| qS q aa q q <| A (J q ag) (zf q aa q) q q ?_
     exact hk _ (p (vb (if_f aa al)) (cfn 14 q (u)))
    refine A q (zf q ag q) q q ?_
    exact hk _ (p (vb am) (cfn 4 q (u)))
   refine QL_nil fun a ha bS a2 => ?_
   have aA := af.grow a2
   refine X (S ?_ ha)
   refine Y q (fun aq => ?_) (fun aq => ?_)
   ·have ae := if_t aq ae
    refine rR <| qA q q q <| B <| W fun a ha => ?_
    obtain rfl := L ae
    have a3 := aA.q0
    exact zj (m (⟨ret_ne, q, ha.sub ⟨q, trivial⟩, a3⟩))
   have ae := if_f aq ae
   refine WP_skip fun a ha => ?_
   refine zi (X (S ?_ ha))
   refine Z <| qM q q q <| A q (qt_add q q) q q <| qA q q q <| WL_nil fun a ha => ?_
   obtain rfl := L ae
   exact ⟨q, ha.sub ⟨q, q, q, trivial⟩, aA⟩
  have ae := if_f ap ae
  refine WP_exit fun a ha => ?_
  obtain rfl := L ae
  exact zo (⟨exit_ne, q, ha.sub ⟨q, trivial⟩, af⟩)
 intro e a8 bT aB
 rcases o6 with o6 | o6
 ·skip
  obtain ⟨rfl, a4⟩ := aB
  obtain ⟨ha, aj⟩ := a4
  refine zn (X (S ?_ ha))
  refine C <| zk <| qF uf55 fi55_0 nz3 q q q ?_
  have a5 := R aj.p0
  refine l u3 q a5 q q q q ?_
  obtain ⟨an, a6, h⟩ := D h
  refine QC q q c52 (fun w' hb => w_spec_l1In w' _ B0 0 6 an a6 (aj.grow hb).ctx) (by rfl) <| qM q q q ?_
  refine zh 5 61 (.bool (an && (decide ((List.length B1 : Int) ≤ 3)))) ?_ (fun md hmd hk => ?_)
  rotate_left
  ·obtain ⟨K, rfl⟩ := zr hmd
   rcases btf an with ah | ah
   ·skip
    refine qF uf55 fi55_1 nz53 (J q ah) q q ?_
    have a7 := R aj.p0
    refine l u53 q a7 q (J q ah) q q <| za aj.ctx (t := ty2) (C1.c) u53 (J q ah) q q <| A (J q ah) (qt_leq q q) q q <| A q (ze q ah q) q q ?_
    exact hk _ (p (by rw [ah]; rfl) (cfn 4 q (u)))
   skip
   refine qS q ah q q <| qS q ah q q <| qS q ah q q <| qS q ah q q <| A q (zf q ah q) q q ?_
   exact hk _ (p (by rw [ah]; rfl) (cfn 4 q (u)))
  refine qM q q q ?_
  refine zh 9 71 (.bool ((an && (decide ((List.length B1 : Int) ≤ 3))) && ((decide (B0 > 0)) == (decide ((List.length B1 : Int) > 0))))) ?_ (fun md hmd hk => ?_)
  rotate_left
  ·obtain ⟨K, rfl⟩ := zr hmd
   rcases btf (an && (decide ((List.length B1 : Int) ≤ 3))) with ad | ad
   ·skip
    refine qF uf55 fi55_0 nz3 (J q ad) q q ?_
    have a9 := R aj.p0
    refine l u3 q a9 q (J q ad) q q <| A (J q ad) (qt_gtr q q) q q <| qF uf55 fi55_1 nz53 (J q ad) q q ?_
    have ba := R aj.p0
    refine l u53 q ba q (J q ad) q q <| za aj.ctx (t := ty2) (C1.c) u53 (J q ad) q q <| A (J q ad) (qt_gtr q q) q q <| A (J q ad) (qt_beql u4 q q) q q <| A q (ze q ad q) q q ?_
    exact hk _ (p (by rw [ad]; rfl) (cfn 8 q (u)))
   skip
   refine qS q ad q q <| qS q ad q q <| qS q ad q q <| qS q ad q q <| qS q ad q q <| qS q ad q q <| qS q ad q q <| qS q ad q q <| A q (zf q ad q) q q ?_
   exact hk _ (p (by rw [ad]; rfl) (cfn 8 q (u)))
  refine qM q q q ?_
  obtain ⟨bb, ao, h⟩ := D h
  refine zh 4 76 (.bool bb) ?_ (fun md hmd hk => ?_)
  rotate_left
  ·obtain ⟨K, rfl⟩ := zr hmd
   rcases btf ((an && (decide ((List.length B1 : Int) ≤ 3))) && ((decide (B0 > 0)) == (decide ((List.length B1 : Int) > 0)))) with ai | ai
   ·skip
    have ao := if_t ai ao
    refine qF uf55 fi55_2 nz3 (J q ai) q q ?_
    have bc := R aj.p0
    refine l u3 q bc q (J q ai) q q ?_
    obtain ⟨bd, be, ao⟩ := D ao
    refine QC (J q ai) q c52 (fun w' hb => w_spec_l1In w' _ B2 0 31 bd be (aj.grow hb).ctx) (by rfl) <| A q (ze q ai q) q q ?_
    exact hk _ (p (vb ao) (cfn 3 q (u)))
   skip
   refine qS q ai q q <| qS q ai q q <| qS q ai q q <| A q (zf q ai q) q q ?_
   exact hk _ (p (vb (if_f ai ao)) (cfn 3 q (u)))
  refine qA q q q <| QL_nil fun a ha bU bf => ?_
  have bg := aj.grow bf
  refine X (S ?_ ha)
  refine W fun a ha => ?_
  obtain rfl := L h
  have bh := bg.q0
  exact ret1 q ha q ⟨q, bh⟩
 skip
 obtain ⟨bV, rfl⟩ : ∃ z, z = o6 := ⟨o6, q⟩
 obtain ⟨rfl, bi⟩ := aB
 obtain ⟨ha, bj⟩ := bi
 obtain rfl := L h
 exact zj (m (ret1 q ha q ⟨q, bj⟩))
theorem w_spec_ItemsValid (w : World) (G : List Res) (vp0 : Value) (p0 : LI) (hp0 : Has G ty10 vp0 p0) (r : Bool) (h : spec_ItemsValidS p0 = some r) (H : Ctx w G) : Calls Tryz.prog 86 #[vp0] w fun e w' => e = .returned (.bool r) ∧ Holds M0 w w' [] G := by
 have H : Holds M0 w w [] G := zb H
 refine zg (args := [vp0]) (n := 20) Tryz.func86 q q q ?_
 unfold spec_ItemsValidS at h
 refine rR <| qA q q q <| B <| C <| rR <| qA q q q <| B <| g ?_
 obtain ⟨o2, an, h⟩ := D h
 refine fun a4 ah => zp (I := fun s a w2 => match s with | s1 => (Fr a 20 [(0, vp0), (3, iV s1)] ∧ Holds M0 w w2 [] G)) (O := fun o e a w2 => match o with | .inl _ => e = .exit 0 ∧ (Fr a 20 [(0, vp0)] ∧ Holds M0 w w2 [] G) | .inr q0 => e = .ret ∧ (Fr a 20 [(2, .bool q0)] ∧ Holds M0 w w2 [] G)) an ?_ ?_ ?_
 ·exact ⟨ah.sub ⟨q, q, trivial⟩, H⟩
 ·clear ah
  intro s o8 a w6 aa ao
  obtain ⟨s1, rfl⟩ : ∃ z, z = s := ⟨s, q⟩
  obtain ⟨ha, ad⟩ := ao
  refine S ?_ ha
  clear ha
  refine C <| rR <| qM q q q <| qM q q q <| za ad.ctx (t := ty10) (hp0) u23 q q q <| A q (qt_lss q q) q q <| B ?_
  refine Y q (fun af => ?_) (fun af => ?_)
  ·have aa := if_t af aa
   refine y <| C <| g <| C <| zk <| qM q q q <| qM q q q ?_
   obtain ⟨ab, ai, aa⟩ := D aa
   refine b ad.ctx (hp0) ai u23 i55 q q q q (fun aK aL aM ap => ?_)
   obtain ⟨aN, aq, ar⟩ := ad.atN (hp0) ai ap
   refine XL_load_agg (t := ty10) us55 uo55 i55 aq q q q (fun aO au => ?_)
   obtain ⟨c23, c24, aP, aQ, rfl, av, aw, ax⟩ := au
   obtain ⟨rfl, _⟩ := aw
   obtain ⟨c30, c31, aR, aS, rfl, ay, az, aA⟩ := ax
   obtain ⟨ae, rfl, aB⟩ := Rep.sl_inv az
   obtain ⟨rfl, _⟩ := aA
   have aj : Holds _ w w6 [.ro ty2 ae ab.2.1] G := ar [.ro ty2 ae ab.2.1] ⟨⟨_, _, _, _, q, aB, (fun k h => (fun k h => (fun _ h => h) k (by rw [av]; exact zx _ h)) k (by rw [ay]; exact List.mem_append_left _ h))⟩, trivial⟩
   change XL _ _ _ _ _ ((13, .agg #[iV ab.1, ae, iV ab.2.2]) :: _) _
   refine qM q q q ?_
   obtain ⟨aC, aD, aa⟩ := D aa
   refine QC q q c106 (fun w' hb => w_spec_l1Item w' _ ab.1 ae ab.2.1 hR0 ab.2.2 s1 aC aD (aj.grow hb).ctx) (by rfl) <| A q (qt_not q) q q <| QL_nil fun a ha aT aE => ?_
   have ak := aj.grow aE
   refine X (S ?_ ha)
   refine Y q (fun ag => ?_) (fun ag => ?_)
   ·have aa := if_t ag aa
    refine rR <| qA q q q <| B <| W fun a ha => ?_
    obtain rfl := L aa
    have aF := ak.q0
    exact zj (m (⟨ret_ne, q, ha.sub ⟨q, trivial⟩, aF⟩))
   have aa := if_f ag aa
   refine WP_skip fun a ha => ?_
   refine zi (X (S ?_ ha))
   refine Z <| qM q q q <| A q (qt_add q q) q q <| qA q q q <| WL_nil fun a ha => ?_
   obtain rfl := L aa
   have aG := ak.q0
   exact ⟨q, ha.sub ⟨q, q, trivial⟩, aG⟩
  have aa := if_f af aa
  refine WP_exit fun a ha => ?_
  obtain rfl := L aa
  exact zo (⟨exit_ne, q, ha.sub ⟨q, trivial⟩, ad⟩)
 intro e a4 aU al
 rcases o2 with o2 | o2
 ·skip
  obtain ⟨rfl, aH⟩ := al
  obtain ⟨ha, am⟩ := aH
  refine zn (X (S ?_ ha))
  refine rR <| qM q q q <| za am.ctx (t := ty10) (hp0) u23 q q q <| A q (qt_leq q q) q q <| qA q q q <| B <| W fun a ha => ?_
  obtain rfl := L h
  exact ret1 q ha q ⟨q, am⟩
 skip
 obtain ⟨aV, rfl⟩ : ∃ z, z = o2 := ⟨o2, q⟩
 obtain ⟨rfl, aI⟩ := al
 obtain ⟨ha, aJ⟩ := aI
 obtain rfl := L h
 exact zj (m (ret1 q ha q ⟨q, aJ⟩))
theorem w_spec_PricesValid (w : World) (G : List Res) (vp0 : Value) (p0 : LI) (hp0 : Has G ty10 vp0 p0) (vp1 : Value) (p1 : List Int) (hp1 : Has G tI vp1 p1) (r : Bool) (h : spec_PricesValidS p0 p1 = some r) (H : Ctx w G) : Calls Tryz.prog 50 #[vp0, vp1] w fun e w' => e = .returned (.bool r) ∧ Holds M0 w w' [] G := by
 have H : Holds M0 w w [] G := zb H
 refine zg (args := [vp0, vp1]) (n := 27) Tryz.func50 q q q ?_
 unfold spec_PricesValidS at h
 refine rR <| qA q q q <| B <| C <| rR <| qA q q q <| B <| g ?_
 obtain ⟨o2, am, h⟩ := D h
 refine fun a4 ai => zp (I := fun s a w2 => match s with | s1 => (Fr a 27 [(0, vp0), (1, vp1), (5, iV s1)] ∧ Holds M0 w w2 [] G)) (O := fun o e a w2 => match o with | .inl _ => e = .exit 0 ∧ (Fr a 27 [(0, vp0), (1, vp1)] ∧ Holds M0 w w2 [] G) | .inr q0 => e = .ret ∧ (Fr a 27 [(4, .bool q0)] ∧ Holds M0 w w2 [] G)) am ?_ ?_ ?_
 ·exact ⟨ai.sub ⟨q, q, q, trivial⟩, H⟩
 ·clear ai
  intro s o8 a w6 aa an
  obtain ⟨s1, rfl⟩ : ∃ z, z = s := ⟨s, q⟩
  obtain ⟨ha, ad⟩ := an
  refine S ?_ ha
  clear ha
  refine C <| rR <| qM q q q <| qM q q q <| za ad.ctx (t := tI) (hp1) u24 q q q <| A q (qt_lss q q) q q <| B ?_
  refine Y q (fun af => ?_) (fun af => ?_)
  ·have aa := if_t af aa
   refine y <| C <| g <| C <| zk <| qM q q q <| qM q q q ?_
   obtain ⟨ao, aj, aa⟩ := D aa
   refine b ad.ctx (hp1) aj u24 i3 q q q q (fun aC aD aE ap => ?_)
   obtain ⟨aF, aq, aG⟩ := ad.at (hp1) aj ap
   refine zt (k := .i64) u3 q aq q q q ?_
   obtain ⟨ar, au, aa⟩ := D aa
   refine QC q q c52 (fun w' hb => w_spec_l1In w' G ao 0 20 ar au (ad.grow hb).ctx) (by rfl) <| A q (qt_not q) q q <| QL_nil fun a ha aH av => ?_
   have ak := ad.grow av
   refine X (S ?_ ha)
   refine Y q (fun ag => ?_) (fun ag => ?_)
   ·have aa := if_t ag aa
    refine rR <| qA q q q <| B <| W fun a ha => ?_
    obtain rfl := L aa
    exact zj (m (⟨ret_ne, q, ha.sub ⟨q, trivial⟩, ak⟩))
   have aa := if_f ag aa
   refine WP_skip fun a ha => ?_
   refine zi (X (S ?_ ha))
   refine Z <| qM q q q <| A q (qt_add q q) q q <| qA q q q <| WL_nil fun a ha => ?_
   obtain rfl := L aa
   exact ⟨q, ha.sub ⟨q, q, q, trivial⟩, ak⟩
  have aa := if_f af aa
  refine WP_exit fun a ha => ?_
  obtain rfl := L aa
  exact zo (⟨exit_ne, q, ha.sub ⟨q, q, trivial⟩, ad⟩)
 intro e a4 aI al
 rcases o2 with o2 | o2
 ·skip
  obtain ⟨rfl, aw⟩ := al
  obtain ⟨ha, ae⟩ := aw
  refine zn (X (S ?_ ha))
  refine C <| zk <| qM q q q ?_
  obtain ⟨ah, ax, h⟩ := D h
  refine QC q q c86 (fun w' hb => w_spec_ItemsValid w' G vp0 p0 (hp0) ah ax (ae.grow hb).ctx) (by rfl) <| qM q q q ?_
  refine zh 6 26 (.bool (ah && ((List.length p1 : Int) == (List.length p0 : Int)))) ?_ (fun md hmd hk => ?_)
  rotate_left
  ·obtain ⟨K, rfl⟩ := zr hmd
   rcases btf ah with ab | ab
   ·skip
    refine qM (J q ab) q q <| za ae.ctx (t := tI) (hp1) u24 (J q ab) q q <| qM (J q ab) q q <| za ae.ctx (t := ty10) (hp0) u23 (J q ab) q q <| A (J q ab) (qt_eql q q) q q <| A q (ze q ab q) q q ?_
    exact hk _ (p (by rw [ab]; rfl) (cfn 5 q (u)))
   skip
   refine qS q ab q q <| qS q ab q q <| qS q ab q q <| qS q ab q q <| qS q ab q q <| A q (zf q ab q) q q ?_
   exact hk _ (p (by rw [ab]; rfl) (cfn 5 q (u)))
  refine qA q q q <| QL_nil fun a ha aJ ay => ?_
  have az := ae.grow ay
  refine X (S ?_ ha)
  refine W fun a ha => ?_
  obtain rfl := L h
  exact ret1 q ha q ⟨q, az⟩
 skip
 obtain ⟨aK, rfl⟩ : ∃ z, z = o2 := ⟨o2, q⟩
 obtain ⟨rfl, aA⟩ := al
 obtain ⟨ha, aB⟩ := aA
 obtain rfl := L h
 exact zj (m (ret1 q ha q ⟨q, aB⟩))
theorem w_spec_l1Amounts (w : World) (G : List Res) (vp0 : Value) (p0 : LI) (hp0 : Has G ty10 vp0 p0) (vp1 : Value) (p1 : List Int) (hp1 : Has G tI vp1 p1) (r : Bool) (h : spec_l1AmountsS p0 p1 = some r) (H : Ctx w G) : Calls Tryz.prog 51 #[vp0, vp1] w fun e w' => e = .returned (.bool r) ∧ Holds M0 w w' [] G := by
 have H : Holds M0 w w [] G := zb H
 refine zg (args := [vp0, vp1]) (n := 23) Tryz.func51 q q q ?_
 unfold spec_l1AmountsS at h
 refine rR <| qA q q q <| B <| C <| rR <| qA q q q <| B <| g ?_
 obtain ⟨o2, ak, h⟩ := D h
 refine fun a4 ag => zp (I := fun s a w2 => match s with | s1 => (Fr a 23 [(0, vp0), (1, vp1), (5, iV s1)] ∧ Holds M0 w w2 [] G)) (O := fun o e a w2 => match o with | .inl _ => e = .exit 0 ∧ (Fr a 23 [(0, vp0), (1, vp1)] ∧ Holds M0 w w2 [] G) | .inr q0 => e = .ret ∧ (Fr a 23 [(4, .bool q0)] ∧ Holds M0 w w2 [] G)) ak ?_ ?_ ?_
 ·exact ⟨ag.sub ⟨q, q, q, trivial⟩, H⟩
 ·clear ag
  intro s o8 a w6 aa al
  obtain ⟨s1, rfl⟩ : ∃ z, z = s := ⟨s, q⟩
  obtain ⟨ha, ab⟩ := al
  refine S ?_ ha
  clear ha
  refine C <| rR <| qM q q q <| qM q q q <| za ab.ctx (t := tI) (hp1) u24 q q q <| A q (qt_lss q q) q q <| B ?_
  refine Y q (fun ad => ?_) (fun ad => ?_)
  ·have aa := if_t ad aa
   refine y <| C <| g <| C <| zk <| qM q q q <| qM q q q ?_
   obtain ⟨am, ah, aa⟩ := D aa
   refine b ab.ctx (hp1) ah u24 i3 q q q q (fun ax ay az an => ?_)
   obtain ⟨aA, ao, aB⟩ := ab.at (hp1) ah an
   refine zt (k := .i64) u3 q ao q q q ?_
   obtain ⟨ap, aq, aa⟩ := D aa
   refine QC q q c52 (fun w' hb => w_spec_l1In w' G am 0 50 ap aq (ab.grow hb).ctx) (by rfl) <| A q (qt_not q) q q <| QL_nil fun a ha aC ar => ?_
   have ai := ab.grow ar
   refine X (S ?_ ha)
   refine Y q (fun ae => ?_) (fun ae => ?_)
   ·have aa := if_t ae aa
    refine rR <| qA q q q <| B <| W fun a ha => ?_
    obtain rfl := L aa
    exact zj (m (⟨ret_ne, q, ha.sub ⟨q, trivial⟩, ai⟩))
   have aa := if_f ae aa
   refine WP_skip fun a ha => ?_
   refine zi (X (S ?_ ha))
   refine Z <| qM q q q <| A q (qt_add q q) q q <| qA q q q <| WL_nil fun a ha => ?_
   obtain rfl := L aa
   exact ⟨q, ha.sub ⟨q, q, q, trivial⟩, ai⟩
  have aa := if_f ad aa
  refine WP_exit fun a ha => ?_
  obtain rfl := L aa
  exact zo (⟨exit_ne, q, ha.sub ⟨q, q, trivial⟩, ab⟩)
 intro e a4 aD aj
 rcases o2 with o2 | o2
 ·skip
  obtain ⟨rfl, au⟩ := aj
  obtain ⟨ha, af⟩ := au
  refine zn (X (S ?_ ha))
  refine rR <| qM q q q <| za af.ctx (t := tI) (hp1) u24 q q q <| qM q q q <| za af.ctx (t := ty10) (hp0) u23 q q q <| A q (qt_eql q q) q q <| qA q q q <| B <| W fun a ha => ?_
  obtain rfl := L h
  exact ret1 q ha q ⟨q, af⟩
 skip
 obtain ⟨p31, rfl⟩ : ∃ z, z = o2 := ⟨o2, q⟩
 obtain ⟨rfl, av⟩ := aj
 obtain ⟨ha, aw⟩ := av
 obtain rfl := L h
 exact zj (m (ret1 q ha q ⟨q, aw⟩))
theorem w_spec_l4Ready (w : World) (G : List Res) (vp0 : Value) (p0 : LP) (hp0 : Has G ty2 vp0 p0) (p1 : Int) (r : Bool) (h : spec_l4ReadyS p0 p1 = some r) (H : Ctx w G) : Calls Tryz.prog 87 #[vp0, iV p1] w fun e w' => e = .returned (.bool r) ∧ Holds M0 w w' [] G := by
 have H : Holds M0 w w [] G := zb H
 refine zg (args := [vp0, iV p1]) (n := 27) Tryz.func87 q q q ?_
 unfold spec_l4ReadyS at h
 refine rR <| qA q q q <| B <| C <| rR <| qA q q q <| B <| g ?_
 obtain ⟨o2, al, h⟩ := D h
 refine fun a4 ah => zp (I := fun s a w2 => match s with | s1 => (Fr a 27 [(0, vp0), (1, iV p1), (5, iV s1)] ∧ Holds M0 w w2 [] G)) (O := fun o e a w2 => match o with | .inl _ => e = .exit 0 ∧ (Fr a 27 [] ∧ Holds M0 w w2 [] G) | .inr q0 => e = .ret ∧ (Fr a 27 [(4, .bool q0)] ∧ Holds M0 w w2 [] G)) al ?_ ?_ ?_
 ·exact ⟨ah.sub ⟨q, q, q, trivial⟩, H⟩
 ·clear ah
  intro s o8 a w6 ab am
  obtain ⟨s1, rfl⟩ : ∃ z, z = s := ⟨s, q⟩
  obtain ⟨ha, ad⟩ := am
  refine S ?_ ha
  clear ha
  refine C <| rR <| qM q q q <| qM q q q <| za ad.ctx (t := ty2) (hp0) u45 q q q <| A q (qt_lss q q) q q <| B ?_
  refine Y q (fun af => ?_) (fun af => ?_)
  ·have ab := if_t af ab
   refine y <| C <| g <| rR <| qM q q q <| qM q q q ?_
   obtain ⟨an, ai, ab⟩ := D ab
   refine b ad.ctx (hp0) ai u45 i49 q q q q (fun aB aC aD ao => ?_)
   refine qF uf49 fi49_0 nz3 q q q ?_
   obtain ⟨aE, ap, aF⟩ := ad.at (hp0) ai ao
   obtain ⟨aG, aq, aH⟩ := AtP.fst ap
   refine zt (k := .i64) u3 q aq q q q <| qM q q q <| A q (qt_lss q q) q q <| qM q q q ?_
   obtain ⟨ar, ae, ab⟩ := D ab
   refine zh 7 26 (.bool ar) ?_ (fun md hmd hk => ?_)
   rotate_left
   ·obtain ⟨Q, rfl⟩ := Md.seq_of hmd
    rcases btf (decide (an.1 < p1)) with aa | aa
    ·skip
     have ae := if_t aa ae
     refine qM (J q aa) q q <| qM (J q aa) q q ?_
     obtain ⟨aI, aj, ae⟩ := D ae
     refine b ad.ctx (hp0) aj u45 i49 (J q aa) q q q (fun aJ aK aL au => ?_)
     refine qF uf49 fi49_1 nz3 (J q aa) q q ?_
     obtain ⟨aM, av, aN⟩ := ad.at (hp0) aj au
     obtain ⟨aO, aw, aP⟩ := AtP.snd av
     refine zt (k := .i64) u3 q aw (J q aa) q q <| A (J q aa) (qt_lss q q) q q <| A q (ze q aa q) q q ?_
     exact hk _ (p (vb ae) (cfn 6 q (u)))
    skip
    refine qS q aa q q <| qS q aa q q <| qS q aa q q <| qS q aa q q <| qS q aa q q <| qS q aa q q <| A q (zf q aa q) q q ?_
    exact hk _ (p (vb (if_f aa ae)) (cfn 6 q (u)))
   refine B ?_
   refine Y q (fun ag => ?_) (fun ag => ?_)
   ·have ab := if_t ag ab
    refine rR <| qA q q q <| B <| W fun a ha => ?_
    obtain rfl := L ab
    exact zj (m (⟨ret_ne, q, ha.sub ⟨q, trivial⟩, ad⟩))
   have ab := if_f ag ab
   refine WP_skip fun a ha => ?_
   refine zi (X (S ?_ ha))
   refine Z <| qM q q q <| A q (qt_add q q) q q <| qA q q q <| WL_nil fun a ha => ?_
   obtain rfl := L ab
   exact ⟨q, ha.sub ⟨q, q, q, trivial⟩, ad⟩
  have ab := if_f af ab
  refine WP_exit fun a ha => ?_
  obtain rfl := L ab
  exact zo (⟨exit_ne, q, ha.sub trivial, ad⟩)
 intro e a4 aQ ak
 rcases o2 with o2 | o2
 ·skip
  obtain ⟨rfl, ax⟩ := ak
  obtain ⟨ha, ay⟩ := ax
  refine zn (X (S ?_ ha))
  refine rR <| qA q q q <| B <| W fun a ha => ?_
  obtain rfl := L h
  exact ret1 q ha q ⟨q, ay⟩
 skip
 obtain ⟨aR, rfl⟩ : ∃ z, z = o2 := ⟨o2, q⟩
 obtain ⟨rfl, az⟩ := ak
 obtain ⟨ha, aA⟩ := az
 obtain rfl := L h
 exact zj (m (ret1 q ha q ⟨q, aA⟩))
theorem w_spec_TicketValid (w : World) (G : List Res) (vp0 : Value) (p0 : LP) (hp0 : Has G ty2 vp0 p0) (r : Bool) (h : spec_TicketValidS p0 = some r) (H : Ctx w G) : Calls Tryz.prog 53 #[vp0] w fun e w' => e = .returned (.bool r) ∧ Holds M0 w w' [] G := by
 have H : Holds M0 w w [] G := zb H
 refine zg (args := [vp0]) (n := 38) Tryz.func53 q q q ?_
 unfold spec_TicketValidS at h
 refine rR <| qA q q q <| B <| C <| rR <| qA q q q <| B <| g ?_
 obtain ⟨o2, aw, h⟩ := D h
 refine fun a4 an => zp (I := fun s a w2 => match s with | s1 => (Fr a 38 [(0, vp0), (3, iV s1)] ∧ Holds M0 w w2 [] G)) (O := fun o e a w2 => match o with | .inl _ => e = .exit 0 ∧ (Fr a 38 [(0, vp0)] ∧ Holds M0 w w2 [] G) | .inr q0 => e = .ret ∧ (Fr a 38 [(2, .bool q0)] ∧ Holds M0 w w2 [] G)) aw ?_ ?_ ?_
 ·exact ⟨an.sub ⟨q, q, trivial⟩, H⟩
 ·clear an
  intro s o8 a w6 aa ax
  obtain ⟨s1, rfl⟩ : ∃ z, z = s := ⟨s, q⟩
  obtain ⟨ha, ai⟩ := ax
  refine S ?_ ha
  clear ha
  refine C <| rR <| qM q q q <| qM q q q <| za ai.ctx (t := ty2) (hp0) u45 q q q <| A q (qt_lss q q) q q <| B ?_
  refine Y q (fun ak => ?_) (fun ak => ?_)
  ·have aa := if_t ak aa
   refine y <| C <| g <| rR <| qM q q q <| qM q q q ?_
   obtain ⟨ae, ao, aa⟩ := D aa
   refine b ai.ctx (hp0) ao u45 i49 q q q q (fun aY aZ a0 ay => ?_)
   obtain ⟨a1, az, a2⟩ := ai.atN (hp0) ao ay
   refine XL_load_agg (t := ty2) us49 uo49 i49 az q q q (fun a3 aA => ?_)
   obtain ⟨c23, c24, a5, a6, rfl, a7, aB, aC⟩ := aA
   obtain ⟨rfl, _⟩ := aB
   obtain ⟨rfl, _⟩ := aC
   change XL _ _ _ _ _ ((14, .agg #[iV ae.1, iV ae.2]) :: _) _
   refine zq (cs := [iV 0, iV 0]) ai z49 q q q (fun a8 a9 aD => ?_)
   refine zl (cs' := [iV ae.1, iV ae.2]) aD q il49 q q q q q (fun ba aj => ?_)
   refine B <| C <| C <| zk <| qF uf49 fi49_0 nz3 q q q ?_
   have aE := R aj.p0
   refine l u3 q aE q q q q ?_
   obtain ⟨ap, aF, aa⟩ := D aa
   refine QC q q c52 (fun w' hb => w_spec_l1In w' _ ae.1 0 2 ap aF (aj.grow hb).ctx) (by rfl) <| A q (qt_not q) q q <| qM q q q ?_
   obtain ⟨aG, af, aa⟩ := D aa
   refine zh 5 24 (.bool aG) ?_ (fun md hmd hk => ?_)
   rotate_left
   ·obtain ⟨K, rfl⟩ := zr hmd
    rcases btf (!ap) with ad | ad
    ·skip
     refine qS q ad q q <| qS q ad q q <| qS q ad q q <| qS q ad q q <| A q (ze q ad q) q q ?_
     exact hk _ (p (vb (if_t ad af)) (cfn 4 q (u)))
    skip
    have af := if_f ad af
    refine qF uf49 fi49_1 nz3 (J q ad) q q ?_
    have aH := R aj.p0
    refine l u3 q aH q (J q ad) q q ?_
    obtain ⟨aI, aJ, af⟩ := D af
    refine QC (J q ad) q c52 (fun w' hb => w_spec_l1In w' _ ae.2 0 4 aI aJ (aj.grow hb).ctx) (by rfl) <| A (J q ad) (qt_not q) q q <| A q (zf q ad q) q q ?_
    exact hk _ (p (vb af) (cfn 4 q (u)))
   refine QL_nil fun a ha bb aK => ?_
   have ag := aj.grow aK
   refine X (S ?_ ha)
   refine Y q (fun al => ?_) (fun al => ?_)
   ·have aa := if_t al aa
    refine rR <| qA q q q <| B <| W fun a ha => ?_
    obtain rfl := L aa
    have aL := ag.q0
    exact m (zj (m (⟨ret_ne, q, ha.sub ⟨q, trivial⟩, aL⟩)))
   have aa := if_f al aa
   refine y <| C <| zk <| qF uf49 fi49_1 nz3 q q q ?_
   have aM := R ag.p0
   refine l u3 q aM q q q q ?_
   obtain ⟨aq, aN, aa⟩ := D aa
   refine QC q q c52 (fun w' hb => w_spec_l1In w' _ ae.2 1 3 aq aN (ag.grow hb).ctx) (by rfl) <| qM q q q ?_
   obtain ⟨aO, ah, aa⟩ := D aa
   refine zh 6 34 (.bool aO) ?_ (fun md hmd hk => ?_)
   rotate_left
   ·obtain ⟨K, rfl⟩ := zr hmd
    rcases btf aq with ab | ab
    ·skip
     have ah := if_t ab ah
     refine qM (J q ab) q q <| qF uf49 fi49_0 nz3 (J q ab) q q ?_
     have aP := R ag.p0
     refine l u3 q aP q (J q ab) q q ?_
     obtain ⟨aQ, aR, ah⟩ := D ah
     refine QC (J q ab) q c87 (fun w' hb => w_spec_l4Ready w' _ vp0 p0 (hp0.c) ae.1 aQ aR (ag.grow hb).ctx) (by rfl) <| A (J q ab) (qt_not q) q q <| A q (ze q ab q) q q ?_
     exact hk _ (p (vb ah) (cfn 5 q (u)))
    skip
    refine qS q ab q q <| qS q ab q q <| qS q ab q q <| qS q ab q q <| qS q ab q q <| A q (zf q ab q) q q ?_
    exact hk _ (p (vb (if_f ab ah)) (cfn 5 q (u)))
   refine QL_nil fun a ha bc aS => ?_
   have ar := ag.grow aS
   refine X (S ?_ ha)
   refine Y q (fun am => ?_) (fun am => ?_)
   ·have aa := if_t am aa
    refine rR <| qA q q q <| B <| W fun a ha => ?_
    obtain rfl := L aa
    have aT := ar.q0
    exact zj (m (⟨ret_ne, q, ha.sub ⟨q, trivial⟩, aT⟩))
   have aa := if_f am aa
   refine WP_skip fun a ha => ?_
   refine zi (X (S ?_ ha))
   refine Z <| qM q q q <| A q (qt_add q q) q q <| qA q q q <| WL_nil fun a ha => ?_
   obtain rfl := L aa
   have aU := ar.q0
   exact ⟨q, ha.sub ⟨q, q, trivial⟩, aU⟩
  have aa := if_f ak aa
  refine WP_exit fun a ha => ?_
  obtain rfl := L aa
  exact zo (⟨exit_ne, q, ha.sub ⟨q, trivial⟩, ai⟩)
 intro e a4 bd au
 rcases o2 with o2 | o2
 ·skip
  obtain ⟨rfl, aV⟩ := au
  obtain ⟨ha, av⟩ := aV
  refine zn (X (S ?_ ha))
  refine rR <| qM q q q <| za av.ctx (t := ty2) (hp0) u45 q q q <| A q (qt_leq q q) q q <| qA q q q <| B <| W fun a ha => ?_
  obtain rfl := L h
  exact ret1 q ha q ⟨q, av⟩
 skip
 obtain ⟨be, rfl⟩ : ∃ z, z = o2 := ⟨o2, q⟩
 obtain ⟨rfl, aW⟩ := au
 obtain ⟨ha, aX⟩ := aW
 obtain rfl := L h
 exact zj (m (ret1 q ha q ⟨q, aX⟩))
theorem w_spec_l1Join (w : World) (G : List Res) (p0 : Int) (p1 : Int) (r : Int) (h : spec_l1JoinS p0 p1 = some r) (H : Ctx w G) : Calls Tryz.prog 107 #[iV p0, iV p1] w fun e w' => e = .returned (iV r) ∧ Holds M0 w w' [] G := by
 have H : Holds M0 w w [] G := zb H
 refine zg (args := [iV p0, iV p1]) (n := 30) Tryz.func107 q q q ?_
 unfold spec_l1JoinS at h
 refine rR <| qA q q q <| rN <| qA q q q <| B <| C <| C ?_
 refine Z <| qA q q q <| B <| g ?_
 obtain ⟨o3, ai, h⟩ := D h
 refine fun a5 ah => zp (I := fun s a w2 => match s with | (s1, s2) => (Fr a 30 [(0, iV p0), (1, iV p1), (5, iV s1), (6, iV s2)] ∧ Holds M0 w w2 [] G)) (O := fun o e a w2 => match o with | q0 => e = .exit 0 ∧ (Fr a 30 [(5, iV q0)] ∧ Holds M0 w w2 [] G)) ai ?_ ?_ ?_
 ·exact ⟨ah.sub ⟨q, q, q, q, trivial⟩, H⟩
 ·clear ah
  intro s o9 a w7 aa aj
  obtain ⟨s1, s2⟩ := s
  obtain ⟨ha, ae⟩ := aj
  refine S ?_ ha
  clear ha
  refine C <| rR <| qM q q q <| qM q q q <| qM q q q <| A q (qt_max q q) q q <| A q (qt_leq q q) q q <| B ?_
  refine Y q (fun af => ?_) (fun af => ?_)
  ·have aa := if_t af aa
   refine y <| C <| g <| rR <| qM q q q <| qM q q q ?_
   obtain ⟨ak, al, aa⟩ := D aa
   refine A q (qt_quoO q q al) q q <| A q (qt_rem q q (by decide)) q q <| A q (qt_eql q q) q q <| qM q q q ?_
   obtain ⟨am, ad, aa⟩ := D aa
   refine zh 6 25 (.bool am) ?_ (fun md hmd hk => ?_)
   rotate_left
   ·obtain ⟨Q, rfl⟩ := Md.seq_of hmd
    rcases btf ((Int.tmod ak 2) == 1) with ab | ab
    ·skip
     refine qS q ab q q <| qS q ab q q <| qS q ab q q <| qS q ab q q <| qS q ab q q <| A q (ze q ab q) q q ?_
     exact hk _ (p (vb (if_t ab ad)) (cfn 5 q (u)))
    skip
    have ad := if_f ab ad
    refine qM (J q ab) q q <| qM (J q ab) q q ?_
    obtain ⟨ar, an, ad⟩ := D ad
    refine A (J q ab) (qt_quoO q q an) q q <| A (J q ab) (qt_rem q q (by decide)) q q <| A (J q ab) (qt_eql q q) q q <| A q (zf q ab q) q q ?_
    exact hk _ (p (vb ad) (cfn 5 q (u)))
   refine B ?_
   refine Y q (fun ag => ?_) (fun ag => ?_)
   ·have aa := if_t ag aa
    refine Z <| qM q q q <| qM q q q <| A q (qt_add q q) q q <| qA q q q <| WL_nil fun a ha => ?_
    refine zi (X (S ?_ ha))
    refine Z <| qM q q q <| A q (qt_mul q q) q q <| qA q q q <| WL_nil fun a ha => ?_
    obtain rfl := L aa
    exact ⟨q, ha.sub ⟨q, q, q, q, trivial⟩, ae⟩
   have aa := if_f ag aa
   refine WP_skip fun a ha => ?_
   refine zi (X (S ?_ ha))
   refine Z <| qM q q q <| A q (qt_mul q q) q q <| qA q q q <| WL_nil fun a ha => ?_
   obtain rfl := L aa
   exact ⟨q, ha.sub ⟨q, q, q, q, trivial⟩, ae⟩
  have aa := if_f af aa
  refine WP_exit fun a ha => ?_
  obtain rfl := L aa
  exact zo (⟨exit_ne, q, ha.sub ⟨q, trivial⟩, ae⟩)
 intro e a5 au ao
 obtain ⟨p23, rfl⟩ : ∃ z, z = o3 := ⟨o3, q⟩
 obtain ⟨rfl, ap⟩ := ao
 obtain ⟨ha, aq⟩ := ap
 refine zn (X (S ?_ ha))
 refine rR <| qM q q q <| qA q q q <| B <| W fun a ha => ?_
 obtain rfl := L h
 exact ret1 q ha q ⟨q, aq⟩
end Go.Proofs.YtpabogkcmbkffaaGreatDoor
