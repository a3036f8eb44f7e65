/- The walks: each Go function computes its shallow function. Printed by a program. -/
import Derived.Test.YtpabogkcmbkffaaGreatDoorChecked
import Derived.Test.YtpabogkcmbkffaaGreatDoorShS7R
import Derived.Test.YtpabogkcmbkffaaGreatDoorMSt
import Derived.Test.YtpabogkcmbkffaaGreatDoorTerse
import Derived.Test.YtpabogkcmbkffaaGreatDoorAlive
import Derived.Test.YtpabogkcmbkffaaGreatDoorRetcc
set_option linter.unusedVariables false
set_option maxRecDepth 10000
set_option maxHeartbeats 8000000
namespace Go.Proofs.YtpabogkcmbkffaaGreatDoor
open Go Go.RowKit
abbrev dt1 : DT := .sl 3 (.leaf (.int .i64))
abbrev ty2 : Ty := .pair (.int .i64) (.int .i64)
abbrev dt3 : DT := .leaf ty2
abbrev ty4 : Ty := .slice ty2
abbrev dt5 : DT := .sl 57 dt3
abbrev dt6 : DT := .sl 49 dt3
abbrev ty7 : Ty := .pair (.int .i64) ty2
abbrev ty8 : Ty := .pair ty4 (.int .i64)
abbrev ty9 : Ty := .pair ty4 (.slice (.int .i64))
abbrev ty10 : Ty := .pair (.int .i64) ty7
abbrev dt11 : DT := .pair dt5 (.leaf (.int .i64))
abbrev ty12 : Ty := .pair (.int .i64) ty8
abbrev dt13 : DT := .pair dt6 dt1
abbrev ty14 : Ty := .pair (.int .i64) ty9
abbrev dt15 : DT := .pair (.leaf (.int .i64)) dt11
abbrev dt16 : DT := .pair (.leaf (.int .i64)) dt13
noncomputable def fd101 : Array Field := match Tryz.prog.underlying 101 with | some (.struct fs) => fs | _ => #[]
theorem uf101 : Tryz.prog.underlying 101 = some (.struct fd101) := by kernel_rfl
noncomputable def fd27 : Array Field := match Tryz.prog.underlying 27 with | some (.struct fs) => fs | _ => #[]
theorem uf27 : Tryz.prog.underlying 27 = some (.struct fd27) := by kernel_rfl
noncomputable def fd29 : Array Field := match Tryz.prog.underlying 29 with | some (.struct fs) => fs | _ => #[]
theorem uf29 : Tryz.prog.underlying 29 = some (.struct fd29) := by kernel_rfl
noncomputable def fd47 : Array Field := match Tryz.prog.underlying 47 with | some (.struct fs) => fs | _ => #[]
theorem uf47 : Tryz.prog.underlying 47 = some (.struct fd47) := by kernel_rfl
noncomputable def fd49 : Array Field := match Tryz.prog.underlying 49 with | some (.struct fs) => fs | _ => #[]
theorem uf49 : Tryz.prog.underlying 49 = some (.struct fd49) := by kernel_rfl
noncomputable def fd55 : Array Field := match Tryz.prog.underlying 55 with | some (.struct fs) => fs | _ => #[]
theorem uf55 : Tryz.prog.underlying 55 = some (.struct fd55) := by kernel_rfl
noncomputable def fd57 : Array Field := match Tryz.prog.underlying 57 with | some (.struct fs) => fs | _ => #[]
theorem uf57 : Tryz.prog.underlying 57 = some (.struct fd57) := by kernel_rfl
noncomputable def fd89 : Array Field := match Tryz.prog.underlying 89 with | some (.struct fs) => fs | _ => #[]
theorem uf89 : Tryz.prog.underlying 89 = some (.struct fd89) := by kernel_rfl
theorem fl49 : (Tryz.prog.fieldsOf 49).toList.map (fun f => (f.name == "_", f.type, f.offset)) = keysI 3 0 2 := by kernel_rfl
theorem fu49 : Tryz.prog.underlying 49 = some (.struct (Tryz.prog.fieldsOf 49)) := by kernel_rfl
theorem fl57 : (Tryz.prog.fieldsOf 57).toList.map (fun f => (f.name == "_", f.type, f.offset)) = keysI 3 0 2 := by kernel_rfl
theorem fu57 : Tryz.prog.underlying 57 = some (.struct (Tryz.prog.fieldsOf 57)) := by kernel_rfl
noncomputable def sd101 : TypeDesc := (Tryz.prog.underlying 101).getD .bool
theorem us101 : Tryz.prog.underlying 101 = some sd101 := by kernel_rfl
theorem uo101 : oneB sd101 = false := by kernel_rfl
noncomputable def sd27 : TypeDesc := (Tryz.prog.underlying 27).getD .bool
theorem us27 : Tryz.prog.underlying 27 = some sd27 := by kernel_rfl
theorem uo27 : oneB sd27 = false := by kernel_rfl
noncomputable def sd29 : TypeDesc := (Tryz.prog.underlying 29).getD .bool
theorem us29 : Tryz.prog.underlying 29 = some sd29 := by kernel_rfl
theorem uo29 : oneB sd29 = false := by kernel_rfl
noncomputable def sd47 : TypeDesc := (Tryz.prog.underlying 47).getD .bool
theorem us47 : Tryz.prog.underlying 47 = some sd47 := by kernel_rfl
theorem uo47 : oneB sd47 = false := by kernel_rfl
noncomputable def sd49 : TypeDesc := (Tryz.prog.underlying 49).getD .bool
theorem us49 : Tryz.prog.underlying 49 = some sd49 := by kernel_rfl
theorem uo49 : oneB sd49 = false := by kernel_rfl
noncomputable def sd55 : TypeDesc := (Tryz.prog.underlying 55).getD .bool
theorem us55 : Tryz.prog.underlying 55 = some sd55 := by kernel_rfl
theorem uo55 : oneB sd55 = false := by kernel_rfl
noncomputable def sd57 : TypeDesc := (Tryz.prog.underlying 57).getD .bool
theorem us57 : Tryz.prog.underlying 57 = some sd57 := by kernel_rfl
theorem uo57 : oneB sd57 = false := by kernel_rfl
theorem i29 : (Tryz.prog.info? 29).map (·.size) = some (Ty.size ty10) := by kernel_rfl
theorem i3 : (Tryz.prog.info? 3).map (·.size) = some (Ty.size (.int .i64)) := by kernel_rfl
theorem i45 : (Tryz.prog.info? 45).map (·.size) = some (Ty.size ty4) := by kernel_rfl
theorem i47 : (Tryz.prog.info? 47).map (·.size) = some (Ty.size ty14) := by kernel_rfl
theorem i49 : (Tryz.prog.info? 49).map (·.size) = some (Ty.size ty2) := by kernel_rfl
theorem i5 : (Tryz.prog.info? 5).map (·.size) = some (Ty.size (.int .u8)) := by kernel_rfl
theorem i55 : (Tryz.prog.info? 55).map (·.size) = some (Ty.size ty12) := by kernel_rfl
theorem i57 : (Tryz.prog.info? 57).map (·.size) = some (Ty.size ty2) := by kernel_rfl
theorem il101 : (Tryz.prog.info? 101).map (·.size) = some 2 := by kernel_rfl
theorem il23 : (Tryz.prog.info? 23).map (·.size) = some 1 := by kernel_rfl
theorem il24 : (Tryz.prog.info? 24).map (·.size) = some 1 := by kernel_rfl
theorem il25 : (Tryz.prog.info? 25).map (·.size) = some 1 := by kernel_rfl
theorem il27 : (Tryz.prog.info? 27).map (·.size) = some 5 := by kernel_rfl
theorem il29 : (Tryz.prog.info? 29).map (·.size) = some 4 := by kernel_rfl
theorem il3 : (Tryz.prog.info? 3).map (·.size) = some 1 := by kernel_rfl
theorem il45 : (Tryz.prog.info? 45).map (·.size) = some 1 := by kernel_rfl
theorem il47 : (Tryz.prog.info? 47).map (·.size) = some 3 := by kernel_rfl
theorem il49 : (Tryz.prog.info? 49).map (·.size) = some 2 := by kernel_rfl
theorem il53 : (Tryz.prog.info? 53).map (·.size) = some 1 := by kernel_rfl
theorem il55 : (Tryz.prog.info? 55).map (·.size) = some 3 := by kernel_rfl
theorem il57 : (Tryz.prog.info? 57).map (·.size) = some 2 := by kernel_rfl
theorem il94 : (Tryz.prog.info? 94).map (·.size) = some 3 := by kernel_rfl
theorem j29 : (Tryz.prog.info? 29).map (fun i => (i.zero, i.size, i.bytes)) = some (some (.agg #[.int .i64 0, .int .i64 0, .int .i64 0, .int .i64 0]), Ty.size ty10, 32) := by kernel_rfl
theorem j3 : (Tryz.prog.info? 3).map (fun i => (i.zero, i.size, i.bytes)) = some (some (.int .i64 0), Ty.size (.int .i64), 8) := by kernel_rfl
theorem j45 : (Tryz.prog.info? 45).map (fun i => (i.zero, i.size, i.bytes)) = some (some (nS), Ty.size ty4, 24) := by kernel_rfl
theorem j47 : (Tryz.prog.info? 47).map (fun i => (i.zero, i.size, i.bytes)) = some (some (.agg #[.int .i64 0, nS, nS]), Ty.size ty14, 56) := by kernel_rfl
theorem j49 : (Tryz.prog.info? 49).map (fun i => (i.zero, i.size, i.bytes)) = some (some (.agg #[.int .i64 0, .int .i64 0]), Ty.size ty2, 16) := by kernel_rfl
theorem j55 : (Tryz.prog.info? 55).map (fun i => (i.zero, i.size, i.bytes)) = some (some (.agg #[.int .i64 0, nS, .int .i64 0]), Ty.size ty12, 40) := by kernel_rfl
theorem j57 : (Tryz.prog.info? 57).map (fun i => (i.zero, i.size, i.bytes)) = some (some (.agg #[.int .i64 0, .int .i64 0]), Ty.size ty2, 16) := by kernel_rfl
theorem nz22 : (Tryz.prog.info? 22).map (fun i => Nat.beq i.size 0) = some false := by kernel_rfl
theorem nz23 : (Tryz.prog.info? 23).map (fun i => Nat.beq i.size 0) = some false := by kernel_rfl
theorem nz24 : (Tryz.prog.info? 24).map (fun i => Nat.beq i.size 0) = some false := by kernel_rfl
theorem nz25 : (Tryz.prog.info? 25).map (fun i => Nat.beq i.size 0) = some false := by kernel_rfl
theorem nz3 : (Tryz.prog.info? 3).map (fun i => Nat.beq i.size 0) = some false := by kernel_rfl
theorem nz45 : (Tryz.prog.info? 45).map (fun i => Nat.beq i.size 0) = some false := by kernel_rfl
theorem nz53 : (Tryz.prog.info? 53).map (fun i => Nat.beq i.size 0) = some false := by kernel_rfl
theorem u22 : Tryz.prog.underlying 22 = some (.slice 5) := by kernel_rfl
theorem u23 : Tryz.prog.underlying 23 = some (.slice 55) := by kernel_rfl
theorem u24 : Tryz.prog.underlying 24 = some (.slice 3) := by kernel_rfl
theorem u25 : Tryz.prog.underlying 25 = some (.slice 47) := by kernel_rfl
theorem u3 : Tryz.prog.underlying 3 = some (.int .i64) := by kernel_rfl
theorem u4 : Tryz.prog.underlying 4 = some (.bool) := by kernel_rfl
theorem u40 : Tryz.prog.underlying 40 = some (.slice 29) := by kernel_rfl
theorem u45 : Tryz.prog.underlying 45 = some (.slice 49) := by kernel_rfl
theorem u5 : Tryz.prog.underlying 5 = some (.int .u8) := by kernel_rfl
theorem u53 : Tryz.prog.underlying 53 = some (.slice 57) := by kernel_rfl
theorem u81 : Tryz.prog.underlying 81 = some (.slice 45) := by kernel_rfl
theorem u94 : Tryz.prog.underlying 94 = some (.array 3 3) := by kernel_rfl
theorem u95 : Tryz.prog.underlying 95 = some (.array 6 3) := by kernel_rfl
theorem z101 : (Tryz.prog.info? 101).map (·.zero) = some (some (.agg #[nS, nS])) := by kernel_rfl
theorem z27 : (Tryz.prog.info? 27).map (·.zero) = some (some (.agg #[nS, nS, nS, .int .i64 0, nS])) := by kernel_rfl
theorem z29 : (Tryz.prog.info? 29).map (·.zero) = some (some (.agg #[.int .i64 0, .int .i64 0, .int .i64 0, .int .i64 0])) := by kernel_rfl
theorem z47 : (Tryz.prog.info? 47).map (·.zero) = some (some (.agg #[.int .i64 0, nS, nS])) := by kernel_rfl
theorem z49 : (Tryz.prog.info? 49).map (·.zero) = some (some (.agg #[.int .i64 0, .int .i64 0])) := by kernel_rfl
theorem z55 : (Tryz.prog.info? 55).map (·.zero) = some (some (.agg #[.int .i64 0, nS, .int .i64 0])) := by kernel_rfl
theorem z57 : (Tryz.prog.info? 57).map (·.zero) = some (some (.agg #[.int .i64 0, .int .i64 0])) := by kernel_rfl
theorem z94 : (Tryz.prog.info? 94).map (·.zero) = some (some (.agg #[.int .i64 0, .int .i64 0, .int .i64 0])) := by kernel_rfl
theorem eqs49 (a0 b0 a1 b1 : Int) (w : World) : (Op.equalIn 10000 49 (.agg #[i64 a0, i64 a1]) (.agg #[i64 b0, i64 b1])).run Tryz.prog w = .ok (((a0, a1) : Int × Int) == ((b0, b1) : Int × Int)) w := by
 rw [run_equalIn_struct w 9999 49 _ _ fu49 (by kernel_rfl), run_eqFields_int (d := 9998) u3 _ _ [a0, a1] [b0, b1] _ 0 w q fl49 (fun i a h => by cases i with | zero => (simp at h; subst h; rfl) | succ i => cases i with | zero => (simp at h; subst h; rfl) | succ i => simp at h) (fun i a h => by cases i with | zero => (simp at h; subst h; rfl) | succ i => cases i with | zero => (simp at h; subst h; rfl) | succ i => simp at h)]
 congr 1
 rw [Bool.eq_iff_iff]
 simp
theorem eqs57 (a0 b0 a1 b1 : Int) (w : World) : (Op.equalIn 10000 57 (.agg #[i64 a0, i64 a1]) (.agg #[i64 b0, i64 b1])).run Tryz.prog w = .ok (((a0, a1) : Int × Int) == ((b0, b1) : Int × Int)) w := by
 rw [run_equalIn_struct w 9999 57 _ _ fu57 (by kernel_rfl), run_eqFields_int (d := 9998) u3 _ _ [a0, a1] [b0, b1] _ 0 w q fl57 (fun i a h => by cases i with | zero => (simp at h; subst h; rfl) | succ i => cases i with | zero => (simp at h; subst h; rfl) | succ i => simp at h) (fun i a h => by cases i with | zero => (simp at h; subst h; rfl) | succ i => cases i with | zero => (simp at h; subst h; rfl) | succ i => simp at h)]
 congr 1
 rw [Bool.eq_iff_iff]
 simp
theorem fi101_0 : (fd101[0]?).map (fun f => (f.type, f.offset)) = some (24, 0) := by kernel_rfl
theorem fi27_0 : (fd27[0]?).map (fun f => (f.type, f.offset)) = some (23, 0) := by kernel_rfl
theorem fi27_1 : (fd27[1]?).map (fun f => (f.type, f.offset)) = some (24, 1) := by kernel_rfl
theorem fi27_2 : (fd27[2]?).map (fun f => (f.type, f.offset)) = some (24, 2) := by kernel_rfl
theorem fi27_3 : (fd27[3]?).map (fun f => (f.type, f.offset)) = some (3, 3) := by kernel_rfl
theorem fi27_4 : (fd27[4]?).map (fun f => (f.type, f.offset)) = some (25, 4) := by kernel_rfl
theorem fi29_0 : (fd29[0]?).map (fun f => (f.type, f.offset)) = some (3, 0) := by kernel_rfl
theorem fi29_1 : (fd29[1]?).map (fun f => (f.type, f.offset)) = some (3, 1) := by kernel_rfl
theorem fi29_2 : (fd29[2]?).map (fun f => (f.type, f.offset)) = some (3, 2) := by kernel_rfl
theorem fi29_3 : (fd29[3]?).map (fun f => (f.type, f.offset)) = some (3, 3) := by kernel_rfl
theorem fi47_0 : (fd47[0]?).map (fun f => (f.type, f.offset)) = some (3, 0) := by kernel_rfl
theorem fi47_1 : (fd47[1]?).map (fun f => (f.type, f.offset)) = some (45, 1) := by kernel_rfl
theorem fi47_2 : (fd47[2]?).map (fun f => (f.type, f.offset)) = some (24, 2) := by kernel_rfl
theorem fi49_0 : (fd49[0]?).map (fun f => (f.type, f.offset)) = some (3, 0) := by kernel_rfl
theorem fi49_1 : (fd49[1]?).map (fun f => (f.type, f.offset)) = some (3, 1) := by kernel_rfl
theorem fi55_0 : (fd55[0]?).map (fun f => (f.type, f.offset)) = some (3, 0) := by kernel_rfl
theorem fi55_1 : (fd55[1]?).map (fun f => (f.type, f.offset)) = some (53, 1) := by kernel_rfl
theorem fi55_2 : (fd55[2]?).map (fun f => (f.type, f.offset)) = some (3, 2) := by kernel_rfl
theorem fi57_0 : (fd57[0]?).map (fun f => (f.type, f.offset)) = some (3, 0) := by kernel_rfl
theorem fi57_1 : (fd57[1]?).map (fun f => (f.type, f.offset)) = some (3, 1) := by kernel_rfl
theorem fi89_0 : (fd89[0]?).map (fun f => (f.type, f.offset)) = some (22, 0) := by kernel_rfl
theorem fi89_1 : (fd89[1]?).map (fun f => (f.type, f.offset)) = some (3, 1) := by kernel_rfl
theorem c10 : Callable Tryz.prog 10 := ⟨Tryz.f10, Tryz.func10, by kernel_rfl, by kernel_rfl⟩
theorem c100 : Callable Tryz.prog 100 := ⟨Tryz.f100, Tryz.func100, by kernel_rfl, by kernel_rfl⟩
theorem c101 : Callable Tryz.prog 101 := ⟨Tryz.f101, Tryz.func101, by kernel_rfl, by kernel_rfl⟩
theorem c102 : Callable Tryz.prog 102 := ⟨Tryz.f102, Tryz.func102, by kernel_rfl, by kernel_rfl⟩
theorem c103 : Callable Tryz.prog 103 := ⟨Tryz.f103, Tryz.func103, by kernel_rfl, by kernel_rfl⟩
theorem c106 : Callable Tryz.prog 106 := ⟨Tryz.f106, Tryz.func106, by kernel_rfl, by kernel_rfl⟩
theorem c107 : Callable Tryz.prog 107 := ⟨Tryz.f107, Tryz.func107, by kernel_rfl, by kernel_rfl⟩
theorem c108 : Callable Tryz.prog 108 := ⟨Tryz.f108, Tryz.func108, by kernel_rfl, by kernel_rfl⟩
theorem c109 : Callable Tryz.prog 109 := ⟨Tryz.f109, Tryz.func109, by kernel_rfl, by kernel_rfl⟩
theorem c11 : Callable Tryz.prog 11 := ⟨Tryz.f11, Tryz.func11, by kernel_rfl, by kernel_rfl⟩
theorem c110 : Callable Tryz.prog 110 := ⟨Tryz.f110, Tryz.func110, by kernel_rfl, by kernel_rfl⟩
theorem c111 : Callable Tryz.prog 111 := ⟨Tryz.f111, Tryz.func111, by kernel_rfl, by kernel_rfl⟩
theorem c112 : Callable Tryz.prog 112 := ⟨Tryz.f112, Tryz.func112, by kernel_rfl, by kernel_rfl⟩
theorem c115 : Callable Tryz.prog 115 := ⟨Tryz.f115, Tryz.func115, by kernel_rfl, by kernel_rfl⟩
theorem c120 : Callable Tryz.prog 120 := ⟨Tryz.f120, Tryz.func120, by kernel_rfl, by kernel_rfl⟩
theorem c17 : Callable Tryz.prog 17 := ⟨Tryz.f17, Tryz.func17, by kernel_rfl, by kernel_rfl⟩
theorem c18 : Callable Tryz.prog 18 := ⟨Tryz.f18, Tryz.func18, by kernel_rfl, by kernel_rfl⟩
theorem c19 : Callable Tryz.prog 19 := ⟨Tryz.f19, Tryz.func19, by kernel_rfl, by kernel_rfl⟩
theorem c20 : Callable Tryz.prog 20 := ⟨Tryz.f20, Tryz.func20, by kernel_rfl, by kernel_rfl⟩
theorem c21 : Callable Tryz.prog 21 := ⟨Tryz.f21, Tryz.func21, by kernel_rfl, by kernel_rfl⟩
theorem c22 : Callable Tryz.prog 22 := ⟨Tryz.f22, Tryz.func22, by kernel_rfl, by kernel_rfl⟩
theorem c23 : Callable Tryz.prog 23 := ⟨Tryz.f23, Tryz.func23, by kernel_rfl, by kernel_rfl⟩
theorem c24 : Callable Tryz.prog 24 := ⟨Tryz.f24, Tryz.func24, by kernel_rfl, by kernel_rfl⟩
theorem c25 : Callable Tryz.prog 25 := ⟨Tryz.f25, Tryz.func25, by kernel_rfl, by kernel_rfl⟩
theorem c26 : Callable Tryz.prog 26 := ⟨Tryz.f26, Tryz.func26, by kernel_rfl, by kernel_rfl⟩
theorem c27 : Callable Tryz.prog 27 := ⟨Tryz.f27, Tryz.func27, by kernel_rfl, by kernel_rfl⟩
theorem c28 : Callable Tryz.prog 28 := ⟨Tryz.f28, Tryz.func28, by kernel_rfl, by kernel_rfl⟩
theorem c29 : Callable Tryz.prog 29 := ⟨Tryz.f29, Tryz.func29, by kernel_rfl, by kernel_rfl⟩
theorem c30 : Callable Tryz.prog 30 := ⟨Tryz.f30, Tryz.func30, by kernel_rfl, by kernel_rfl⟩
theorem c31 : Callable Tryz.prog 31 := ⟨Tryz.f31, Tryz.func31, by kernel_rfl, by kernel_rfl⟩
theorem c32 : Callable Tryz.prog 32 := ⟨Tryz.f32, Tryz.func32, by kernel_rfl, by kernel_rfl⟩
theorem c33 : Callable Tryz.prog 33 := ⟨Tryz.f33, Tryz.func33, by kernel_rfl, by kernel_rfl⟩
theorem c34 : Callable Tryz.prog 34 := ⟨Tryz.f34, Tryz.func34, by kernel_rfl, by kernel_rfl⟩
theorem c35 : Callable Tryz.prog 35 := ⟨Tryz.f35, Tryz.func35, by kernel_rfl, by kernel_rfl⟩
theorem c36 : Callable Tryz.prog 36 := ⟨Tryz.f36, Tryz.func36, by kernel_rfl, by kernel_rfl⟩
theorem c37 : Callable Tryz.prog 37 := ⟨Tryz.f37, Tryz.func37, by kernel_rfl, by kernel_rfl⟩
theorem c38 : Callable Tryz.prog 38 := ⟨Tryz.f38, Tryz.func38, by kernel_rfl, by kernel_rfl⟩
theorem c39 : Callable Tryz.prog 39 := ⟨Tryz.f39, Tryz.func39, by kernel_rfl, by kernel_rfl⟩
theorem c40 : Callable Tryz.prog 40 := ⟨Tryz.f40, Tryz.func40, by kernel_rfl, by kernel_rfl⟩
theorem c41 : Callable Tryz.prog 41 := ⟨Tryz.f41, Tryz.func41, by kernel_rfl, by kernel_rfl⟩
theorem c42 : Callable Tryz.prog 42 := ⟨Tryz.f42, Tryz.func42, by kernel_rfl, by kernel_rfl⟩
theorem c43 : Callable Tryz.prog 43 := ⟨Tryz.f43, Tryz.func43, by kernel_rfl, by kernel_rfl⟩
theorem c45 : Callable Tryz.prog 45 := ⟨Tryz.f45, Tryz.func45, by kernel_rfl, by kernel_rfl⟩
theorem c47 : Callable Tryz.prog 47 := ⟨Tryz.f47, Tryz.func47, by kernel_rfl, by kernel_rfl⟩
theorem c49 : Callable Tryz.prog 49 := ⟨Tryz.f49, Tryz.func49, by kernel_rfl, by kernel_rfl⟩
theorem c50 : Callable Tryz.prog 50 := ⟨Tryz.f50, Tryz.func50, by kernel_rfl, by kernel_rfl⟩
theorem c51 : Callable Tryz.prog 51 := ⟨Tryz.f51, Tryz.func51, by kernel_rfl, by kernel_rfl⟩
theorem c52 : Callable Tryz.prog 52 := ⟨Tryz.f52, Tryz.func52, by kernel_rfl, by kernel_rfl⟩
theorem c53 : Callable Tryz.prog 53 := ⟨Tryz.f53, Tryz.func53, by kernel_rfl, by kernel_rfl⟩
theorem c54 : Callable Tryz.prog 54 := ⟨Tryz.f54, Tryz.func54, by kernel_rfl, by kernel_rfl⟩
theorem c55 : Callable Tryz.prog 55 := ⟨Tryz.f55, Tryz.func55, by kernel_rfl, by kernel_rfl⟩
theorem c56 : Callable Tryz.prog 56 := ⟨Tryz.f56, Tryz.func56, by kernel_rfl, by kernel_rfl⟩
theorem c57 : Callable Tryz.prog 57 := ⟨Tryz.f57, Tryz.func57, by kernel_rfl, by kernel_rfl⟩
theorem c58 : Callable Tryz.prog 58 := ⟨Tryz.f58, Tryz.func58, by kernel_rfl, by kernel_rfl⟩
theorem c59 : Callable Tryz.prog 59 := ⟨Tryz.f59, Tryz.func59, by kernel_rfl, by kernel_rfl⟩
theorem c60 : Callable Tryz.prog 60 := ⟨Tryz.f60, Tryz.func60, by kernel_rfl, by kernel_rfl⟩
theorem c61 : Callable Tryz.prog 61 := ⟨Tryz.f61, Tryz.func61, by kernel_rfl, by kernel_rfl⟩
theorem c62 : Callable Tryz.prog 62 := ⟨Tryz.f62, Tryz.func62, by kernel_rfl, by kernel_rfl⟩
theorem c63 : Callable Tryz.prog 63 := ⟨Tryz.f63, Tryz.func63, by kernel_rfl, by kernel_rfl⟩
theorem c64 : Callable Tryz.prog 64 := ⟨Tryz.f64, Tryz.func64, by kernel_rfl, by kernel_rfl⟩
theorem c65 : Callable Tryz.prog 65 := ⟨Tryz.f65, Tryz.func65, by kernel_rfl, by kernel_rfl⟩
theorem c66 : Callable Tryz.prog 66 := ⟨Tryz.f66, Tryz.func66, by kernel_rfl, by kernel_rfl⟩
theorem c67 : Callable Tryz.prog 67 := ⟨Tryz.f67, Tryz.func67, by kernel_rfl, by kernel_rfl⟩
theorem c68 : Callable Tryz.prog 68 := ⟨Tryz.f68, Tryz.func68, by kernel_rfl, by kernel_rfl⟩
theorem c69 : Callable Tryz.prog 69 := ⟨Tryz.f69, Tryz.func69, by kernel_rfl, by kernel_rfl⟩
theorem c7 : Callable Tryz.prog 7 := ⟨Tryz.f7, Tryz.func7, by kernel_rfl, by kernel_rfl⟩
theorem c70 : Callable Tryz.prog 70 := ⟨Tryz.f70, Tryz.func70, by kernel_rfl, by kernel_rfl⟩
theorem c71 : Callable Tryz.prog 71 := ⟨Tryz.f71, Tryz.func71, by kernel_rfl, by kernel_rfl⟩
theorem c72 : Callable Tryz.prog 72 := ⟨Tryz.f72, Tryz.func72, by kernel_rfl, by kernel_rfl⟩
theorem c73 : Callable Tryz.prog 73 := ⟨Tryz.f73, Tryz.func73, by kernel_rfl, by kernel_rfl⟩
theorem c74 : Callable Tryz.prog 74 := ⟨Tryz.f74, Tryz.func74, by kernel_rfl, by kernel_rfl⟩
theorem c75 : Callable Tryz.prog 75 := ⟨Tryz.f75, Tryz.func75, by kernel_rfl, by kernel_rfl⟩
theorem c76 : Callable Tryz.prog 76 := ⟨Tryz.f76, Tryz.func76, by kernel_rfl, by kernel_rfl⟩
theorem c77 : Callable Tryz.prog 77 := ⟨Tryz.f77, Tryz.func77, by kernel_rfl, by kernel_rfl⟩
theorem c78 : Callable Tryz.prog 78 := ⟨Tryz.f78, Tryz.func78, by kernel_rfl, by kernel_rfl⟩
theorem c8 : Callable Tryz.prog 8 := ⟨Tryz.f8, Tryz.func8, by kernel_rfl, by kernel_rfl⟩
theorem c83 : Callable Tryz.prog 83 := ⟨Tryz.f83, Tryz.func83, by kernel_rfl, by kernel_rfl⟩
theorem c84 : Callable Tryz.prog 84 := ⟨Tryz.f84, Tryz.func84, by kernel_rfl, by kernel_rfl⟩
theorem c85 : Callable Tryz.prog 85 := ⟨Tryz.f85, Tryz.func85, by kernel_rfl, by kernel_rfl⟩
theorem c86 : Callable Tryz.prog 86 := ⟨Tryz.f86, Tryz.func86, by kernel_rfl, by kernel_rfl⟩
theorem c87 : Callable Tryz.prog 87 := ⟨Tryz.f87, Tryz.func87, by kernel_rfl, by kernel_rfl⟩
theorem c88 : Callable Tryz.prog 88 := ⟨Tryz.f88, Tryz.func88, by kernel_rfl, by kernel_rfl⟩
theorem c89 : Callable Tryz.prog 89 := ⟨Tryz.f89, Tryz.func89, by kernel_rfl, by kernel_rfl⟩
theorem c9 : Callable Tryz.prog 9 := ⟨Tryz.f9, Tryz.func9, by kernel_rfl, by kernel_rfl⟩
theorem c90 : Callable Tryz.prog 90 := ⟨Tryz.f90, Tryz.func90, by kernel_rfl, by kernel_rfl⟩
theorem c91 : Callable Tryz.prog 91 := ⟨Tryz.f91, Tryz.func91, by kernel_rfl, by kernel_rfl⟩
theorem c92 : Callable Tryz.prog 92 := ⟨Tryz.f92, Tryz.func92, by kernel_rfl, by kernel_rfl⟩
theorem c93 : Callable Tryz.prog 93 := ⟨Tryz.f93, Tryz.func93, by kernel_rfl, by kernel_rfl⟩
theorem c94 : Callable Tryz.prog 94 := ⟨Tryz.f94, Tryz.func94, by kernel_rfl, by kernel_rfl⟩
theorem c95 : Callable Tryz.prog 95 := ⟨Tryz.f95, Tryz.func95, by kernel_rfl, by kernel_rfl⟩
theorem c96 : Callable Tryz.prog 96 := ⟨Tryz.f96, Tryz.func96, by kernel_rfl, by kernel_rfl⟩
theorem c97 : Callable Tryz.prog 97 := ⟨Tryz.f97, Tryz.func97, by kernel_rfl, by kernel_rfl⟩
theorem c98 : Callable Tryz.prog 98 := ⟨Tryz.f98, Tryz.func98, by kernel_rfl, by kernel_rfl⟩
theorem c99 : Callable Tryz.prog 99 := ⟨Tryz.f99, Tryz.func99, by kernel_rfl, by kernel_rfl⟩
theorem w_spec_l20Open {w : World} {G : List Res} {vp0 : Value} {p0 : List Int} (hp0 : HasRo G (.int .u8) vp0 p0) {r : ((List Int) × Int)} (h : spec_l20OpenS p0 = some r) (H : Ctx w G) : Calls Tryz.prog 23 #[vp0] w fun e w' => ∃ (v1 : Value) (b2 : Nat), e = .returned (pB b2) ∧ Holds M0 w w' [.ro (.int .u8) v1 r.1, .bx b2 89 [v1, iV r.2]] G := by
 refine E0 (n := 11) H Tryz.func23 q q q fun H => ?_
 unfold spec_l20OpenS at h
 refine rR <| qA q q q <| B <| C <| rR <| qM q q q <| za H.ctx (t := (.int .u8)) (hp0.has) u22 q q q <| A q (qt_gtr q q) q q <| B <| O h fun j1 aa h => ?_
 refine WP_join (M := fun a w2 => ∃ ab, Fr a 11 [(0, ab)] ∧ Holds M0 w w2 [.ro (.int .u8) ab j1] G) ?_ ?_
 ·refine Yh q aa (fun aa => ?_) (fun aa => ?_)
  ·refine Z <| qM q q q <| O aa fun x4 ad aa => XL_sliceH H.ctx (hp0.has) ad u22 i5 q ⟨_, q⟩ q q q <| qA q q q <| WL_nil fun a ha => ?_
   obtain rfl := L aa
   have H6 : Holds _ w w [.ro (.int .u8) (subV (Ty.size (.int .u8)) vp0 (Int.toNat 0) (Int.toNat 2000)) x4] G := H.dup (HasRo.sub (hp0) ad)
   exact X (⟨(subV (Ty.size (.int .u8)) vp0 (Int.toNat 0) (Int.toNat 2000)), ha.s, H6⟩)
  refine WP_skip fun a ha => ?_
  obtain rfl := L aa
  have H7 : Holds _ w w [.ro (.int .u8) vp0 p0] G := H.dup (hp0)
  exact X (⟨vp0, ha.s, H7⟩)
 rintro a w8 ⟨ab, ha, ae⟩
 refine S1 ha <| rR <| qM q q q <| A q (qt_build (args := [(0, .tmp 8)]) (css := [#[ab]]) (cells := #[ab, iV 0]) q ⟨(ae.ctx.sliceCells hR0), trivial⟩ (by kernel_rfl)) q q <| WL_box (cs := [ab, iV 0]) ae q q q q fun af aj ag => qA q q q <| B <| W fun a ha => ?_
 cases h
 have ah := ag.p1
 exact ret1 q ha q ⟨ab, af, q, ah⟩
theorem w_spec_l20Rd__pick {w : World} {G : List Res} {bp0 : Nat} {A0 : Value} {B0 : List Int} (C0 : Has G (.int .u8) A0 B0) {B1 : Int} {p1 : Int} {r : Int × Int} (h : spec_l20Rd__pickS B0 B1 p1 = some r) (H : Ctx w ([.bx bp0 89 [A0, iV B1]] ++ G)) : Calls Tryz.prog 60 #[pB bp0, iV p1] w fun e w' => e = .returned (iV r.2) ∧ Holds (([.bx bp0 89 [A0, iV B1]] : List Res).flatMap Res.own) w w' [.bx bp0 89 [A0, iV r.1]] G := by
 refine E1 (n := 99) H Tryz.func60 q q q fun H => ?_
 unfold spec_l20Rd__pickS at h
 refine rR <| qA q q q <| rN <| qM q q q <| qM q q q <| qN q q q <| qF uf89 fi89_1 nz3 q q q <| l u3 q (R H.p0) q q q q <| A q (qt_add q q) q q <| qN q q q <| qF uf89 fi89_1 nz3 q q q <| WL_store_bx H q il3 q q q q q fun w2 H3 => B <| C <| rR <| qM q q q <| A q (qt_lss q q) q q <| qM q q q ?_
 refine Ho (res := ((decide (p1 < 1)) || ((List.length B0 : Int) == 0))) 6 os (fun aa K6 af => ?_) ?_
 ·exact qM (J q aa) q q <| qN (J q aa) q q <| qF uf89 fi89_0 nz22 (J q aa) q q <| l u22 q (R H3.p0) q (J q aa) q q <| za H3.ctx (t := (.int .u8)) (C0.c) u22 (J q aa) q q <| A (J q aa) (qt_eql q q) q q <| af 6 q q q (oi aa)
 refine B ?_
 refine Yh q h (fun h => ?_) (fun h => ?_)
 ·refine rR <| qA q q q <| B <| W fun a ha => ?_
  cases h
  exact m (ret1 q ha q ⟨q, H3⟩)
 refine y <| rR <| qM q q q <| qN q q q <| qF uf89 fi89_1 nz3 q q q <| l u3 q (R H3.p0) q q q q <| A q (qt_sub q q) q q <| qA q q q <| B <| C <| rR <| qM q q q <| qM q q q <| qN q q q <| qF uf89 fi89_0 nz22 q q q <| l u22 q (R H3.p0) q q q q <| za H3.ctx (t := (.int .u8)) (C0.c) u22 q q q <| A q (qt_lss q q) q q <| B ?_
 refine Yh q h (fun h => ?_) (fun h => ?_)
 ·refine rR <| qM q q q <| qN q q q <| qF uf89 fi89_0 nz22 q q q <| l u22 q (R H3.p0) q q q q <| qM q q q <| O h fun av ab h => b H3.ctx (C0.c) ab u22 i5 q q q q fun aw ax ay ag => lI u5 q (H3.el (C0.c) ab ag) q q q <| A q (qt_int u3 q u5) q q <| qM q q q <| O h fun az ah h => A q (qt_remO q q ah) q q <| qA q q q <| B <| W fun a ha => ?_
  cases h
  exact m (ret1 q ha q ⟨q, H3⟩)
 refine y <| C <| WP_quiet (by kernel_rfl) (by kernel_rfl) <| qM q q q <| qN q q q <| qF uf89 fi89_0 nz22 q q q <| l u22 q (R H3.p0) q q q q <| qM q q q <| qM q q q <| qN q q q <| qF uf89 fi89_0 nz22 q q q <| l u22 q (R H3.p0) q q q q <| za H3.ctx (t := (.int .u8)) (C0.c) u22 q q q <| O h fun aA aj h => A q (qt_remO q q aj) q q <| O h fun aB ad h => b H3.ctx (C0.c) ad u22 i5 q q q q fun aC aD aE ak => lI u5 q (H3.el (C0.c) ad ak) q q q <| A q (qt_int u3 q u5) q q <| A q (qt_mul q q) q q <| qM q q q <| qN q q q <| qF uf89 fi89_0 nz22 q q q <| l u22 q (R H3.p0) q q q q <| qM q q q <| A q (qt_mul q q) q q <| A q (qt_add q q) q q <| qM q q q <| qN q q q <| qF uf89 fi89_0 nz22 q q q <| l u22 q (R H3.p0) q q q q <| za H3.ctx (t := (.int .u8)) (C0.c) u22 q q q <| O h fun aF al h => A q (qt_remO q q al) q q <| O h fun aG ae h => b H3.ctx (C0.c) ae u22 i5 q q q q fun aH aI aJ am => lI u5 q (H3.el (C0.c) ae am) q q q <| A q (qt_int u3 q u5) q q <| A q (qt_mul q q) q q <| A q (qt_add q q) q q <| qM q q q <| A q (qt_mul q q) q q <| O h fun aK ao h => XL_qe q (qt_add q q) (vi ao) q q <| qM q q q <| qM q q q ?_
 refine qN q q q <| qF uf89 fi89_0 nz22 q q q <| l u22 q (R H3.p0) q q q q <| za H3.ctx (t := (.int .u8)) (C0.c) u22 q q q <| O h fun aL ap h => A q (qt_quoO q q ap) q q <| A q (qt_mul q q) q q <| A q (qt_add q q) q q <| qA q q q <| Qn H3 fun a ha aM aq => X <| S1 ha <| rR <| qM q q q <| qM q q q <| A q (qt_quo q q (by decide)) q q <| O h fun aN ar h => XL_qe q (qt_xor q q) (vi ar) q q <| qA q q q <| B <| C <| Z <| qM q q q <| qM q q q <| O h fun aO au h => A q (qt_remO q q au) q q <| qA q q q <| B <| W fun a ha => ?_
 cases h
 exact ret1 q ha q ⟨q, aq⟩
theorem w_spec_l20Rd__odd {w : World} {G : List Res} {bp0 : Nat} {A0 : Value} {B0 : List Int} (C0 : Has G (.int .u8) A0 B0) {B1 : Int} {p1 : Int} {r : Int × Bool} (h : spec_l20Rd__oddS B0 B1 p1 = some r) (H : Ctx w ([.bx bp0 89 [A0, iV B1]] ++ G)) : Calls Tryz.prog 61 #[pB bp0, iV p1] w fun e w' => e = .returned (.bool r.2) ∧ Holds (([.bx bp0 89 [A0, iV B1]] : List Res).flatMap Res.own) w w' [.bx bp0 89 [A0, iV r.1]] G := by
 refine E1 (n := 15) H Tryz.func61 q q q fun H => ?_
 unfold spec_l20Rd__oddS at h
 refine rR <| qA q q q <| rN <| qM q q q <| A q (qt_gtr q q) q q <| qM q q q <| O h fun o3 ab h => ?_
 obtain ⟨g1, b2⟩ := o3
 refine WL_cutM 7 (fun a w2 => (Fr a 15 [(0, pB bp0), (14, .bool b2)] ∧ Holds (([.bx bp0 89 [A0, iV B1]] : List Res).flatMap Res.own) w w2 [.bx bp0 89 [A0, iV g1]] G)) ?_ ?_
 ·rcases btf (decide (p1 > 0)) with aa | aa
  ·refine have ab := if_t aa ab; qM (J q aa) q q <| qM (J q aa) q q <| O ab fun x6 ad ab => V0 (J q aa) q c60 (w_spec_l20Rd__pick (C0) ad H.ctx) q fun w8 H9 => have ae := H.cN1 [_] H9; qM (J q aa) q q <| A (J q aa) (qt_sub q q) q q <| A (J q aa) (qt_eql q q) q q <| A q (ze q aa q) q q <| WL_nil fun a ha => ?_
   obtain ⟨rfl, rfl⟩ := L ab |> Prod.mk.inj
   exact X ⟨ha.s, ae⟩
  refine have ab := if_f aa ab; qS q aa q q <| qS q aa q q <| qS q aa q q <| qS q aa q q <| qS q aa q q <| qS q aa q q <| A q (zf q aa q) q q <| WL_nil fun a ha => ?_
  obtain ⟨rfl, rfl⟩ := L ab |> Prod.mk.inj
  exact X ⟨ha.s, H⟩
 intro a ah af
 obtain ⟨ha, ag⟩ := af
 refine SL_app ?_ ha
 clear ha
 refine qA q q q <| B <| W fun a ha => ?_
 cases h
 exact ret1 q ha q ⟨q, ag⟩
theorem w_spec_l20Item {w : World} {G : List Res} {bp0 : Nat} {A0 : Value} {B0 : List Int} (C0 : Has G (.int .u8) A0 B0) {B1 : Int} {p1 : Int} {p2 : Int} {r : Int × (Int × LP × Int)} (h : spec_l20ItemS B0 B1 p1 p2 = some r) (H : Ctx w ([.bx bp0 89 [A0, iV B1]] ++ G)) : Calls Tryz.prog 90 #[pB bp0, iV p1, iV p2] w fun e w' => ∃ (v1 : Value), e = .returned (.agg #[iV r.2.1, v1, iV r.2.2.2]) ∧ Holds (([.bx bp0 89 [A0, iV B1]] : List Res).flatMap Res.own) w w' [.sl 57 ty2 v1 r.2.2.1, .bx bp0 89 [A0, iV r.1]] G := by
 refine E1 (n := 94) H Tryz.func90 q q q fun H => ?_
 unfold spec_l20ItemS at h
 refine C <| Z <| zq (cs := [iV 0, nS, iV 0]) H z55 q q q fun b1 w2 H3 => rN <| qM q q q <| have H7 := H3.p1; O h fun x5 aY h => V0 q q c60 (w_spec_l20Rd__pick (C0.c) aY H7.ctx) q fun w8 H9 => have aJ := H7.cN1 [_] H9; qM q q q <| O h fun ag aZ h => V0 q q c60 (w_spec_l20Rd__pick (C0.c) aZ aJ.ctx) q fun cr a0 => have a1 := aJ.cN1 [_] a0; A q (qt_mul q q) q q <| A q (qt_build (args := [(2, .tmp 13)]) (css := [#[iV (IntKind.wrap .i64 (x5.2 * ag.2))]]) (cells := #[iV 0, nS, iV (IntKind.wrap .i64 (x5.2 * ag.2))]) q ⟨q, trivial⟩ (by kernel_rfl)) q q <| zq (cs := [iV 0, nS, iV 0]) a1 z55 q q q fun ad ct a2 => zl (cs' := [iV 0, nS, iV (IntKind.wrap .i64 (x5.2 * ag.2))]) a2 q il55 q q q q q fun cu aK => B <| C <| rR <| qM q q q <| A q (qt_gtr q q) q q <| qM q q q <| O h fun a3 al h => ?_
 obtain ⟨a4, a5⟩ := a3
 refine WL_cutM 4 (fun a w2 => (Fr a 94 [(0, pB bp0), (1, iV p1), (2, iV p2), (6, pB b1), (7, pB ad), (21, .bool a5)] ∧ Holds (([.bx bp0 89 [A0, iV B1]] : List Res).flatMap Res.own) w w2 [.bx bp0 89 [A0, iV a4], .bx b1 55 [iV 0, nS, iV 0], .bx ad 55 [iV 0, nS, iV (IntKind.wrap .i64 (x5.2 * ag.2))]] G)) ?_ ?_
 ·rcases btf (decide (p1 > 0)) with ae | ae
  ·refine have al := if_t ae al; qM (J q ae) q q <| have aL := aK.p1; O al fun cv a6 al => V0 (J q ae) q c60 (w_spec_l20Rd__pick (C0.c.c) a6 aL.ctx) q fun cw a7 => have a8 := aL.cN1 [_] a7; A (J q ae) (qt_gtr q q) q q <| A q (ze q ae q) q q <| WL_nil fun a ha => ?_
   obtain ⟨rfl, rfl⟩ := L al |> Prod.mk.inj
   have a9 := a8.p1.p2.p2
   exact X ⟨ha.s, a9⟩
  refine have al := if_f ae al; qS q ae q q <| qS q ae q q <| qS q ae q q <| A q (zf q ae q) q q <| WL_nil fun a ha => ?_
  obtain ⟨rfl, rfl⟩ := L al |> Prod.mk.inj
  have ba := aK.p2.p2
  exact X ⟨ha.s, ba⟩
 intro a cx bb
 obtain ⟨ha, aB⟩ := bb
 refine SL_app ?_ ha
 clear ha
 refine B <| O h fun bc ah h => ?_
 obtain ⟨bd, be, bf⟩ := bc
 refine WP_join (M := fun a w2 => ∃ ao, Fr a 94 [(0, pB bp0), (1, iV p1), (2, iV p2), (6, pB b1), (7, pB ad)] ∧ Holds (([.bx bp0 89 [A0, iV B1]] : List Res).flatMap Res.own) w w2 [.bx bp0 89 [A0, iV bd], .bx b1 55 [iV 0, nS, iV 0], .bx ad 55 [iV be, ao, iV (IntKind.wrap .i64 (x5.2 * ag.2))], .sl 57 ty2 ao bf] G) ?_ ?_
 ·refine Yh q ah (fun ah => ?_) (fun ah => ?_)
  ·refine rR <| qM q q q <| O ah fun aq bg ah => V0 q q c60 (w_spec_l20Rd__pick (C0.c.c) bg aB.ctx) q fun cy bh => have bi := aB.cN1 [_] bh; A q (qt_add q q) q q <| qF uf55 fi55_0 nz3 q q q <| have bj := bi.p2; WL_store_bx bj q il3 q q q q q fun cz bk => rN <| qA q q q <| B <| g <| have bl := bk.nS 57 ty2; O ah fun bm bn ah => have bo := bl.p1.p3.p3; ?_
   refine fun cA bp => zp (I := fun s a w2 => match s with | (aj, aM, ak) => ∃ af, Fr a 94 [(0, pB bp0), (1, iV p1), (2, iV p2), (6, pB b1), (7, pB ad), (8, iV aj)] ∧ Holds (([.bx bp0 89 [A0, iV B1]] : List Res).flatMap Res.own) w w2 [.bx bp0 89 [A0, iV aM], .bx b1 55 [iV 0, nS, iV 0], .bx ad 55 [iV (IntKind.wrap .i64 (1 + aq.2)), af, iV (IntKind.wrap .i64 (x5.2 * ag.2))], .sl 57 ty2 af ak] G) (O := fun o e a w2 => match o with | (q0, q1) => e = .exit 0 ∧ ∃ aN, Fr a 94 [(0, pB bp0), (1, iV p1), (2, iV p2), (6, pB b1), (7, pB ad)] ∧ Holds (([.bx bp0 89 [A0, iV B1]] : List Res).flatMap Res.own) w w2 [.bx bp0 89 [A0, iV q0], .bx b1 55 [iV 0, nS, iV 0], .bx ad 55 [iV (IntKind.wrap .i64 (1 + aq.2)), aN, iV (IntKind.wrap .i64 (x5.2 * ag.2))], .sl 57 ty2 aN q1] G) bn ?_ ?_ ?_
   ·exact ⟨(nS), bp.s, bo⟩
   ·rintro ⟨aj, aM, ak⟩ _ a cB ab ⟨af, ha, ar⟩
    refine S1 ha <| C <| rR <| qM q q q <| qM q q q <| A q (qt_lss q q) q q <| qM q q q ?_
    refine Ha (res := ((decide (aj < p1)) && (decide ((List.length ak : Int) < 3)))) 4 an (fun au cC bq => ?_) ?_
    ·exact qF uf55 fi55_1 nz53 (J q au) q q <| l u53 q (R ar.p2) q (J q au) q q <| za ar.ctx (t := ty2) hS3 u53 (J q au) q q <| A (J q au) (qt_lss q q) q q <| bq 4 q q q (ai au)
    refine B ?_
    refine Yh q ab (fun ab => ?_) (fun ab => ?_)
    ·refine y <| C <| g <| rR <| qM q q q <| O ab fun av br ab => V0 q q c60 (w_spec_l20Rd__pick (C0.c.c.c) br ar.ctx) q fun cD bs => have ay := ar.cN1 [_] bs; A q (qt_eql q q) q q <| qM q q q ?_
     refine Ho (res := ((av.2 == 0) || ((aj == (IntKind.wrap .i64 (p1 - 1))) && ((List.length ak : Int) == 0)))) 10 os (fun am cE bt => ?_) ?_
     ·refine qM (J q am) q q <| qM (J q am) q q <| A (J q am) (qt_sub q q) q q <| A (J q am) (qt_eql q q) q q <| qM (J q am) q q ?_
      refine Ha (res := ((aj == (IntKind.wrap .i64 (p1 - 1))) && ((List.length ak : Int) == 0))) (hw := (J q am)) 4 an (fun aw cF bu => ?_) ?_
      ·exact qF uf55 fi55_1 nz53 (J q aw) q q <| l u53 q (R ay.p2) q (J q aw) q q <| za ay.ctx (t := ty2) hS3 u53 (J q aw) q q <| A (J q aw) (qt_eql q q) q q <| bu 4 q q q (ai aw)
      exact bt 6 q q q (oi am)
     refine B ?_
     refine Yh q ab (fun ab => ?_) (fun ab => ?_)
     ·refine O ab fun az bv ab => O ab fun bw bz ab => ?_
      refine WP_mid (Mid := fun a w2 => ∃ aA, Fr a 94 [(0, pB bp0), (1, iV p1), (2, iV p2), (6, pB b1), (7, pB ad), (8, iV aj)] ∧ Holds (([.bx bp0 89 [A0, iV B1]] : List Res).flatMap Res.own) w w2 [.bx bp0 89 [A0, iV az.1], .bx b1 55 [iV 0, nS, iV 0], .bx ad 55 [iV (IntKind.wrap .i64 (1 + aq.2)), aA, iV (IntKind.wrap .i64 (x5.2 * ag.2))], .sl 57 ty2 aA bw] G) ?_ ?_
      ·refine WP_ordersT (fun w1 w2 => Chg (([.bx bp0 89 [A0, iV av.1], .sl 57 ty2 af ak] : List Res).flatMap Res.own) w1 w2) 9 (by kernel_rfl) fun aC bA => have bB := ay.grow bA; have bC := bB.p3; have aO := bC.p1; ?_
       have aP : Ctx aC ([.bx bp0 89 [A0, iV av.1], .sl 57 ty2 af ak] ++ ([.bx b1 55 [iV 0, nS, iV 0], .bx ad 55 [iV (IntKind.wrap .i64 (1 + aq.2)), af, iV (IntKind.wrap .i64 (x5.2 * ag.2))]] ++ G)) := aO.ctx
       have bD : Holds _ aC aC [.bx bp0 89 [A0, iV av.1], .sl 57 ty2 af ak] ([.bx b1 55 [iV 0, nS, iV 0], .bx ad 55 [iV (IntKind.wrap .i64 (1 + aq.2)), af, iV (IntKind.wrap .i64 (x5.2 * ag.2))]] ++ G) := zb (Rs := [.bx bp0 89 [A0, iV av.1], .sl 57 ty2 af ak]) aP
       refine have Hc := bD; XQ (i := 0) q (by kernel_rfl) q Hc.chg q (fun _ => qt_fieldAddr uf55 fi55_1 nz53 q) q q <| have bE := HasB.bx (HasB.c (HasB.c (HasB.c (HasB.hd)))) Hc.ctx; XT (i := 1) q (by kernel_rfl) q Hc.chg q (qs_cell u53 q q (bE.cell (i := 1) q) Hc.chg (Ctx.outB aP (HasB.c (HasB.hd)))) q q <| XQ (i := 2) q (by kernel_rfl) q Hc.chg q (fun _ => qt_move q) q q <| XQ (i := 3) q (by kernel_rfl) q Hc.chg q (fun _ => qt_move q) q q ?_
       repeat' first
        | refine XDo 4 q <| V0 q q c60 (w_spec_l20Rd__pick (C0.c.c.c) bv Hc.ctx) q fun _ HK => ?_; have Hc := Hc.cN1 [_] HK; refine XN Hc.chg <| XQ (i := 5) q (by kernel_rfl) q Hc.chg q (fun _ => qt_add q q) q q <| XQ (i := 6) q (by kernel_rfl) q Hc.chg q (fun _ => qt_build (args := [(0, .tmp 54), (1, .tmp 57)]) (css := [#[iV aj], #[iV (IntKind.wrap .i64 (1 + az.2))]]) (cells := #[iV aj, iV (IntKind.wrap .i64 (1 + az.2))]) q ⟨q, q, trivial⟩ (by kernel_rfl)) q q ?_
        | refine XDo 7 q ?_; refine zs (t := ty2) (args := [.tmp 58]) (xs := ([(aj, IntKind.wrap .i64 (1 + az.2))] : LP)) Hc (BltL.cons (Blt.pair (Blt.int) (Blt.int)) q (BltL.nil)) u53 j57 q q q q q q (fun cG _ Hc => ?_); refine XN Hc.chg ?_
        | refine XDo 8 q ?_; have Hc := Hc.p2; refine zw Hc hS1 bz u53 j57 q q q q q q (fun bF _ Hc => ?_); refine XN Hc.chg ?_
        | have Hc := aO.cN3 [_, _] Hc; refine XDo 9 q <| qF uf55 fi55_1 nz53 q q q <| XE q ?_
        | refine XDo 10 q ?_; have Hc := Hc.p4; refine WL_store_bx Hc q il53 (Hc.ctx.sliceCells hS1) (Hc.ctx.sliceOne hS1) q q q (fun _ Hc => ?_); refine XE q ?_
        | refine XV [4] (by decide +kernel) q (allc ?_ alln)
        | refine XV [7] (by decide +kernel) q (allc ?_ alln)
        | refine XV [8] (by decide +kernel) q (allc ?_ alln)
        | refine XV [9] (by decide +kernel) q (allc ?_ alln)
        | refine XV [10] (by decide +kernel) q (allc ?_ alln)
        | refine XC_done (by decide +kernel) (fun a ha => ?_); have Hc := (((((Hc.q2).p1).p1).p3).p3); exact ⟨bF, ha.s, Hc⟩
      rintro a cH ⟨aA, ha, bG⟩
      refine zi <| X <| S1 ha <| Z <| qM q q q <| A q (qt_add q q) q q <| qA q q q <| WL_nil fun a ha => ?_
      cases ab
      have bH := bG.p3.p3.p3.p3
      exact ⟨q, aA, ha.s, bH⟩
     refine WP_skip fun a ha => zi <| X <| S1 ha <| Z <| qM q q q <| A q (qt_add q q) q q <| qA q q q <| WL_nil fun a ha => ?_
     cases ab
     have bI := ay.p3.p3.p3.p3
     exact ⟨q, af, ha.s, bI⟩
    refine WP_exit fun a ha => ?_
    cases ab
    have bJ := ar.p3.p3.p3.p3
    exact zo (⟨exit_ne, q, af, ha.s, bJ⟩)
   obtain ⟨cI, cJ⟩ := bm
   rintro _ a cK ⟨rfl, bK, ha, bL⟩
   obtain ⟨rfl, rfl, rfl⟩ := (by simpa only [Option.some.injEq, Prod.mk.injEq] using ah : _)
   have bM := bL.p3.p3.p3.p3
   exact zn (X (⟨bK, ha.s, bM⟩))
  refine WP_skip fun a ha => ?_
  obtain ⟨rfl, rfl, rfl⟩ := (by simpa only [Option.some.injEq, Prod.mk.injEq] using ah : _)
  refine have bN := aB.nS 57 ty2; have bO := bN.p3.p3.p3; ?_
  exact X (⟨(nS), ha.s, bO⟩)
 rintro a cL ⟨ao, ha, aQ⟩
 refine S1 ha <| C <| rR <| qM q q q <| qM q q q <| O h fun cM bP h => V0 q q c61 (w_spec_l20Rd__odd (C0.c.c.c) bP aQ.ctx) q fun cN bQ => have aD := aQ.cN1 [_] bQ; B <| O h fun bR aa h => ?_
 obtain ⟨bS, aE, bT, aF⟩ := bR
 refine WP_join (M := fun a w2 => ∃ ap, Fr a 94 [(0, pB bp0), (6, pB b1), (7, pB ad)] ∧ Holds (([.bx bp0 89 [A0, iV B1]] : List Res).flatMap Res.own) w w2 [.bx bp0 89 [A0, iV bS], .bx b1 55 [iV 0, nS, iV 0], .bx ad 55 [iV aE, ap, iV aF], .sl 57 ty2 ap bT] G) ?_ ?_
 ·refine Yh q aa (fun aa => ?_) (fun aa => ?_)
  ·refine rR <| qM q q q <| O aa fun cO bU aa => V0 q q c60 (w_spec_l20Rd__pick (C0.c.c.c) bU aD.ctx) q fun cP bV => have ax := aD.cN1 [_] bV; B <| g <| rR <| A q (qt_eql q q) q q <| qA q q q <| B ?_
   refine Yh q aa (fun aa => ?_) (fun aa => ?_)
   ·refine Z <| zs (t := tI) (args := [.const (iV (-1)), .const (iV 32)]) (xs := ([(-1), 32] : List Int)) ax (BltL.cons (Blt.int) q (BltL.cons (Blt.int) q (BltL.nil))) u24 j3 q q q q q q fun cQ cR bW => qM q q q <| have aR := bW.p1; O aa fun cS bX aa => V0 q q c60 (w_spec_l20Rd__pick (C0.c.c.c.c) bX aR.ctx) q fun cT bY => have aG := aR.cN1 [_] bY; O aa fun cU aS aa => b aG.ctx hS1 aS u24 i3 q q q q fun cV cW cX bZ => lI u3 q (aG.el hS1 aS bZ) q q q <| qF uf55 fi55_2 nz3 q q q <| have b0 := aG.p3; WL_store_bx b0 q il3 q q q q q fun cY b4 => WL_nil fun a ha => ?_
    obtain ⟨rfl, rfl, rfl, rfl⟩ := (by simpa only [Option.some.injEq, Prod.mk.injEq] using aa : _)
    have b5 := b4.q2.p3.p1.p3.p3
    exact zi (X (⟨ao, ha.s, b5⟩))
   refine rR <| A q (qt_eql q q) q q <| qA q q q <| B ?_
   refine Yh q aa (fun aa => ?_) (fun aa => ?_)
   ·refine Z <| zs (t := tI) (args := [.const (iV (-1)), .const (iV 7)]) (xs := ([(-1), 7] : List Int)) ax (BltL.cons (Blt.int) q (BltL.cons (Blt.int) q (BltL.nil))) u24 j3 q q q q q q fun cZ c0 b6 => qM q q q <| have aT := b6.p1; O aa fun c1 b7 aa => V0 q q c60 (w_spec_l20Rd__pick (C0.c.c.c.c) b7 aT.ctx) q fun c2 b8 => have aH := aT.cN1 [_] b8; O aa fun c3 aU aa => b aH.ctx hS1 aU u24 i3 q q q q fun c4 c5 c6 b9 => lI u3 q (aH.el hS1 aU b9) q q q <| qF uf55 fi55_0 nz3 q q q <| have ca := aH.p3; WL_store_bx ca q il3 q q q q q fun da cb => WL_nil fun a ha => ?_
    obtain ⟨rfl, rfl, rfl, rfl⟩ := (by simpa only [Option.some.injEq, Prod.mk.injEq] using aa : _)
    have cc := cb.q2.p3.p1.p3.p3
    exact zi (X (⟨ao, ha.s, cc⟩))
   refine rR <| A q (qt_eql q q) q q <| qA q q q <| B ?_
   refine Yh q aa (fun aa => ?_) (fun aa => ?_)
   ·refine Z <| qF uf55 fi55_1 nz53 q q q <| l u53 q (R ax.p2) q q q q <| qM q q q <| A q (qt_build (args := [(0, .tmp 88), (1, .const (iV 1))]) (css := [#[iV p1], #[iV 1]]) (cells := #[iV p1, iV 1]) q ⟨q, q, trivial⟩ (by kernel_rfl)) q q <| zs (t := ty2) (args := [.tmp 89]) (xs := ([(p1, 1)] : LP)) ax (BltL.cons (Blt.pair (Blt.int) (Blt.int)) q (BltL.nil)) u53 j57 q q q q q q fun db dc cd => have ce := cd.p4; O aa fun dd cf aa => zw ce hS1 cf u53 j57 q q q q q q fun cg de ch => qF uf55 fi55_1 nz53 q q q <| have aI := ch.p4; WL_store_bx aI q il53 (aI.ctx.sliceCells hS1) (aI.ctx.sliceOne hS1) q q q fun df ci => WL_nil fun a ha => ?_
    obtain ⟨rfl, rfl, rfl, rfl⟩ := (by simpa only [Option.some.injEq, Prod.mk.injEq] using aa : _)
    have cj := ci.q2.p1.p1.p3.p3
    exact zi (X (⟨cg, ha.s, cj⟩))
   refine Z <| A q (qt_build (args := [(0, .const (iV 2))]) (css := [#[iV 2]]) (cells := #[iV 2, nS, iV 0]) q ⟨q, trivial⟩ (by kernel_rfl)) q q <| have ck := ax.p2; zl (cs' := [iV 2, nS, iV 0]) ck q il55 q q q q q fun dg cl => WL_nil fun a ha => ?_
   cases aa
   refine have cm := cl.nS 57 ty2; have cn := cm.q4.p1.p3.p3; ?_
   exact zi (X (⟨(nS), ha.s, cn⟩))
  refine WP_skip fun a ha => ?_
  obtain ⟨rfl, rfl, rfl, rfl⟩ := (by simpa only [Option.some.injEq, Prod.mk.injEq] using aa : _)
  have co := aD.p3.p3.p3.p3
  exact X (⟨ao, ha.s, co⟩)
 rintro a dh ⟨ap, ha, aV⟩
 refine S1 ha <| rR <| lA (R aV.p2) us55 uo55 il55 q q q <| have aW := aV.p1; zl (cs' := [iV aE, ap, iV aF]) aW q il55 q (T q (T (aW.ctx.sliceOne hS3) (T q q))) q q q fun di aX => B <| W fun a ha => ?_
 cases h
 refine have cp := R aX.p0; have cq := aX.q0.q1.p1; ?_
 exact retc q ha q (run_loadVar_bx (cs := [iV aE, ap, iV aF]) us55 uo55 il55 cp) ⟨ap, q, cq⟩
theorem w_spec_l20Items {w : World} {G : List Res} {bp0 : Nat} {A0 : Value} {B0 : List Int} (C0 : Has G (.int .u8) A0 B0) {B1 : Int} {p1 : Int} {r : Int × LI} (h : spec_l20ItemsS B0 B1 p1 = some r) (H : Ctx w ([.bx bp0 89 [A0, iV B1]] ++ G)) : Calls Tryz.prog 57 #[pB bp0, iV p1] w fun e w' => ∃ (v1 : Value), e = .returned (v1) ∧ Holds (([.bx bp0 89 [A0, iV B1]] : List Res).flatMap Res.own) w w' [.sl 55 ty12 v1 r.2, .bx bp0 89 [A0, iV r.1]] G := by
 refine E1 (n := 36) H Tryz.func57 q q q fun H => ?_
 unfold spec_l20ItemsS at h
 refine rR <| qA q q q <| B <| C <| Z <| zs (t := ty12) (args := []) (xs := ([] : LI)) H (BltL.nil) u23 j55 q q q q q q fun v1 w2 H3 => qA q q q <| B <| C <| rR <| qM q q q <| have H7 := H3.p1; O h fun x5 ap h => V0 q q c60 (w_spec_l20Rd__pick (C0.c) ap H7.ctx) q fun w8 H9 => have aq := H7.cN1 [_] H9; qA q q q <| B <| g <| O h fun ar au h => have av := aq.p1.p1; ?_
 refine fun a2 aw => zp (I := fun s a w2 => match s with | (aj, ak, al) => ∃ ab, Fr a 36 [(0, pB bp0), (1, iV p1), (5, ab), (6, iV ak)] ∧ Holds (([.bx bp0 89 [A0, iV B1]] : List Res).flatMap Res.own) w w2 [.bx bp0 89 [A0, iV al], .sl 55 ty12 ab aj] G) (O := fun o e a w2 => match o with | (q0, q1) => e = .exit 0 ∧ ∃ am, Fr a 36 [(0, pB bp0), (1, iV p1), (5, am)] ∧ Holds (([.bx bp0 89 [A0, iV B1]] : List Res).flatMap Res.own) w w2 [.bx bp0 89 [A0, iV q1], .sl 55 ty12 am q0] G) au ?_ ?_ ?_
 ·exact ⟨v1, aw.s, av⟩
 ·rintro ⟨aj, ak, al⟩ _ a a3 aa ⟨ab, ha, ad⟩
  refine S1 ha <| C <| rR <| qM q q q <| A q (qt_gtr q q) q q <| B ?_
  refine Yh q aa (fun aa => ?_) (fun aa => ?_)
  ·refine y <| C <| g <| Z <| qM q q q <| qM q q q <| qM q q q <| za ad.ctx (t := ty12) hS1 u23 q q q <| O aa fun af ax aa => V1 q q c90 (w_spec_l20Item (C0.c) ax ad.ctx) q fun a4 a5 ay => have az := ad.cN2 [_] ay; have aA := az.freeze; zs (t := ty12) (args := [.tmp 18]) (xs := ([(af.2.1, af.2.2.1, af.2.2.2)] : LI)) aA (BltL.cons (Blt.pair (Blt.int) (Blt.pair (Blt.slice hO0) (Blt.int))) q (BltL.nil)) u23 j55 q q q q q q fun a6 a7 aB => have aC := aB.p3; O aa fun a8 aD aa => zw aC hS1 aD u23 j55 q q q q q q fun aE a9 aF => qA q q q <| WL_nil fun a ha => zi <| X <| S1 ha <| Z <| qM q q q <| A q (qt_sub q q) q q <| qA q q q <| WL_nil fun a ha => ?_
   cases aa
   have aG := aF.q1.q1.p1
   exact ⟨q, aE, ha.s, aG⟩
  refine WP_exit fun a ha => ?_
  cases aa
  have aH := ad.p1.p1
  exact zo (⟨exit_ne, q, ab, ha.s, aH⟩)
 obtain ⟨ba, bb⟩ := ar
 rintro _ a bc ⟨rfl, aI, ha, ao⟩
 refine zn <| X <| S1 ha <| C <| rR <| qM q q q <| qM q q q <| O h fun bd aJ h => V0 q q c61 (w_spec_l20Rd__odd (C0.c) aJ ao.ctx) q fun be aK => have ag := ao.cN1 [_] aK; B ?_
 refine Yh q h (fun h => ?_) (fun h => ?_)
 ·refine C <| rR <| qM q q q <| O h fun bf aL h => V0 q q c60 (w_spec_l20Rd__pick (C0.c) aL ag.ctx) q fun bg aM => have ae := ag.cN1 [_] aM; A q (qt_eql q q) q q <| B ?_
  refine Yh q h (fun h => ?_) (fun h => ?_)
  ·refine rR <| O h fun bh aN h => WL_makeH ae aN u23 j55 q (fun _ => ⟨_, _, [], [], q, q, ⟨q, q⟩, ⟨_, _, [], [], q, q, ⟨none, 0, q, Nat.le_refl _, .inl ⟨q, q⟩⟩, ⟨q, q⟩⟩⟩) q q q q q fun aO bi aP => qA q q q <| B <| W fun a ha => ?_
   cases h
   have aQ := aP.q2.p1.p1
   exact m (m (ret1 q ha q ⟨aO, q, aQ⟩))
  refine y <| rR <| qM q q q <| qM q q q <| qM q q q <| za ae.ctx (t := ty12) hS1 u23 q q q <| O h fun ah aR h => V1 q q c90 (w_spec_l20Item (C0.c) aR ae.ctx) q fun bj bk aS => have aT := ae.cN2 [_] aS; have aU := aT.freeze; zs (t := ty12) (args := [.tmp 32]) (xs := ([(ah.2.1, ah.2.2.1, ah.2.2.2)] : LI)) aU (BltL.cons (Blt.pair (Blt.int) (Blt.pair (Blt.slice hO0) (Blt.int))) q (BltL.nil)) u23 j55 q q q q q q fun bl bm aV => have aW := aV.p3; O h fun bn aX h => zw aW hS1 aX u23 j55 q q q q q q fun aY bo aZ => qA q q q <| B <| W fun a ha => ?_
  cases h
  have a0 := aZ.q1.q1.p1.p1
  exact m (ret1 q ha q ⟨aY, q, a0⟩)
 refine y <| rR <| qM q q q <| qA q q q <| B <| W fun a ha => ?_
 cases h
 have a1 := ag.p1
 exact ret1 q ha q ⟨aI, q, a1⟩
theorem w_spec_l20Prices {w : World} {G : List Res} {bp0 : Nat} {A0 : Value} {B0 : List Int} (C0 : Has G (.int .u8) A0 B0) {B1 : Int} {vp1 : Value} {p1 : LI} (hp1 : Has G ty12 vp1 p1) {p2 : Int} {r : Int × (List Int)} (h : spec_l20PricesS B0 B1 p1 p2 = some r) (H : Ctx w ([.bx bp0 89 [A0, iV B1]] ++ G)) : Calls Tryz.prog 58 #[pB bp0, vp1, iV p2] w fun e w' => ∃ (v1 : Value), e = .returned (v1) ∧ Holds (([.bx bp0 89 [A0, iV B1]] : List Res).flatMap Res.own) w w' [.sl 3 tI v1 r.2, .bx bp0 89 [A0, iV r.1]] G := by
 refine E1 (n := 44) H Tryz.func58 q q q fun H => ?_
 unfold spec_l20PricesS at h
 refine rR <| qA q q q <| B <| C <| Z <| zs (t := tI) (args := []) (xs := ([] : List Int)) H (BltL.nil) u24 j3 q q q q q q fun v1 w2 H3 => qA q q q <| B <| C <| rR <| qA q q q <| B <| g <| O h fun o8 au h => have av := H3.p1; ?_
 refine fun a9 aw => zp (I := fun s a w2 => match s with | (s5, s6, s7) => ∃ af, Fr a 44 [(0, pB bp0), (1, vp1), (2, iV p2), (7, af), (8, iV s6)] ∧ Holds (([.bx bp0 89 [A0, iV B1]] : List Res).flatMap Res.own) w w2 [.bx bp0 89 [A0, iV s7], .sl 3 tI af s5] G) (O := fun o e a w2 => match o with | (q0, q1) => e = .exit 0 ∧ ∃ ak, Fr a 44 [(0, pB bp0), (2, iV p2), (7, ak)] ∧ Holds (([.bx bp0 89 [A0, iV B1]] : List Res).flatMap Res.own) w w2 [.bx bp0 89 [A0, iV q1], .sl 3 tI ak q0] G) au ?_ ?_ ?_
 ·exact ⟨v1, aw.s, av⟩
 ·rintro ⟨s5, s6, s7⟩ _ a ba ab ⟨af, ha, ag⟩
  refine S1 ha <| C <| rR <| qM q q q <| qM q q q <| za ag.ctx (t := ty12) (hp1.c.c) u23 q q q <| A q (qt_lss q q) q q <| B ?_
  refine Yh q ab (fun ab => ?_) (fun ab => ?_)
  ·refine y <| C <| g <| Z <| qM q q q <| qM q q q <| O ab fun ax ay ab => V0 q q c60 (w_spec_l20Rd__pick (C0.c) ay ag.ctx) q fun bb az => have aA := ag.cN1 [_] az; zs (t := tI) (args := [.tmp 18]) (xs := ([ax.2] : List Int)) aA (BltL.cons (Blt.int) q (BltL.nil)) u24 j3 q q q q q q fun bc bd aB => have aC := aB.p2; O ab fun be aD ab => zw aC hS1 aD u24 j3 q q q q q q fun aE bf aF => qA q q q <| WL_nil fun a ha => zi <| X <| S1 ha <| Z <| qM q q q <| A q (qt_add q q) q q <| qA q q q <| WL_nil fun a ha => ?_
   cases ab
   have aG := aF.q1.p1
   exact ⟨q, aE, ha.s, aG⟩
  refine WP_exit fun a ha => ?_
  cases ab
  have aH := ag.p1.p1
  exact zo (⟨exit_ne, q, af, ha.s, aH⟩)
 obtain ⟨al, bg⟩ := o8
 rintro _ a bh ⟨rfl, ah, ha, am⟩
 refine zn <| X <| S1 ha <| C <| rR <| qM q q q <| qM q q q <| O h fun bi aI h => V0 q q c61 (w_spec_l20Rd__odd (C0.c) aI am.ctx) q fun bj aJ => have ae := am.cN1 [_] aJ; B ?_
 refine Yh q h (fun h => ?_) (fun h => ?_)
 ·refine C <| rR <| qM q q q <| za ae.ctx (t := tI) hS1 u24 q q q <| A q (qt_gtr q q) q q <| qM q q q <| O h fun aK ad h => ?_
  obtain ⟨aL, aM⟩ := aK
  refine WL_cutM 4 (fun a w2 => (Fr a 44 [(0, pB bp0), (7, ah), (31, .bool aM)] ∧ Holds (([.bx bp0 89 [A0, iV B1]] : List Res).flatMap Res.own) w w2 [.bx bp0 89 [A0, iV aL], .sl 3 tI ah al] G)) ?_ ?_
  ·rcases btf (decide ((List.length al : Int) > 0)) with aa | aa
   ·refine have ad := if_t aa ad; qM (J q aa) q q <| O ad fun bk aN ad => V0 (J q aa) q c60 (w_spec_l20Rd__pick (C0.c) aN ae.ctx) q fun bl aO => have aP := ae.cN1 [_] aO; A (J q aa) (qt_eql q q) q q <| A q (ze q aa q) q q <| WL_nil fun a ha => ?_
    obtain ⟨rfl, rfl⟩ := L ad |> Prod.mk.inj
    have aQ := aP.p1.p1
    exact X ⟨ha.s, aQ⟩
   refine have ad := if_f aa ad; qS q aa q q <| qS q aa q q <| qS q aa q q <| A q (zf q aa q) q q <| WL_nil fun a ha => ?_
   obtain ⟨rfl, rfl⟩ := L ad |> Prod.mk.inj
   have aR := ae.p1.p1
   exact X ⟨ha.s, aR⟩
  intro a bm aS
  obtain ⟨ha, ao⟩ := aS
  refine SL_app ?_ ha
  clear ha
  refine B ?_
  refine Yh q h (fun h => ?_) (fun h => ?_)
  ·refine rR <| qM q q q <| zs (t := tI) (args := [.const (iV (-1)), .const (iV 21)]) (xs := ([(-1), 21] : List Int)) ao (BltL.cons (Blt.int) q (BltL.cons (Blt.int) q (BltL.nil))) u24 j3 q q q q q q fun bn bo aT => qM q q q <| have ap := aT.p1; O h fun bp aU h => V0 q q c60 (w_spec_l20Rd__pick (C0.c.c) aU ap.ctx) q fun bq aV => have aj := ap.cN1 [_] aV; O h fun aW aq h => b aj.ctx hS1 aq u24 i3 q q q q fun br bs bt aX => lI u3 q (aj.el hS1 aq aX) q q q <| O h fun bu ar h => b aj.ctx hS2 ar u24 i3 q q q q fun bv bw bz aY => have aZ := aj.p2; WL_storeH (fo := 0) (cs' := [iV aW]) aZ ar aY (Upd.whole (Blt.int)) q il3 q q q q fun bA a0 => rN <| qM q q q <| qA q q q <| B <| W fun a ha => ?_
   cases h
   have a1 := a0.q2.p1.p1
   exact m (m (ret1 q ha q ⟨ah, q, a1⟩))
  refine y <| rR <| qM q q q <| zs (t := tI) (args := [.const (iV 1)]) (xs := ([1] : List Int)) ao (BltL.cons (Blt.int) q (BltL.nil)) u24 j3 q q q q q q fun bB bC a2 => have a3 := a2.p2; O h fun bD a4 h => zw a3 hS1 a4 u24 j3 q q q q q q fun a5 bE a6 => qA q q q <| B <| W fun a ha => ?_
  cases h
  have a7 := a6.q1.p1.p1
  exact m (ret1 q ha q ⟨a5, q, a7⟩)
 refine y <| rR <| qM q q q <| qA q q q <| B <| W fun a ha => ?_
 cases h
 have a8 := ae.p1
 exact ret1 q ha q ⟨ah, q, a8⟩
theorem w_spec_l20Amounts {w : World} {G : List Res} {bp0 : Nat} {A0 : Value} {B0 : List Int} (C0 : Has G (.int .u8) A0 B0) {B1 : Int} {vp1 : Value} {p1 : LI} (hp1 : Has G ty12 vp1 p1) {p2 : Int} {r : Int × (List Int)} (h : spec_l20AmountsS B0 B1 p1 p2 = some r) (H : Ctx w ([.bx bp0 89 [A0, iV B1]] ++ G)) : Calls Tryz.prog 59 #[pB bp0, vp1, iV p2] w fun e w' => ∃ (v1 : Value), e = .returned (v1) ∧ Holds (([.bx bp0 89 [A0, iV B1]] : List Res).flatMap Res.own) w w' [.sl 3 tI v1 r.2, .bx bp0 89 [A0, iV r.1]] G := by
 refine E1 (n := 47) H Tryz.func59 q q q fun H => ?_
 unfold spec_l20AmountsS at h
 refine rR <| qA q q q <| B <| C <| Z <| zs (t := tI) (args := []) (xs := ([] : List Int)) H (BltL.nil) u24 j3 q q q q q q fun v1 w2 H3 => qA q q q <| B <| C <| rR <| qA q q q <| B <| g <| O h fun o8 av h => have aw := H3.p1; ?_
 refine fun bd ax => zp (I := fun s a w2 => match s with | (s5, s6, s7) => ∃ af, Fr a 47 [(0, pB bp0), (1, vp1), (2, iV p2), (7, af), (8, iV s6)] ∧ Holds (([.bx bp0 89 [A0, iV B1]] : List Res).flatMap Res.own) w w2 [.bx bp0 89 [A0, iV s7], .sl 3 tI af s5] G) (O := fun o e a w2 => match o with | (q0, q1) => e = .exit 0 ∧ ∃ ak, Fr a 47 [(0, pB bp0), (2, iV p2), (7, ak)] ∧ Holds (([.bx bp0 89 [A0, iV B1]] : List Res).flatMap Res.own) w w2 [.bx bp0 89 [A0, iV q1], .sl 3 tI ak q0] G) av ?_ ?_ ?_
 ·exact ⟨v1, ax.s, aw⟩
 ·rintro ⟨s5, s6, s7⟩ _ a be aa ⟨af, ha, ag⟩
  refine S1 ha <| C <| rR <| qM q q q <| qM q q q <| za ag.ctx (t := ty12) (hp1.c.c) u23 q q q <| A q (qt_lss q q) q q <| B ?_
  refine Yh q aa (fun aa => ?_) (fun aa => ?_)
  ·refine y <| C <| g <| Z <| qM q q q <| qM q q q <| O aa fun ay az aa => V0 q q c60 (w_spec_l20Rd__pick (C0.c) az ag.ctx) q fun bf aA => have al := ag.cN1 [_] aA; qM q q q <| O aa fun aB aC aa => V0 q q c60 (w_spec_l20Rd__pick (C0.c) aC al.ctx) q fun bg aD => have aE := al.cN1 [_] aD; A q (qt_mul q q) q q <| zs (t := tI) (args := [.tmp 21]) (xs := ([IntKind.wrap .i64 (ay.2 * aB.2)] : List Int)) aE (BltL.cons (Blt.int) q (BltL.nil)) u24 j3 q q q q q q fun bh bi aF => have aG := aF.p2; O aa fun bj aH aa => zw aG hS1 aH u24 j3 q q q q q q fun aI bk aJ => qA q q q <| WL_nil fun a ha => zi <| X <| S1 ha <| Z <| qM q q q <| A q (qt_add q q) q q <| qA q q q <| WL_nil fun a ha => ?_
   cases aa
   have aK := aJ.q1.p1
   exact ⟨q, aI, ha.s, aK⟩
  refine WP_exit fun a ha => ?_
  cases aa
  have aL := ag.p1.p1
  exact zo (⟨exit_ne, q, af, ha.s, aL⟩)
 obtain ⟨am, bl⟩ := o8
 rintro _ a bm ⟨rfl, ah, ha, ao⟩
 refine zn <| X <| S1 ha <| C <| rR <| qM q q q <| qM q q q <| O h fun bn aM h => V0 q q c61 (w_spec_l20Rd__odd (C0.c) aM ao.ctx) q fun bo aN => have ae := ao.cN1 [_] aN; B ?_
 refine Yh q h (fun h => ?_) (fun h => ?_)
 ·refine C <| rR <| qM q q q <| za ae.ctx (t := tI) hS1 u24 q q q <| A q (qt_gtr q q) q q <| qM q q q <| O h fun aO ad h => ?_
  obtain ⟨aP, aQ⟩ := aO
  refine WL_cutM 4 (fun a w2 => (Fr a 47 [(0, pB bp0), (7, ah), (34, .bool aQ)] ∧ Holds (([.bx bp0 89 [A0, iV B1]] : List Res).flatMap Res.own) w w2 [.bx bp0 89 [A0, iV aP], .sl 3 tI ah am] G)) ?_ ?_
  ·rcases btf (decide ((List.length am : Int) > 0)) with ab | ab
   ·refine have ad := if_t ab ad; qM (J q ab) q q <| O ad fun bp aR ad => V0 (J q ab) q c60 (w_spec_l20Rd__pick (C0.c) aR ae.ctx) q fun bq aS => have aT := ae.cN1 [_] aS; A (J q ab) (qt_eql q q) q q <| A q (ze q ab q) q q <| WL_nil fun a ha => ?_
    obtain ⟨rfl, rfl⟩ := L ad |> Prod.mk.inj
    have aU := aT.p1.p1
    exact X ⟨ha.s, aU⟩
   refine have ad := if_f ab ad; qS q ab q q <| qS q ab q q <| qS q ab q q <| A q (zf q ab q) q q <| WL_nil fun a ha => ?_
   obtain ⟨rfl, rfl⟩ := L ad |> Prod.mk.inj
   have aV := ae.p1.p1
   exact X ⟨ha.s, aV⟩
  intro a br aW
  obtain ⟨ha, ap⟩ := aW
  refine SL_app ?_ ha
  clear ha
  refine B ?_
  refine Yh q h (fun h => ?_) (fun h => ?_)
  ·refine rR <| qM q q q <| zs (t := tI) (args := [.const (iV (-1)), .const (iV 51)]) (xs := ([(-1), 51] : List Int)) ap (BltL.cons (Blt.int) q (BltL.cons (Blt.int) q (BltL.nil))) u24 j3 q q q q q q fun bs bt aX => qM q q q <| have aq := aX.p1; O h fun bu aY h => V0 q q c60 (w_spec_l20Rd__pick (C0.c.c) aY aq.ctx) q fun bv aZ => have aj := aq.cN1 [_] aZ; O h fun a0 ar h => b aj.ctx hS1 ar u24 i3 q q q q fun bw bz bA a1 => lI u3 q (aj.el hS1 ar a1) q q q <| O h fun bB au h => b aj.ctx hS2 au u24 i3 q q q q fun bC bD bE a2 => have a3 := aj.p2; WL_storeH (fo := 0) (cs' := [iV a0]) a3 au a2 (Upd.whole (Blt.int)) q il3 q q q q fun bF a4 => rN <| qM q q q <| qA q q q <| B <| W fun a ha => ?_
   cases h
   have a5 := a4.q2.p1.p1
   exact m (m (ret1 q ha q ⟨ah, q, a5⟩))
  refine y <| rR <| qM q q q <| zs (t := tI) (args := [.const (iV 1)]) (xs := ([1] : List Int)) ap (BltL.cons (Blt.int) q (BltL.nil)) u24 j3 q q q q q q fun bG bH a6 => have a7 := a6.p2; O h fun bI a8 h => zw a7 hS1 a8 u24 j3 q q q q q q fun a9 bJ ba => qA q q q <| B <| W fun a ha => ?_
  cases h
  have bb := ba.q1.p1.p1
  exact m (ret1 q ha q ⟨a9, q, bb⟩)
 refine y <| rR <| qM q q q <| qA q q q <| B <| W fun a ha => ?_
 cases h
 have bc := ae.p1
 exact ret1 q ha q ⟨ah, q, bc⟩
theorem w_spec_l20HouseDeed {w : World} {G : List Res} {bp0 : Nat} {A0 : Value} {B0 : List Int} (C0 : Has G (.int .u8) A0 B0) {B1 : Int} {A1_0 : Value} {p1_0 : LI} (hp1_0 : Has G ty12 A1_0 p1_0) {A1_1 : Value} {p1_1 : List Int} (hp1_1 : Has G tI A1_1 p1_1) {A1_2 : Value} {p1_2 : List Int} (hp1_2 : Has G tI A1_2 p1_2) {p1_3 : Int} {A1_4 : Value} {p1_4 : LT} (hp1_4 : Has G ty14 A1_4 p1_4) {r : Int × (Int × Int × Int × Int)} (h : spec_l20HouseDeedS B0 B1 p1_0 p1_1 p1_2 p1_3 p1_4 = some r) (H : Ctx w ([.bx bp0 89 [A0, iV B1]] ++ G)) : Calls Tryz.prog 25 #[pB bp0, .agg #[A1_0, A1_1, A1_2, iV p1_3, A1_4]] w fun e w' => e = .returned (.agg #[iV r.2.1, iV r.2.2.1, iV r.2.2.2.1, iV r.2.2.2.2]) ∧ Holds (([.bx bp0 89 [A0, iV B1]] : List Res).flatMap Res.own) w w' [.bx bp0 89 [A0, iV r.1]] G := by
 refine E1 (n := 87) H Tryz.func25 q q q fun H => ?_
 unfold spec_l20HouseDeedS at h
 refine C <| Z <| WL_box (cs := [A1_0, A1_1, A1_2, iV p1_3, A1_4]) H q q q q fun b1 w2 H3 => zq (cs := [iV 0, iV 0, iV 0, iV 0]) H3 z29 q q q fun b5 w6 H7 => B <| C <| O h fun bU av h => O h fun ad ag h => O h fun ae ao h => O h fun aj ap h => ?_
 refine WP_join (M := fun a w2 => ∃ af, Fr a 87 [(0, pB bp0), (3, pB b1), (4, pB b5), (5, pB af)] ∧ Holds (([.bx bp0 89 [A0, iV B1]] : List Res).flatMap Res.own) w w2 [.bx bp0 89 [A0, iV aj.1], .bx b1 27 [A1_0, A1_1, A1_2, iV p1_3, A1_4], .bx b5 29 [iV 0, iV 0, iV 0, iV 0], .bx af 29 [iV (IntKind.wrap .i64 (ad + (IntKind.wrap .i64 ((IntKind.wrap .i64 (Int.tdiv ae.2 59)) * 6)))), iV aj.2, iV 0, iV 0]] G) ?_ ?_
 ·refine WP_ordersT (fun w1 w2 => Chg (([.bx bp0 89 [A0, iV B1]] : List Res).flatMap Res.own) w1 w2) 18 (by kernel_rfl) fun aw aP => have aQ := H7.grow aP; have aq := aQ.p2; ?_
  have aA : Ctx aw ([.bx bp0 89 [A0, iV B1]] ++ ([.bx b5 29 [iV 0, iV 0, iV 0, iV 0], .bx b1 27 [A1_0, A1_1, A1_2, iV p1_3, A1_4]] ++ G)) := aq.ctx
  have aR : Holds _ aw aw [.bx bp0 89 [A0, iV B1]] ([.bx b5 29 [iV 0, iV 0, iV 0, iV 0], .bx b1 27 [A1_0, A1_1, A1_2, iV p1_3, A1_4]] ++ G) := zb (Rs := [.bx bp0 89 [A0, iV B1]]) aA
  refine have Hc := aR; XM0 [([], [], true), ([], [], true), ([1], [1], true), ([0, 2], [0, 2], true), ([3], [3], true), ([], [], true), ([5, 2], [5], true), ([6], [6], true), ([7], [7], true), ([4, 8], [4, 8], true), ([], [], true), ([], [], true), ([11], [11], true), ([12], [12], true), ([13], [13], true), ([10, 14, 6], [10, 14], true), ([9, 15], [9, 15], true), ([], [], true), ([17, 16, 15, 0, 1, 2, 3, 4, 5, 6, 7, 8, 9, 10, 11, 12, 13, 14, 15, 16, 17], [16, 17], false)] (by kernel_rfl) <| MQ 1 q q q Hc.chg q (fun _ => qt_move q) q q <| MQ 5 q q q Hc.chg q (fun _ => qt_move q) q q <| MQ 10 q q q Hc.chg q (fun _ => qt_move q) q q <| MQ 11 q q q Hc.chg q (fun _ => qt_fieldAddr uf27 fi27_0 nz23 q) q q <| have aS := HasB.bx (HasB.c (HasB.c (HasB.hd))) Hc.ctx; MT 12 q q q Hc.chg q (qs_cell u23 q q (aS.cell (i := 0) q) Hc.chg (Ctx.outB aA (HasB.c (HasB.hd)))) q q <| MT 13 q q q Hc.chg q (qs_len (t := ty12) Hc.ctx (hp1_0.c.c.c) u23 q) q q <| MQ 14 q q q Hc.chg q (fun _ => qt_max q q) q q ?_
  repeat' first
   | refine XG ?_; (first
    | refine MDo 0 q ?_; refine zs (t := tI) (args := [.const (iV 0), .const (iV 0), .const (iV 1), .const (iV 1), .const (iV 2), .const (iV 3), .const (iV 3), .const (iV 3), .const (iV 4), .const (iV 4), .const (iV 4), .const (iV 5)]) (xs := ([0, 0, 1, 1, 2, 3, 3, 3, 4, 4, 4, 5] : List Int)) Hc (BltL.cons (Blt.int) q (BltL.cons (Blt.int) q (BltL.cons (Blt.int) q (BltL.cons (Blt.int) q (BltL.cons (Blt.int) q (BltL.cons (Blt.int) q (BltL.cons (Blt.int) q (BltL.cons (Blt.int) q (BltL.cons (Blt.int) q (BltL.cons (Blt.int) q (BltL.cons (Blt.int) q (BltL.cons (Blt.int) q (BltL.nil))))))))))))) u24 j3 q q q q q q (fun bV _ Hc => ?_); refine MN Hc.chg ?_
    | refine XGi 2 ?_; (first
     | refine MDo 2 q ?_; have Hc := Hc.p1; refine V0 q q c60 (w_spec_l20Rd__pick (C0.c.c.c) av Hc.ctx) q fun _ HK => ?_; have Hc := Hc.cN1 [_] HK; refine MN Hc.chg ?_
     | refine MDo 2 q ?_; have Hc := Hc.p2; refine V0 q q c60 (w_spec_l20Rd__pick (C0.c.c.c.c) av Hc.ctx) q fun _ HK => ?_; have Hc := Hc.cN1 [_] HK; refine MN Hc.chg ?_
     | refine MDo 2 q <| V0 q q c60 (w_spec_l20Rd__pick (C0.c.c) av Hc.ctx) q fun _ HK => ?_; have Hc := Hc.cN1 [_] HK; refine MN Hc.chg ?_)
    | refine XGi 4 ?_; (first
     | refine MDo 4 q <| lI u3 q (Hc.el hS1 ag ah) q q q <| MN Hc.chg ?_
     | refine MDo 4 q <| lI u3 q (Hc.el hS2 ag ah) q q q <| MN Hc.chg ?_
     | refine MDo 4 q <| lI u3 q (Hc.el hS0 ag ah) q q q <| MN Hc.chg ?_)
    | refine XGi 6 ?_; (first
     | refine MDo 6 q <| V0 q q c60 (w_spec_l20Rd__pick (C0.c.c.c) ao Hc.ctx) q fun _ HK => ?_; have Hc := Hc.cN1 [_] HK; refine MN Hc.chg <| MQ 7 q q q Hc.chg q (fun _ => qt_quo q q (by decide)) q q <| MQ 8 q q q Hc.chg q (fun _ => qt_mul q q) q q ?_
     | refine MDo 6 q ?_; have Hc := Hc.p1; refine V0 q q c60 (w_spec_l20Rd__pick (C0.c.c.c.c) ao Hc.ctx) q fun _ HK => ?_; have Hc := Hc.cN1 [_] HK; refine MN Hc.chg <| MQ 7 q q q Hc.chg q (fun _ => qt_quo q q (by decide)) q q <| MQ 8 q q q Hc.chg q (fun _ => qt_mul q q) q q ?_
     | refine MDo 6 q <| V0 q q c60 (w_spec_l20Rd__pick (C0.c.c.c.c) ao Hc.ctx) q fun _ HK => ?_; have Hc := Hc.cN1 [_] HK; refine MN Hc.chg <| MQ 7 q q q Hc.chg q (fun _ => qt_quo q q (by decide)) q q <| MQ 8 q q q Hc.chg q (fun _ => qt_mul q q) q q ?_
     | refine MDo 6 q ?_; have Hc := Hc.p1; refine V0 q q c60 (w_spec_l20Rd__pick (C0.c.c.c) ao Hc.ctx) q fun _ HK => ?_; have Hc := Hc.cN1 [_] HK; refine MN Hc.chg <| MQ 7 q q q Hc.chg q (fun _ => qt_quo q q (by decide)) q q <| MQ 8 q q q Hc.chg q (fun _ => qt_mul q q) q q ?_
     | refine MDo 6 q ?_; have Hc := Hc.p2; refine V0 q q c60 (w_spec_l20Rd__pick (C0.c.c.c.c) ao Hc.ctx) q fun _ HK => ?_; have Hc := Hc.cN1 [_] HK; refine MN Hc.chg <| MQ 7 q q q Hc.chg q (fun _ => qt_quo q q (by decide)) q q <| MQ 8 q q q Hc.chg q (fun _ => qt_mul q q) q q ?_
     | refine MDo 6 q <| V0 q q c60 (w_spec_l20Rd__pick (C0.c.c) ao Hc.ctx) q fun _ HK => ?_; have Hc := Hc.cN1 [_] HK; refine MN Hc.chg <| MQ 7 q q q Hc.chg q (fun _ => qt_quo q q (by decide)) q q <| MQ 8 q q q Hc.chg q (fun _ => qt_mul q q) q q ?_)
    | refine XGi 15 ?_; (first
     | refine MDo 15 q <| V0 q q c60 (w_spec_l20Rd__pick (C0.c.c.c) ap Hc.ctx) q fun _ HK => ?_; have Hc := Hc.cN1 [_] HK; refine MN Hc.chg ?_
     | refine MDo 15 q ?_; have Hc := Hc.p1; refine V0 q q c60 (w_spec_l20Rd__pick (C0.c.c.c.c) ap Hc.ctx) q fun _ HK => ?_; have Hc := Hc.cN1 [_] HK; refine MN Hc.chg ?_
     | refine MDo 15 q <| V0 q q c60 (w_spec_l20Rd__pick (C0.c.c.c.c) ap Hc.ctx) q fun _ HK => ?_; have Hc := Hc.cN1 [_] HK; refine MN Hc.chg ?_
     | refine MDo 15 q ?_; have Hc := Hc.p1; refine V0 q q c60 (w_spec_l20Rd__pick (C0.c.c.c) ap Hc.ctx) q fun _ HK => ?_; have Hc := Hc.cN1 [_] HK; refine MN Hc.chg ?_
     | refine MDo 15 q ?_; have Hc := Hc.p2; refine V0 q q c60 (w_spec_l20Rd__pick (C0.c.c.c.c) ap Hc.ctx) q fun _ HK => ?_; have Hc := Hc.cN1 [_] HK; refine MN Hc.chg ?_
     | refine MDo 15 q <| V0 q q c60 (w_spec_l20Rd__pick (C0.c.c) ap Hc.ctx) q fun _ HK => ?_; have Hc := Hc.cN1 [_] HK; refine MN Hc.chg ?_)
    | refine MDo 17 q ?_; refine zq (cs := [iV 0, iV 0, iV 0, iV 0]) Hc z29 q q q (fun aB _ Hc => ?_); refine MN Hc.chg ?_
    | refine XGi 18 ?_; (first
     | have Hc := aq.cN3 [_] Hc; refine MDo 18 q ?_; refine zl (cs' := [iV (IntKind.wrap .i64 (ad + (IntKind.wrap .i64 ((IntKind.wrap .i64 (Int.tdiv ae.2 59)) * 6)))), iV aj.2, iV 0, iV 0]) Hc q il29 q q q q q (fun _ Hc => ?_); refine ME q ?_
     | have Hc := aq.cN3 [_] Hc; refine MDo 18 q ?_; have Hc := Hc.p1; refine zl (cs' := [iV (IntKind.wrap .i64 (ad + (IntKind.wrap .i64 ((IntKind.wrap .i64 (Int.tdiv ae.2 59)) * 6)))), iV aj.2, iV 0, iV 0]) Hc q il29 q q q q q (fun _ Hc => ?_); refine ME q ?_
     | have Hc := aq.cN3 [_] Hc; refine MDo 18 q ?_; have Hc := Hc.p2; refine zl (cs' := [iV (IntKind.wrap .i64 (ad + (IntKind.wrap .i64 ((IntKind.wrap .i64 (Int.tdiv ae.2 59)) * 6)))), iV aj.2, iV 0, iV 0]) Hc q il29 q q q q q (fun _ Hc => ?_); refine ME q ?_))
   | refine MK 3 q ?_; obtain ⟨aC, aD, aE, ah⟩ := Ctx.isAt Hc.ctx hS1 ag; refine MT 3 q q q Hc.chg q (qs_index ag ah u24 i3 q q) q q ?_
   | refine MK 3 q ?_; obtain ⟨aC, aD, aE, ah⟩ := Ctx.isAt Hc.ctx hS2 ag; refine MT 3 q q q Hc.chg q (qs_index ag ah u24 i3 q q) q q ?_
   | refine MK 3 q ?_; obtain ⟨aC, aD, aE, ah⟩ := Ctx.isAt Hc.ctx hS0 ag; refine MT 3 q q q Hc.chg q (qs_index ag ah u24 i3 q q) q q ?_
   | refine MK 9 q <| MQ 9 q q q Hc.chg q (fun _ => qt_add q q) q q ?_
   | refine MK 16 q <| MQ 16 q q q Hc.chg q (fun _ => qt_build (args := [(0, .tmp 15), (1, .tmp 21)]) (css := [#[iV (IntKind.wrap .i64 (ad + (IntKind.wrap .i64 ((IntKind.wrap .i64 (Int.tdiv ae.2 59)) * 6))))], #[iV aj.2]]) (cells := #[iV (IntKind.wrap .i64 (ad + (IntKind.wrap .i64 ((IntKind.wrap .i64 (Int.tdiv ae.2 59)) * 6)))), iV aj.2, iV 0, iV 0]) q ⟨q, q, trivial⟩ (by kernel_rfl)) q q ?_
   | refine MW q ?_ ?_
   | refine Ma q ?_ ?_
   | exact Me q
   | refine MZ q (fun a ha => ?_); have Hc := ((((Hc.q2).p2).p3).p3); exact ⟨aB, ha.s, Hc⟩
   | refine MZ q (fun a ha => ?_); have Hc := ((((Hc.q1).p2).p3).p3); exact ⟨aB, ha.s, Hc⟩
 rintro a bW ⟨af, ha, ab⟩
 refine S1 ha <| C <| rR <| qF uf29 fi29_0 nz3 q q q <| l u3 q (R ab.p3) q q q q <| B <| O h fun aT aa h => ?_
 obtain ⟨aU, ak, ar, al⟩ := aT
 refine WP_join (M := fun a w2 => (Fr a 87 [(0, pB bp0), (4, pB b5), (5, pB af)] ∧ Holds (([.bx bp0 89 [A0, iV B1]] : List Res).flatMap Res.own) w w2 [.bx bp0 89 [A0, iV aU], .bx b5 29 [iV 0, iV 0, iV 0, iV 0], .bx af 29 [iV (IntKind.wrap .i64 (ad + (IntKind.wrap .i64 ((IntKind.wrap .i64 (Int.tdiv ae.2 59)) * 6)))), iV ak, iV ar, iV al]] G)) ?_ ?_
 ·refine g <| rR <| A q (qt_eql q q) q q <| qA q q q <| B ?_
  refine Yh q aa (fun aa => ?_) (fun aa => ?_)
  ·refine Z <| qM q q q <| O aa fun bX aV aa => V0 q q c60 (w_spec_l20Rd__pick (C0.c.c.c) aV ab.ctx) q fun bY aW => have aX := ab.cN1 [_] aW; A q (qt_add q q) q q <| qF uf29 fi29_2 nz3 q q q <| have aY := aX.p3; WL_store_bx aY q il3 q q q q q fun bZ aZ => WL_nil fun a ha => ?_
   cases aa
   have a0 := aZ.q2.p2.p2
   exact zi (X (⟨ha.s, a0⟩))
  refine rR <| A q (qt_eql q q) q q <| qA q q q <| B ?_
  refine Yh q aa (fun aa => ?_) (fun aa => ?_)
  ·refine Z <| qM q q q <| O aa fun b0 a1 aa => V0 q q c60 (w_spec_l20Rd__pick (C0.c.c.c) a1 ab.ctx) q fun b4 a2 => have a3 := ab.cN1 [_] a2; A q (qt_add q q) q q <| qF uf29 fi29_2 nz3 q q q <| have a4 := a3.p3; WL_store_bx a4 q il3 q q q q q fun b6 a5 => WL_nil fun a ha => ?_
   cases aa
   have a6 := a5.q2.p2.p2
   exact zi (X (⟨ha.s, a6⟩))
  refine rR <| A q (qt_eql q q) q q <| qA q q q <| B ?_
  refine Yh q aa (fun aa => ?_) (fun aa => ?_)
  ·refine Z <| qM q q q <| O aa fun b7 a7 aa => V0 q q c60 (w_spec_l20Rd__pick (C0.c.c.c) a7 ab.ctx) q fun b8 a8 => have aF := ab.cN1 [_] a8; qM q q q <| O aa fun b9 a9 aa => V0 q q c60 (w_spec_l20Rd__pick (C0.c.c.c) a9 aF.ctx) q fun ca ba => have bb := aF.cN1 [_] ba; A q (qt_quo q q (by decide)) q q <| A q (qt_mul q q) q q <| qF uf29 fi29_1 nz3 q q q <| have bc := bb.p3; WL_store_bx bc q il3 q q q q q fun cb bd => WL_nil fun a ha => ?_
   cases aa
   have be := bd.q2.p2.p2
   exact zi (X (⟨ha.s, be⟩))
  refine rR <| A q (qt_eql q q) q q <| qA q q q <| B ?_
  refine Yh q aa (fun aa => ?_) (fun aa => ?_)
  ·refine rR <| qM q q q <| qF uf27 fi27_4 nz25 q q q <| l u25 q (R ab.p1) q q q q <| za ab.ctx (t := ty14) (hp1_4.c.c.c.c) u25 q q q <| A q (qt_add q q) q q <| O aa fun cc bf aa => V0 q q c60 (w_spec_l20Rd__pick (C0.c.c.c) bf ab.ctx) q fun cd bg => have bh := ab.cN1 [_] bg; qF uf29 fi29_1 nz3 q q q <| have bi := bh.p3; WL_store_bx bi q il3 q q q q q fun ce ax => rN <| qM q q q <| qF uf27 fi27_0 nz23 q q q <| l u23 q (R ax.p2) q q q q <| za ax.ctx (t := ty12) (hp1_0.c.c.c.c) u23 q q q <| A q (qt_max q q) q q <| have aG := ax.p1; O aa fun cf bj aa => V0 q q c60 (w_spec_l20Rd__pick (C0.c.c.c) bj aG.ctx) q fun cg bk => have bl := aG.cN1 [_] bk; qF uf29 fi29_2 nz3 q q q <| have bm := bl.p1; WL_store_bx bm q il3 q q q q q fun ch bn => B <| Z <| qM q q q <| have aH := bn.p1; ?_
   refine O aa fun ci bo aa => V0 q q c60 (w_spec_l20Rd__pick (C0.c.c.c) bo aH.ctx) q fun cj bp => have bq := aH.cN1 [_] bp; qF uf29 fi29_3 nz3 q q q <| have br := bq.p1; WL_store_bx br q il3 q q q q q fun ck bs => WL_nil fun a ha => ?_
   cases aa
   have bt := bs.q2.p2.p2
   exact zi (X (⟨ha.s, bt⟩))
  refine rR <| A q (qt_eql q q) q q <| qA q q q <| B ?_
  refine Yh q aa (fun aa => ?_) (fun aa => ?_)
  ·refine Z <| qF uf29 fi29_1 nz3 q q q <| have bu := ab.p3; WL_store_bx bu q il3 q q q q q fun cl bv => WL_nil fun a ha => ?_
   cases aa
   have bw := bv.q2.p2.p2
   exact zi (X (⟨ha.s, bw⟩))
  refine rR <| A q (qt_eql q q) q q <| qA q q q <| B ?_
  refine Yh q aa (fun aa => ?_) (fun aa => ?_)
  ·refine Z <| qM q q q <| qF uf27 fi27_4 nz25 q q q <| l u25 q (R ab.p1) q q q q <| za ab.ctx (t := ty14) (hp1_4.c.c.c.c) u25 q q q <| A q (qt_add q q) q q <| O aa fun cm bz aa => V0 q q c60 (w_spec_l20Rd__pick (C0.c.c.c) bz ab.ctx) q fun cn bA => have bB := ab.cN1 [_] bA; qF uf29 fi29_1 nz3 q q q <| have bC := bB.p3; WL_store_bx bC q il3 q q q q q fun co bD => WL_nil fun a ha => ?_
   cases aa
   have bE := bD.q2.p2.p2
   exact zi (X (⟨ha.s, bE⟩))
  refine WP_skip fun a ha => ?_
  cases aa
  have bF := ab.q1.p2.p2.p2
  exact zi (X (⟨ha.s, bF⟩))
 rintro a cp ⟨ha, aI⟩
 refine S1 ha <| C <| rR <| qM q q q <| O h fun au bG h => V0 q q c61 (w_spec_l20Rd__odd (C0.c.c) bG aI.ctx) q fun cq bH => have aJ := aI.cN1 [_] bH; B <| O h fun bI am h => ?_
 obtain ⟨bJ, ay⟩ := bI
 refine WP_join (M := fun a w2 => (Fr a 87 [(0, pB bp0), (4, pB b5), (5, pB af)] ∧ Holds (([.bx bp0 89 [A0, iV B1]] : List Res).flatMap Res.own) w w2 [.bx bp0 89 [A0, iV bJ], .bx b5 29 [iV 0, iV 0, iV 0, iV 0], .bx af 29 [iV (IntKind.wrap .i64 (ad + (IntKind.wrap .i64 ((IntKind.wrap .i64 (Int.tdiv ae.2 59)) * 6)))), iV ak, iV ay, iV al]] G)) ?_ ?_
 ·refine Yh q am (fun am => ?_) (fun am => ?_)
  ·refine O am fun aK bK am => ?_
   refine WP_mid (Mid := fun a w2 => (Fr a 87 [(0, pB bp0), (4, pB b5), (5, pB af)] ∧ Holds (([.bx bp0 89 [A0, iV B1]] : List Res).flatMap Res.own) w w2 [.bx bp0 89 [A0, iV aK.1], .bx b5 29 [iV 0, iV 0, iV 0, iV 0], .bx af 29 [iV (IntKind.wrap .i64 (ad + (IntKind.wrap .i64 ((IntKind.wrap .i64 (Int.tdiv ae.2 59)) * 6)))), iV ak, iV (IntKind.wrap .i64 ((IntKind.wrap .i64 (ar + aK.2)) - 5)), iV al]] G)) ?_ ?_
   ·refine WP_ordersT (fun w1 w2 => Chg (([.bx bp0 89 [A0, iV au.1]] : List Res).flatMap Res.own) w1 w2) 6 (by kernel_rfl) fun az bL => have aL := aJ.grow bL; ?_
    have aM : Ctx az ([.bx bp0 89 [A0, iV au.1]] ++ ([.bx b5 29 [iV 0, iV 0, iV 0, iV 0], .bx af 29 [iV (IntKind.wrap .i64 (ad + (IntKind.wrap .i64 ((IntKind.wrap .i64 (Int.tdiv ae.2 59)) * 6)))), iV ak, iV ar, iV al]] ++ G)) := aL.ctx
    have bM : Holds _ az az [.bx bp0 89 [A0, iV au.1]] ([.bx b5 29 [iV 0, iV 0, iV 0, iV 0], .bx af 29 [iV (IntKind.wrap .i64 (ad + (IntKind.wrap .i64 ((IntKind.wrap .i64 (Int.tdiv ae.2 59)) * 6)))), iV ak, iV ar, iV al]] ++ G) := zb (Rs := [.bx bp0 89 [A0, iV au.1]]) aM
    refine have Hc := bM; XQ (i := 0) q (by kernel_rfl) q Hc.chg q (fun _ => qt_fieldAddr uf29 fi29_2 nz3 q) q q <| have bN := HasB.bx (HasB.c (HasB.c (HasB.hd))) Hc.ctx; XT (i := 1) q (by kernel_rfl) q Hc.chg q (qs_cell u3 q q (bN.cell (i := 2) q) Hc.chg (Ctx.outB aM (HasB.c (HasB.hd)))) q q <| XQ (i := 2) q (by kernel_rfl) q Hc.chg q (fun _ => qt_move q) q q ?_
    repeat' first
     | refine XDo 3 q <| V0 q q c60 (w_spec_l20Rd__pick (C0.c.c) bK Hc.ctx) q fun _ HK => ?_; have Hc := Hc.cN1 [_] HK; refine XN Hc.chg <| XQ (i := 4) q (by kernel_rfl) q Hc.chg q (fun _ => qt_add q q) q q <| XQ (i := 5) q (by kernel_rfl) q Hc.chg q (fun _ => qt_sub q q) q q ?_
     | have Hc := aL.cN1 [_] Hc; refine XDo 6 q <| qF uf29 fi29_2 nz3 q q q <| XE q ?_
     | refine XDo 7 q ?_; have Hc := Hc.p2; refine WL_store_bx Hc q il3 q q q q q (fun _ Hc => ?_); refine XE q ?_
     | refine XV [3] (by decide +kernel) q (allc ?_ alln)
     | refine XV [6] (by decide +kernel) q (allc ?_ alln)
     | refine XV [7] (by decide +kernel) q (allc ?_ alln)
     | refine XC_done (by decide +kernel) (fun a ha => ?_); have Hc := ((Hc.p2).p2); exact ⟨ha.s, Hc⟩
   rintro a cr ⟨ha, bO⟩
   cases am
   have bP := bO.p2.p2.p2
   exact X (⟨ha.s, bP⟩)
  refine WP_skip fun a ha => ?_
  obtain ⟨rfl, rfl⟩ := L am |> Prod.mk.inj
  have bQ := aJ.p2.p2.p2
  exact X (⟨ha.s, bQ⟩)
 rintro a ct ⟨ha, aN⟩
 refine S1 ha <| rR <| lA (R aN.p2) us29 uo29 il29 q q q <| have bR := aN.p1; zl (cs' := [iV (IntKind.wrap .i64 (ad + (IntKind.wrap .i64 ((IntKind.wrap .i64 (Int.tdiv ae.2 59)) * 6)))), iV ak, iV ay, iV al]) bR q il29 q q q q q fun cu aO => B <| W fun a ha => ?_
 cases h
 refine have bS := R aO.p0; have bT := aO.q0.q1; ?_
 exact retc q ha q (run_loadVar_bx (cs := [iV (IntKind.wrap .i64 (ad + (IntKind.wrap .i64 ((IntKind.wrap .i64 (Int.tdiv ae.2 59)) * 6)))), iV ak, iV ay, iV al]) us29 uo29 il29 bS) ⟨q, bT⟩
theorem w_spec_l1In {w : World} {G : List Res} {p0 : Int} {p1 : Int} {p2 : Int} {r : Bool} (h : spec_l1InS p0 p1 p2 = some r) (H : Ctx w G) : Calls Tryz.prog 52 #[iV p0, iV p1, iV p2] w fun e w' => e = .returned (.bool r) ∧ Holds M0 w w' [] G := by
 refine E0 (n := 15) H Tryz.func52 q q q fun H => ?_
 unfold spec_l1InS at h
 refine rR <| qA q q q <| rN <| qM q q q <| qM q q q <| A q (qt_geq q q) q q <| qM q q q ?_
 refine Ha (res := ((decide (p0 ≥ p1)) && (decide (p0 ≤ p2)))) 3 an (fun aa K2 ab => ?_) ?_
 ·exact qM (J q aa) q q <| qM (J q aa) q q <| A (J q aa) (qt_leq q q) q q <| ab 3 q q q (ai aa)
 refine qA q q q <| B <| W fun a ha => ?_
 cases h
 exact ret1 q ha q ⟨q, H⟩
theorem w_spec_l1Item {w : World} {G : List Res} {B0 : Int} {A1 : Value} {B1 : LP} (C1 : Has G ty2 A1 B1) {B2 : Int} {p1 : Int} {r : Bool} (h : spec_l1ItemS B0 B1 B2 p1 = some r) (H : Ctx w G) : Calls Tryz.prog 106 #[.agg #[iV B0, A1, iV B2], iV p1] w fun e w' => e = .returned (.bool r) ∧ Holds M0 w w' [] G := by
 refine E0 (n := 77) H Tryz.func106 q q q fun H => ?_
 unfold spec_l1ItemS at h
 refine C <| Z <| WL_box (cs := [iV B0, A1, iV B2]) H q q q q fun b1 w2 H3 => qA q q q <| B <| C <| rR <| qA q q q <| B <| g <| O h fun o6 az h => ?_
 refine fun a8 aA => zp (I := fun s a w2 => match s with | s5 => (Fr a 77 [(1, iV p1), (2, pB b1), (5, iV s5)] ∧ Holds M0 w w2 [.bx b1 55 [iV B0, A1, iV B2]] G)) (O := fun o e a w2 => match o with | .inl _ => e = .exit 0 ∧ (Fr a 77 [(2, pB b1)] ∧ Holds M0 w w2 [.bx b1 55 [iV B0, A1, iV B2]] G) | .inr q0 => e = .ret ∧ (Fr a 77 [(4, .bool q0)] ∧ Holds M0 w w2 [] G)) az ?_ ?_ ?_
 ·exact ⟨aA.s, H3⟩
 ·rintro s5 _ a aX ab ⟨ha, aa⟩
  refine S1 ha <| C <| rR <| qM q q q <| qF uf55 fi55_1 nz53 q q q <| l u53 q (R aa.p0) q q q q <| za aa.ctx (t := ty2) (C1.c) u53 q q q <| A q (qt_lss q q) q q <| B ?_
  refine Yh q ab (fun ab => ?_) (fun ab => ?_)
  ·refine y <| C <| g <| C <| WP_quiet (by kernel_rfl) (by kernel_rfl) <| qF uf55 fi55_1 nz53 q q q <| l u53 q (R aa.p0) q q q q <| qM q q q <| O ab fun aY aq ab => b aa.ctx (C1.c) aq u53 i57 q q q q fun aZ a0 a1 aB => qF uf57 fi57_0 nz3 q q q <| lI u3 q (aa.el (C1.c) aq aB).f q q q <| qM q q q <| A q (qt_sub q q) q q <| O ab fun a2 aC ab => Qc q q c52 aa (fun _ => w_spec_l1In aC) q <| A q (qt_not q) q q <| qM q q q <| O ab fun aD ah ab => ?_
   refine Go (res := aD) 8 (if_t · ah) (fun af a3 aE => ?_) ?_
   ·exact have ah := if_f af ah; qF uf55 fi55_1 nz53 (J q af) q q <| l u53 q (R aa.p0) q (J q af) q q <| qM (J q af) q q <| O ah fun a4 ar ah => b aa.ctx (C1.c) ar u53 i57 (J q af) q q q fun a5 a6 a7 aF => qF uf57 fi57_1 nz3 (J q af) q q <| lI u3 q (aa.el (C1.c) ar aF).s (J q af) q q <| O ah fun a9 aG ah => Qc (J q af) q c52 aa (fun _ => w_spec_l1In aG) q <| A (J q af) (qt_not q) q q <| aE 8 q q q ah
   refine qM q q q <| O ab fun aH ak ab => ?_
   refine Go (res := aH) 18 (if_t · ak) (fun am ba aI => ?_) ?_
   ·refine have ak := if_f am ak; qM (J q am) q q <| A (J q am) (qt_gtr q q) q q <| qM (J q am) q q <| O ak fun aJ aj ak => ?_
    refine Ga (res := aJ) (hw := (J q am)) 14 (if_f · aj) (fun ad bb aK => ?_) ?_
    ·exact have aj := if_t ad aj; qF uf55 fi55_1 nz53 (J q ad) q q <| l u53 q (R aa.p0) q (J q ad) q q <| qM (J q ad) q q <| A (J q ad) (qt_sub q q) q q <| O aj fun bc au aj => b aa.ctx (C1.c) au u53 i57 (J q ad) q q q fun bd be bf aL => qF uf57 fi57_0 nz3 (J q ad) q q <| lI u3 q (aa.el (C1.c) au aL).f (J q ad) q q <| qF uf55 fi55_1 nz53 (J q ad) q q <| l u53 q (R aa.p0) q (J q ad) q q <| qM (J q ad) q q <| O aj fun bg av aj => b aa.ctx (C1.c) av u53 i57 (J q ad) q q q fun bh bi bj aM => qF uf57 fi57_0 nz3 (J q ad) q q <| lI u3 q (aa.el (C1.c) av aM).f (J q ad) q q <| A (J q ad) (qt_geq q q) q q <| aK 14 q q q aj
    exact aI 4 q q q ak
   refine Qn aa fun a ha bk aw => X <| S1 ha ?_
   refine Yh q ab (fun ab => ?_) (fun ab => ?_)
   ·refine rR <| qA q q q <| B <| W fun a ha => ?_
    cases ab
    have aN := aw.q0
    exact zj (m (⟨ret_ne, q, ha.s, aN⟩))
   refine WP_skip fun a ha => zi <| X <| S1 ha <| Z <| qM q q q <| A q (qt_add q q) q q <| qA q q q <| WL_nil fun a ha => ?_
   cases ab
   exact ⟨q, ha.s, aw⟩
  refine WP_exit fun a ha => ?_
  cases ab
  exact zo (⟨exit_ne, q, ha.s, aa⟩)
 intro e a bl ax
 rcases o6 with o6 | o6
 ·obtain ⟨rfl, ha, ae⟩ := ax
  refine zn <| X <| S1 ha <| C <| zk <| qF uf55 fi55_0 nz3 q q q <| l u3 q (R ae.p0) q q q q <| O h fun ay aO h => Qc q q c52 ae (fun _ => w_spec_l1In aO) q <| qM q q q ?_
  refine Ga (res := (ay && (decide ((List.length B1 : Int) ≤ 3)))) 4 an (fun ao bm aP => ?_) ?_
  ·exact qF uf55 fi55_1 nz53 (J q ao) q q <| l u53 q (R ae.p0) q (J q ao) q q <| za ae.ctx (t := ty2) (C1.c) u53 (J q ao) q q <| A (J q ao) (qt_leq q q) q q <| aP 4 q q q (ai ao)
  refine qM q q q ?_
  refine Ga (res := ((ay && (decide ((List.length B1 : Int) ≤ 3))) && ((decide (B0 > 0)) == (decide ((List.length B1 : Int) > 0))))) 8 an (fun ag bn aQ => ?_) ?_
  ·exact qF uf55 fi55_0 nz3 (J q ag) q q <| l u3 q (R ae.p0) q (J q ag) q q <| A (J q ag) (qt_gtr q q) q q <| qF uf55 fi55_1 nz53 (J q ag) q q <| l u53 q (R ae.p0) q (J q ag) q q <| za ae.ctx (t := ty2) (C1.c) u53 (J q ag) q q <| A (J q ag) (qt_gtr q q) q q <| A (J q ag) (qt_beql u4 q q) q q <| aQ 8 q q q (ai ag)
  refine qM q q q <| O h fun aR al h => ?_
  refine Ga (res := aR) 3 (if_f · al) (fun ap bo aS => ?_) ?_
  ·exact have al := if_t ap al; qF uf55 fi55_2 nz3 (J q ap) q q <| l u3 q (R ae.p0) q (J q ap) q q <| O al fun bp aT al => Qc (J q ap) q c52 ae (fun _ => w_spec_l1In aT) q <| aS 3 q q q al
  refine qA q q q <| Qn ae fun a ha bq aU => X <| S1 ha <| W fun a ha => ?_
  obtain rfl := L h
  have aV := aU.q0
  exact ret1 q ha q ⟨q, aV⟩
 obtain ⟨rfl, ha, aW⟩ := ax
 obtain rfl := L h
 exact zj (m (ret1 q ha q ⟨q, aW⟩))
theorem w_spec_ItemsValid {w : World} {G : List Res} {vp0 : Value} {p0 : LI} (hp0 : Has G ty12 vp0 p0) {r : Bool} (h : spec_ItemsValidS p0 = some r) (H : Ctx w G) : Calls Tryz.prog 86 #[vp0] w fun e w' => e = .returned (.bool r) ∧ Holds M0 w w' [] G := by
 refine E0 (n := 20) H Tryz.func86 q q q fun H => ?_
 unfold spec_ItemsValidS at h
 refine rR <| qA q q q <| B <| C <| rR <| qA q q q <| B <| g <| O h fun o2 al h => ?_
 refine fun a4 am => zp (I := fun s a w2 => match s with | s1 => (Fr a 20 [(0, vp0), (3, iV s1)] ∧ Holds M0 w w2 [] G)) (O := fun o e a w2 => match o with | .inl _ => e = .exit 0 ∧ (Fr a 20 [(0, vp0)] ∧ Holds M0 w w2 [] G) | .inr q0 => e = .ret ∧ (Fr a 20 [(2, .bool q0)] ∧ Holds M0 w w2 [] G)) al ?_ ?_ ?_
 ·exact ⟨am.s, H⟩
 ·rintro s1 _ a w6 aa ⟨ha, ab⟩
  refine S1 ha <| C <| rR <| qM q q q <| qM q q q <| za ab.ctx (t := ty12) (hp0) u23 q q q <| A q (qt_lss q q) q q <| B ?_
  refine Yh q aa (fun aa => ?_) (fun aa => ?_)
  ·refine y <| C <| g <| C <| zk <| qM q q q <| qM q q q <| O aa fun ad af aa => b ab.ctx (hp0) af u23 i55 q q q q fun aF aG aH ao => ?_
   obtain ⟨aI, ap, aq⟩ := ab.atN (hp0) af ao
   refine XL_load_agg (t := ty12) us55 uo55 i55 ap q q q fun aJ ar => ?_
   obtain ⟨c22, c23, aK, aL, rfl, au, av, aw⟩ := ar
   obtain ⟨rfl, _⟩ := av
   obtain ⟨c29, c30, aM, aN, rfl, ax, ay, az⟩ := aw
   obtain ⟨ae, rfl, aA⟩ := Rep.sl_inv ay
   obtain ⟨rfl, _⟩ := az
   have ag : Holds _ w w6 [.ro ty2 ae ad.2.1] G := aq [.ro ty2 ae ad.2.1] ⟨⟨_, _, _, _, q, aA, (fun k h => (fun k h => (fun _ h => h) k (by rw [au]; exact zx _ h)) k (by rw [ax]; exact List.mem_append_left _ h))⟩, trivial⟩
   change XL _ _ _ _ _ ((13, .agg #[iV ad.1, ae, iV ad.2.2]) :: _) _
   refine qM q q q <| O aa fun aO aB aa => Qc q q c106 ag (fun _ => w_spec_l1Item hR0 aB) q <| A q (qt_not q) q q <| Qn ag fun a ha aP ah => X <| S1 ha ?_
   refine Yh q aa (fun aa => ?_) (fun aa => ?_)
   ·refine rR <| qA q q q <| B <| W fun a ha => ?_
    cases aa
    have aC := ah.q0
    exact zj (m (⟨ret_ne, q, ha.s, aC⟩))
   refine WP_skip fun a ha => zi <| X <| S1 ha <| Z <| qM q q q <| A q (qt_add q q) q q <| qA q q q <| WL_nil fun a ha => ?_
   cases aa
   have aD := ah.q0
   exact ⟨q, ha.s, aD⟩
  refine WP_exit fun a ha => ?_
  cases aa
  exact zo (⟨exit_ne, q, ha.s, ab⟩)
 intro e a aQ aj
 rcases o2 with o2 | o2
 ·obtain ⟨rfl, ha, ak⟩ := aj
  refine zn <| X <| S1 ha <| rR <| qM q q q <| za ak.ctx (t := ty12) (hp0) u23 q q q <| A q (qt_leq q q) q q <| qA q q q <| B <| W fun a ha => ?_
  cases h
  exact ret1 q ha q ⟨q, ak⟩
 obtain ⟨rfl, ha, aE⟩ := aj
 obtain rfl := L h
 exact zj (m (ret1 q ha q ⟨q, aE⟩))
theorem w_spec_PricesValid {w : World} {G : List Res} {vp0 : Value} {p0 : LI} (hp0 : Has G ty12 vp0 p0) {vp1 : Value} {p1 : List Int} (hp1 : Has G tI vp1 p1) {r : Bool} (h : spec_PricesValidS p0 p1 = some r) (H : Ctx w G) : Calls Tryz.prog 50 #[vp0, vp1] w fun e w' => e = .returned (.bool r) ∧ Holds M0 w w' [] G := by
 refine E0 (n := 27) H Tryz.func50 q q q fun H => ?_
 unfold spec_PricesValidS at h
 refine rR <| qA q q q <| B <| C <| rR <| qA q q q <| B <| g <| O h fun o2 aj h => ?_
 refine fun a4 ak => zp (I := fun s a w2 => match s with | s1 => (Fr a 27 [(0, vp0), (1, vp1), (5, iV s1)] ∧ Holds M0 w w2 [] G)) (O := fun o e a w2 => match o with | .inl _ => e = .exit 0 ∧ (Fr a 27 [(0, vp0), (1, vp1)] ∧ Holds M0 w w2 [] G) | .inr q0 => e = .ret ∧ (Fr a 27 [(4, .bool q0)] ∧ Holds M0 w w2 [] G)) aj ?_ ?_ ?_
 ·exact ⟨ak.s, H⟩
 ·rintro s1 _ a w6 aa ⟨ha, ab⟩
  refine S1 ha <| C <| rR <| qM q q q <| qM q q q <| za ab.ctx (t := tI) (hp1) u24 q q q <| A q (qt_lss q q) q q <| B ?_
  refine Yh q aa (fun aa => ?_) (fun aa => ?_)
  ·refine y <| C <| g <| C <| zk <| qM q q q <| qM q q q <| O aa fun av af aa => b ab.ctx (hp1) af u24 i3 q q q q fun aw ax ay al => lI u3 q (ab.el (hp1) af al) q q q <| O aa fun az am aa => Qc q q c52 ab (fun _ => w_spec_l1In am) q <| A q (qt_not q) q q <| Qn ab fun a ha aA ag => X <| S1 ha ?_
   refine Yh q aa (fun aa => ?_) (fun aa => ?_)
   ·refine rR <| qA q q q <| B <| W fun a ha => ?_
    cases aa
    exact zj (m (⟨ret_ne, q, ha.s, ag⟩))
   refine WP_skip fun a ha => zi <| X <| S1 ha <| Z <| qM q q q <| A q (qt_add q q) q q <| qA q q q <| WL_nil fun a ha => ?_
   cases aa
   exact ⟨q, ha.s, ag⟩
  refine WP_exit fun a ha => ?_
  cases aa
  exact zo (⟨exit_ne, q, ha.s, ab⟩)
 intro e a aB ah
 rcases o2 with o2 | o2
 ·obtain ⟨rfl, ha, ae⟩ := ah
  refine zn <| X <| S1 ha <| C <| zk <| qM q q q <| O h fun ao ap h => Qc q q c86 ae (fun _ => w_spec_ItemsValid (hp0) ap) q <| qM q q q ?_
  refine Ga (res := (ao && ((List.length p1 : Int) == (List.length p0 : Int)))) 5 an (fun ad aC aq => ?_) ?_
  ·exact qM (J q ad) q q <| za ae.ctx (t := tI) (hp1) u24 (J q ad) q q <| qM (J q ad) q q <| za ae.ctx (t := ty12) (hp0) u23 (J q ad) q q <| A (J q ad) (qt_eql q q) q q <| aq 5 q q q (ai ad)
  refine qA q q q <| Qn ae fun a ha aD ar => X <| S1 ha <| W fun a ha => ?_
  cases h
  exact ret1 q ha q ⟨q, ar⟩
 obtain ⟨rfl, ha, au⟩ := ah
 obtain rfl := L h
 exact zj (m (ret1 q ha q ⟨q, au⟩))
theorem w_spec_l1Amounts {w : World} {G : List Res} {vp0 : Value} {p0 : LI} (hp0 : Has G ty12 vp0 p0) {vp1 : Value} {p1 : List Int} (hp1 : Has G tI vp1 p1) {r : Bool} (h : spec_l1AmountsS p0 p1 = some r) (H : Ctx w G) : Calls Tryz.prog 51 #[vp0, vp1] w fun e w' => e = .returned (.bool r) ∧ Holds M0 w w' [] G := by
 refine E0 (n := 23) H Tryz.func51 q q q fun H => ?_
 unfold spec_l1AmountsS at h
 refine rR <| qA q q q <| B <| C <| rR <| qA q q q <| B <| g <| O h fun o2 ah h => ?_
 refine fun a4 aj => zp (I := fun s a w2 => match s with | s1 => (Fr a 23 [(0, vp0), (1, vp1), (5, iV s1)] ∧ Holds M0 w w2 [] G)) (O := fun o e a w2 => match o with | .inl _ => e = .exit 0 ∧ (Fr a 23 [(0, vp0), (1, vp1)] ∧ Holds M0 w w2 [] G) | .inr q0 => e = .ret ∧ (Fr a 23 [(4, .bool q0)] ∧ Holds M0 w w2 [] G)) ah ?_ ?_ ?_
 ·exact ⟨aj.s, H⟩
 ·rintro s1 _ a w6 aa ⟨ha, ab⟩
  refine S1 ha <| C <| rR <| qM q q q <| qM q q q <| za ab.ctx (t := tI) (hp1) u24 q q q <| A q (qt_lss q q) q q <| B ?_
  refine Yh q aa (fun aa => ?_) (fun aa => ?_)
  ·refine y <| C <| g <| C <| zk <| qM q q q <| qM q q q <| O aa fun ao ae aa => b ab.ctx (hp1) ae u24 i3 q q q q fun ap aq ar ak => lI u3 q (ab.el (hp1) ae ak) q q q <| O aa fun au al aa => Qc q q c52 ab (fun _ => w_spec_l1In al) q <| A q (qt_not q) q q <| Qn ab fun a ha av af => X <| S1 ha ?_
   refine Yh q aa (fun aa => ?_) (fun aa => ?_)
   ·refine rR <| qA q q q <| B <| W fun a ha => ?_
    cases aa
    exact zj (m (⟨ret_ne, q, ha.s, af⟩))
   refine WP_skip fun a ha => zi <| X <| S1 ha <| Z <| qM q q q <| A q (qt_add q q) q q <| qA q q q <| WL_nil fun a ha => ?_
   cases aa
   exact ⟨q, ha.s, af⟩
  refine WP_exit fun a ha => ?_
  cases aa
  exact zo (⟨exit_ne, q, ha.s, ab⟩)
 intro e a aw ag
 rcases o2 with o2 | o2
 ·obtain ⟨rfl, ha, ad⟩ := ag
  refine zn <| X <| S1 ha <| rR <| qM q q q <| za ad.ctx (t := tI) (hp1) u24 q q q <| qM q q q <| za ad.ctx (t := ty12) (hp0) u23 q q q <| A q (qt_eql q q) q q <| qA q q q <| B <| W fun a ha => ?_
  cases h
  exact ret1 q ha q ⟨q, ad⟩
 obtain ⟨rfl, ha, am⟩ := ag
 obtain rfl := L h
 exact zj (m (ret1 q ha q ⟨q, am⟩))
theorem w_spec_l4Ready {w : World} {G : List Res} {vp0 : Value} {p0 : LP} (hp0 : Has G ty2 vp0 p0) {p1 : Int} {r : Bool} (h : spec_l4ReadyS p0 p1 = some r) (H : Ctx w G) : Calls Tryz.prog 87 #[vp0, iV p1] w fun e w' => e = .returned (.bool r) ∧ Holds M0 w w' [] G := by
 refine E0 (n := 27) H Tryz.func87 q q q fun H => ?_
 unfold spec_l4ReadyS at h
 refine rR <| qA q q q <| B <| C <| rR <| qA q q q <| B <| g <| O h fun o2 aj h => ?_
 refine fun a4 ak => zp (I := fun s a w2 => match s with | s1 => (Fr a 27 [(0, vp0), (1, iV p1), (5, iV s1)] ∧ Holds M0 w w2 [] G)) (O := fun o e a w2 => match o with | .inl _ => e = .exit 0 ∧ (Fr a 27 [] ∧ Holds M0 w w2 [] G) | .inr q0 => e = .ret ∧ (Fr a 27 [(4, .bool q0)] ∧ Holds M0 w w2 [] G)) aj ?_ ?_ ?_
 ·exact ⟨ak.s, H⟩
 ·rintro s1 _ a w6 aa ⟨ha, ab⟩
  refine S1 ha <| C <| rR <| qM q q q <| qM q q q <| za ab.ctx (t := ty2) (hp0) u45 q q q <| A q (qt_lss q q) q q <| B ?_
  refine Yh q aa (fun aa => ?_) (fun aa => ?_)
  ·refine y <| C <| g <| rR <| qM q q q <| qM q q q <| O aa fun au af aa => b ab.ctx (hp0) af u45 i49 q q q q fun av aw ax al => qF uf49 fi49_0 nz3 q q q <| lI u3 q (ab.el (hp0) af al).f q q q <| qM q q q <| A q (qt_lss q q) q q <| qM q q q <| O aa fun am ae aa => ?_
   refine Ha (res := am) 6 (if_f · ae) (fun ad ay ao => ?_) ?_
   ·exact have ae := if_t ad ae; qM (J q ad) q q <| qM (J q ad) q q <| O ae fun az ag ae => b ab.ctx (hp0) ag u45 i49 (J q ad) q q q fun aA aB aC ap => qF uf49 fi49_1 nz3 (J q ad) q q <| lI u3 q (ab.el (hp0) ag ap).s (J q ad) q q <| A (J q ad) (qt_lss q q) q q <| ao 6 q q q ae
   refine B ?_
   refine Yh q aa (fun aa => ?_) (fun aa => ?_)
   ·refine rR <| qA q q q <| B <| W fun a ha => ?_
    cases aa
    exact zj (m (⟨ret_ne, q, ha.s, ab⟩))
   refine WP_skip fun a ha => zi <| X <| S1 ha <| Z <| qM q q q <| A q (qt_add q q) q q <| qA q q q <| WL_nil fun a ha => ?_
   cases aa
   exact ⟨q, ha.s, ab⟩
  refine WP_exit fun a ha => ?_
  cases aa
  exact zo (⟨exit_ne, q, ha.s, ab⟩)
 intro e a aD ah
 rcases o2 with o2 | o2
 ·obtain ⟨rfl, ha, aq⟩ := ah
  refine zn <| X <| S1 ha <| rR <| qA q q q <| B <| W fun a ha => ?_
  cases h
  exact ret1 q ha q ⟨q, aq⟩
 obtain ⟨rfl, ha, ar⟩ := ah
 obtain rfl := L h
 exact zj (m (ret1 q ha q ⟨q, ar⟩))
theorem w_spec_TicketValid {w : World} {G : List Res} {vp0 : Value} {p0 : LP} (hp0 : Has G ty2 vp0 p0) {r : Bool} (h : spec_TicketValidS p0 = some r) (H : Ctx w G) : Calls Tryz.prog 53 #[vp0] w fun e w' => e = .returned (.bool r) ∧ Holds M0 w w' [] G := by
 refine E0 (n := 38) H Tryz.func53 q q q fun H => ?_
 unfold spec_TicketValidS at h
 refine rR <| qA q q q <| B <| C <| rR <| qA q q q <| B <| g <| O h fun o2 aq h => ?_
 refine fun a4 ar => zp (I := fun s a w2 => match s with | s1 => (Fr a 38 [(0, vp0), (3, iV s1)] ∧ Holds M0 w w2 [] G)) (O := fun o e a w2 => match o with | .inl _ => e = .exit 0 ∧ (Fr a 38 [(0, vp0)] ∧ Holds M0 w w2 [] G) | .inr q0 => e = .ret ∧ (Fr a 38 [(2, .bool q0)] ∧ Holds M0 w w2 [] G)) aq ?_ ?_ ?_
 ·exact ⟨ar.s, H⟩
 ·rintro s1 _ a w6 aa ⟨ha, ag⟩
  refine S1 ha <| C <| rR <| qM q q q <| qM q q q <| za ag.ctx (t := ty2) (hp0) u45 q q q <| A q (qt_lss q q) q q <| B ?_
  refine Yh q aa (fun aa => ?_) (fun aa => ?_)
  ·refine y <| C <| g <| rR <| qM q q q <| qM q q q <| O aa fun ak al aa => b ag.ctx (hp0) al u45 i49 q q q q fun aM aN aO au => ?_
   obtain ⟨aP, av, aQ⟩ := ag.atN (hp0) al au
   refine XL_load_agg (t := ty2) us49 uo49 i49 av q q q fun aR aw => ?_
   obtain ⟨c22, c23, aS, aT, rfl, aU, ax, ay⟩ := aw
   obtain ⟨rfl, _⟩ := ax
   obtain ⟨rfl, _⟩ := ay
   change XL _ _ _ _ _ ((14, .agg #[iV ak.1, iV ak.2]) :: _) _
   refine zq (cs := [iV 0, iV 0]) ag z49 q q q fun aV aW az => zl (cs' := [iV ak.1, iV ak.2]) az q il49 q q q q q fun aX ah => B <| C <| C <| zk <| qF uf49 fi49_0 nz3 q q q <| l u3 q (R ah.p0) q q q q <| O aa fun aY aA aa => Qc q q c52 ah (fun _ => w_spec_l1In aA) q <| A q (qt_not q) q q <| qM q q q <| O aa fun aB ab aa => ?_
   refine Go (res := aB) 4 (if_t · ab) (fun aj aZ aC => ?_) ?_
   ·exact have ab := if_f aj ab; qF uf49 fi49_1 nz3 (J q aj) q q <| l u3 q (R ah.p0) q (J q aj) q q <| O ab fun a0 aD ab => Qc (J q aj) q c52 ah (fun _ => w_spec_l1In aD) q <| A (J q aj) (qt_not q) q q <| aC 4 q q q ab
   refine Qn ah fun a ha a1 ad => X <| S1 ha ?_
   refine Yh q aa (fun aa => ?_) (fun aa => ?_)
   ·refine rR <| qA q q q <| B <| W fun a ha => ?_
    cases aa
    have aE := ad.q0
    exact m (zj (m (⟨ret_ne, q, ha.s, aE⟩)))
   refine y <| C <| zk <| qF uf49 fi49_1 nz3 q q q <| l u3 q (R ad.p0) q q q q <| O aa fun a2 aF aa => Qc q q c52 ad (fun _ => w_spec_l1In aF) q <| qM q q q <| O aa fun aG ae aa => ?_
   refine Ga (res := aG) 5 (if_f · ae) (fun af a3 aH => ?_) ?_
   ·exact have ae := if_t af ae; qM (J q af) q q <| qF uf49 fi49_0 nz3 (J q af) q q <| l u3 q (R ad.p0) q (J q af) q q <| O ae fun a5 aI ae => Qc (J q af) q c87 ad (fun _ => w_spec_l4Ready (hp0.c) aI) q <| A (J q af) (qt_not q) q q <| aH 5 q q q ae
   refine Qn ad fun a ha a6 am => X <| S1 ha ?_
   refine Yh q aa (fun aa => ?_) (fun aa => ?_)
   ·refine rR <| qA q q q <| B <| W fun a ha => ?_
    cases aa
    have aJ := am.q0
    exact zj (m (⟨ret_ne, q, ha.s, aJ⟩))
   refine WP_skip fun a ha => zi <| X <| S1 ha <| Z <| qM q q q <| A q (qt_add q q) q q <| qA q q q <| WL_nil fun a ha => ?_
   cases aa
   have aK := am.q0
   exact ⟨q, ha.s, aK⟩
  refine WP_exit fun a ha => ?_
  cases aa
  exact zo (⟨exit_ne, q, ha.s, ag⟩)
 intro e a a7 ao
 rcases o2 with o2 | o2
 ·obtain ⟨rfl, ha, ap⟩ := ao
  refine zn <| X <| S1 ha <| rR <| qM q q q <| za ap.ctx (t := ty2) (hp0) u45 q q q <| A q (qt_leq q q) q q <| qA q q q <| B <| W fun a ha => ?_
  cases h
  exact ret1 q ha q ⟨q, ap⟩
 obtain ⟨rfl, ha, aL⟩ := ao
 obtain rfl := L h
 exact zj (m (ret1 q ha q ⟨q, aL⟩))
theorem w_spec_l1Join {w : World} {G : List Res} {p0 : Int} {p1 : Int} {r : Int} (h : spec_l1JoinS p0 p1 = some r) (H : Ctx w G) : Calls Tryz.prog 107 #[iV p0, iV p1] w fun e w' => e = .returned (iV r) ∧ Holds M0 w w' [] G := by
 refine E0 (n := 30) H Tryz.func107 q q q fun H => ?_
 unfold spec_l1JoinS at h
 refine rR <| qA q q q <| rN <| qA q q q <| B <| C <| C <| Z <| qA q q q <| B <| g <| O h fun o3 af h => ?_
 refine fun a5 ag => zp (I := fun s a w2 => match s with | (s1, s2) => (Fr a 30 [(0, iV p0), (1, iV p1), (5, iV s1), (6, iV s2)] ∧ Holds M0 w w2 [] G)) (O := fun o e a w2 => match o with | q0 => e = .exit 0 ∧ (Fr a 30 [(5, iV q0)] ∧ Holds M0 w w2 [] G)) af ?_ ?_ ?_
 ·exact ⟨ag.s, H⟩
 ·rintro ⟨s1, s2⟩ _ a w7 aa ⟨ha, ae⟩
  refine S1 ha <| C <| rR <| qM q q q <| qM q q q <| qM q q q <| A q (qt_max q q) q q <| A q (qt_leq q q) q q <| B ?_
  refine Yh q aa (fun aa => ?_) (fun aa => ?_)
  ·refine y <| C <| g <| rR <| qM q q q <| qM q q q <| O aa fun ao ah aa => A q (qt_quoO q q ah) q q <| A q (qt_rem q q (by decide)) q q <| A q (qt_eql q q) q q <| qM q q q <| O aa fun aj ab aa => ?_
   refine Ho (res := aj) 5 (if_t · ab) (fun ad ap ak => ?_) ?_
   ·exact have ab := if_f ad ab; qM (J q ad) q q <| qM (J q ad) q q <| O ab fun aq al ab => A (J q ad) (qt_quoO q q al) q q <| A (J q ad) (qt_rem q q (by decide)) q q <| A (J q ad) (qt_eql q q) q q <| ak 5 q q q ab
   refine B ?_
   refine Yh q aa (fun aa => ?_) (fun aa => ?_)
   ·refine Z <| qM q q q <| qM q q q <| A q (qt_add q q) q q <| qA q q q <| WL_nil fun a ha => zi <| X <| S1 ha <| Z <| qM q q q <| A q (qt_mul q q) q q <| qA q q q <| WL_nil fun a ha => ?_
    cases aa
    exact ⟨q, ha.s, ae⟩
   refine WP_skip fun a ha => zi <| X <| S1 ha <| Z <| qM q q q <| A q (qt_mul q q) q q <| qA q q q <| WL_nil fun a ha => ?_
   cases aa
   exact ⟨q, ha.s, ae⟩
  refine WP_exit fun a ha => ?_
  cases aa
  exact zo (⟨exit_ne, q, ha.s, ae⟩)
 rintro _ a ar ⟨rfl, ha, am⟩
 refine zn <| X <| S1 ha <| rR <| qM q q q <| qA q q q <| B <| W fun a ha => ?_
 obtain rfl := L h
 exact ret1 q ha q ⟨q, am⟩
theorem w_spec_UsesOf {w : World} {G : List Res} {vp0 : Value} {p0 : LI} (hp0 : Has G ty12 vp0 p0) {p1 : Int} {r : Int} (h : spec_UsesOfS p0 p1 = some r) (H : Ctx w G) : Calls Tryz.prog 108 #[vp0, iV p1] w fun e w' => e = .returned (iV r) ∧ Holds M0 w w' [] G := by
 refine E0 (n := 56) H Tryz.func108 q q q fun H => ?_
 unfold spec_UsesOfS at h
 refine rR <| qA q q q <| B <| C <| C <| zk <| qM q q q <| O h fun x1 ax h => Qc q q c86 H (fun _ => w_spec_ItemsValid (hp0) ax) q <| A q (qt_not q) q q <| qM q q q <| O h fun b3 ae h => ?_
 refine Go (res := b3) 6 (if_t · ae) (fun ab K6 ay => ?_) ?_
 ·exact have ae := if_f ab ae; qM (J q ab) q q <| qM (J q ab) q q <| za H.ctx (t := ty12) (hp0) u23 (J q ab) q q <| A (J q ab) (qt_sub q q) q q <| O ae fun x8 az ae => Qc (J q ab) q c52 H (fun _ => w_spec_l1In az) q <| A (J q ab) (qt_not q) q q <| ay 6 q q q ae
 refine Qn H fun a ha aS al => X <| S1 ha ?_
 refine Yh q h (fun h => ?_) (fun h => ?_)
 ·refine rR <| qA q q q <| B <| W fun a ha => ?_
  cases h
  exact m (ret1 q ha q ⟨q, al⟩)
 refine y <| rR <| qM q q q <| O h fun aT aA h => A q (qt_shlO q q aA) q q <| qA q q q <| B <| C <| C <| Z <| qM q q q <| qA q q q <| B <| g <| O h fun aU aB h => ?_
 refine fun aV aC => zp (I := fun s a w2 => match s with | (am, ah) => (Fr a 56 [(0, vp0), (5, iV am), (6, iV ah)] ∧ Holds M0 w w2 [] G)) (O := fun o e a w2 => match o with | q0 => e = .exit 0 ∧ (Fr a 56 [(5, iV q0)] ∧ Holds M0 w w2 [] G)) aB ?_ ?_ ?_
 ·exact ⟨aC.s, al⟩
 ·rintro ⟨am, ah⟩ _ a aW ad ⟨ha, ao⟩
  refine S1 ha <| C <| rR <| qM q q q <| A q (qt_geq q q) q q <| B ?_
  refine Yh q ad (fun ad => ?_) (fun ad => ?_)
  ·refine y <| C <| g <| rR <| qA q q q <| B <| g <| O ad fun aX aD ad => ?_
   refine fun aY aE => zp (I := fun s a w2 => match s with | (ap, aq) => (Fr a 56 [(0, vp0), (5, iV ap), (6, iV ah), (7, iV aq)] ∧ Holds M0 w w2 [] G)) (O := fun o e a w2 => match o with | q0 => e = .exit 2 ∧ (Fr a 56 [(0, vp0), (5, iV q0), (6, iV ah)] ∧ Holds M0 w w2 [] G)) aD ?_ ?_ ?_
   ·exact ⟨aE.s, ao⟩
   ·rintro ⟨ap, aq⟩ _ a aZ aa ⟨ha, ar⟩
    refine S1 ha <| C <| rR <| qM q q q <| qM q q q <| qM q q q <| O aa fun a0 au aa => b ar.ctx (hp0) au u23 i55 q q q q fun a1 a2 a3 aF => qF uf55 fi55_1 nz53 q q q <| lV u53 q (ar.el (hp0) au aF).s.f q q q fun a4 aj => za aj.ctx (t := ty2) hR0 u53 q q q <| A q (qt_lss q q) q q <| qM q q q <| O aa fun aG af aa => ?_
    refine Ha (res := aG) 5 (if_f · af) (fun ag a5 aH => ?_) ?_
    ·exact have af := if_t ag af; qM (J q ag) q q <| qM (J q ag) q q <| O af fun a6 aI af => A (J q ag) (qt_shrO q q aI) q q <| A (J q ag) (qt_rem q q (by decide)) q q <| A (J q ag) (qt_eql q q) q q <| aH 5 q q q af
    refine B ?_
    refine Yh q aa (fun aa => ?_) (fun aa => ?_)
    ·refine y <| C <| g <| zk <| qM q q q <| qM q q q <| qM q q q <| O aa fun a7 av aa => b aj.ctx (hp0.c) av u23 i55 q q q q fun a8 a9 ba aJ => qF uf55 fi55_1 nz53 q q q <| lV u53 q (aj.el (hp0.c) av aJ).s.f q q q fun bb ak => qM q q q <| O aa fun bc aw aa => b ak.ctx hR0 aw u53 i57 q q q q fun bd be bf aK => qF uf57 fi57_0 nz3 q q q <| lI u3 q (ak.el hR0 aw aK).f q q q <| O aa fun bg aL aa => A q (qt_shlO q q aL) q q <| O aa fun bh aM aa => Qc q q c107 ak (fun _ => w_spec_l1Join aM) q <| qA q q q <| Qn ak fun a ha bi aN => zi <| X <| S1 ha <| Z <| qM q q q <| A q (qt_add q q) q q <| qA q q q <| WL_nil fun a ha => ?_
     cases aa
     have aO := aN.q0.q0
     exact ⟨q, ha.s, aO⟩
    refine WP_exit fun a ha => ?_
    cases aa
    have aP := aj.q0
    exact zo (⟨exit_ne, q, ha.s, aP⟩)
   rintro _ a bj ⟨rfl, ha, aQ⟩
   refine zn <| zi <| X <| S1 ha <| Z <| qM q q q <| A q (qt_sub q q) q q <| qA q q q <| WL_nil fun a ha => ?_
   cases ad
   exact ⟨q, ha.s, aQ⟩
  refine WP_exit fun a ha => ?_
  cases ad
  exact zo (⟨exit_ne, q, ha.s, ao⟩)
 rintro _ a bk ⟨rfl, ha, aR⟩
 refine zn <| X <| S1 ha <| rR <| qM q q q <| qA q q q <| B <| W fun a ha => ?_
 obtain rfl := L h
 exact ret1 q ha q ⟨q, aR⟩
theorem w_spec_MarksOf {w : World} {G : List Res} {vp0 : Value} {p0 : LI} (hp0 : Has G ty12 vp0 p0) {p1 : Int} {r : Int} (h : spec_MarksOfS p0 p1 = some r) (H : Ctx w G) : Calls Tryz.prog 89 #[vp0, iV p1] w fun e w' => e = .returned (iV r) ∧ Holds M0 w w' [] G := by
 refine E0 (n := 31) H Tryz.func89 q q q fun H => ?_
 unfold spec_MarksOfS at h
 refine rR <| qA q q q <| B <| C <| zk <| qM q q q <| qM q q q <| O h fun x1 ae h => Qc q q c108 H (fun _ => w_spec_UsesOf (hp0) ae) q <| qA q q q <| Qn H fun a ha w3 H5 => X <| S1 ha <| C <| rR <| qM q q q <| A q (qt_lss q q) q q <| B ?_
 refine Yh q h (fun h => ?_) (fun h => ?_)
 ·refine rR <| qA q q q <| B <| W fun a ha => ?_
  cases h
  exact m (ret1 q ha q ⟨q, H5⟩)
 refine y <| rR <| qA q q q <| B <| C <| rR <| qA q q q <| B <| g <| O h fun o9 af h => ?_
 refine fun ao ag => zp (I := fun s a w2 => match s with | (s7, s8) => (Fr a 31 [(0, vp0), (1, iV p1), (5, iV x1), (6, iV s7), (7, iV s8)] ∧ Holds M0 w w2 [] G)) (O := fun o e a w2 => match o with | q0 => e = .exit 0 ∧ (Fr a 31 [(6, iV q0)] ∧ Holds M0 w w2 [] G)) af ?_ ?_ ?_
 ·exact ⟨ag.s, H5⟩
 ·rintro ⟨s7, s8⟩ _ a ap aa ⟨ha, ab⟩
  refine S1 ha <| C <| rR <| qM q q q <| qM q q q <| A q (qt_leq q q) q q <| B ?_
  refine Yh q aa (fun aa => ?_) (fun aa => ?_)
  ·refine y <| C <| g <| rR <| qM q q q <| qM q q q <| O aa fun aq ah aa => A q (qt_shrO q q ah) q q <| A q (qt_rem q q (by decide)) q q <| A q (qt_eql q q) q q <| B ?_
   refine Yh q aa (fun aa => ?_) (fun aa => ?_)
   ·refine zk <| qM q q q <| qM q q q <| qM q q q <| O aa fun ar ad aa => b ab.ctx (hp0) ad u23 i55 q q q q fun au av aw aj => qF uf55 fi55_2 nz3 q q q <| lI u3 q (ab.el (hp0) ad aj).s.s q q q <| O aa fun ax ak aa => Qc q q c107 ab (fun _ => w_spec_l1Join ak) q <| qA q q q <| Qn ab fun a ha ay al => zi <| X <| S1 ha <| Z <| qM q q q <| A q (qt_add q q) q q <| qA q q q <| WL_nil fun a ha => ?_
    cases aa
    exact ⟨q, ha.s, al⟩
   refine WP_skip fun a ha => zi <| X <| S1 ha <| Z <| qM q q q <| A q (qt_add q q) q q <| qA q q q <| WL_nil fun a ha => ?_
   cases aa
   exact ⟨q, ha.s, ab⟩
  refine WP_exit fun a ha => ?_
  cases aa
  exact zo (⟨exit_ne, q, ha.s, ab⟩)
 rintro _ a az ⟨rfl, ha, am⟩
 refine zn <| X <| S1 ha <| rR <| qM q q q <| qA q q q <| B <| W fun a ha => ?_
 obtain rfl := L h
 exact ret1 q ha q ⟨q, am⟩
theorem w_spec_l1Meet {w : World} {G : List Res} {p0 : Int} {p1 : Int} {r : Int} (h : spec_l1MeetS p0 p1 = some r) (H : Ctx w G) : Calls Tryz.prog 88 #[iV p0, iV p1] w fun e w' => e = .returned (iV r) ∧ Holds M0 w w' [] G := by
 refine E0 (n := 12) H Tryz.func88 q q q fun H => ?_
 unfold spec_l1MeetS at h
 refine rR <| qA q q q <| B <| C <| zk <| qM q q q <| qM q q q <| A q (qt_add q q) q q <| qM q q q <| qM q q q <| O h fun x1 aa h => Qc q q c107 H (fun _ => w_spec_l1Join aa) q <| A q (qt_sub q q) q q <| qA q q q <| Qn H fun a ha w3 H5 => X <| S1 ha <| W fun a ha => ?_
 cases h
 exact ret1 q ha q ⟨q, H5⟩
theorem w_spec_FreeOf {w : World} {G : List Res} {vp0 : Value} {p0 : LI} (hp0 : Has G ty12 vp0 p0) {p1 : Int} {r : (List Int)} (h : spec_FreeOfS p0 p1 = some r) (H : Ctx w G) : Calls Tryz.prog 54 #[vp0, iV p1] w fun e w' => ∃ (v1 : Value), e = .returned (v1) ∧ Holds M0 w w' [.sl 3 tI v1 r] G := by
 refine E0 (n := 41) H Tryz.func54 q q q fun H => ?_
 unfold spec_FreeOfS at h
 refine rR <| qA q q q <| B <| C <| Z <| zs (t := tI) (args := []) (xs := ([] : List Int)) H (BltL.nil) u24 j3 q q q q q q fun v1 w2 H3 => qA q q q <| B <| C <| rR <| qA q q q <| B <| g <| O h fun o7 aq h => ?_
 refine fun a9 ar => zp (I := fun s a w2 => match s with | (s5, s6) => ∃ ah, Fr a 41 [(0, vp0), (1, iV p1), (5, ah), (6, iV s6)] ∧ Holds M0 w w2 [.sl 3 tI ah s5] G) (O := fun o e a w2 => match o with | q0 => e = .exit 0 ∧ ∃ am, Fr a 41 [(5, am)] ∧ Holds M0 w w2 [.sl 3 tI am q0] G) aq ?_ ?_ ?_
 ·exact ⟨v1, ar.s, H3⟩
 ·rintro ⟨s5, s6⟩ _ a aN aa ⟨ah, ha, aj⟩
  refine S1 ha <| C <| C <| zk <| qM q q q <| qM q q q <| za aj.ctx (t := ty12) (hp0.c) u23 q q q <| A q (qt_lss q q) q q <| qM q q q <| O aa fun au ae aa => ?_
  refine Ga (res := au) 2 (if_f · ae) (fun ak aO av => ?_) ?_
  ·exact have ae := if_t ak ae; qM (J q ak) q q <| O ae fun aP aw ae => Qc (J q ak) q c86 aj (fun _ => w_spec_ItemsValid (hp0.c) aw) q <| av 2 q q q ae
  refine qM q q q <| O aa fun ax af aa => ?_
  refine Ga (res := ax) 2 (if_f · af) (fun al aQ ay => ?_) ?_
  ·exact have af := if_t al af; qM (J q al) q q <| O af fun aR az af => Qc (J q al) q c52 aj (fun _ => w_spec_l1In az) q <| ay 2 q q q af
  refine Qn aj fun a ha aS ag => X <| S1 ha ?_
  refine Yh q aa (fun aa => ?_) (fun aa => ?_)
  ·refine y <| C <| g <| C <| zk <| qM q q q <| qM q q q <| O aa fun aT ao aa => b ag.ctx (hp0.c) ao u23 i55 q q q q fun aU aV aW aA => qF uf55 fi55_0 nz3 q q q <| lI u3 q (ag.el (hp0.c) ao aA).f q q q <| A q (qt_gtr q q) q q <| qM q q q <| O aa fun aB ab aa => ?_
   refine Ga (res := aB) 6 (if_f · ab) (fun ad aX aC => ?_) ?_
   ·exact have ab := if_t ad ab; qM (J q ad) q q <| qM (J q ad) q q <| O ab fun aY aD ab => Qc (J q ad) q c89 ag (fun _ => w_spec_MarksOf (hp0.c) aD) q <| qM (J q ad) q q <| O ab fun aZ aE ab => Qc (J q ad) q c88 ag (fun _ => w_spec_l1Meet aE) q <| A (J q ad) (qt_eql q q) q q <| aC 6 q q q ab
   refine Qn ag fun a ha a0 ap => X <| S1 ha ?_
   refine Yh q aa (fun aa => ?_) (fun aa => ?_)
   ·refine Z <| qM q q q <| qM q q q <| zs (t := tI) (args := [.tmp 37]) (xs := ([s6] : List Int)) ap (BltL.cons (Blt.int) q (BltL.nil)) u24 j3 q q q q q q fun a1 a2 aF => have aG := aF.p1; O aa fun a3 aH aa => zw aG hS1 aH u24 j3 q q q q q q fun aI a4 aJ => qA q q q <| WL_nil fun a ha => zi <| X <| S1 ha <| Z <| qM q q q <| A q (qt_add q q) q q <| qA q q q <| WL_nil fun a ha => ?_
    cases aa
    have aK := aJ.q1
    exact ⟨q, aI, ha.s, aK⟩
   refine WP_skip fun a ha => zi <| X <| S1 ha <| Z <| qM q q q <| A q (qt_add q q) q q <| qA q q q <| WL_nil fun a ha => ?_
   cases aa
   exact ⟨q, ah, ha.s, ap⟩
  refine WP_exit fun a ha => ?_
  cases aa
  exact zo (⟨exit_ne, q, ah, ha.s, ag⟩)
 rintro _ a a5 ⟨rfl, aL, ha, aM⟩
 refine zn <| X <| S1 ha <| rR <| qM q q q <| qA q q q <| B <| W fun a ha => ?_
 obtain rfl := L h
 exact ret1 q ha q ⟨aL, q, aM⟩
theorem w_spec_l1Has {w : World} {G : List Res} {vp0 : Value} {p0 : List Int} (hp0 : Has G tI vp0 p0) {p1 : Int} {r : Bool} (h : spec_l1HasS p0 p1 = some r) (H : Ctx w G) : Calls Tryz.prog 55 #[vp0, iV p1] w fun e w' => e = .returned (.bool r) ∧ Holds M0 w w' [] G := by
 refine E0 (n := 18) H Tryz.func55 q q q fun H => ?_
 unfold spec_l1HasS at h
 refine rR <| qA q q q <| B <| C <| rR <| qA q q q <| B <| g <| O h fun o2 ae h => ?_
 refine fun a4 af => zp (I := fun s a w2 => match s with | s1 => (Fr a 18 [(0, vp0), (1, iV p1), (5, iV s1)] ∧ Holds M0 w w2 [] G)) (O := fun o e a w2 => match o with | .inl _ => e = .exit 0 ∧ (Fr a 18 [] ∧ Holds M0 w w2 [] G) | .inr q0 => e = .ret ∧ (Fr a 18 [(4, .bool q0)] ∧ Holds M0 w w2 [] G)) ae ?_ ?_ ?_
 ·exact ⟨af.s, H⟩
 ·rintro s1 _ a w6 aa ⟨ha, ab⟩
  refine S1 ha <| C <| rR <| qM q q q <| qM q q q <| za ab.ctx (t := tI) (hp0) u24 q q q <| A q (qt_lss q q) q q <| B ?_
  refine Yh q aa (fun aa => ?_) (fun aa => ?_)
  ·refine y <| C <| g <| rR <| qM q q q <| qM q q q <| O aa fun ak ad aa => b ab.ctx (hp0) ad u24 i3 q q q q fun al am ao ag => lI u3 q (ab.el (hp0) ad ag) q q q <| qM q q q <| A q (qt_eql q q) q q <| B ?_
   refine Yh q aa (fun aa => ?_) (fun aa => ?_)
   ·refine rR <| qA q q q <| B <| W fun a ha => ?_
    cases aa
    exact zj (m (⟨ret_ne, q, ha.s, ab⟩))
   refine WP_skip fun a ha => zi <| X <| S1 ha <| Z <| qM q q q <| A q (qt_add q q) q q <| qA q q q <| WL_nil fun a ha => ?_
   cases aa
   exact ⟨q, ha.s, ab⟩
  refine WP_exit fun a ha => ?_
  cases aa
  exact zo (⟨exit_ne, q, ha.s, ab⟩)
 intro e a ap hO18
 rcases o2 with o2 | o2
 ·obtain ⟨rfl, ha, ah⟩ := hO18
  refine zn <| X <| S1 ha <| rR <| qA q q q <| B <| W fun a ha => ?_
  cases h
  exact ret1 q ha q ⟨q, ah⟩
 obtain ⟨rfl, ha, aj⟩ := hO18
 obtain rfl := L h
 exact zj (m (ret1 q ha q ⟨q, aj⟩))
theorem w_spec_HouseValid {w : World} {G : List Res} {A0 : Value} {B0 : LI} (C0 : Has G ty12 A0 B0) {A1 : Value} {B1 : List Int} (C1 : Has G tI A1 B1) {A2 : Value} {B2 : List Int} (C2 : Has G tI A2 B2) {B3 : Int} {A4 : Value} {B4 : LT} (C4 : Has G ty14 A4 B4) {r : Bool} (h : spec_HouseValidS B0 B1 B2 B3 B4 = some r) (H : Ctx w G) : Calls Tryz.prog 17 #[.agg #[A0, A1, A2, iV B3, A4]] w fun e w' => e = .returned (.bool r) ∧ Holds M0 w w' [] G := by
 refine E0 (n := 84) H Tryz.func17 q q q fun H => ?_
 unfold spec_HouseValidS at h
 refine C <| Z <| WL_box (cs := [A0, A1, A2, iV B3, A4]) H q q q q fun b1 w2 H3 => qA q q q <| B <| C <| C <| zk <| qF uf27 fi27_0 nz23 q q q <| l u23 q (R H3.p0) q q q q <| qF uf27 fi27_1 nz24 q q q <| l u24 q (R H3.p0) q q q q <| O h fun x7 aN h => Qc q q c50 H3 (fun _ => w_spec_PricesValid (C0.c) (C1.c) aN) q <| A q (qt_not q) q q <| qM q q q <| O h fun b9 aj h => ?_
 refine Go (res := b9) 6 (if_t · aj) (fun ah bu aO => ?_) ?_
 ·exact have aj := if_f ah aj; qF uf27 fi27_0 nz23 (J q ah) q q <| l u23 q (R H3.p0) q (J q ah) q q <| qF uf27 fi27_2 nz24 (J q ah) q q <| l u24 q (R H3.p0) q (J q ah) q q <| O aj fun bv aP aj => Qc (J q ah) q c51 H3 (fun _ => w_spec_l1Amounts (C0.c) (C2.c) aP) q <| A (J q ah) (qt_not q) q q <| aO 6 q q q aj
 refine qM q q q <| O h fun aA ak h => ?_
 refine Go (res := aA) 4 (if_t · ak) (fun aq bw aQ => ?_) ?_
 ·exact have ak := if_f aq ak; qF uf27 fi27_3 nz3 (J q aq) q q <| l u3 q (R H3.p0) q (J q aq) q q <| O ak fun bz aR ak => Qc (J q aq) q c52 H3 (fun _ => w_spec_l1In aR) q <| A (J q aq) (qt_not q) q q <| aQ 4 q q q ak
 refine qM q q q ?_
 refine Go (res := (aA || (decide ((List.length B4 : Int) > 4)))) 4 os (fun ar bA aS => ?_) ?_
 ·exact qF uf27 fi27_4 nz25 (J q ar) q q <| l u25 q (R H3.p0) q (J q ar) q q <| za H3.ctx (t := ty14) (C4.c) u25 (J q ar) q q <| A (J q ar) (qt_gtr q q) q q <| aS 4 q q q (oi ar)
 refine Qn H3 fun a ha bB aB => X <| S1 ha ?_
 refine Yh q h (fun h => ?_) (fun h => ?_)
 ·refine rR <| qA q q q <| B <| W fun a ha => ?_
  cases h
  have aT := aB.q0
  exact m (ret1 q ha q ⟨q, aT⟩)
 refine y <| C <| rR <| qA q q q <| B <| g <| O h fun ax aU h => ?_
 refine fun bC aV => zp (I := fun s a w2 => match s with | aw => (Fr a 84 [(1, pB b1), (3, iV aw)] ∧ Holds M0 w w2 [.bx b1 27 [A0, A1, A2, iV B3, A4]] G)) (O := fun o e a w2 => match o with | .inl _ => e = .exit 0 ∧ (Fr a 84 [] ∧ Holds M0 w w2 [] G) | .inr q0 => e = .ret ∧ (Fr a 84 [(2, .bool q0)] ∧ Holds M0 w w2 [] G)) aU ?_ ?_ ?_
 ·exact ⟨aV.s, aB⟩
 ·rintro aw _ a aW aa ⟨ha, al⟩
  refine S1 ha <| C <| rR <| qM q q q <| qF uf27 fi27_4 nz25 q q q <| l u25 q (R al.p0) q q q q <| za al.ctx (t := ty14) (C4.c) u25 q q q <| A q (qt_lss q q) q q <| B ?_
  refine Yh q aa (fun aa => ?_) (fun aa => ?_)
  ·refine y <| C <| g <| rR <| qF uf27 fi27_4 nz25 q q q <| l u25 q (R al.p0) q q q q <| qM q q q <| O aa fun ad aC aa => b al.ctx (C4.c) aC u25 i47 q q q q fun bD bE bF aX => ?_
   obtain ⟨bG, aY, aZ⟩ := al.atN (C4.c) aC aX
   refine XL_load_agg (t := ty14) us47 uo47 i47 aY q q q fun bH a0 => ?_
   obtain ⟨c58, c59, bI, bJ, rfl, aD, a1, a2⟩ := a0
   obtain ⟨rfl, _⟩ := a1
   obtain ⟨c65, c66, bK, bL, rfl, aE, a3, a4⟩ := a2
   obtain ⟨am, rfl, a5⟩ := Rep.sl_inv a3
   obtain ⟨ao, rfl, a6⟩ := Rep.sl_inv a4
   have a7 : Holds _ w aW [.ro ty2 am ad.2.1, .ro tI ao ad.2.2, .bx b1 27 [A0, A1, A2, iV B3, A4]] G := aZ [.ro ty2 am ad.2.1, .ro tI ao ad.2.2] ⟨⟨_, _, _, _, q, a5, (fun k h => (fun k h => (fun _ h => h) k (by rw [aD]; exact zx _ h)) k (by rw [aE]; exact List.mem_append_left _ h))⟩, ⟨_, _, _, _, q, a6, (fun k h => (fun k h => (fun _ h => h) k (by rw [aD]; exact zx _ h)) k (by rw [aE]; exact zx _ h))⟩, trivial⟩
   change XL _ _ _ _ _ ((44, .agg #[iV ad.1, am, ao]) :: _) _
   refine zq (cs := [iV 0, nS, nS]) a7 z47 q q q fun aF bM ay => zl (cs' := [iV ad.1, am, ao]) ay q il47 q (T q (T (ay.ctx.sliceOne hR1) (T (ay.ctx.sliceOne hR2) q))) q q q fun bN ae => B <| C <| C <| zk <| qF uf47 fi47_0 nz3 q q q <| l u3 q (R ae.p0) q q q q <| O aa fun bO a8 aa => Qc q q c52 ae (fun _ => w_spec_l1In a8) q <| A q (qt_not q) q q <| qM q q q <| O aa fun aG ap aa => ?_
   refine Go (res := aG) 4 (if_t · ap) (fun au bP a9 => ?_) ?_
   ·exact have ap := if_f au ap; qF uf47 fi47_1 nz45 (J q au) q q <| l u45 q (R ae.p0) q (J q au) q q <| O ap fun bQ ba ap => Qc (J q au) q c53 ae (fun _ => w_spec_TicketValid hR1 ba) q <| A (J q au) (qt_not q) q q <| a9 4 q q q ap
   refine qM q q q ?_
   refine Go (res := (aG || ((List.length ad.2.2 : Int) != (List.length ad.2.1 : Int)))) 7 os (fun af bR bb => ?_) ?_
   ·exact qF uf47 fi47_2 nz24 (J q af) q q <| l u24 q (R ae.p0) q (J q af) q q <| za ae.ctx (t := tI) hR2 u24 (J q af) q q <| qF uf47 fi47_1 nz45 (J q af) q q <| l u45 q (R ae.p0) q (J q af) q q <| za ae.ctx (t := ty2) hR1 u45 (J q af) q q <| A (J q af) (qt_neq q q) q q <| bb 7 q q q (oi af)
   refine Qn ae fun a ha bS av => X <| S1 ha ?_
   refine Yh q aa (fun aa => ?_) (fun aa => ?_)
   ·refine rR <| qA q q q <| B <| W fun a ha => ?_
    cases aa
    have bc := av.q0.q0.q0.q0
    exact m (zj (m (⟨ret_ne, q, ha.s, bc⟩)))
   refine y <| rR <| qF uf27 fi27_0 nz23 q q q <| l u23 q (R av.p3) q q q q <| qF uf47 fi47_0 nz3 q q q <| l u3 q (R av.p0) q q q q <| O aa fun bd be aa => V1 q q c54 (w_spec_FreeOf (C0.c.c.c.c) be av.ctx) q fun aH bT bf => have bg := av.cN1 [] bf; qA q q q <| rN <| qA q q q <| B <| g <| O aa fun az bh aa => have bi := bg.p3.p3.p3.p4; ?_
   refine fun bU bj => zp (I := fun s a w2 => match s with | aI => (Fr a 84 [(1, pB b1), (3, iV aw), (4, pB aF), (5, aH), (6, iV aI)] ∧ Holds M0 w w2 [.bx b1 27 [A0, A1, A2, iV B3, A4], .bx aF 47 [iV ad.1, am, ao], .ro ty2 am ad.2.1, .ro tI ao ad.2.2, .sl 3 tI aH bd] G)) (O := fun o e a w2 => match o with | .inl _ => e = .exit 2 ∧ (Fr a 84 [(1, pB b1), (3, iV aw)] ∧ Holds M0 w w2 [.bx b1 27 [A0, A1, A2, iV B3, A4]] G) | .inr q0 => e = .ret ∧ (Fr a 84 [(2, .bool q0)] ∧ Holds M0 w w2 [] G)) bh ?_ ?_ ?_
   ·exact ⟨bj.s, bi⟩
   ·rintro aI _ a bV ab ⟨ha, ag⟩
    refine S1 ha <| C <| rR <| qM q q q <| qF uf47 fi47_2 nz24 q q q <| l u24 q (R ag.p1) q q q q <| za ag.ctx (t := tI) hR3 u24 q q q <| A q (qt_lss q q) q q <| B ?_
    refine Yh q ab (fun ab => ?_) (fun ab => ?_)
    ·refine y <| C <| g <| C <| zk <| qM q q q <| qF uf47 fi47_2 nz24 q q q <| l u24 q (R ag.p1) q q q q <| qM q q q <| O ab fun bW aJ ab => b ag.ctx hR3 aJ u24 i3 q q q q fun bX bY bZ bk => lI u3 q (ag.el hR3 aJ bk) q q q <| O ab fun b0 bl ab => Qc q q c55 ag (fun _ => w_spec_l1Has hS4 bl) q <| A q (qt_not q) q q <| Qn ag fun a ha b4 aK => X <| S1 ha ?_
     refine Yh q ab (fun ab => ?_) (fun ab => ?_)
     ·refine rR <| qA q q q <| B <| W fun a ha => ?_
      cases ab
      have bm := aK.q0.q0.q0.q0.q0
      exact zj (m (⟨ret_ne, q, ha.s, bm⟩))
     refine WP_skip fun a ha => zi <| X <| S1 ha <| Z <| qM q q q <| A q (qt_add q q) q q <| qA q q q <| WL_nil fun a ha => ?_
     cases ab
     have bn := aK.p4.p4.p4.p4.p4
     exact ⟨q, ha.s, bn⟩
    refine WP_exit fun a ha => ?_
    cases ab
    have bo := ag.q1.q1.q1.q1
    exact zo (⟨exit_ne, q, ha.s, bo⟩)
   intro e a b5 aL
   rcases az with az | az
   ·obtain ⟨rfl, ha, bp⟩ := aL
    refine zn <| zi <| X <| S1 ha <| Z <| qM q q q <| A q (qt_add q q) q q <| qA q q q <| WL_nil fun a ha => ?_
    cases aa
    exact ⟨q, ha.s, bp⟩
   obtain ⟨rfl, ha, bq⟩ := aL
   cases aa
   exact zj (zj (m (⟨ret_ne, q, ha.s, bq⟩)))
  refine WP_exit fun a ha => ?_
  cases aa
  have br := al.q0
  exact zo (⟨exit_ne, q, ha.s, br⟩)
 intro e a b6 aM
 rcases ax with ax | ax
 ·obtain ⟨rfl, ha, bs⟩ := aM
  refine zn <| X <| S1 ha <| rR <| qA q q q <| B <| W fun a ha => ?_
  cases h
  exact ret1 q ha q ⟨q, bs⟩
 obtain ⟨rfl, ha, bt⟩ := aM
 obtain rfl := L h
 exact zj (m (ret1 q ha q ⟨q, bt⟩))
end Go.Proofs.YtpabogkcmbkffaaGreatDoor
