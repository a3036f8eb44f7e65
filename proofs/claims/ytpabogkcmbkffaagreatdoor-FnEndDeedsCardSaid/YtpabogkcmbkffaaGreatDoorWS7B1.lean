/- The walks: each Go function computes its shallow function. Printed by a program. -/
import Derived.Test.YtpabogkcmbkffaaGreatDoorChecked
import Derived.Test.YtpabogkcmbkffaaGreatDoorShS7B
import Derived.Test.YtpabogkcmbkffaaGreatDoorMSt
import Derived.Test.YtpabogkcmbkffaaGreatDoorAlive
set_option linter.unusedVariables false
set_option maxRecDepth 10000
namespace Go.Proofs.YtpabogkcmbkffaaGreatDoor
open Go Go.RowKit
abbrev dt1 : DT := .sl 3 (.leaf (.int .i64))
abbrev ty2 : Ty := .pair (.int .i64) (.int .i64)
abbrev dt3 : DT := .leaf ty2
abbrev ty4 : Ty := .slice ty2
abbrev dt5 : DT := .sl 57 dt3
abbrev dt6 : DT := .sl 49 dt3
abbrev ty7 : Ty := .pair (.int .i64) ty2
abbrev ty8 : Ty := .pair ty4 (.int .i64)
abbrev ty9 : Ty := .pair ty4 (.slice (.int .i64))
abbrev ty10 : Ty := .pair (.int .i64) ty7
abbrev dt11 : DT := .pair dt5 (.leaf (.int .i64))
abbrev ty12 : Ty := .pair (.int .i64) ty8
abbrev dt13 : DT := .pair dt6 dt1
abbrev ty14 : Ty := .pair (.int .i64) ty9
abbrev dt15 : DT := .pair (.leaf (.int .i64)) dt11
abbrev dt16 : DT := .pair (.leaf (.int .i64)) dt13
noncomputable def fd101 : Array Field := match Tryz.prog.underlying 101 with | some (.struct fs) => fs | _ => #[]
theorem uf101 : Tryz.prog.underlying 101 = some (.struct fd101) := by kernel_rfl
noncomputable def fd27 : Array Field := match Tryz.prog.underlying 27 with | some (.struct fs) => fs | _ => #[]
theorem uf27 : Tryz.prog.underlying 27 = some (.struct fd27) := by kernel_rfl
noncomputable def fd29 : Array Field := match Tryz.prog.underlying 29 with | some (.struct fs) => fs | _ => #[]
theorem uf29 : Tryz.prog.underlying 29 = some (.struct fd29) := by kernel_rfl
noncomputable def fd47 : Array Field := match Tryz.prog.underlying 47 with | some (.struct fs) => fs | _ => #[]
theorem uf47 : Tryz.prog.underlying 47 = some (.struct fd47) := by kernel_rfl
noncomputable def fd49 : Array Field := match Tryz.prog.underlying 49 with | some (.struct fs) => fs | _ => #[]
theorem uf49 : Tryz.prog.underlying 49 = some (.struct fd49) := by kernel_rfl
noncomputable def fd55 : Array Field := match Tryz.prog.underlying 55 with | some (.struct fs) => fs | _ => #[]
theorem uf55 : Tryz.prog.underlying 55 = some (.struct fd55) := by kernel_rfl
noncomputable def fd57 : Array Field := match Tryz.prog.underlying 57 with | some (.struct fs) => fs | _ => #[]
theorem uf57 : Tryz.prog.underlying 57 = some (.struct fd57) := by kernel_rfl
noncomputable def fd89 : Array Field := match Tryz.prog.underlying 89 with | some (.struct fs) => fs | _ => #[]
theorem uf89 : Tryz.prog.underlying 89 = some (.struct fd89) := by kernel_rfl
theorem fl29 : (Tryz.prog.fieldsOf 29).toList.map (fun f => (f.name == "_", f.type, f.offset)) = keysI 3 0 4 := by kernel_rfl
theorem fu29 : Tryz.prog.underlying 29 = some (.struct (Tryz.prog.fieldsOf 29)) := by kernel_rfl
noncomputable def sd101 : TypeDesc := (Tryz.prog.underlying 101).getD .bool
theorem us101 : Tryz.prog.underlying 101 = some sd101 := by kernel_rfl
theorem uo101 : oneB sd101 = false := by kernel_rfl
noncomputable def sd27 : TypeDesc := (Tryz.prog.underlying 27).getD .bool
theorem us27 : Tryz.prog.underlying 27 = some sd27 := by kernel_rfl
theorem uo27 : oneB sd27 = false := by kernel_rfl
noncomputable def sd29 : TypeDesc := (Tryz.prog.underlying 29).getD .bool
theorem us29 : Tryz.prog.underlying 29 = some sd29 := by kernel_rfl
theorem uo29 : oneB sd29 = false := by kernel_rfl
noncomputable def sd47 : TypeDesc := (Tryz.prog.underlying 47).getD .bool
theorem us47 : Tryz.prog.underlying 47 = some sd47 := by kernel_rfl
theorem uo47 : oneB sd47 = false := by kernel_rfl
noncomputable def sd49 : TypeDesc := (Tryz.prog.underlying 49).getD .bool
theorem us49 : Tryz.prog.underlying 49 = some sd49 := by kernel_rfl
theorem uo49 : oneB sd49 = false := by kernel_rfl
noncomputable def sd55 : TypeDesc := (Tryz.prog.underlying 55).getD .bool
theorem us55 : Tryz.prog.underlying 55 = some sd55 := by kernel_rfl
theorem uo55 : oneB sd55 = false := by kernel_rfl
noncomputable def sd57 : TypeDesc := (Tryz.prog.underlying 57).getD .bool
theorem us57 : Tryz.prog.underlying 57 = some sd57 := by kernel_rfl
theorem uo57 : oneB sd57 = false := by kernel_rfl
theorem i29 : (Tryz.prog.info? 29).map (·.size) = some (Ty.size ty10) := by kernel_rfl
theorem i3 : (Tryz.prog.info? 3).map (·.size) = some (Ty.size (.int .i64)) := by kernel_rfl
theorem i45 : (Tryz.prog.info? 45).map (·.size) = some (Ty.size ty4) := by kernel_rfl
theorem i47 : (Tryz.prog.info? 47).map (·.size) = some (Ty.size ty14) := by kernel_rfl
theorem i49 : (Tryz.prog.info? 49).map (·.size) = some (Ty.size ty2) := by kernel_rfl
theorem i5 : (Tryz.prog.info? 5).map (·.size) = some (Ty.size (.int .u8)) := by kernel_rfl
theorem i55 : (Tryz.prog.info? 55).map (·.size) = some (Ty.size ty12) := by kernel_rfl
theorem i57 : (Tryz.prog.info? 57).map (·.size) = some (Ty.size ty2) := by kernel_rfl
theorem il101 : (Tryz.prog.info? 101).map (·.size) = some 2 := by kernel_rfl
theorem il23 : (Tryz.prog.info? 23).map (·.size) = some 1 := by kernel_rfl
theorem il24 : (Tryz.prog.info? 24).map (·.size) = some 1 := by kernel_rfl
theorem il25 : (Tryz.prog.info? 25).map (·.size) = some 1 := by kernel_rfl
theorem il27 : (Tryz.prog.info? 27).map (·.size) = some 5 := by kernel_rfl
theorem il29 : (Tryz.prog.info? 29).map (·.size) = some 4 := by kernel_rfl
theorem il3 : (Tryz.prog.info? 3).map (·.size) = some 1 := by kernel_rfl
theorem il45 : (Tryz.prog.info? 45).map (·.size) = some 1 := by kernel_rfl
theorem il47 : (Tryz.prog.info? 47).map (·.size) = some 3 := by kernel_rfl
theorem il49 : (Tryz.prog.info? 49).map (·.size) = some 2 := by kernel_rfl
theorem il53 : (Tryz.prog.info? 53).map (·.size) = some 1 := by kernel_rfl
theorem il55 : (Tryz.prog.info? 55).map (·.size) = some 3 := by kernel_rfl
theorem il57 : (Tryz.prog.info? 57).map (·.size) = some 2 := by kernel_rfl
theorem il94 : (Tryz.prog.info? 94).map (·.size) = some 3 := by kernel_rfl
theorem j29 : (Tryz.prog.info? 29).map (fun i => (i.zero, i.size, i.bytes)) = some (some (.agg #[.int .i64 0, .int .i64 0, .int .i64 0, .int .i64 0]), Ty.size ty10, 32) := by kernel_rfl
theorem j3 : (Tryz.prog.info? 3).map (fun i => (i.zero, i.size, i.bytes)) = some (some (.int .i64 0), Ty.size (.int .i64), 8) := by kernel_rfl
theorem j45 : (Tryz.prog.info? 45).map (fun i => (i.zero, i.size, i.bytes)) = some (some (nS), Ty.size ty4, 24) := by kernel_rfl
theorem j47 : (Tryz.prog.info? 47).map (fun i => (i.zero, i.size, i.bytes)) = some (some (.agg #[.int .i64 0, nS, nS]), Ty.size ty14, 56) := by kernel_rfl
theorem j49 : (Tryz.prog.info? 49).map (fun i => (i.zero, i.size, i.bytes)) = some (some (.agg #[.int .i64 0, .int .i64 0]), Ty.size ty2, 16) := by kernel_rfl
theorem j55 : (Tryz.prog.info? 55).map (fun i => (i.zero, i.size, i.bytes)) = some (some (.agg #[.int .i64 0, nS, .int .i64 0]), Ty.size ty12, 40) := by kernel_rfl
theorem j57 : (Tryz.prog.info? 57).map (fun i => (i.zero, i.size, i.bytes)) = some (some (.agg #[.int .i64 0, .int .i64 0]), Ty.size ty2, 16) := by kernel_rfl
theorem nz22 : (Tryz.prog.info? 22).map (fun i => Nat.beq i.size 0) = some false := by kernel_rfl
theorem nz23 : (Tryz.prog.info? 23).map (fun i => Nat.beq i.size 0) = some false := by kernel_rfl
theorem nz24 : (Tryz.prog.info? 24).map (fun i => Nat.beq i.size 0) = some false := by kernel_rfl
theorem nz25 : (Tryz.prog.info? 25).map (fun i => Nat.beq i.size 0) = some false := by kernel_rfl
theorem nz3 : (Tryz.prog.info? 3).map (fun i => Nat.beq i.size 0) = some false := by kernel_rfl
theorem nz45 : (Tryz.prog.info? 45).map (fun i => Nat.beq i.size 0) = some false := by kernel_rfl
theorem nz53 : (Tryz.prog.info? 53).map (fun i => Nat.beq i.size 0) = some false := by kernel_rfl
theorem u22 : Tryz.prog.underlying 22 = some (.slice 5) := by kernel_rfl
theorem u23 : Tryz.prog.underlying 23 = some (.slice 55) := by kernel_rfl
theorem u24 : Tryz.prog.underlying 24 = some (.slice 3) := by kernel_rfl
theorem u25 : Tryz.prog.underlying 25 = some (.slice 47) := by kernel_rfl
theorem u3 : Tryz.prog.underlying 3 = some (.int .i64) := by kernel_rfl
theorem u4 : Tryz.prog.underlying 4 = some (.bool) := by kernel_rfl
theorem u40 : Tryz.prog.underlying 40 = some (.slice 29) := by kernel_rfl
theorem u45 : Tryz.prog.underlying 45 = some (.slice 49) := by kernel_rfl
theorem u5 : Tryz.prog.underlying 5 = some (.int .u8) := by kernel_rfl
theorem u53 : Tryz.prog.underlying 53 = some (.slice 57) := by kernel_rfl
theorem u81 : Tryz.prog.underlying 81 = some (.slice 45) := by kernel_rfl
theorem u94 : Tryz.prog.underlying 94 = some (.array 3 3) := by kernel_rfl
theorem u95 : Tryz.prog.underlying 95 = some (.array 6 3) := by kernel_rfl
theorem z101 : (Tryz.prog.info? 101).map (·.zero) = some (some (.agg #[nS, nS])) := by kernel_rfl
theorem z27 : (Tryz.prog.info? 27).map (·.zero) = some (some (.agg #[nS, nS, nS, .int .i64 0, nS])) := by kernel_rfl
theorem z29 : (Tryz.prog.info? 29).map (·.zero) = some (some (.agg #[.int .i64 0, .int .i64 0, .int .i64 0, .int .i64 0])) := by kernel_rfl
theorem z47 : (Tryz.prog.info? 47).map (·.zero) = some (some (.agg #[.int .i64 0, nS, nS])) := by kernel_rfl
theorem z49 : (Tryz.prog.info? 49).map (·.zero) = some (some (.agg #[.int .i64 0, .int .i64 0])) := by kernel_rfl
theorem z55 : (Tryz.prog.info? 55).map (·.zero) = some (some (.agg #[.int .i64 0, nS, .int .i64 0])) := by kernel_rfl
theorem z57 : (Tryz.prog.info? 57).map (·.zero) = some (some (.agg #[.int .i64 0, .int .i64 0])) := by kernel_rfl
theorem z94 : (Tryz.prog.info? 94).map (·.zero) = some (some (.agg #[.int .i64 0, .int .i64 0, .int .i64 0])) := by kernel_rfl
theorem eqs29 (a0 b0 a1 b1 a2 b2 a3 b3 : Int) (w : World) : (Op.equalIn 10000 29 (.agg #[i64 a0, i64 a1, i64 a2, i64 a3]) (.agg #[i64 b0, i64 b1, i64 b2, i64 b3])).run Tryz.prog w = .ok (((a0, a1, a2, a3) : Int × Int × Int × Int) == ((b0, b1, b2, b3) : Int × Int × Int × Int)) w := by
 rw [run_equalIn_struct w 9999 29 _ _ fu29 (by kernel_rfl), run_eqFields_int (d := 9998) u3 _ _ [a0, a1, a2, a3] [b0, b1, b2, b3] _ 0 w q fl29 (fun i a h => by cases i with | zero => (simp at h; subst h; rfl) | succ i => cases i with | zero => (simp at h; subst h; rfl) | succ i => cases i with | zero => (simp at h; subst h; rfl) | succ i => cases i with | zero => (simp at h; subst h; rfl) | succ i => simp at h) (fun i a h => by cases i with | zero => (simp at h; subst h; rfl) | succ i => cases i with | zero => (simp at h; subst h; rfl) | succ i => cases i with | zero => (simp at h; subst h; rfl) | succ i => cases i with | zero => (simp at h; subst h; rfl) | succ i => simp at h)]
 congr 1
 rw [Bool.eq_iff_iff]
 simp
theorem fi101_0 : (fd101[0]?).map (fun f => (f.type, f.offset)) = some (24, 0) := by kernel_rfl
theorem fi27_0 : (fd27[0]?).map (fun f => (f.type, f.offset)) = some (23, 0) := by kernel_rfl
theorem fi27_1 : (fd27[1]?).map (fun f => (f.type, f.offset)) = some (24, 1) := by kernel_rfl
theorem fi27_2 : (fd27[2]?).map (fun f => (f.type, f.offset)) = some (24, 2) := by kernel_rfl
theorem fi27_3 : (fd27[3]?).map (fun f => (f.type, f.offset)) = some (3, 3) := by kernel_rfl
theorem fi27_4 : (fd27[4]?).map (fun f => (f.type, f.offset)) = some (25, 4) := by kernel_rfl
theorem fi29_0 : (fd29[0]?).map (fun f => (f.type, f.offset)) = some (3, 0) := by kernel_rfl
theorem fi29_1 : (fd29[1]?).map (fun f => (f.type, f.offset)) = some (3, 1) := by kernel_rfl
theorem fi29_2 : (fd29[2]?).map (fun f => (f.type, f.offset)) = some (3, 2) := by kernel_rfl
theorem fi29_3 : (fd29[3]?).map (fun f => (f.type, f.offset)) = some (3, 3) := by kernel_rfl
theorem fi47_0 : (fd47[0]?).map (fun f => (f.type, f.offset)) = some (3, 0) := by kernel_rfl
theorem fi47_1 : (fd47[1]?).map (fun f => (f.type, f.offset)) = some (45, 1) := by kernel_rfl
theorem fi47_2 : (fd47[2]?).map (fun f => (f.type, f.offset)) = some (24, 2) := by kernel_rfl
theorem fi49_0 : (fd49[0]?).map (fun f => (f.type, f.offset)) = some (3, 0) := by kernel_rfl
theorem fi49_1 : (fd49[1]?).map (fun f => (f.type, f.offset)) = some (3, 1) := by kernel_rfl
theorem fi55_0 : (fd55[0]?).map (fun f => (f.type, f.offset)) = some (3, 0) := by kernel_rfl
theorem fi55_1 : (fd55[1]?).map (fun f => (f.type, f.offset)) = some (53, 1) := by kernel_rfl
theorem fi55_2 : (fd55[2]?).map (fun f => (f.type, f.offset)) = some (3, 2) := by kernel_rfl
theorem fi57_0 : (fd57[0]?).map (fun f => (f.type, f.offset)) = some (3, 0) := by kernel_rfl
theorem fi57_1 : (fd57[1]?).map (fun f => (f.type, f.offset)) = some (3, 1) := by kernel_rfl
theorem fi89_0 : (fd89[0]?).map (fun f => (f.type, f.offset)) = some (22, 0) := by kernel_rfl
theorem fi89_1 : (fd89[1]?).map (fun f => (f.type, f.offset)) = some (3, 1) := by kernel_rfl
theorem c10 : Callable Tryz.prog 10 := ⟨Tryz.f10, Tryz.func10, by kernel_rfl, by kernel_rfl⟩
theorem c100 : Callable Tryz.prog 100 := ⟨Tryz.f100, Tryz.func100, by kernel_rfl, by kernel_rfl⟩
theorem c101 : Callable Tryz.prog 101 := ⟨Tryz.f101, Tryz.func101, by kernel_rfl, by kernel_rfl⟩
theorem c102 : Callable Tryz.prog 102 := ⟨Tryz.f102, Tryz.func102, by kernel_rfl, by kernel_rfl⟩
theorem c103 : Callable Tryz.prog 103 := ⟨Tryz.f103, Tryz.func103, by kernel_rfl, by kernel_rfl⟩
theorem c106 : Callable Tryz.prog 106 := ⟨Tryz.f106, Tryz.func106, by kernel_rfl, by kernel_rfl⟩
theorem c107 : Callable Tryz.prog 107 := ⟨Tryz.f107, Tryz.func107, by kernel_rfl, by kernel_rfl⟩
theorem c108 : Callable Tryz.prog 108 := ⟨Tryz.f108, Tryz.func108, by kernel_rfl, by kernel_rfl⟩
theorem c109 : Callable Tryz.prog 109 := ⟨Tryz.f109, Tryz.func109, by kernel_rfl, by kernel_rfl⟩
theorem c11 : Callable Tryz.prog 11 := ⟨Tryz.f11, Tryz.func11, by kernel_rfl, by kernel_rfl⟩
theorem c110 : Callable Tryz.prog 110 := ⟨Tryz.f110, Tryz.func110, by kernel_rfl, by kernel_rfl⟩
theorem c111 : Callable Tryz.prog 111 := ⟨Tryz.f111, Tryz.func111, by kernel_rfl, by kernel_rfl⟩
theorem c112 : Callable Tryz.prog 112 := ⟨Tryz.f112, Tryz.func112, by kernel_rfl, by kernel_rfl⟩
theorem c115 : Callable Tryz.prog 115 := ⟨Tryz.f115, Tryz.func115, by kernel_rfl, by kernel_rfl⟩
theorem c120 : Callable Tryz.prog 120 := ⟨Tryz.f120, Tryz.func120, by kernel_rfl, by kernel_rfl⟩
theorem c13 : Callable Tryz.prog 13 := ⟨Tryz.f13, Tryz.func13, by kernel_rfl, by kernel_rfl⟩
theorem c14 : Callable Tryz.prog 14 := ⟨Tryz.f14, Tryz.func14, by kernel_rfl, by kernel_rfl⟩
theorem c15 : Callable Tryz.prog 15 := ⟨Tryz.f15, Tryz.func15, by kernel_rfl, by kernel_rfl⟩
theorem c16 : Callable Tryz.prog 16 := ⟨Tryz.f16, Tryz.func16, by kernel_rfl, by kernel_rfl⟩
theorem c17 : Callable Tryz.prog 17 := ⟨Tryz.f17, Tryz.func17, by kernel_rfl, by kernel_rfl⟩
theorem c18 : Callable Tryz.prog 18 := ⟨Tryz.f18, Tryz.func18, by kernel_rfl, by kernel_rfl⟩
theorem c19 : Callable Tryz.prog 19 := ⟨Tryz.f19, Tryz.func19, by kernel_rfl, by kernel_rfl⟩
theorem c23 : Callable Tryz.prog 23 := ⟨Tryz.f23, Tryz.func23, by kernel_rfl, by kernel_rfl⟩
theorem c24 : Callable Tryz.prog 24 := ⟨Tryz.f24, Tryz.func24, by kernel_rfl, by kernel_rfl⟩
theorem c25 : Callable Tryz.prog 25 := ⟨Tryz.f25, Tryz.func25, by kernel_rfl, by kernel_rfl⟩
theorem c26 : Callable Tryz.prog 26 := ⟨Tryz.f26, Tryz.func26, by kernel_rfl, by kernel_rfl⟩
theorem c27 : Callable Tryz.prog 27 := ⟨Tryz.f27, Tryz.func27, by kernel_rfl, by kernel_rfl⟩
theorem c28 : Callable Tryz.prog 28 := ⟨Tryz.f28, Tryz.func28, by kernel_rfl, by kernel_rfl⟩
theorem c29 : Callable Tryz.prog 29 := ⟨Tryz.f29, Tryz.func29, by kernel_rfl, by kernel_rfl⟩
theorem c30 : Callable Tryz.prog 30 := ⟨Tryz.f30, Tryz.func30, by kernel_rfl, by kernel_rfl⟩
theorem c31 : Callable Tryz.prog 31 := ⟨Tryz.f31, Tryz.func31, by kernel_rfl, by kernel_rfl⟩
theorem c32 : Callable Tryz.prog 32 := ⟨Tryz.f32, Tryz.func32, by kernel_rfl, by kernel_rfl⟩
theorem c33 : Callable Tryz.prog 33 := ⟨Tryz.f33, Tryz.func33, by kernel_rfl, by kernel_rfl⟩
theorem c34 : Callable Tryz.prog 34 := ⟨Tryz.f34, Tryz.func34, by kernel_rfl, by kernel_rfl⟩
theorem c35 : Callable Tryz.prog 35 := ⟨Tryz.f35, Tryz.func35, by kernel_rfl, by kernel_rfl⟩
theorem c36 : Callable Tryz.prog 36 := ⟨Tryz.f36, Tryz.func36, by kernel_rfl, by kernel_rfl⟩
theorem c37 : Callable Tryz.prog 37 := ⟨Tryz.f37, Tryz.func37, by kernel_rfl, by kernel_rfl⟩
theorem c38 : Callable Tryz.prog 38 := ⟨Tryz.f38, Tryz.func38, by kernel_rfl, by kernel_rfl⟩
theorem c41 : Callable Tryz.prog 41 := ⟨Tryz.f41, Tryz.func41, by kernel_rfl, by kernel_rfl⟩
theorem c42 : Callable Tryz.prog 42 := ⟨Tryz.f42, Tryz.func42, by kernel_rfl, by kernel_rfl⟩
theorem c43 : Callable Tryz.prog 43 := ⟨Tryz.f43, Tryz.func43, by kernel_rfl, by kernel_rfl⟩
theorem c45 : Callable Tryz.prog 45 := ⟨Tryz.f45, Tryz.func45, by kernel_rfl, by kernel_rfl⟩
theorem c46 : Callable Tryz.prog 46 := ⟨Tryz.f46, Tryz.func46, by kernel_rfl, by kernel_rfl⟩
theorem c47 : Callable Tryz.prog 47 := ⟨Tryz.f47, Tryz.func47, by kernel_rfl, by kernel_rfl⟩
theorem c48 : Callable Tryz.prog 48 := ⟨Tryz.f48, Tryz.func48, by kernel_rfl, by kernel_rfl⟩
theorem c49 : Callable Tryz.prog 49 := ⟨Tryz.f49, Tryz.func49, by kernel_rfl, by kernel_rfl⟩
theorem c50 : Callable Tryz.prog 50 := ⟨Tryz.f50, Tryz.func50, by kernel_rfl, by kernel_rfl⟩
theorem c51 : Callable Tryz.prog 51 := ⟨Tryz.f51, Tryz.func51, by kernel_rfl, by kernel_rfl⟩
theorem c52 : Callable Tryz.prog 52 := ⟨Tryz.f52, Tryz.func52, by kernel_rfl, by kernel_rfl⟩
theorem c53 : Callable Tryz.prog 53 := ⟨Tryz.f53, Tryz.func53, by kernel_rfl, by kernel_rfl⟩
theorem c54 : Callable Tryz.prog 54 := ⟨Tryz.f54, Tryz.func54, by kernel_rfl, by kernel_rfl⟩
theorem c55 : Callable Tryz.prog 55 := ⟨Tryz.f55, Tryz.func55, by kernel_rfl, by kernel_rfl⟩
theorem c57 : Callable Tryz.prog 57 := ⟨Tryz.f57, Tryz.func57, by kernel_rfl, by kernel_rfl⟩
theorem c58 : Callable Tryz.prog 58 := ⟨Tryz.f58, Tryz.func58, by kernel_rfl, by kernel_rfl⟩
theorem c59 : Callable Tryz.prog 59 := ⟨Tryz.f59, Tryz.func59, by kernel_rfl, by kernel_rfl⟩
theorem c60 : Callable Tryz.prog 60 := ⟨Tryz.f60, Tryz.func60, by kernel_rfl, by kernel_rfl⟩
theorem c61 : Callable Tryz.prog 61 := ⟨Tryz.f61, Tryz.func61, by kernel_rfl, by kernel_rfl⟩
theorem c62 : Callable Tryz.prog 62 := ⟨Tryz.f62, Tryz.func62, by kernel_rfl, by kernel_rfl⟩
theorem c63 : Callable Tryz.prog 63 := ⟨Tryz.f63, Tryz.func63, by kernel_rfl, by kernel_rfl⟩
theorem c64 : Callable Tryz.prog 64 := ⟨Tryz.f64, Tryz.func64, by kernel_rfl, by kernel_rfl⟩
theorem c65 : Callable Tryz.prog 65 := ⟨Tryz.f65, Tryz.func65, by kernel_rfl, by kernel_rfl⟩
theorem c66 : Callable Tryz.prog 66 := ⟨Tryz.f66, Tryz.func66, by kernel_rfl, by kernel_rfl⟩
theorem c67 : Callable Tryz.prog 67 := ⟨Tryz.f67, Tryz.func67, by kernel_rfl, by kernel_rfl⟩
theorem c68 : Callable Tryz.prog 68 := ⟨Tryz.f68, Tryz.func68, by kernel_rfl, by kernel_rfl⟩
theorem c69 : Callable Tryz.prog 69 := ⟨Tryz.f69, Tryz.func69, by kernel_rfl, by kernel_rfl⟩
theorem c7 : Callable Tryz.prog 7 := ⟨Tryz.f7, Tryz.func7, by kernel_rfl, by kernel_rfl⟩
theorem c70 : Callable Tryz.prog 70 := ⟨Tryz.f70, Tryz.func70, by kernel_rfl, by kernel_rfl⟩
theorem c71 : Callable Tryz.prog 71 := ⟨Tryz.f71, Tryz.func71, by kernel_rfl, by kernel_rfl⟩
theorem c72 : Callable Tryz.prog 72 := ⟨Tryz.f72, Tryz.func72, by kernel_rfl, by kernel_rfl⟩
theorem c73 : Callable Tryz.prog 73 := ⟨Tryz.f73, Tryz.func73, by kernel_rfl, by kernel_rfl⟩
theorem c74 : Callable Tryz.prog 74 := ⟨Tryz.f74, Tryz.func74, by kernel_rfl, by kernel_rfl⟩
theorem c75 : Callable Tryz.prog 75 := ⟨Tryz.f75, Tryz.func75, by kernel_rfl, by kernel_rfl⟩
theorem c76 : Callable Tryz.prog 76 := ⟨Tryz.f76, Tryz.func76, by kernel_rfl, by kernel_rfl⟩
theorem c77 : Callable Tryz.prog 77 := ⟨Tryz.f77, Tryz.func77, by kernel_rfl, by kernel_rfl⟩
theorem c78 : Callable Tryz.prog 78 := ⟨Tryz.f78, Tryz.func78, by kernel_rfl, by kernel_rfl⟩
theorem c8 : Callable Tryz.prog 8 := ⟨Tryz.f8, Tryz.func8, by kernel_rfl, by kernel_rfl⟩
theorem c83 : Callable Tryz.prog 83 := ⟨Tryz.f83, Tryz.func83, by kernel_rfl, by kernel_rfl⟩
theorem c84 : Callable Tryz.prog 84 := ⟨Tryz.f84, Tryz.func84, by kernel_rfl, by kernel_rfl⟩
theorem c85 : Callable Tryz.prog 85 := ⟨Tryz.f85, Tryz.func85, by kernel_rfl, by kernel_rfl⟩
theorem c86 : Callable Tryz.prog 86 := ⟨Tryz.f86, Tryz.func86, by kernel_rfl, by kernel_rfl⟩
theorem c87 : Callable Tryz.prog 87 := ⟨Tryz.f87, Tryz.func87, by kernel_rfl, by kernel_rfl⟩
theorem c88 : Callable Tryz.prog 88 := ⟨Tryz.f88, Tryz.func88, by kernel_rfl, by kernel_rfl⟩
theorem c89 : Callable Tryz.prog 89 := ⟨Tryz.f89, Tryz.func89, by kernel_rfl, by kernel_rfl⟩
theorem c90 : Callable Tryz.prog 90 := ⟨Tryz.f90, Tryz.func90, by kernel_rfl, by kernel_rfl⟩
theorem c91 : Callable Tryz.prog 91 := ⟨Tryz.f91, Tryz.func91, by kernel_rfl, by kernel_rfl⟩
theorem c92 : Callable Tryz.prog 92 := ⟨Tryz.f92, Tryz.func92, by kernel_rfl, by kernel_rfl⟩
theorem c93 : Callable Tryz.prog 93 := ⟨Tryz.f93, Tryz.func93, by kernel_rfl, by kernel_rfl⟩
theorem c94 : Callable Tryz.prog 94 := ⟨Tryz.f94, Tryz.func94, by kernel_rfl, by kernel_rfl⟩
theorem c95 : Callable Tryz.prog 95 := ⟨Tryz.f95, Tryz.func95, by kernel_rfl, by kernel_rfl⟩
theorem c96 : Callable Tryz.prog 96 := ⟨Tryz.f96, Tryz.func96, by kernel_rfl, by kernel_rfl⟩
theorem c97 : Callable Tryz.prog 97 := ⟨Tryz.f97, Tryz.func97, by kernel_rfl, by kernel_rfl⟩
theorem c98 : Callable Tryz.prog 98 := ⟨Tryz.f98, Tryz.func98, by kernel_rfl, by kernel_rfl⟩
theorem c99 : Callable Tryz.prog 99 := ⟨Tryz.f99, Tryz.func99, by kernel_rfl, by kernel_rfl⟩
theorem w_spec_l20Open (w : World) (G : List Res) (vp0 : Value) (p0 : List Int) (hp0 : HasRo G (.int .u8) vp0 p0) (r : ((List Int) × Int)) (h : spec_l20OpenS p0 = some r) (H : Ctx w G) : Calls Tryz.prog 23 #[vp0] w fun e w' => ∃ (v1 : Value) (b2 : Nat), e = .returned (pB b2) ∧ Holds M0 w w' [.ro (.int .u8) v1 r.1, .bx b2 89 [v1, iV r.2]] G := by
 have H : Holds M0 w w [] G := zb H
 refine zg (args := [vp0]) (n := 11) Tryz.func23 q q q ?_
 unfold spec_l20OpenS at h
 refine rR <| qA q q q <| B <| C <| rR <| qM q q q <| za H.ctx (t := (.int .u8)) (hp0.has) u22 q q q <| A q (qt_gtr q q) q q ?_
 refine B ?_
 obtain ⟨o2, aa, h⟩ := D h
 obtain ⟨j1, rfl⟩ : ∃ z, z = o2 := ⟨o2, q⟩
 refine WP_join (M := fun a w2 => ∃ ab, Fr a 11 [(0, ab)] ∧ Holds M0 w w2 [.ro (.int .u8) ab j1] G) ?_ ?_
 ·refine Y q (fun ad => ?_) (fun ad => ?_)
  ·have aa := if_t ad aa
   refine Z <| qM q q q ?_
   obtain ⟨x5, ae, aa⟩ := D aa
   refine XL_sliceH H.ctx (hp0.has) ae u22 i5 q ⟨_, q⟩ q q q <| qA q q q <| WL_nil fun a ha => ?_
   obtain rfl := L aa
   have H7 : Holds _ w w [.ro (.int .u8) (subV (Ty.size (.int .u8)) vp0 (Int.toNat 0) (Int.toNat 2000)) x5] G := H.dup (HasRo.sub (hp0) ae)
   exact X (⟨(subV (Ty.size (.int .u8)) vp0 (Int.toNat 0) (Int.toNat 2000)), ha.sub ⟨q, trivial⟩, H7⟩)
  have aa := if_f ad aa
  refine WP_skip fun a ha => ?_
  obtain rfl := L aa
  have H8 : Holds _ w w [.ro (.int .u8) vp0 p0] G := H.dup (hp0)
  exact X (⟨vp0, ha.sub ⟨q, trivial⟩, H8⟩)
 intro a w9 ag
 obtain ⟨ab, ha, af⟩ := ag
 refine S ?_ ha
 clear ha
 refine rR <| qM q q q <| A q (qt_build (args := [(0, .tmp 8)]) (css := [#[ab]]) (cells := #[ab, iV 0]) q ⟨(af.ctx.sliceCells hR0), trivial⟩ (by kernel_rfl)) q q ?_
 refine WL_box (cs := [ab, iV 0]) af q q q q (fun ah ak ai => ?_)
 refine qA q q q <| B <| W fun a ha => ?_
 obtain rfl := L h
 have aj := ai.p1
 exact ret1 q ha q ⟨ab, ah, q, aj⟩
theorem w_spec_l20Rd__pick (w : World) (G : List Res) (bp0 : Nat) (A0 : Value) (B0 : List Int) (C0 : Has G (.int .u8) A0 B0) (B1 : Int) (p1 : Int) (r : Int × Int) (h : spec_l20Rd__pickS B0 B1 p1 = some r) (H : Ctx w ([.bx bp0 89 [A0, iV B1]] ++ G)) : Calls Tryz.prog 60 #[pB bp0, iV p1] w fun e w' => e = .returned (iV r.2) ∧ Holds (([.bx bp0 89 [A0, iV B1]] : List Res).flatMap Res.own) w w' [.bx bp0 89 [A0, iV r.1]] G := by
 have H : Holds (([.bx bp0 89 [A0, iV B1]] : List Res).flatMap Res.own) w w [.bx bp0 89 [A0, iV B1]] G := zb H
 refine zg (args := [pB bp0, iV p1]) (n := 99) Tryz.func60 q q q ?_
 unfold spec_l20Rd__pickS at h
 refine rR <| qA q q q <| rN <| qM q q q <| qM q q q <| qN q q q <| qF uf89 fi89_1 nz3 q q q ?_
 have ah := R H.p0
 refine l u3 q ah q q q q <| A q (qt_add q q) q q <| qN q q q <| qF uf89 fi89_1 nz3 q q q ?_
 refine WL_store_bx H q il3 q q q q q (fun w2 H3 => ?_)
 refine B <| C <| rR <| qM q q q <| A q (qt_lss q q) q q <| qM q q q ?_
 refine zh 7 24 (.bool ((decide (p1 < 1)) || ((List.length B0 : Int) == 0))) ?_ (fun md hmd hk => ?_)
 rotate_left
 ·obtain ⟨Q, rfl⟩ := Md.seq_of hmd
  rcases btf (decide (p1 < 1)) with aa | aa
  ·skip
   refine qS q aa q q <| qS q aa q q <| qS q aa q q <| qS q aa q q <| qS q aa q q <| qS q aa q q <| A q (ze q aa q) q q ?_
   exact hk _ (p (by rw [aa]; rfl) (cfn 6 q (u)))
  skip
  refine qM (J q aa) q q <| qN (J q aa) q q <| qF uf89 fi89_0 nz22 (J q aa) q q ?_
  have ai := R H3.p0
  refine l u22 q ai q (J q aa) q q <| za H3.ctx (t := (.int .u8)) (C0.c) u22 (J q aa) q q <| A (J q aa) (qt_eql q q) q q <| A q (zf q aa q) q q ?_
  exact hk _ (p (by rw [aa]; rfl) (cfn 6 q (u)))
 refine B ?_
 refine Y q (fun ab => ?_) (fun ab => ?_)
 ·have h := if_t ab h
  refine rR <| qA q q q <| B <| W fun a ha => ?_
  obtain rfl := L h
  exact m (ret1 q ha q ⟨q, H3⟩)
 have h := if_f ab h
 refine y <| rR <| qM q q q <| qN q q q <| qF uf89 fi89_1 nz3 q q q ?_
 have aj := R H3.p0
 refine l u3 q aj q q q q <| A q (qt_sub q q) q q <| qA q q q <| B <| C <| rR <| qM q q q <| qM q q q <| qN q q q ?_
 refine qF uf89 fi89_0 nz22 q q q ?_
 have ak := R H3.p0
 refine l u22 q ak q q q q <| za H3.ctx (t := (.int .u8)) (C0.c) u22 q q q <| A q (qt_lss q q) q q <| B ?_
 refine Y q (fun ad => ?_) (fun ad => ?_)
 ·have h := if_t ad h
  refine rR <| qM q q q <| qN q q q <| qF uf89 fi89_0 nz22 q q q ?_
  have al := R H3.p0
  refine l u22 q al q q q q <| qM q q q ?_
  obtain ⟨aI, ae, h⟩ := D h
  refine b H3.ctx (C0.c) ae u22 i5 q q q q (fun aJ aK aL am => ?_)
  obtain ⟨aM, an, aN⟩ := H3.at (C0.c) ae am
  refine zt (k := .u8) u5 q an q q q <| A q (qt_int u3 q u5) q q <| qM q q q ?_
  obtain ⟨aO, ao, h⟩ := D h
  refine A q (qt_remO q q ao) q q <| qA q q q <| B <| W fun a ha => ?_
  obtain rfl := L h
  exact m (ret1 q ha q ⟨q, H3⟩)
 have h := if_f ad h
 refine y <| C <| WP_quiet (by kernel_rfl) (by kernel_rfl) <| qM q q q <| qN q q q <| qF uf89 fi89_0 nz22 q q q ?_
 have ap := R H3.p0
 refine l u22 q ap q q q q <| qM q q q <| qM q q q <| qN q q q <| qF uf89 fi89_0 nz22 q q q ?_
 have aq := R H3.p0
 refine l u22 q aq q q q q <| za H3.ctx (t := (.int .u8)) (C0.c) u22 q q q ?_
 obtain ⟨aP, ar, h⟩ := D h
 refine A q (qt_remO q q ar) q q ?_
 obtain ⟨aQ, af, h⟩ := D h
 refine b H3.ctx (C0.c) af u22 i5 q q q q (fun aR aS aT au => ?_)
 obtain ⟨aU, av, aV⟩ := H3.at (C0.c) af au
 refine zt (k := .u8) u5 q av q q q <| A q (qt_int u3 q u5) q q <| A q (qt_mul q q) q q <| qM q q q <| qN q q q <| qF uf89 fi89_0 nz22 q q q ?_
 have aw := R H3.p0
 refine l u22 q aw q q q q <| qM q q q <| A q (qt_mul q q) q q <| A q (qt_add q q) q q <| qM q q q <| qN q q q <| qF uf89 fi89_0 nz22 q q q ?_
 have ax := R H3.p0
 refine l u22 q ax q q q q <| za H3.ctx (t := (.int .u8)) (C0.c) u22 q q q ?_
 obtain ⟨aW, ay, h⟩ := D h
 refine A q (qt_remO q q ay) q q ?_
 obtain ⟨aX, ag, h⟩ := D h
 refine b H3.ctx (C0.c) ag u22 i5 q q q q (fun aY aZ a0 az => ?_)
 obtain ⟨a1, aA, a2⟩ := H3.at (C0.c) ag az
 refine zt (k := .u8) u5 q aA q q q <| A q (qt_int u3 q u5) q q <| A q (qt_mul q q) q q <| A q (qt_add q q) q q <| qM q q q <| A q (qt_mul q q) q q ?_
 obtain ⟨a3, aB, h⟩ := D h
 refine XL_qe q (qt_add q q) (vi aB) q q <| qM q q q <| qM q q q <| qN q q q <| qF uf89 fi89_0 nz22 q q q ?_
 have aC := R H3.p0
 refine l u22 q aC q q q q <| za H3.ctx (t := (.int .u8)) (C0.c) u22 q q q ?_
 obtain ⟨a4, aD, h⟩ := D h
 refine A q (qt_quoO q q aD) q q <| A q (qt_mul q q) q q <| A q (qt_add q q) q q <| qA q q q <| QL_nil fun a ha a5 aE => ?_
 have aF := H3.grow aE
 refine X (S ?_ ha)
 refine rR <| qM q q q <| qM q q q <| A q (qt_quo q q (by decide)) q q ?_
 obtain ⟨a6, aG, h⟩ := D h
 refine XL_qe q (qt_xor q q) (vi aG) q q <| qA q q q <| rN <| qM q q q <| qM q q q ?_
 obtain ⟨a7, aH, h⟩ := D h
 refine A q (qt_remO q q aH) q q <| qA q q q <| B <| W fun a ha => ?_
 obtain rfl := L h
 exact ret1 q ha q ⟨q, aF⟩
theorem w_spec_l20Rd__odd (w : World) (G : List Res) (bp0 : Nat) (A0 : Value) (B0 : List Int) (C0 : Has G (.int .u8) A0 B0) (B1 : Int) (p1 : Int) (r : Int × Bool) (h : spec_l20Rd__oddS B0 B1 p1 = some r) (H : Ctx w ([.bx bp0 89 [A0, iV B1]] ++ G)) : Calls Tryz.prog 61 #[pB bp0, iV p1] w fun e w' => e = .returned (.bool r.2) ∧ Holds (([.bx bp0 89 [A0, iV B1]] : List Res).flatMap Res.own) w w' [.bx bp0 89 [A0, iV r.1]] G := by
 have H : Holds (([.bx bp0 89 [A0, iV B1]] : List Res).flatMap Res.own) w w [.bx bp0 89 [A0, iV B1]] G := zb H
 refine zg (args := [pB bp0, iV p1]) (n := 15) Tryz.func61 q q q ?_
 unfold spec_l20Rd__oddS at h
 refine rR <| qA q q q <| rN <| qM q q q <| A q (qt_gtr q q) q q <| qM q q q ?_
 obtain ⟨o3, ab, h⟩ := D h
 obtain ⟨g1, b2⟩ := o3
 refine WL_cutM 7 (fun a w2 => (Fr a 15 [(0, pB bp0), (14, .bool b2)] ∧ Holds (([.bx bp0 89 [A0, iV B1]] : List Res).flatMap Res.own) w w2 [.bx bp0 89 [A0, iV g1]] G)) ?_ ?_
 ·rcases btf (decide (p1 > 0)) with aa | aa
  ·have ab := if_t aa ab
   refine qM (J q aa) q q <| qM (J q aa) q q ?_
   obtain ⟨x6, ad, ab⟩ := D ab
   refine zd (J q aa) q c60 (w_spec_l20Rd__pick w G bp0 A0 B0 (C0) B1 p1 x6 ad H.ctx) (by rfl) ?_
   rintro _ w8 ⟨rfl, H9⟩; refine ⟨_, q, ?_⟩
   have ae := H.cN1 [_] H9
   refine qM (J q aa) q q <| A (J q aa) (qt_sub q q) q q <| A (J q aa) (qt_eql q q) q q <| A q (ze q aa q) q q <| WL_nil fun a ha => ?_
   obtain ⟨rfl, rfl⟩ := L ab |> Prod.mk.inj
   exact X ⟨ha.sub ⟨q, q, trivial⟩, ae⟩
  have ab := if_f aa ab
  refine qS q aa q q <| qS q aa q q <| qS q aa q q <| qS q aa q q <| qS q aa q q <| qS q aa q q <| A q (zf q aa q) q q <| WL_nil fun a ha => ?_
  obtain ⟨rfl, rfl⟩ := L ab |> Prod.mk.inj
  exact X ⟨ha.sub ⟨q, q, trivial⟩, H⟩
 intro a ah af
 obtain ⟨ha, ag⟩ := af
 refine SL_app ?_ ha
 clear ha
 refine qA q q q <| B <| W fun a ha => ?_
 obtain rfl := L h
 exact ret1 q ha q ⟨q, ag⟩
theorem w_spec_l20Item (w : World) (G : List Res) (bp0 : Nat) (A0 : Value) (B0 : List Int) (C0 : Has G (.int .u8) A0 B0) (B1 : Int) (p1 : Int) (p2 : Int) (r : Int × (Int × LP × Int)) (h : spec_l20ItemS B0 B1 p1 p2 = some r) (H : Ctx w ([.bx bp0 89 [A0, iV B1]] ++ G)) : Calls Tryz.prog 90 #[pB bp0, iV p1, iV p2] w fun e w' => ∃ (v1 : Value), e = .returned (.agg #[iV r.2.1, v1, iV r.2.2.2]) ∧ Holds (([.bx bp0 89 [A0, iV B1]] : List Res).flatMap Res.own) w w' [.sl 57 ty2 v1 r.2.2.1, .bx bp0 89 [A0, iV r.1]] G := by
 have H : Holds (([.bx bp0 89 [A0, iV B1]] : List Res).flatMap Res.own) w w [.bx bp0 89 [A0, iV B1]] G := zb H
 refine zg (args := [pB bp0, iV p1, iV p2]) (n := 94) Tryz.func90 q q q ?_
 unfold spec_l20ItemS at h
 refine C <| Z ?_
 refine zq (cs := [iV 0, nS, iV 0]) H z55 q q q (fun b1 w2 H3 => ?_)
 refine rN <| qM q q q ?_
 have H7 := H3.p1
 obtain ⟨x5, bd, h⟩ := D h
 refine zd q q c60 (w_spec_l20Rd__pick w2 _ bp0 A0 B0 (C0.c) B1 32 x5 bd H7.ctx) (by rfl) ?_
 rintro _ w8 ⟨rfl, H9⟩; refine ⟨_, q, ?_⟩
 have aT := H7.cN1 [_] H9
 refine qM q q q ?_
 obtain ⟨ah, be, h⟩ := D h
 refine zd q q c60 (w_spec_l20Rd__pick w8 _ bp0 A0 B0 (C0.c) x5.1 2 ah be aT.ctx) (by rfl) ?_
 rintro _ c2 ⟨rfl, bf⟩; refine ⟨_, q, ?_⟩
 have bg := aT.cN1 [_] bf
 refine A q (qt_mul q q) q q <| A q (qt_build (args := [(2, .tmp 13)]) (css := [#[iV (IntKind.wrap .i64 (x5.2 * ah.2))]]) (cells := #[iV 0, nS, iV (IntKind.wrap .i64 (x5.2 * ah.2))]) q ⟨q, trivial⟩ (by kernel_rfl)) q q ?_
 refine zq (cs := [iV 0, nS, iV 0]) bg z55 q q q (fun ae c3 bh => ?_)
 refine zl (cs' := [iV 0, nS, iV (IntKind.wrap .i64 (x5.2 * ah.2))]) bh q il55 q q q q q (fun bi aU => ?_)
 refine B <| C <| rR <| qM q q q <| A q (qt_gtr q q) q q <| qM q q q ?_
 obtain ⟨bj, an, h⟩ := D h
 obtain ⟨aV, bk⟩ := bj
 refine WL_cutM 4 (fun a w2 => (Fr a 94 [(0, pB bp0), (1, iV p1), (2, iV p2), (6, pB b1), (7, pB ae), (21, .bool bk)] ∧ Holds (([.bx bp0 89 [A0, iV B1]] : List Res).flatMap Res.own) w w2 [.bx bp0 89 [A0, iV aV], .bx b1 55 [iV 0, nS, iV 0], .bx ae 55 [iV 0, nS, iV (IntKind.wrap .i64 (x5.2 * ah.2))]] G)) ?_ ?_
 ·rcases btf (decide (p1 > 0)) with ai | ai
  ·have an := if_t ai an
   refine qM (J q ai) q q ?_
   have aW := aU.p1
   obtain ⟨bl, bm, an⟩ := D an
   refine zd (J q ai) q c60 (w_spec_l20Rd__pick bi _ bp0 A0 B0 (C0.c.c) ah.1 3 bl bm aW.ctx) (by rfl) ?_
   rintro _ c4 ⟨rfl, bn⟩; refine ⟨_, q, ?_⟩
   have bo := aW.cN1 [_] bn
   refine A (J q ai) (qt_gtr q q) q q <| A q (ze q ai q) q q <| WL_nil fun a ha => ?_
   obtain ⟨rfl, rfl⟩ := L an |> Prod.mk.inj
   have bp := bo.p1.p2.p2
   exact X ⟨ha.sub ⟨q, q, q, q, q, q, trivial⟩, bp⟩
  have an := if_f ai an
  refine qS q ai q q <| qS q ai q q <| qS q ai q q <| A q (zf q ai q) q q <| WL_nil fun a ha => ?_
  obtain ⟨rfl, rfl⟩ := L an |> Prod.mk.inj
  have bq := aU.p2.p2
  exact X ⟨ha.sub ⟨q, q, q, q, q, q, trivial⟩, bq⟩
 intro a br bs
 obtain ⟨ha, aE⟩ := bs
 refine SL_app ?_ ha
 clear ha
 refine B ?_
 obtain ⟨bt, al, h⟩ := D h
 obtain ⟨aX, bu, bv⟩ := bt
 refine WP_join (M := fun a w2 => ∃ ar, Fr a 94 [(0, pB bp0), (1, iV p1), (2, iV p2), (6, pB b1), (7, pB ae)] ∧ Holds (([.bx bp0 89 [A0, iV B1]] : List Res).flatMap Res.own) w w2 [.bx bp0 89 [A0, iV aX], .bx b1 55 [iV 0, nS, iV 0], .bx ae 55 [iV bu, ar, iV (IntKind.wrap .i64 (x5.2 * ah.2))], .sl 57 ty2 ar bv] G) ?_ ?_
 ·refine Y q (fun aF => ?_) (fun aF => ?_)
  ·have al := if_t aF al
   refine rR <| qM q q q ?_
   obtain ⟨au, bw, al⟩ := D al
   refine zd q q c60 (w_spec_l20Rd__pick br _ bp0 A0 B0 (C0.c.c) aV 6 au bw aE.ctx) (by rfl) ?_
   rintro _ c5 ⟨rfl, bz⟩; refine ⟨_, q, ?_⟩
   have bA := aE.cN1 [_] bz
   refine A q (qt_add q q) q q <| qF uf55 fi55_0 nz3 q q q ?_
   have bB := bA.p2
   refine WL_store_bx bB q il3 q q q q q (fun c6 bC => ?_)
   refine rN <| qA q q q <| B <| g ?_
   have bD := bC.nS 57 ty2
   obtain ⟨bE, bF, al⟩ := D al
   have bG := bD.p1.p3.p3
   refine fun bH aY => zp (I := fun s a w2 => match s with | (aj, aG, am) => ∃ ak, Fr a 94 [(0, pB bp0), (1, iV p1), (2, iV p2), (6, pB b1), (7, pB ae), (8, iV aj)] ∧ Holds (([.bx bp0 89 [A0, iV B1]] : List Res).flatMap Res.own) w w2 [.bx bp0 89 [A0, iV aG], .bx b1 55 [iV 0, nS, iV 0], .bx ae 55 [iV (IntKind.wrap .i64 (1 + au.2)), ak, iV (IntKind.wrap .i64 (x5.2 * ah.2))], .sl 57 ty2 ak am] G) (O := fun o e a w2 => match o with | (q0, q1) => e = .exit 0 ∧ ∃ aZ, Fr a 94 [(0, pB bp0), (1, iV p1), (2, iV p2), (6, pB b1), (7, pB ae)] ∧ Holds (([.bx bp0 89 [A0, iV B1]] : List Res).flatMap Res.own) w w2 [.bx bp0 89 [A0, iV q0], .bx b1 55 [iV 0, nS, iV 0], .bx ae 55 [iV (IntKind.wrap .i64 (1 + au.2)), aZ, iV (IntKind.wrap .i64 (x5.2 * ah.2))], .sl 57 ty2 aZ q1] G) bF ?_ ?_ ?_
   ·exact ⟨(nS), aY.sub ⟨q, q, q, q, q, q, trivial⟩, bG⟩
   ·clear aY
    intro s da a bI ad bJ
    obtain ⟨aj, aG, am⟩ := s
    obtain ⟨ak, ha, av⟩ := bJ
    refine S ?_ ha
    clear ha
    refine C <| rR <| qM q q q <| qM q q q <| A q (qt_lss q q) q q <| qM q q q ?_
    refine zh 5 34 (.bool ((decide (aj < p1)) && (decide ((List.length am : Int) < 3)))) ?_ (fun md hmd hk => ?_)
    rotate_left
    ·obtain ⟨Q, rfl⟩ := Md.seq_of hmd
     rcases btf (decide (aj < p1)) with af | af
     ·skip
      refine qF uf55 fi55_1 nz53 (J q af) q q ?_
      have bK := R av.p2
      refine l u53 q bK q (J q af) q q <| za av.ctx (t := ty2) hS3 u53 (J q af) q q <| A (J q af) (qt_lss q q) q q <| A q (ze q af q) q q ?_
      exact hk _ (p (by rw [af]; rfl) (cfn 4 q (u)))
     skip
     refine qS q af q q <| qS q af q q <| qS q af q q <| qS q af q q <| A q (zf q af q) q q ?_
     exact hk _ (p (by rw [af]; rfl) (cfn 4 q (u)))
    refine B ?_
    refine Y q (fun aH => ?_) (fun aH => ?_)
    ·have ad := if_t aH ad
     refine y <| C <| g <| rR <| qM q q q ?_
     obtain ⟨ao, bL, ad⟩ := D ad
     refine zd q q c60 (w_spec_l20Rd__pick bI _ bp0 A0 B0 (C0.c.c.c) aG 2 ao bL av.ctx) (by rfl) ?_
     rintro _ db ⟨rfl, bM⟩; refine ⟨_, q, ?_⟩
     have aA := av.cN1 [_] bM
     refine A q (qt_eql q q) q q <| qM q q q ?_
     refine zh 11 51 (.bool ((ao.2 == 0) || ((aj == (IntKind.wrap .i64 (p1 - 1))) && ((List.length am : Int) == 0)))) ?_ (fun md hmd hk => ?_)
     rotate_left
     ·obtain ⟨Q, rfl⟩ := Md.seq_of hmd
      rcases btf (ao.2 == 0) with ab | ab
      ·skip
       refine qS q ab q q <| qS q ab q q <| qS q ab q q <| qS q ab q q <| qS q ab q q <| XL_skip q q q <| XL_skip q q q <| XL_skip q q q <| XL_skip q q q <| qS q ab q q ?_
       refine A q (ze q ab q) q q ?_
       exact hk _ (p (by rw [ab]; rfl) (cfn 10 q (u)))
      skip
      refine qM (J q ab) q q <| qM (J q ab) q q <| A (J q ab) (qt_sub q q) q q <| A (J q ab) (qt_eql q q) q q <| qM (J q ab) q q ?_
      refine zh 5 50 (.bool ((aj == (IntKind.wrap .i64 (p1 - 1))) && ((List.length am : Int) == 0))) ?_ (fun md hmd hk => ?_)
      rotate_left
      ·obtain ⟨Q, rfl⟩ := Md.seq_of hmd
       rcases btf (aj == (IntKind.wrap .i64 (p1 - 1))) with ag | ag
       ·skip
        refine qF uf55 fi55_1 nz53 (J q ag) q q ?_
        have bN := R aA.p2
        refine l u53 q bN q (J q ag) q q <| za aA.ctx (t := ty2) hS3 u53 (J q ag) q q <| A (J q ag) (qt_eql q q) q q <| A (J q ab) (ze q ag q) q q ?_
        exact hk _ (p (by rw [ag]; rfl) (cfn 4 q (u)))
       skip
       refine qS q ag q q <| qS q ag q q <| qS q ag q q <| qS q ag q q <| A (J q ab) (zf q ag q) q q ?_
       exact hk _ (p (by rw [ag]; rfl) (cfn 4 q (u)))
      refine A q (zf q ab q) q q ?_
      exact hk _ (p (by rw [ab]; rfl) (cfn 6 q (u)))
     refine B ?_
     refine Y q (fun aI => ?_) (fun aI => ?_)
     ·have ad := if_t aI ad
      obtain ⟨aw, bO, ad⟩ := D ad
      obtain ⟨bP, bQ, ad⟩ := D ad
      refine WP_mid (Mid := fun a w2 => ∃ aB, Fr a 94 [(0, pB bp0), (1, iV p1), (2, iV p2), (6, pB b1), (7, pB ae), (8, iV aj)] ∧ Holds (([.bx bp0 89 [A0, iV B1]] : List Res).flatMap Res.own) w w2 [.bx bp0 89 [A0, iV aw.1], .bx b1 55 [iV 0, nS, iV 0], .bx ae 55 [iV (IntKind.wrap .i64 (1 + au.2)), aB, iV (IntKind.wrap .i64 (x5.2 * ah.2))], .sl 57 ty2 aB bP] G) ?_ ?_
      ·refine WP_ordersT (fun w1 w2 => Chg (([.bx bp0 89 [A0, iV ao.1], .sl 57 ty2 ak am] : List Res).flatMap Res.own) w1 w2) 9 (by kernel_rfl) (fun aC bR => ?_)
       have bS := aA.grow bR
       have bT := bS.p3
       have a0 := bT.p1
       have a1 : Ctx aC ([.bx bp0 89 [A0, iV ao.1], .sl 57 ty2 ak am] ++ ([.bx b1 55 [iV 0, nS, iV 0], .bx ae 55 [iV (IntKind.wrap .i64 (1 + au.2)), ak, iV (IntKind.wrap .i64 (x5.2 * ah.2))]] ++ G)) := a0.ctx
       have ap : Holds _ aC aC [.bx bp0 89 [A0, iV ao.1], .sl 57 ty2 ak am] ([.bx b1 55 [iV 0, nS, iV 0], .bx ae 55 [iV (IntKind.wrap .i64 (1 + au.2)), ak, iV (IntKind.wrap .i64 (x5.2 * ah.2))]] ++ G) := zb (Rs := [.bx bp0 89 [A0, iV ao.1], .sl 57 ty2 ak am]) a1
       refine XQ (i := 0) q (by kernel_rfl) q ap.chg q (fun _ => qt_fieldAddr uf55 fi55_1 nz53 q) q q ?_
       have bU := HasB.bx (HasB.c (HasB.c (HasB.c (HasB.hd)))) ap.ctx
       refine XT (i := 1) q (by kernel_rfl) q ap.chg q (qs_cell u53 q q (bU.cell (i := 1) q) ap.chg (Ctx.outB a1 (HasB.c (HasB.hd)))) q q <| XQ (i := 2) q (by kernel_rfl) q ap.chg q (fun _ => qt_move q) q q <| XQ (i := 3) q (by kernel_rfl) q ap.chg q (fun _ => qt_move q) q q <| X1 4 (by kernel_rfl) q <| zd q q c60 (w_spec_l20Rd__pick aC _ bp0 A0 B0 (C0.c.c.c) ao.1 4 aw bO ap.ctx) (by rfl) ?_
       rintro _ dc ⟨rfl, bV⟩; refine ⟨_, q, ?_⟩
       have aD := ap.cN1 [_] bV
       refine XN aD.chg <| XQ (i := 5) q (by kernel_rfl) q aD.chg q (fun _ => qt_add q q) q q <| XQ (i := 6) q (by kernel_rfl) q aD.chg q (fun _ => qt_build (args := [(0, .tmp 54), (1, .tmp 57)]) (css := [#[iV aj], #[iV (IntKind.wrap .i64 (1 + aw.2))]]) (cells := #[iV aj, iV (IntKind.wrap .i64 (1 + aw.2))]) q ⟨q, q, trivial⟩ (by kernel_rfl)) q q <| X1 7 (by kernel_rfl) q ?_
       refine zs (t := ty2) (args := [.tmp 58]) (xs := ([(aj, IntKind.wrap .i64 (1 + aw.2))] : LP)) aD (BltL.cons (Blt.pair (Blt.int) (Blt.int)) q (BltL.nil)) u53 j57 q q q q q q (fun dd de a2 => ?_)
       refine XN a2.chg <| X1 8 (by kernel_rfl) q ?_
       have bW := a2.p2
       refine zw bW hS1 bQ u53 j57 q q q q q q (fun bX df a3 => ?_)
       refine XN a3.chg ?_
       have bY := a0.cN3 [_, _] a3
       refine X1 9 (by kernel_rfl) q <| qF uf55 fi55_1 nz53 q q q <| XE q <| X1 10 (by kernel_rfl) q ?_
       have aJ := bY.p4
       refine WL_store_bx aJ q il53 (aJ.ctx.sliceCells hS1) (aJ.ctx.sliceOne hS1) q q q (fun dg bZ => ?_)
       refine XE q ?_
       refine XC_done (by kernel_rfl) (fun a ha => ?_)
       have b0 := bZ.q2.p1.p1.p3.p3
       exact ⟨bX, ha.sub ⟨q, q, q, q, q, q, trivial⟩, b0⟩
      intro a dh b4
      obtain ⟨aB, ha, b5⟩ := b4
      refine zi (X (S ?_ ha))
      refine Z <| qM q q q <| A q (qt_add q q) q q <| qA q q q <| WL_nil fun a ha => ?_
      obtain rfl := L ad
      have b6 := b5.p3.p3.p3.p3
      exact ⟨q, aB, ha.sub ⟨q, q, q, q, q, q, trivial⟩, b6⟩
     have ad := if_f aI ad
     refine WP_skip fun a ha => ?_
     refine zi (X (S ?_ ha))
     refine Z <| qM q q q <| A q (qt_add q q) q q <| qA q q q <| WL_nil fun a ha => ?_
     obtain rfl := L ad
     have b7 := aA.p3.p3.p3.p3
     exact ⟨q, ak, ha.sub ⟨q, q, q, q, q, q, trivial⟩, b7⟩
    have ad := if_f aH ad
    refine WP_exit fun a ha => ?_
    obtain rfl := L ad
    have b8 := av.p3.p3.p3.p3
    exact zo (⟨exit_ne, q, ak, ha.sub ⟨q, q, q, q, q, trivial⟩, b8⟩)
   intro e bH di b9
   obtain ⟨dj, dk⟩ := bE
   obtain ⟨rfl, ca⟩ := b9
   obtain ⟨cb, ha, cc⟩ := ca
   obtain ⟨rfl, rfl, rfl⟩ := (by simpa only [Option.some.injEq, Prod.mk.injEq] using al : _)
   have cd := cc.p3.p3.p3.p3
   exact zn (X (⟨cb, ha.sub ⟨q, q, q, q, q, trivial⟩, cd⟩))
  have al := if_f aF al
  refine WP_skip fun a ha => ?_
  obtain ⟨rfl, rfl, rfl⟩ := (by simpa only [Option.some.injEq, Prod.mk.injEq] using al : _)
  have ce := aE.nS 57 ty2
  have cf := ce.p3.p3.p3
  exact X (⟨(nS), ha.sub ⟨q, q, q, q, q, trivial⟩, cf⟩)
 intro a cg ch
 obtain ⟨ar, ha, a4⟩ := ch
 refine S ?_ ha
 clear ha
 refine C <| rR <| qM q q q <| qM q q q ?_
 obtain ⟨a5, ci, h⟩ := D h
 refine zd q q c61 (w_spec_l20Rd__odd cg _ bp0 A0 B0 (C0.c.c.c) aX p2 a5 ci a4.ctx) (by rfl) ?_
 rintro _ cj ⟨rfl, ck⟩; refine ⟨_, q, ?_⟩
 have aK := a4.cN1 [_] ck
 refine B ?_
 obtain ⟨cl, aa, h⟩ := D h
 obtain ⟨cm, ax, cn, ay⟩ := cl
 refine WP_join (M := fun a w2 => ∃ aq, Fr a 94 [(0, pB bp0), (6, pB b1), (7, pB ae)] ∧ Holds (([.bx bp0 89 [A0, iV B1]] : List Res).flatMap Res.own) w w2 [.bx bp0 89 [A0, iV cm], .bx b1 55 [iV 0, nS, iV 0], .bx ae 55 [iV ax, aq, iV ay], .sl 57 ty2 aq cn] G) ?_ ?_
 ·refine Y q (fun aL => ?_) (fun aL => ?_)
  ·have aa := if_t aL aa
   refine rR <| qM q q q ?_
   obtain ⟨aM, co, aa⟩ := D aa
   refine zd q q c60 (w_spec_l20Rd__pick cj _ bp0 A0 B0 (C0.c.c.c) a5.1 4 aM co aK.ctx) (by rfl) ?_
   rintro _ dl ⟨rfl, cp⟩; refine ⟨_, q, ?_⟩
   have az := aK.cN1 [_] cp
   refine B <| g <| rR <| A q (qt_eql q q) q q <| qA q q q <| B ?_
   refine Y q (fun aN => ?_) (fun aN => ?_)
   ·have aa := if_t aN aa
    refine Z ?_
    refine zs (t := tI) (args := [.const (iV (-1)), .const (iV 32)]) (xs := ([(-1), 32] : List Int)) az (BltL.cons (Blt.int) q (BltL.cons (Blt.int) q (BltL.nil))) u24 j3 q q q q q q (fun dm cq cr => ?_)
    refine qM q q q ?_
    have a6 := cr.p1
    obtain ⟨ct, cu, aa⟩ := D aa
    refine zd q q c60 (w_spec_l20Rd__pick cq _ bp0 A0 B0 (C0.c.c.c.c) aM.1 2 ct cu a6.ctx) (by rfl) ?_
    rintro _ dn ⟨rfl, cv⟩; refine ⟨_, q, ?_⟩
    have aO := a6.cN1 [_] cv
    obtain ⟨dq, a7, aa⟩ := D aa
    refine b aO.ctx hS1 a7 u24 i3 q q q q (fun dr ds dt cw => ?_)
    obtain ⟨du, cx, dv⟩ := aO.at hS1 a7 cw
    refine zt (k := .i64) u3 q cx q q q <| qF uf55 fi55_2 nz3 q q q ?_
    have cy := aO.p3
    refine WL_store_bx cy q il3 q q q q q (fun dw cz => ?_)
    refine WL_nil fun a ha => ?_
    obtain ⟨rfl, rfl, rfl, rfl⟩ := (by simpa only [Option.some.injEq, Prod.mk.injEq] using aa : _)
    have cA := cz.q2.p3.p1.p3.p3
    exact zi (X (⟨ar, ha.sub ⟨q, q, q, trivial⟩, cA⟩))
   have aa := if_f aN aa
   refine rR <| A q (qt_eql q q) q q <| qA q q q <| B ?_
   refine Y q (fun aP => ?_) (fun aP => ?_)
   ·have aa := if_t aP aa
    refine Z ?_
    refine zs (t := tI) (args := [.const (iV (-1)), .const (iV 7)]) (xs := ([(-1), 7] : List Int)) az (BltL.cons (Blt.int) q (BltL.cons (Blt.int) q (BltL.nil))) u24 j3 q q q q q q (fun dx cB cC => ?_)
    refine qM q q q ?_
    have a8 := cC.p1
    obtain ⟨cD, cE, aa⟩ := D aa
    refine zd q q c60 (w_spec_l20Rd__pick cB _ bp0 A0 B0 (C0.c.c.c.c) aM.1 2 cD cE a8.ctx) (by rfl) ?_
    rintro _ dy ⟨rfl, cF⟩; refine ⟨_, q, ?_⟩
    have aQ := a8.cN1 [_] cF
    obtain ⟨dz, a9, aa⟩ := D aa
    refine b aQ.ctx hS1 a9 u24 i3 q q q q (fun dA dB dC cG => ?_)
    obtain ⟨dD, cH, dE⟩ := aQ.at hS1 a9 cG
    refine zt (k := .i64) u3 q cH q q q <| qF uf55 fi55_0 nz3 q q q ?_
    have cI := aQ.p3
    refine WL_store_bx cI q il3 q q q q q (fun dF cJ => ?_)
    refine WL_nil fun a ha => ?_
    obtain ⟨rfl, rfl, rfl, rfl⟩ := (by simpa only [Option.some.injEq, Prod.mk.injEq] using aa : _)
    have cK := cJ.q2.p3.p1.p3.p3
    exact zi (X (⟨ar, ha.sub ⟨q, q, q, trivial⟩, cK⟩))
   have aa := if_f aP aa
   refine rR <| A q (qt_eql q q) q q <| qA q q q <| B ?_
   refine Y q (fun aR => ?_) (fun aR => ?_)
   ·have aa := if_t aR aa
    refine Z <| qF uf55 fi55_1 nz53 q q q ?_
    have cL := R az.p2
    refine l u53 q cL q q q q <| qM q q q <| A q (qt_build (args := [(0, .tmp 88), (1, .const (iV 1))]) (css := [#[iV p1], #[iV 1]]) (cells := #[iV p1, iV 1]) q ⟨q, q, trivial⟩ (by kernel_rfl)) q q ?_
    refine zs (t := ty2) (args := [.tmp 89]) (xs := ([(p1, 1)] : LP)) az (BltL.cons (Blt.pair (Blt.int) (Blt.int)) q (BltL.nil)) u53 j57 q q q q q q (fun dG dH cM => ?_)
    have cN := cM.p4
    obtain ⟨dI, cO, aa⟩ := D aa
    refine zw cN hS1 cO u53 j57 q q q q q q (fun cP dJ cQ => ?_)
    refine qF uf55 fi55_1 nz53 q q q ?_
    have aS := cQ.p4
    refine WL_store_bx aS q il53 (aS.ctx.sliceCells hS1) (aS.ctx.sliceOne hS1) q q q (fun dK cR => ?_)
    refine WL_nil fun a ha => ?_
    obtain ⟨rfl, rfl, rfl, rfl⟩ := (by simpa only [Option.some.injEq, Prod.mk.injEq] using aa : _)
    have cS := cR.q2.p1.p1.p3.p3
    exact zi (X (⟨cP, ha.sub ⟨q, q, q, trivial⟩, cS⟩))
   have aa := if_f aR aa
   refine Z <| A q (qt_build (args := [(0, .const (iV 2))]) (css := [#[iV 2]]) (cells := #[iV 2, nS, iV 0]) q ⟨q, trivial⟩ (by kernel_rfl)) q q ?_
   have cT := az.p2
   refine zl (cs' := [iV 2, nS, iV 0]) cT q il55 q q q q q (fun dL cU => ?_)
   refine WL_nil fun a ha => ?_
   obtain ⟨rfl, rfl, rfl, rfl⟩ := (by simpa only [Option.some.injEq, Prod.mk.injEq] using aa : _)
   have cV := cU.nS 57 ty2
   have cW := cV.q4.p1.p3.p3
   exact zi (X (⟨(nS), ha.sub ⟨q, q, q, trivial⟩, cW⟩))
  have aa := if_f aL aa
  refine WP_skip fun a ha => ?_
  obtain ⟨rfl, rfl, rfl, rfl⟩ := (by simpa only [Option.some.injEq, Prod.mk.injEq] using aa : _)
  have cX := aK.p3.p3.p3.p3
  exact X (⟨ar, ha.sub ⟨q, q, q, trivial⟩, cX⟩)
 intro a dM cY
 obtain ⟨aq, ha, ba⟩ := cY
 refine S ?_ ha
 clear ha
 refine C <| Z ?_
 have cZ := R ba.p2
 refine zm (cs := [iV ax, aq, iV ay]) us55 uo55 il55 cZ q q q ?_
 change XL _ _ _ _ _ ((93, .agg #[iV ax, aq, iV ay]) :: _) _
 have bb := ba.p1
 refine zl (cs' := [iV ax, aq, iV ay]) bb q il55 q (T q (T (bb.ctx.sliceOne hS3) (T q q))) q q q (fun dN bc => ?_)
 refine B <| W fun a ha => ?_
 obtain rfl := L h
 have c0 := R bc.p0
 have c1 := bc.q0.q1.p1
 exact retc q ha q (run_loadVar_bx (cs := [iV ax, aq, iV ay]) us55 uo55 il55 c0) ⟨aq, q, c1⟩
theorem w_spec_l20Items (w : World) (G : List Res) (bp0 : Nat) (A0 : Value) (B0 : List Int) (C0 : Has G (.int .u8) A0 B0) (B1 : Int) (p1 : Int) (r : Int × LI) (h : spec_l20ItemsS B0 B1 p1 = some r) (H : Ctx w ([.bx bp0 89 [A0, iV B1]] ++ G)) : Calls Tryz.prog 57 #[pB bp0, iV p1] w fun e w' => ∃ (v1 : Value), e = .returned (v1) ∧ Holds (([.bx bp0 89 [A0, iV B1]] : List Res).flatMap Res.own) w w' [.sl 55 ty12 v1 r.2, .bx bp0 89 [A0, iV r.1]] G := by
 have H : Holds (([.bx bp0 89 [A0, iV B1]] : List Res).flatMap Res.own) w w [.bx bp0 89 [A0, iV B1]] G := zb H
 refine zg (args := [pB bp0, iV p1]) (n := 36) Tryz.func57 q q q ?_
 unfold spec_l20ItemsS at h
 refine rR <| qA q q q <| B <| C <| Z ?_
 refine zs (t := ty12) (args := []) (xs := ([] : LI)) H (BltL.nil) u23 j55 q q q q q q (fun v1 w2 H3 => ?_)
 refine qA q q q <| B <| C <| rR <| qM q q q ?_
 have H7 := H3.p1
 obtain ⟨x5, av, h⟩ := D h
 refine zd q q c60 (w_spec_l20Rd__pick w2 _ bp0 A0 B0 (C0.c) B1 7 x5 av H7.ctx) (by rfl) ?_
 rintro _ w8 ⟨rfl, H9⟩; refine ⟨_, q, ?_⟩
 have aw := H7.cN1 [_] H9
 refine qA q q q <| B <| g ?_
 obtain ⟨ax, ay, h⟩ := D h
 have az := aw.p1.p1
 refine fun aA an => zp (I := fun s a w2 => match s with | (ah, ao, ai) => ∃ ab, Fr a 36 [(0, pB bp0), (1, iV p1), (5, ab), (6, iV ao)] ∧ Holds (([.bx bp0 89 [A0, iV B1]] : List Res).flatMap Res.own) w w2 [.bx bp0 89 [A0, iV ai], .sl 55 ty12 ab ah] G) (O := fun o e a w2 => match o with | (q0, q1) => e = .exit 0 ∧ ∃ ap, Fr a 36 [(0, pB bp0), (1, iV p1), (5, ap)] ∧ Holds (([.bx bp0 89 [A0, iV B1]] : List Res).flatMap Res.own) w w2 [.bx bp0 89 [A0, iV q1], .sl 55 ty12 ap q0] G) ay ?_ ?_ ?_
 ·exact ⟨v1, an.sub ⟨q, q, q, q, trivial⟩, az⟩
 ·clear an
  intro s bf a aB aa aC
  obtain ⟨ah, ao, ai⟩ := s
  obtain ⟨ab, ha, ad⟩ := aC
  refine S ?_ ha
  clear ha
  refine C <| rR <| qM q q q <| A q (qt_gtr q q) q q <| B ?_
  refine Y q (fun aj => ?_) (fun aj => ?_)
  ·have aa := if_t aj aa
   refine y <| C <| g <| Z <| qM q q q <| qM q q q <| qM q q q <| za ad.ctx (t := ty12) hS1 u23 q q q ?_
   obtain ⟨ae, aD, aa⟩ := D aa
   refine zd q q c90 (w_spec_l20Item aB _ bp0 A0 B0 (C0.c) ai (List.length ah : Int) 0 ae aD ad.ctx) (by rfl) ?_
   rintro _ bg ⟨bh, rfl, aE⟩; refine ⟨_, q, ?_⟩
   have aF := ad.cN2 [_] aE
   have aG := aF.freeze
   refine zs (t := ty12) (args := [.tmp 18]) (xs := ([(ae.2.1, ae.2.2.1, ae.2.2.2)] : LI)) aG (BltL.cons (Blt.pair (Blt.int) (Blt.pair (Blt.slice hO0) (Blt.int))) q (BltL.nil)) u23 j55 q q q q q q (fun bi bj aH => ?_)
   have aI := aH.p3
   obtain ⟨bk, aJ, aa⟩ := D aa
   refine zw aI hS1 aJ u23 j55 q q q q q q (fun aK bl aL => ?_)
   refine qA q q q <| WL_nil fun a ha => ?_
   refine zi (X (S ?_ ha))
   refine Z <| qM q q q <| A q (qt_sub q q) q q <| qA q q q <| WL_nil fun a ha => ?_
   obtain rfl := L aa
   have aM := aL.q1.q1.p1
   exact ⟨q, aK, ha.sub ⟨q, q, q, q, trivial⟩, aM⟩
  have aa := if_f aj aa
  refine WP_exit fun a ha => ?_
  obtain rfl := L aa
  have aN := ad.p1.p1
  exact zo (⟨exit_ne, q, ab, ha.sub ⟨q, q, q, trivial⟩, aN⟩)
 intro e aA aO aP
 obtain ⟨aQ, aR⟩ := ax
 obtain ⟨rfl, aS⟩ := aP
 obtain ⟨aT, ha, aq⟩ := aS
 refine zn (X (S ?_ ha))
 refine C <| rR <| qM q q q <| qM q q q ?_
 obtain ⟨ar, aU, h⟩ := D h
 refine zd q q c61 (w_spec_l20Rd__odd aO _ bp0 A0 B0 (C0.c) aR p1 ar aU aq.ctx) (by rfl) ?_
 rintro _ aV ⟨rfl, aW⟩; refine ⟨_, q, ?_⟩
 have ak := aq.cN1 [_] aW
 refine B ?_
 refine Y q (fun al => ?_) (fun al => ?_)
 ·have h := if_t al h
  refine C <| rR <| qM q q q ?_
  obtain ⟨au, aX, h⟩ := D h
  refine zd q q c60 (w_spec_l20Rd__pick aV _ bp0 A0 B0 (C0.c) ar.1 3 au aX ak.ctx) (by rfl) ?_
  rintro _ aY ⟨rfl, aZ⟩; refine ⟨_, q, ?_⟩
  have af := ak.cN1 [_] aZ
  refine A q (qt_eql q q) q q <| B ?_
  refine Y q (fun am => ?_) (fun am => ?_)
  ·have h := if_t am h
   refine C <| Z ?_
   obtain ⟨bm, a0, h⟩ := D h
   refine WL_makeH af a0 u23 j55 q (fun _ => ⟨_, _, [], [], q, q, ⟨q, q⟩, ⟨_, _, [], [], q, q, ⟨none, 0, q, Nat.le_refl _, .inl ⟨q, q⟩⟩, ⟨q, q⟩⟩⟩) q q q q q (fun a1 bn a2 => ?_)
   refine qA q q q <| B <| W fun a ha => ?_
   obtain rfl := L h
   have a3 := a2.q2.p1.p1
   exact m (m (ret1 q ha q ⟨a1, q, a3⟩))
  have h := if_f am h
  refine y <| rR <| qM q q q <| qM q q q <| qM q q q <| za af.ctx (t := ty12) hS1 u23 q q q ?_
  obtain ⟨ag, a4, h⟩ := D h
  refine zd q q c90 (w_spec_l20Item aY _ bp0 A0 B0 (C0.c) au.1 (List.length aQ : Int) 1 ag a4 af.ctx) (by rfl) ?_
  rintro _ bo ⟨bp, rfl, a5⟩; refine ⟨_, q, ?_⟩
  have a6 := af.cN2 [_] a5
  have a7 := a6.freeze
  refine zs (t := ty12) (args := [.tmp 32]) (xs := ([(ag.2.1, ag.2.2.1, ag.2.2.2)] : LI)) a7 (BltL.cons (Blt.pair (Blt.int) (Blt.pair (Blt.slice hO0) (Blt.int))) q (BltL.nil)) u23 j55 q q q q q q (fun bq br a8 => ?_)
  have a9 := a8.p3
  obtain ⟨bs, ba, h⟩ := D h
  refine zw a9 hS1 ba u23 j55 q q q q q q (fun bb bt bc => ?_)
  refine qA q q q <| B <| W fun a ha => ?_
  obtain rfl := L h
  have bd := bc.q1.q1.p1.p1
  exact m (ret1 q ha q ⟨bb, q, bd⟩)
 have h := if_f al h
 refine y <| rR <| qM q q q <| qA q q q <| B <| W fun a ha => ?_
 obtain rfl := L h
 have be := ak.p1
 exact ret1 q ha q ⟨aT, q, be⟩
theorem w_spec_l20Prices (w : World) (G : List Res) (bp0 : Nat) (A0 : Value) (B0 : List Int) (C0 : Has G (.int .u8) A0 B0) (B1 : Int) (vp1 : Value) (p1 : LI) (hp1 : Has G ty12 vp1 p1) (p2 : Int) (r : Int × (List Int)) (h : spec_l20PricesS B0 B1 p1 p2 = some r) (H : Ctx w ([.bx bp0 89 [A0, iV B1]] ++ G)) : Calls Tryz.prog 58 #[pB bp0, vp1, iV p2] w fun e w' => ∃ (v1 : Value), e = .returned (v1) ∧ Holds (([.bx bp0 89 [A0, iV B1]] : List Res).flatMap Res.own) w w' [.sl 3 tI v1 r.2, .bx bp0 89 [A0, iV r.1]] G := by
 have H : Holds (([.bx bp0 89 [A0, iV B1]] : List Res).flatMap Res.own) w w [.bx bp0 89 [A0, iV B1]] G := zb H
 refine zg (args := [pB bp0, vp1, iV p2]) (n := 44) Tryz.func58 q q q ?_
 unfold spec_l20PricesS at h
 refine rR <| qA q q q <| B <| C <| Z ?_
 refine zs (t := tI) (args := []) (xs := ([] : List Int)) H (BltL.nil) u24 j3 q q q q q q (fun v1 w2 H3 => ?_)
 refine qA q q q <| B <| C <| rR <| qA q q q <| B <| g ?_
 obtain ⟨o8, az, h⟩ := D h
 have aA := H3.p1
 refine fun aB am => zp (I := fun s a w2 => match s with | (s5, s6, s7) => ∃ af, Fr a 44 [(0, pB bp0), (1, vp1), (2, iV p2), (7, af), (8, iV s6)] ∧ Holds (([.bx bp0 89 [A0, iV B1]] : List Res).flatMap Res.own) w w2 [.bx bp0 89 [A0, iV s7], .sl 3 tI af s5] G) (O := fun o e a w2 => match o with | (q0, q1) => e = .exit 0 ∧ ∃ an, Fr a 44 [(0, pB bp0), (2, iV p2), (7, an)] ∧ Holds (([.bx bp0 89 [A0, iV B1]] : List Res).flatMap Res.own) w w2 [.bx bp0 89 [A0, iV q1], .sl 3 tI an q0] G) az ?_ ?_ ?_
 ·exact ⟨v1, am.sub ⟨q, q, q, q, q, trivial⟩, aA⟩
 ·clear am
  intro s bn a aC ab aD
  obtain ⟨s5, s6, s7⟩ := s
  obtain ⟨af, ha, ag⟩ := aD
  refine S ?_ ha
  clear ha
  refine C <| rR <| qM q q q <| qM q q q <| za ag.ctx (t := ty12) (hp1.c.c) u23 q q q <| A q (qt_lss q q) q q <| B ?_
  refine Y q (fun aj => ?_) (fun aj => ?_)
  ·have ab := if_t aj ab
   refine y <| C <| g <| Z <| qM q q q <| qM q q q ?_
   obtain ⟨ao, aE, ab⟩ := D ab
   refine zd q q c60 (w_spec_l20Rd__pick aC _ bp0 A0 B0 (C0.c) s7 21 ao aE ag.ctx) (by rfl) ?_
   rintro _ bo ⟨rfl, aF⟩; refine ⟨_, q, ?_⟩
   have aG := ag.cN1 [_] aF
   refine zs (t := tI) (args := [.tmp 18]) (xs := ([ao.2] : List Int)) aG (BltL.cons (Blt.int) q (BltL.nil)) u24 j3 q q q q q q (fun bp bq aH => ?_)
   have aI := aH.p2
   obtain ⟨br, aJ, ab⟩ := D ab
   refine zw aI hS1 aJ u24 j3 q q q q q q (fun aK bs aL => ?_)
   refine qA q q q <| WL_nil fun a ha => ?_
   refine zi (X (S ?_ ha))
   refine Z <| qM q q q <| A q (qt_add q q) q q <| qA q q q <| WL_nil fun a ha => ?_
   obtain rfl := L ab
   have aM := aL.q1.p1
   exact ⟨q, aK, ha.sub ⟨q, q, q, q, q, trivial⟩, aM⟩
  have ab := if_f aj ab
  refine WP_exit fun a ha => ?_
  obtain rfl := L ab
  have aN := ag.p1.p1
  exact zo (⟨exit_ne, q, af, ha.sub ⟨q, q, q, trivial⟩, aN⟩)
 intro e aB aO aP
 obtain ⟨ap, aQ⟩ := o8
 obtain ⟨rfl, aR⟩ := aP
 obtain ⟨ah, ha, aq⟩ := aR
 refine zn (X (S ?_ ha))
 refine C <| rR <| qM q q q <| qM q q q ?_
 obtain ⟨ar, aS, h⟩ := D h
 refine zd q q c61 (w_spec_l20Rd__odd aO _ bp0 A0 B0 (C0.c) aQ p2 ar aS aq.ctx) (by rfl) ?_
 rintro _ aT ⟨rfl, aU⟩; refine ⟨_, q, ?_⟩
 have ae := aq.cN1 [_] aU
 refine B ?_
 refine Y q (fun ak => ?_) (fun ak => ?_)
 ·have h := if_t ak h
  refine C <| rR <| qM q q q <| za ae.ctx (t := tI) hS1 u24 q q q <| A q (qt_gtr q q) q q <| qM q q q ?_
  obtain ⟨aV, ad, h⟩ := D h
  obtain ⟨au, aW⟩ := aV
  refine WL_cutM 4 (fun a w2 => (Fr a 44 [(0, pB bp0), (7, ah), (31, .bool aW)] ∧ Holds (([.bx bp0 89 [A0, iV B1]] : List Res).flatMap Res.own) w w2 [.bx bp0 89 [A0, iV au], .sl 3 tI ah ap] G)) ?_ ?_
  ·rcases btf (decide ((List.length ap : Int) > 0)) with aa | aa
   ·have ad := if_t aa ad
    refine qM (J q aa) q q ?_
    obtain ⟨aX, aY, ad⟩ := D ad
    refine zd (J q aa) q c60 (w_spec_l20Rd__pick aT _ bp0 A0 B0 (C0.c) ar.1 2 aX aY ae.ctx) (by rfl) ?_
    rintro _ bt ⟨rfl, aZ⟩; refine ⟨_, q, ?_⟩
    have a0 := ae.cN1 [_] aZ
    refine A (J q aa) (qt_eql q q) q q <| A q (ze q aa q) q q <| WL_nil fun a ha => ?_
    obtain ⟨rfl, rfl⟩ := L ad |> Prod.mk.inj
    have a1 := a0.p1.p1
    exact X ⟨ha.sub ⟨q, q, q, trivial⟩, a1⟩
   have ad := if_f aa ad
   refine qS q aa q q <| qS q aa q q <| qS q aa q q <| A q (zf q aa q) q q <| WL_nil fun a ha => ?_
   obtain ⟨rfl, rfl⟩ := L ad |> Prod.mk.inj
   have a2 := ae.p1.p1
   exact X ⟨ha.sub ⟨q, q, q, trivial⟩, a2⟩
  intro a bu a3
  obtain ⟨ha, av⟩ := a3
  refine SL_app ?_ ha
  clear ha
  refine B ?_
  refine Y q (fun al => ?_) (fun al => ?_)
  ·have h := if_t al h
   refine rR <| qM q q q ?_
   refine zs (t := tI) (args := [.const (iV (-1)), .const (iV 21)]) (xs := ([(-1), 21] : List Int)) av (BltL.cons (Blt.int) q (BltL.cons (Blt.int) q (BltL.nil))) u24 j3 q q q q q q (fun bv a4 a5 => ?_)
   refine qM q q q ?_
   have aw := a5.p1
   obtain ⟨a6, a7, h⟩ := D h
   refine zd q q c60 (w_spec_l20Rd__pick a4 _ bp0 A0 B0 (C0.c.c) au 2 a6 a7 aw.ctx) (by rfl) ?_
   rintro _ bw ⟨rfl, a8⟩; refine ⟨_, q, ?_⟩
   have ai := aw.cN1 [_] a8
   obtain ⟨a9, ax, h⟩ := D h
   refine b ai.ctx hS1 ax u24 i3 q q q q (fun bz bA bB ba => ?_)
   obtain ⟨bC, bb, bD⟩ := ai.at hS1 ax ba
   refine zt (k := .i64) u3 q bb q q q ?_
   obtain ⟨bE, ay, h⟩ := D h
   refine b ai.ctx hS2 ay u24 i3 q q q q (fun bF bG bH bc => ?_)
   have bd := ai.p2
   refine WL_storeH (fo := 0) (cs' := [iV a9]) bd ay bc (Upd.whole (Blt.int)) q il3 q q q q (fun bI be => ?_)
   refine rN <| qM q q q <| qA q q q <| B <| W fun a ha => ?_
   obtain rfl := L h
   have bf := be.q2.p1.p1
   exact m (m (ret1 q ha q ⟨ah, q, bf⟩))
  have h := if_f al h
  refine y <| rR <| qM q q q ?_
  refine zs (t := tI) (args := [.const (iV 1)]) (xs := ([1] : List Int)) av (BltL.cons (Blt.int) q (BltL.nil)) u24 j3 q q q q q q (fun bJ bK bg => ?_)
  have bh := bg.p2
  obtain ⟨bL, bi, h⟩ := D h
  refine zw bh hS1 bi u24 j3 q q q q q q (fun bj bM bk => ?_)
  refine qA q q q <| B <| W fun a ha => ?_
  obtain rfl := L h
  have bl := bk.q1.p1.p1
  exact m (ret1 q ha q ⟨bj, q, bl⟩)
 have h := if_f ak h
 refine y <| rR <| qM q q q <| qA q q q <| B <| W fun a ha => ?_
 obtain rfl := L h
 have bm := ae.p1
 exact ret1 q ha q ⟨ah, q, bm⟩
theorem w_spec_l20Amounts (w : World) (G : List Res) (bp0 : Nat) (A0 : Value) (B0 : List Int) (C0 : Has G (.int .u8) A0 B0) (B1 : Int) (vp1 : Value) (p1 : LI) (hp1 : Has G ty12 vp1 p1) (p2 : Int) (r : Int × (List Int)) (h : spec_l20AmountsS B0 B1 p1 p2 = some r) (H : Ctx w ([.bx bp0 89 [A0, iV B1]] ++ G)) : Calls Tryz.prog 59 #[pB bp0, vp1, iV p2] w fun e w' => ∃ (v1 : Value), e = .returned (v1) ∧ Holds (([.bx bp0 89 [A0, iV B1]] : List Res).flatMap Res.own) w w' [.sl 3 tI v1 r.2, .bx bp0 89 [A0, iV r.1]] G := by
 have H : Holds (([.bx bp0 89 [A0, iV B1]] : List Res).flatMap Res.own) w w [.bx bp0 89 [A0, iV B1]] G := zb H
 refine zg (args := [pB bp0, vp1, iV p2]) (n := 47) Tryz.func59 q q q ?_
 unfold spec_l20AmountsS at h
 refine rR <| qA q q q <| B <| C <| Z ?_
 refine zs (t := tI) (args := []) (xs := ([] : List Int)) H (BltL.nil) u24 j3 q q q q q q (fun v1 w2 H3 => ?_)
 refine qA q q q <| B <| C <| rR <| qA q q q <| B <| g ?_
 obtain ⟨o8, aB, h⟩ := D h
 have aC := H3.p1
 refine fun aD an => zp (I := fun s a w2 => match s with | (s5, s6, s7) => ∃ af, Fr a 47 [(0, pB bp0), (1, vp1), (2, iV p2), (7, af), (8, iV s6)] ∧ Holds (([.bx bp0 89 [A0, iV B1]] : List Res).flatMap Res.own) w w2 [.bx bp0 89 [A0, iV s7], .sl 3 tI af s5] G) (O := fun o e a w2 => match o with | (q0, q1) => e = .exit 0 ∧ ∃ ao, Fr a 47 [(0, pB bp0), (2, iV p2), (7, ao)] ∧ Holds (([.bx bp0 89 [A0, iV B1]] : List Res).flatMap Res.own) w w2 [.bx bp0 89 [A0, iV q1], .sl 3 tI ao q0] G) aB ?_ ?_ ?_
 ·exact ⟨v1, an.sub ⟨q, q, q, q, q, trivial⟩, aC⟩
 ·clear an
  intro s bs a aE aa aF
  obtain ⟨s5, s6, s7⟩ := s
  obtain ⟨af, ha, ag⟩ := aF
  refine S ?_ ha
  clear ha
  refine C <| rR <| qM q q q <| qM q q q <| za ag.ctx (t := ty12) (hp1.c.c) u23 q q q <| A q (qt_lss q q) q q <| B ?_
  refine Y q (fun aj => ?_) (fun aj => ?_)
  ·have aa := if_t aj aa
   refine y <| C <| g <| Z <| qM q q q <| qM q q q ?_
   obtain ⟨ak, aG, aa⟩ := D aa
   refine zd q q c60 (w_spec_l20Rd__pick aE _ bp0 A0 B0 (C0.c) s7 12 ak aG ag.ctx) (by rfl) ?_
   rintro _ aH ⟨rfl, aI⟩; refine ⟨_, q, ?_⟩
   have ap := ag.cN1 [_] aI
   refine qM q q q ?_
   obtain ⟨aq, aJ, aa⟩ := D aa
   refine zd q q c60 (w_spec_l20Rd__pick aH _ bp0 A0 B0 (C0.c) ak.1 3 aq aJ ap.ctx) (by rfl) ?_
   rintro _ bt ⟨rfl, aK⟩; refine ⟨_, q, ?_⟩
   have aL := ap.cN1 [_] aK
   refine A q (qt_mul q q) q q ?_
   refine zs (t := tI) (args := [.tmp 21]) (xs := ([IntKind.wrap .i64 (ak.2 * aq.2)] : List Int)) aL (BltL.cons (Blt.int) q (BltL.nil)) u24 j3 q q q q q q (fun bu bv aM => ?_)
   have aN := aM.p2
   obtain ⟨bw, aO, aa⟩ := D aa
   refine zw aN hS1 aO u24 j3 q q q q q q (fun aP bz aQ => ?_)
   refine qA q q q <| WL_nil fun a ha => ?_
   refine zi (X (S ?_ ha))
   refine Z <| qM q q q <| A q (qt_add q q) q q <| qA q q q <| WL_nil fun a ha => ?_
   obtain rfl := L aa
   have aR := aQ.q1.p1
   exact ⟨q, aP, ha.sub ⟨q, q, q, q, q, trivial⟩, aR⟩
  have aa := if_f aj aa
  refine WP_exit fun a ha => ?_
  obtain rfl := L aa
  have aS := ag.p1.p1
  exact zo (⟨exit_ne, q, af, ha.sub ⟨q, q, q, trivial⟩, aS⟩)
 intro e aD aT aU
 obtain ⟨ar, aV⟩ := o8
 obtain ⟨rfl, aW⟩ := aU
 obtain ⟨ah, ha, au⟩ := aW
 refine zn (X (S ?_ ha))
 refine C <| rR <| qM q q q <| qM q q q ?_
 obtain ⟨av, aX, h⟩ := D h
 refine zd q q c61 (w_spec_l20Rd__odd aT _ bp0 A0 B0 (C0.c) aV p2 av aX au.ctx) (by rfl) ?_
 rintro _ aY ⟨rfl, aZ⟩; refine ⟨_, q, ?_⟩
 have ae := au.cN1 [_] aZ
 refine B ?_
 refine Y q (fun al => ?_) (fun al => ?_)
 ·have h := if_t al h
  refine C <| rR <| qM q q q <| za ae.ctx (t := tI) hS1 u24 q q q <| A q (qt_gtr q q) q q <| qM q q q ?_
  obtain ⟨a0, ad, h⟩ := D h
  obtain ⟨aw, a1⟩ := a0
  refine WL_cutM 4 (fun a w2 => (Fr a 47 [(0, pB bp0), (7, ah), (34, .bool a1)] ∧ Holds (([.bx bp0 89 [A0, iV B1]] : List Res).flatMap Res.own) w w2 [.bx bp0 89 [A0, iV aw], .sl 3 tI ah ar] G)) ?_ ?_
  ·rcases btf (decide ((List.length ar : Int) > 0)) with ab | ab
   ·have ad := if_t ab ad
    refine qM (J q ab) q q ?_
    obtain ⟨a2, a3, ad⟩ := D ad
    refine zd (J q ab) q c60 (w_spec_l20Rd__pick aY _ bp0 A0 B0 (C0.c) av.1 2 a2 a3 ae.ctx) (by rfl) ?_
    rintro _ bA ⟨rfl, a4⟩; refine ⟨_, q, ?_⟩
    have a5 := ae.cN1 [_] a4
    refine A (J q ab) (qt_eql q q) q q <| A q (ze q ab q) q q <| WL_nil fun a ha => ?_
    obtain ⟨rfl, rfl⟩ := L ad |> Prod.mk.inj
    have a6 := a5.p1.p1
    exact X ⟨ha.sub ⟨q, q, q, trivial⟩, a6⟩
   have ad := if_f ab ad
   refine qS q ab q q <| qS q ab q q <| qS q ab q q <| A q (zf q ab q) q q <| WL_nil fun a ha => ?_
   obtain ⟨rfl, rfl⟩ := L ad |> Prod.mk.inj
   have a7 := ae.p1.p1
   exact X ⟨ha.sub ⟨q, q, q, trivial⟩, a7⟩
  intro a bB a8
  obtain ⟨ha, ax⟩ := a8
  refine SL_app ?_ ha
  clear ha
  refine B ?_
  refine Y q (fun am => ?_) (fun am => ?_)
  ·have h := if_t am h
   refine rR <| qM q q q ?_
   refine zs (t := tI) (args := [.const (iV (-1)), .const (iV 51)]) (xs := ([(-1), 51] : List Int)) ax (BltL.cons (Blt.int) q (BltL.cons (Blt.int) q (BltL.nil))) u24 j3 q q q q q q (fun bC a9 ba => ?_)
   refine qM q q q ?_
   have ay := ba.p1
   obtain ⟨bb, bc, h⟩ := D h
   refine zd q q c60 (w_spec_l20Rd__pick a9 _ bp0 A0 B0 (C0.c.c) aw 2 bb bc ay.ctx) (by rfl) ?_
   rintro _ bD ⟨rfl, bd⟩; refine ⟨_, q, ?_⟩
   have ai := ay.cN1 [_] bd
   obtain ⟨be, az, h⟩ := D h
   refine b ai.ctx hS1 az u24 i3 q q q q (fun bE bF bG bf => ?_)
   obtain ⟨bH, bg, bI⟩ := ai.at hS1 az bf
   refine zt (k := .i64) u3 q bg q q q ?_
   obtain ⟨bJ, aA, h⟩ := D h
   refine b ai.ctx hS2 aA u24 i3 q q q q (fun bK bL bM bh => ?_)
   have bi := ai.p2
   refine WL_storeH (fo := 0) (cs' := [iV be]) bi aA bh (Upd.whole (Blt.int)) q il3 q q q q (fun bN bj => ?_)
   refine rN <| qM q q q <| qA q q q <| B <| W fun a ha => ?_
   obtain rfl := L h
   have bk := bj.q2.p1.p1
   exact m (m (ret1 q ha q ⟨ah, q, bk⟩))
  have h := if_f am h
  refine y <| rR <| qM q q q ?_
  refine zs (t := tI) (args := [.const (iV 1)]) (xs := ([1] : List Int)) ax (BltL.cons (Blt.int) q (BltL.nil)) u24 j3 q q q q q q (fun bO bP bl => ?_)
  have bm := bl.p2
  obtain ⟨bQ, bn, h⟩ := D h
  refine zw bm hS1 bn u24 j3 q q q q q q (fun bo bR bp => ?_)
  refine qA q q q <| B <| W fun a ha => ?_
  obtain rfl := L h
  have bq := bp.q1.p1.p1
  exact m (ret1 q ha q ⟨bo, q, bq⟩)
 have h := if_f al h
 refine y <| rR <| qM q q q <| qA q q q <| B <| W fun a ha => ?_
 obtain rfl := L h
 have br := ae.p1
 exact ret1 q ha q ⟨ah, q, br⟩
end Go.Proofs.YtpabogkcmbkffaaGreatDoor
