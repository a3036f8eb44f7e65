/- The walks: each Go function computes its shallow function. Printed by a program. -/
import Derived.Test.YthofjabphcheeaaDoorChecked
import Derived.Test.YthofjabphcheeaaDoorShS7T
import Derived.Test.YthofjabphcheeaaDoorMSt
import Derived.Test.YthofjabphcheeaaDoorAlive
import Derived.Test.YthofjabphcheeaaDoorLib
set_option linter.unusedVariables false
set_option maxRecDepth 10000
namespace Go.Proofs.YthofjabphcheeaaDoor
open Go Go.RowKit
abbrev ty1 : Ty := .pair (.int .i64) (.int .i64)
abbrev ty2 : Ty := .slice ty1
abbrev ty3 : Ty := .pair (.int .i64) ty1
abbrev ty4 : Ty := .pair ty2 (.int .i64)
abbrev ty5 : Ty := .pair ty2 (.slice (.int .i64))
abbrev ty6 : Ty := .pair (.int .i64) ty3
abbrev ty7 : Ty := .pair (.int .i64) ty4
abbrev ty8 : Ty := .pair (.int .i64) ty5
noncomputable def fd104 : Array Field := match Tryd.prog.underlying 104 with | some (.struct fs) => fs | _ => #[]
theorem uf104 : Tryd.prog.underlying 104 = some (.struct fd104) := by kernel_rfl
noncomputable def fd128 : Array Field := match Tryd.prog.underlying 128 with | some (.struct fs) => fs | _ => #[]
theorem uf128 : Tryd.prog.underlying 128 = some (.struct fd128) := by kernel_rfl
noncomputable def fd27 : Array Field := match Tryd.prog.underlying 27 with | some (.struct fs) => fs | _ => #[]
theorem uf27 : Tryd.prog.underlying 27 = some (.struct fd27) := by kernel_rfl
noncomputable def fd33 : Array Field := match Tryd.prog.underlying 33 with | some (.struct fs) => fs | _ => #[]
theorem uf33 : Tryd.prog.underlying 33 = some (.struct fd33) := by kernel_rfl
noncomputable def fd40 : Array Field := match Tryd.prog.underlying 40 with | some (.struct fs) => fs | _ => #[]
theorem uf40 : Tryd.prog.underlying 40 = some (.struct fd40) := by kernel_rfl
noncomputable def fd43 : Array Field := match Tryd.prog.underlying 43 with | some (.struct fs) => fs | _ => #[]
theorem uf43 : Tryd.prog.underlying 43 = some (.struct fd43) := by kernel_rfl
noncomputable def fd67 : Array Field := match Tryd.prog.underlying 67 with | some (.struct fs) => fs | _ => #[]
theorem uf67 : Tryd.prog.underlying 67 = some (.struct fd67) := by kernel_rfl
noncomputable def fd70 : Array Field := match Tryd.prog.underlying 70 with | some (.struct fs) => fs | _ => #[]
theorem uf70 : Tryd.prog.underlying 70 = some (.struct fd70) := by kernel_rfl
theorem fl43 : (Tryd.prog.fieldsOf 43).toList.map (fun f => (f.name == "_", f.type, f.offset)) = keysI 3 0 4 := by kernel_rfl
theorem fu43 : Tryd.prog.underlying 43 = some (.struct (Tryd.prog.fieldsOf 43)) := by kernel_rfl
noncomputable def sd27 : TypeDesc := (Tryd.prog.underlying 27).getD .bool
theorem us27 : Tryd.prog.underlying 27 = some sd27 := by kernel_rfl
theorem uo27 : oneB sd27 = false := by kernel_rfl
noncomputable def sd33 : TypeDesc := (Tryd.prog.underlying 33).getD .bool
theorem us33 : Tryd.prog.underlying 33 = some sd33 := by kernel_rfl
theorem uo33 : oneB sd33 = false := by kernel_rfl
noncomputable def sd40 : TypeDesc := (Tryd.prog.underlying 40).getD .bool
theorem us40 : Tryd.prog.underlying 40 = some sd40 := by kernel_rfl
theorem uo40 : oneB sd40 = false := by kernel_rfl
noncomputable def sd43 : TypeDesc := (Tryd.prog.underlying 43).getD .bool
theorem us43 : Tryd.prog.underlying 43 = some sd43 := by kernel_rfl
theorem uo43 : oneB sd43 = false := by kernel_rfl
noncomputable def sd67 : TypeDesc := (Tryd.prog.underlying 67).getD .bool
theorem us67 : Tryd.prog.underlying 67 = some sd67 := by kernel_rfl
theorem uo67 : oneB sd67 = false := by kernel_rfl
noncomputable def sd70 : TypeDesc := (Tryd.prog.underlying 70).getD .bool
theorem us70 : Tryd.prog.underlying 70 = some sd70 := by kernel_rfl
theorem uo70 : oneB sd70 = false := by kernel_rfl
noncomputable def sd76 : TypeDesc := (Tryd.prog.underlying 76).getD .bool
theorem us76 : Tryd.prog.underlying 76 = some sd76 := by kernel_rfl
theorem uo76 : oneB sd76 = false := by kernel_rfl
theorem i3 : (Tryd.prog.info? 3).map (·.size) = some (Ty.size (.int .i64)) := by kernel_rfl
theorem i31 : (Tryd.prog.info? 31).map (·.size) = some (Ty.size ty2) := by kernel_rfl
theorem i33 : (Tryd.prog.info? 33).map (·.size) = some (Ty.size ty8) := by kernel_rfl
theorem i40 : (Tryd.prog.info? 40).map (·.size) = some (Ty.size ty1) := by kernel_rfl
theorem i43 : (Tryd.prog.info? 43).map (·.size) = some (Ty.size ty6) := by kernel_rfl
theorem i5 : (Tryd.prog.info? 5).map (·.size) = some (Ty.size (.int .u8)) := by kernel_rfl
theorem i67 : (Tryd.prog.info? 67).map (·.size) = some (Ty.size ty1) := by kernel_rfl
theorem i70 : (Tryd.prog.info? 70).map (·.size) = some (Ty.size ty7) := by kernel_rfl
theorem i9 : (Tryd.prog.info? 9).map (·.size) = some (Ty.size .str) := by kernel_rfl
theorem il24 : (Tryd.prog.info? 24).map (·.size) = some 1 := by kernel_rfl
theorem il25 : (Tryd.prog.info? 25).map (·.size) = some 1 := by kernel_rfl
theorem il27 : (Tryd.prog.info? 27).map (·.size) = some 5 := by kernel_rfl
theorem il3 : (Tryd.prog.info? 3).map (·.size) = some 1 := by kernel_rfl
theorem il31 : (Tryd.prog.info? 31).map (·.size) = some 1 := by kernel_rfl
theorem il33 : (Tryd.prog.info? 33).map (·.size) = some 3 := by kernel_rfl
theorem il40 : (Tryd.prog.info? 40).map (·.size) = some 2 := by kernel_rfl
theorem il43 : (Tryd.prog.info? 43).map (·.size) = some 4 := by kernel_rfl
theorem il67 : (Tryd.prog.info? 67).map (·.size) = some 2 := by kernel_rfl
theorem il68 : (Tryd.prog.info? 68).map (·.size) = some 1 := by kernel_rfl
theorem il70 : (Tryd.prog.info? 70).map (·.size) = some 3 := by kernel_rfl
theorem il75 : (Tryd.prog.info? 75).map (·.size) = some 3 := by kernel_rfl
theorem il76 : (Tryd.prog.info? 76).map (·.size) = some 6 := by kernel_rfl
theorem il9 : (Tryd.prog.info? 9).map (·.size) = some 1 := by kernel_rfl
theorem j3 : (Tryd.prog.info? 3).map (fun i => (i.zero, i.size, i.bytes)) = some (some (.int .i64 0), Ty.size (.int .i64), 8) := by kernel_rfl
theorem j31 : (Tryd.prog.info? 31).map (fun i => (i.zero, i.size, i.bytes)) = some (some (nS), Ty.size ty2, 24) := by kernel_rfl
theorem j33 : (Tryd.prog.info? 33).map (fun i => (i.zero, i.size, i.bytes)) = some (some (.agg #[.int .i64 0, nS, nS]), Ty.size ty8, 56) := by kernel_rfl
theorem j40 : (Tryd.prog.info? 40).map (fun i => (i.zero, i.size, i.bytes)) = some (some (.agg #[.int .i64 0, .int .i64 0]), Ty.size ty1, 16) := by kernel_rfl
theorem j43 : (Tryd.prog.info? 43).map (fun i => (i.zero, i.size, i.bytes)) = some (some (.agg #[.int .i64 0, .int .i64 0, .int .i64 0, .int .i64 0]), Ty.size ty6, 32) := by kernel_rfl
theorem j5 : (Tryd.prog.info? 5).map (fun i => (i.zero, i.size, i.bytes)) = some (some (.int .u8 0), Ty.size (.int .u8), 1) := by kernel_rfl
theorem j67 : (Tryd.prog.info? 67).map (fun i => (i.zero, i.size, i.bytes)) = some (some (.agg #[.int .i64 0, .int .i64 0]), Ty.size ty1, 16) := by kernel_rfl
theorem j70 : (Tryd.prog.info? 70).map (fun i => (i.zero, i.size, i.bytes)) = some (some (.agg #[.int .i64 0, nS, .int .i64 0]), Ty.size ty7, 40) := by kernel_rfl
theorem j9 : (Tryd.prog.info? 9).map (fun i => (i.zero, i.size, i.bytes)) = some (some (strV []), Ty.size .str, 16) := by kernel_rfl
theorem nz22 : (Tryd.prog.info? 22).map (fun i => Nat.beq i.size 0) = some false := by kernel_rfl
theorem nz23 : (Tryd.prog.info? 23).map (fun i => Nat.beq i.size 0) = some false := by kernel_rfl
theorem nz24 : (Tryd.prog.info? 24).map (fun i => Nat.beq i.size 0) = some false := by kernel_rfl
theorem nz25 : (Tryd.prog.info? 25).map (fun i => Nat.beq i.size 0) = some false := by kernel_rfl
theorem nz3 : (Tryd.prog.info? 3).map (fun i => Nat.beq i.size 0) = some false := by kernel_rfl
theorem nz31 : (Tryd.prog.info? 31).map (fun i => Nat.beq i.size 0) = some false := by kernel_rfl
theorem nz68 : (Tryd.prog.info? 68).map (fun i => Nat.beq i.size 0) = some false := by kernel_rfl
theorem u129 : Tryd.prog.underlying 129 = some (.slice 31) := by kernel_rfl
theorem u22 : Tryd.prog.underlying 22 = some (.slice 5) := by kernel_rfl
theorem u23 : Tryd.prog.underlying 23 = some (.slice 70) := by kernel_rfl
theorem u24 : Tryd.prog.underlying 24 = some (.slice 3) := by kernel_rfl
theorem u25 : Tryd.prog.underlying 25 = some (.slice 33) := by kernel_rfl
theorem u3 : Tryd.prog.underlying 3 = some (.int .i64) := by kernel_rfl
theorem u31 : Tryd.prog.underlying 31 = some (.slice 40) := by kernel_rfl
theorem u4 : Tryd.prog.underlying 4 = some (.bool) := by kernel_rfl
theorem u49 : Tryd.prog.underlying 49 = some (.slice 43) := by kernel_rfl
theorem u5 : Tryd.prog.underlying 5 = some (.int .u8) := by kernel_rfl
theorem u68 : Tryd.prog.underlying 68 = some (.slice 67) := by kernel_rfl
theorem u75 : Tryd.prog.underlying 75 = some (.array 3 3) := by kernel_rfl
theorem u76 : Tryd.prog.underlying 76 = some (.array 6 9) := by kernel_rfl
theorem u77 : Tryd.prog.underlying 77 = some (.array 6 3) := by kernel_rfl
theorem u79 : Tryd.prog.underlying 79 = some (.slice 9) := by kernel_rfl
theorem u9 : Tryd.prog.underlying 9 = some (.string) := by kernel_rfl
theorem z27 : (Tryd.prog.info? 27).map (·.zero) = some (some (.agg #[nS, nS, nS, .int .i64 0, nS])) := by kernel_rfl
theorem z33 : (Tryd.prog.info? 33).map (·.zero) = some (some (.agg #[.int .i64 0, nS, nS])) := by kernel_rfl
theorem z40 : (Tryd.prog.info? 40).map (·.zero) = some (some (.agg #[.int .i64 0, .int .i64 0])) := by kernel_rfl
theorem z43 : (Tryd.prog.info? 43).map (·.zero) = some (some (.agg #[.int .i64 0, .int .i64 0, .int .i64 0, .int .i64 0])) := by kernel_rfl
theorem z67 : (Tryd.prog.info? 67).map (·.zero) = some (some (.agg #[.int .i64 0, .int .i64 0])) := by kernel_rfl
theorem z70 : (Tryd.prog.info? 70).map (·.zero) = some (some (.agg #[.int .i64 0, nS, .int .i64 0])) := by kernel_rfl
theorem z75 : (Tryd.prog.info? 75).map (·.zero) = some (some (.agg #[.int .i64 0, .int .i64 0, .int .i64 0])) := by kernel_rfl
theorem eqs43 (a0 b0 a1 b1 a2 b2 a3 b3 : Int) (w : World) : (Op.equalIn 10000 43 (.agg #[i64 a0, i64 a1, i64 a2, i64 a3]) (.agg #[i64 b0, i64 b1, i64 b2, i64 b3])).run Tryd.prog w = .ok (((a0, a1, a2, a3) : Int × Int × Int × Int) == ((b0, b1, b2, b3) : Int × Int × Int × Int)) w := by
 rw [run_equalIn_struct w 9999 43 _ _ fu43 (by kernel_rfl), run_eqFields_int (d := 9998) u3 _ _ [a0, a1, a2, a3] [b0, b1, b2, b3] _ 0 w q fl43 (fun i a h => by cases i with | zero => (simp at h; subst h; rfl) | succ i => cases i with | zero => (simp at h; subst h; rfl) | succ i => cases i with | zero => (simp at h; subst h; rfl) | succ i => cases i with | zero => (simp at h; subst h; rfl) | succ i => simp at h) (fun i a h => by cases i with | zero => (simp at h; subst h; rfl) | succ i => cases i with | zero => (simp at h; subst h; rfl) | succ i => cases i with | zero => (simp at h; subst h; rfl) | succ i => cases i with | zero => (simp at h; subst h; rfl) | succ i => simp at h)]
 congr 1
 rw [Bool.eq_iff_iff]
 simp
theorem fi104_0 : (fd104[0]?).map (fun f => (f.type, f.offset)) = some (22, 0) := by kernel_rfl
theorem fi104_1 : (fd104[1]?).map (fun f => (f.type, f.offset)) = some (3, 1) := by kernel_rfl
theorem fi128_0 : (fd128[0]?).map (fun f => (f.type, f.offset)) = some (24, 0) := by kernel_rfl
theorem fi27_0 : (fd27[0]?).map (fun f => (f.type, f.offset)) = some (23, 0) := by kernel_rfl
theorem fi27_1 : (fd27[1]?).map (fun f => (f.type, f.offset)) = some (24, 1) := by kernel_rfl
theorem fi27_2 : (fd27[2]?).map (fun f => (f.type, f.offset)) = some (24, 2) := by kernel_rfl
theorem fi27_3 : (fd27[3]?).map (fun f => (f.type, f.offset)) = some (3, 3) := by kernel_rfl
theorem fi27_4 : (fd27[4]?).map (fun f => (f.type, f.offset)) = some (25, 4) := by kernel_rfl
theorem fi33_0 : (fd33[0]?).map (fun f => (f.type, f.offset)) = some (3, 0) := by kernel_rfl
theorem fi33_1 : (fd33[1]?).map (fun f => (f.type, f.offset)) = some (31, 1) := by kernel_rfl
theorem fi33_2 : (fd33[2]?).map (fun f => (f.type, f.offset)) = some (24, 2) := by kernel_rfl
theorem fi40_0 : (fd40[0]?).map (fun f => (f.type, f.offset)) = some (3, 0) := by kernel_rfl
theorem fi40_1 : (fd40[1]?).map (fun f => (f.type, f.offset)) = some (3, 1) := by kernel_rfl
theorem fi43_0 : (fd43[0]?).map (fun f => (f.type, f.offset)) = some (3, 0) := by kernel_rfl
theorem fi43_1 : (fd43[1]?).map (fun f => (f.type, f.offset)) = some (3, 1) := by kernel_rfl
theorem fi43_2 : (fd43[2]?).map (fun f => (f.type, f.offset)) = some (3, 2) := by kernel_rfl
theorem fi43_3 : (fd43[3]?).map (fun f => (f.type, f.offset)) = some (3, 3) := by kernel_rfl
theorem fi67_0 : (fd67[0]?).map (fun f => (f.type, f.offset)) = some (3, 0) := by kernel_rfl
theorem fi67_1 : (fd67[1]?).map (fun f => (f.type, f.offset)) = some (3, 1) := by kernel_rfl
theorem fi70_0 : (fd70[0]?).map (fun f => (f.type, f.offset)) = some (3, 0) := by kernel_rfl
theorem fi70_1 : (fd70[1]?).map (fun f => (f.type, f.offset)) = some (68, 1) := by kernel_rfl
theorem fi70_2 : (fd70[2]?).map (fun f => (f.type, f.offset)) = some (3, 2) := by kernel_rfl
theorem c100 : Callable Tryd.prog 100 := ⟨Tryd.f100, Tryd.func100, by kernel_rfl, by kernel_rfl⟩
theorem c101 : Callable Tryd.prog 101 := ⟨Tryd.f101, Tryd.func101, by kernel_rfl, by kernel_rfl⟩
theorem c102 : Callable Tryd.prog 102 := ⟨Tryd.f102, Tryd.func102, by kernel_rfl, by kernel_rfl⟩
theorem c11 : Callable Tryd.prog 11 := ⟨Tryd.f11, Tryd.func11, by kernel_rfl, by kernel_rfl⟩
theorem c115 : Callable Tryd.prog 115 := ⟨Tryd.f115, Tryd.func115, by kernel_rfl, by kernel_rfl⟩
theorem c116 : Callable Tryd.prog 116 := ⟨Tryd.f116, Tryd.func116, by kernel_rfl, by kernel_rfl⟩
theorem c117 : Callable Tryd.prog 117 := ⟨Tryd.f117, Tryd.func117, by kernel_rfl, by kernel_rfl⟩
theorem c118 : Callable Tryd.prog 118 := ⟨Tryd.f118, Tryd.func118, by kernel_rfl, by kernel_rfl⟩
theorem c119 : Callable Tryd.prog 119 := ⟨Tryd.f119, Tryd.func119, by kernel_rfl, by kernel_rfl⟩
theorem c12 : Callable Tryd.prog 12 := ⟨Tryd.f12, Tryd.func12, by kernel_rfl, by kernel_rfl⟩
theorem c128 : Callable Tryd.prog 128 := ⟨Tryd.f128, Tryd.func128, by kernel_rfl, by kernel_rfl⟩
theorem c129 : Callable Tryd.prog 129 := ⟨Tryd.f129, Tryd.func129, by kernel_rfl, by kernel_rfl⟩
theorem c16 : Callable Tryd.prog 16 := ⟨Tryd.f16, Tryd.func16, by kernel_rfl, by kernel_rfl⟩
theorem c20 : Callable Tryd.prog 20 := ⟨Tryd.f20, Tryd.func20, by kernel_rfl, by kernel_rfl⟩
theorem c21 : Callable Tryd.prog 21 := ⟨Tryd.f21, Tryd.func21, by kernel_rfl, by kernel_rfl⟩
theorem c22 : Callable Tryd.prog 22 := ⟨Tryd.f22, Tryd.func22, by kernel_rfl, by kernel_rfl⟩
theorem c23 : Callable Tryd.prog 23 := ⟨Tryd.f23, Tryd.func23, by kernel_rfl, by kernel_rfl⟩
theorem c24 : Callable Tryd.prog 24 := ⟨Tryd.f24, Tryd.func24, by kernel_rfl, by kernel_rfl⟩
theorem c25 : Callable Tryd.prog 25 := ⟨Tryd.f25, Tryd.func25, by kernel_rfl, by kernel_rfl⟩
theorem c31 : Callable Tryd.prog 31 := ⟨Tryd.f31, Tryd.func31, by kernel_rfl, by kernel_rfl⟩
theorem c32 : Callable Tryd.prog 32 := ⟨Tryd.f32, Tryd.func32, by kernel_rfl, by kernel_rfl⟩
theorem c36 : Callable Tryd.prog 36 := ⟨Tryd.f36, Tryd.func36, by kernel_rfl, by kernel_rfl⟩
theorem c37 : Callable Tryd.prog 37 := ⟨Tryd.f37, Tryd.func37, by kernel_rfl, by kernel_rfl⟩
theorem c38 : Callable Tryd.prog 38 := ⟨Tryd.f38, Tryd.func38, by kernel_rfl, by kernel_rfl⟩
theorem c39 : Callable Tryd.prog 39 := ⟨Tryd.f39, Tryd.func39, by kernel_rfl, by kernel_rfl⟩
theorem c40 : Callable Tryd.prog 40 := ⟨Tryd.f40, Tryd.func40, by kernel_rfl, by kernel_rfl⟩
theorem c41 : Callable Tryd.prog 41 := ⟨Tryd.f41, Tryd.func41, by kernel_rfl, by kernel_rfl⟩
theorem c44 : Callable Tryd.prog 44 := ⟨Tryd.f44, Tryd.func44, by kernel_rfl, by kernel_rfl⟩
theorem c45 : Callable Tryd.prog 45 := ⟨Tryd.f45, Tryd.func45, by kernel_rfl, by kernel_rfl⟩
theorem c46 : Callable Tryd.prog 46 := ⟨Tryd.f46, Tryd.func46, by kernel_rfl, by kernel_rfl⟩
theorem c47 : Callable Tryd.prog 47 := ⟨Tryd.f47, Tryd.func47, by kernel_rfl, by kernel_rfl⟩
theorem c48 : Callable Tryd.prog 48 := ⟨Tryd.f48, Tryd.func48, by kernel_rfl, by kernel_rfl⟩
theorem c49 : Callable Tryd.prog 49 := ⟨Tryd.f49, Tryd.func49, by kernel_rfl, by kernel_rfl⟩
theorem c50 : Callable Tryd.prog 50 := ⟨Tryd.f50, Tryd.func50, by kernel_rfl, by kernel_rfl⟩
theorem c51 : Callable Tryd.prog 51 := ⟨Tryd.f51, Tryd.func51, by kernel_rfl, by kernel_rfl⟩
theorem c52 : Callable Tryd.prog 52 := ⟨Tryd.f52, Tryd.func52, by kernel_rfl, by kernel_rfl⟩
theorem c53 : Callable Tryd.prog 53 := ⟨Tryd.f53, Tryd.func53, by kernel_rfl, by kernel_rfl⟩
theorem c54 : Callable Tryd.prog 54 := ⟨Tryd.f54, Tryd.func54, by kernel_rfl, by kernel_rfl⟩
theorem c55 : Callable Tryd.prog 55 := ⟨Tryd.f55, Tryd.func55, by kernel_rfl, by kernel_rfl⟩
theorem c56 : Callable Tryd.prog 56 := ⟨Tryd.f56, Tryd.func56, by kernel_rfl, by kernel_rfl⟩
theorem c57 : Callable Tryd.prog 57 := ⟨Tryd.f57, Tryd.func57, by kernel_rfl, by kernel_rfl⟩
theorem c61 : Callable Tryd.prog 61 := ⟨Tryd.f61, Tryd.func61, by kernel_rfl, by kernel_rfl⟩
theorem c62 : Callable Tryd.prog 62 := ⟨Tryd.f62, Tryd.func62, by kernel_rfl, by kernel_rfl⟩
theorem c63 : Callable Tryd.prog 63 := ⟨Tryd.f63, Tryd.func63, by kernel_rfl, by kernel_rfl⟩
theorem c64 : Callable Tryd.prog 64 := ⟨Tryd.f64, Tryd.func64, by kernel_rfl, by kernel_rfl⟩
theorem c65 : Callable Tryd.prog 65 := ⟨Tryd.f65, Tryd.func65, by kernel_rfl, by kernel_rfl⟩
theorem c70 : Callable Tryd.prog 70 := ⟨Tryd.f70, Tryd.func70, by kernel_rfl, by kernel_rfl⟩
theorem c71 : Callable Tryd.prog 71 := ⟨Tryd.f71, Tryd.func71, by kernel_rfl, by kernel_rfl⟩
theorem c72 : Callable Tryd.prog 72 := ⟨Tryd.f72, Tryd.func72, by kernel_rfl, by kernel_rfl⟩
theorem c73 : Callable Tryd.prog 73 := ⟨Tryd.f73, Tryd.func73, by kernel_rfl, by kernel_rfl⟩
theorem c77 : Callable Tryd.prog 77 := ⟨Tryd.f77, Tryd.func77, by kernel_rfl, by kernel_rfl⟩
theorem c80 : Callable Tryd.prog 80 := ⟨Tryd.f80, Tryd.func80, by kernel_rfl, by kernel_rfl⟩
theorem c81 : Callable Tryd.prog 81 := ⟨Tryd.f81, Tryd.func81, by kernel_rfl, by kernel_rfl⟩
theorem c82 : Callable Tryd.prog 82 := ⟨Tryd.f82, Tryd.func82, by kernel_rfl, by kernel_rfl⟩
theorem c83 : Callable Tryd.prog 83 := ⟨Tryd.f83, Tryd.func83, by kernel_rfl, by kernel_rfl⟩
theorem c84 : Callable Tryd.prog 84 := ⟨Tryd.f84, Tryd.func84, by kernel_rfl, by kernel_rfl⟩
theorem c85 : Callable Tryd.prog 85 := ⟨Tryd.f85, Tryd.func85, by kernel_rfl, by kernel_rfl⟩
theorem c86 : Callable Tryd.prog 86 := ⟨Tryd.f86, Tryd.func86, by kernel_rfl, by kernel_rfl⟩
theorem c89 : Callable Tryd.prog 89 := ⟨Tryd.f89, Tryd.func89, by kernel_rfl, by kernel_rfl⟩
theorem c90 : Callable Tryd.prog 90 := ⟨Tryd.f90, Tryd.func90, by kernel_rfl, by kernel_rfl⟩
theorem c91 : Callable Tryd.prog 91 := ⟨Tryd.f91, Tryd.func91, by kernel_rfl, by kernel_rfl⟩
theorem c99 : Callable Tryd.prog 99 := ⟨Tryd.f99, Tryd.func99, by kernel_rfl, by kernel_rfl⟩
theorem w_spec_l20Open (w : World) (G : List Res) (vp0 : Value) (p0 : List Int) (hp0 : HasRo G (.int .u8) vp0 p0) (r : ((List Int) × Int)) (h : spec_l20OpenS p0 = some r) (H : Ctx w G) : Calls Tryd.prog 32 #[vp0] w fun e w' => ∃ (v1 : Value) (b2 : Nat), e = .returned (pB b2) ∧ Holds M0 w w' [.ro (.int .u8) v1 r.1, .bx b2 104 [v1, iV r.2]] G := by
 have H : Holds M0 w w [] G := zb H
 refine zg (args := [vp0]) (n := 11) Tryd.func32 q q q ?_
 unfold spec_l20OpenS at h
 refine rR <| qA q q q <| B <| C <| rR <| qM q q q <| za H.ctx (t := (.int .u8)) (hp0.has) u22 q q q <| A q (qt_gtr q q) q q ?_
 refine B ?_
 obtain ⟨o2, ho3, h⟩ := D h
 obtain ⟨j1, rfl⟩ : ∃ z, z = o2 := ⟨o2, q⟩
 refine WP_join (M := fun a w2 => ∃ vj1, Fr a 11 [(0, vj1)] ∧ Holds M0 w w2 [.ro (.int .u8) vj1 j1] G) ?_ ?_
 ·refine Y q (fun hc4 => ?_) (fun hc4 => ?_)
  ·have ho3 := if_t hc4 ho3
   refine Z <| qM q q q ?_
   obtain ⟨x5, hx6, ho3⟩ := D ho3
   refine XL_sliceH H.ctx (hp0.has) hx6 u22 i5 q ⟨_, q⟩ q q q <| qA q q q <| WL_nil fun a ha => ?_
   obtain rfl := L ho3
   have H7 : Holds _ w w [.ro (.int .u8) (subV (Ty.size (.int .u8)) vp0 (Int.toNat 0) (Int.toNat 2000)) x5] G := H.dup (HasRo.sub (hp0) hx6)
   exact X (⟨(subV (Ty.size (.int .u8)) vp0 (Int.toNat 0) (Int.toNat 2000)), ha.sub ⟨q, trivial⟩, H7⟩)
  have ho3 := if_f hc4 ho3
  refine WP_skip fun a ha => ?_
  obtain rfl := L ho3
  have H8 : Holds _ w w [.ro (.int .u8) vp0 p0] G := H.dup (hp0)
  exact X (⟨vp0, ha.sub ⟨q, trivial⟩, H8⟩)
 intro a w9 hI10
 obtain ⟨vj1, ha, H11⟩ := hI10
 refine S ?_ ha
 clear ha
 refine rR <| qM q q q <| A q (qt_build (args := [(0, .tmp 8)]) (css := [#[vj1]]) (cells := #[vj1, iV 0]) q ⟨(H11.ctx.sliceCells hR0), trivial⟩ (by kernel_rfl)) q q ?_
 refine WL_box (cs := [vj1, iV 0]) H11 q q q q (fun b12 w13 H14 => ?_)
 refine qA q q q <| B <| W fun a ha => ?_
 obtain rfl := L h
 have H16 := H14.p1
 exact ret1 q ha q ⟨vj1, b12, q, H16⟩
theorem w_spec_l20Rd__pick (w : World) (G : List Res) (bp0 : Nat) (A0 : Value) (B0 : List Int) (C0 : Has G (.int .u8) A0 B0) (B1 : Int) (p1 : Int) (r : Int × Int) (h : spec_l20Rd__pickS B0 B1 p1 = some r) (H : Ctx w ([.bx bp0 104 [A0, iV B1]] ++ G)) : Calls Tryd.prog 44 #[pB bp0, iV p1] w fun e w' => e = .returned (iV r.2) ∧ Holds (([.bx bp0 104 [A0, iV B1]] : List Res).flatMap Res.own) w w' [.bx bp0 104 [A0, iV r.1]] G := by
 have H : Holds (([.bx bp0 104 [A0, iV B1]] : List Res).flatMap Res.own) w w [.bx bp0 104 [A0, iV B1]] G := zb H
 refine zg (args := [pB bp0, iV p1]) (n := 99) Tryd.func44 q q q ?_
 unfold spec_l20Rd__pickS at h
 refine rR <| qA q q q <| rN <| qM q q q <| qM q q q <| qN q q q <| qF uf104 fi104_1 nz3 q q q ?_
 have hB1 := R H.p0
 refine l u3 q hB1 q q q q <| A q (qt_add q q) q q <| qN q q q <| qF uf104 fi104_1 nz3 q q q ?_
 refine WL_store_bx H q il3 q q q q q (fun w2 H3 => ?_)
 refine B <| C <| rR <| qM q q q <| A q (qt_lss q q) q q <| qM q q q ?_
 refine zh 7 24 (.bool ((decide (p1 < 1)) || ((List.length B0 : Int) == 0))) ?_ (fun md hmd hk => ?_)
 rotate_left
 ·obtain ⟨Q, rfl⟩ := Md.seq_of hmd
  rcases btf (decide (p1 < 1)) with hc5 | hc5
  ·skip
   refine qS q hc5 q q <| qS q hc5 q q <| qS q hc5 q q <| qS q hc5 q q <| qS q hc5 q q <| qS q hc5 q q <| A q (ze q hc5 q) q q ?_
   exact hk _ (p (by rw [hc5]; rfl) (cfn 6 q (u)))
  skip
  refine qM (J q hc5) q q <| qN (J q hc5) q q <| qF uf104 fi104_0 nz22 (J q hc5) q q ?_
  have hB6 := R H3.p0
  refine l u22 q hB6 q (J q hc5) q q <| za H3.ctx (t := (.int .u8)) (C0.c) u22 (J q hc5) q q <| A (J q hc5) (qt_eql q q) q q <| A q (zf q hc5 q) q q ?_
  exact hk _ (p (by rw [hc5]; rfl) (cfn 6 q (u)))
 refine B ?_
 refine Y q (fun hc7 => ?_) (fun hc7 => ?_)
 ·have h := if_t hc7 h
  refine rR <| qA q q q <| B <| W fun a ha => ?_
  obtain rfl := L h
  exact m (ret1 q ha q ⟨q, H3⟩)
 have h := if_f hc7 h
 refine y <| rR <| qM q q q <| qN q q q <| qF uf104 fi104_1 nz3 q q q ?_
 have hB8 := R H3.p0
 refine l u3 q hB8 q q q q <| A q (qt_sub q q) q q <| qA q q q <| B <| C <| rR <| qM q q q <| qM q q q <| qN q q q ?_
 refine qF uf104 fi104_0 nz22 q q q ?_
 have hB9 := R H3.p0
 refine l u22 q hB9 q q q q <| za H3.ctx (t := (.int .u8)) (C0.c) u22 q q q <| A q (qt_lss q q) q q <| B ?_
 refine Y q (fun hc10 => ?_) (fun hc10 => ?_)
 ·have h := if_t hc10 h
  refine rR <| qM q q q <| qN q q q <| qF uf104 fi104_0 nz22 q q q ?_
  have hB11 := R H3.p0
  refine l u22 q hB11 q q q q <| qM q q q ?_
  obtain ⟨x12, hx13, h⟩ := D h
  refine b H3.ctx (C0.c) hx13 u22 i5 q q q q (fun b14 off15 cap16 hv17 => ?_)
  obtain ⟨F18, hat19, hdup20⟩ := H3.at (C0.c) hx13 hv17
  refine zt (k := .u8) u5 q hat19 q q q <| A q (qt_int u3 q u5) q q <| qM q q q ?_
  obtain ⟨x21, hx22, h⟩ := D h
  refine A q (qt_remO q q hx22) q q <| qA q q q <| B <| W fun a ha => ?_
  obtain rfl := L h
  exact m (ret1 q ha q ⟨q, H3⟩)
 have h := if_f hc10 h
 refine y <| C <| WP_quiet (by kernel_rfl) (by kernel_rfl) <| qM q q q <| qN q q q <| qF uf104 fi104_0 nz22 q q q ?_
 have hB23 := R H3.p0
 refine l u22 q hB23 q q q q <| qM q q q <| qM q q q <| qN q q q <| qF uf104 fi104_0 nz22 q q q ?_
 have hB24 := R H3.p0
 refine l u22 q hB24 q q q q <| za H3.ctx (t := (.int .u8)) (C0.c) u22 q q q ?_
 obtain ⟨x25, hx26, h⟩ := D h
 refine A q (qt_remO q q hx26) q q ?_
 obtain ⟨x27, hx28, h⟩ := D h
 refine b H3.ctx (C0.c) hx28 u22 i5 q q q q (fun b29 off30 cap31 hv32 => ?_)
 obtain ⟨F33, hat34, hdup35⟩ := H3.at (C0.c) hx28 hv32
 refine zt (k := .u8) u5 q hat34 q q q <| A q (qt_int u3 q u5) q q <| A q (qt_mul q q) q q <| qM q q q <| qN q q q <| qF uf104 fi104_0 nz22 q q q ?_
 have hB36 := R H3.p0
 refine l u22 q hB36 q q q q <| qM q q q <| A q (qt_mul q q) q q <| A q (qt_add q q) q q <| qM q q q <| qN q q q <| qF uf104 fi104_0 nz22 q q q ?_
 have hB37 := R H3.p0
 refine l u22 q hB37 q q q q <| za H3.ctx (t := (.int .u8)) (C0.c) u22 q q q ?_
 obtain ⟨x38, hx39, h⟩ := D h
 refine A q (qt_remO q q hx39) q q ?_
 obtain ⟨x40, hx41, h⟩ := D h
 refine b H3.ctx (C0.c) hx41 u22 i5 q q q q (fun b42 off43 cap44 hv45 => ?_)
 obtain ⟨F46, hat47, hdup48⟩ := H3.at (C0.c) hx41 hv45
 refine zt (k := .u8) u5 q hat47 q q q <| A q (qt_int u3 q u5) q q <| A q (qt_mul q q) q q <| A q (qt_add q q) q q <| qM q q q <| A q (qt_mul q q) q q ?_
 obtain ⟨x49, hx50, h⟩ := D h
 refine XL_qe q (qt_add q q) (vi hx50) q q <| qM q q q <| qM q q q <| qN q q q <| qF uf104 fi104_0 nz22 q q q ?_
 have hB51 := R H3.p0
 refine l u22 q hB51 q q q q <| za H3.ctx (t := (.int .u8)) (C0.c) u22 q q q ?_
 obtain ⟨x52, hx53, h⟩ := D h
 refine A q (qt_quoO q q hx53) q q <| A q (qt_mul q q) q q <| A q (qt_add q q) q q <| qA q q q <| QL_nil fun a ha w54 hb55 => ?_
 have H56 := H3.grow hb55
 refine X (S ?_ ha)
 refine rR <| qM q q q <| qM q q q <| A q (qt_quo q q (by decide)) q q ?_
 obtain ⟨x57, hx58, h⟩ := D h
 refine XL_qe q (qt_xor q q) (vi hx58) q q <| qA q q q <| rN <| qM q q q <| qM q q q ?_
 obtain ⟨x59, hx60, h⟩ := D h
 refine A q (qt_remO q q hx60) q q <| qA q q q <| B <| W fun a ha => ?_
 obtain rfl := L h
 exact ret1 q ha q ⟨q, H56⟩
theorem w_spec_l20Rd__odd (w : World) (G : List Res) (bp0 : Nat) (A0 : Value) (B0 : List Int) (C0 : Has G (.int .u8) A0 B0) (B1 : Int) (p1 : Int) (r : Int × Bool) (h : spec_l20Rd__oddS B0 B1 p1 = some r) (H : Ctx w ([.bx bp0 104 [A0, iV B1]] ++ G)) : Calls Tryd.prog 46 #[pB bp0, iV p1] w fun e w' => e = .returned (.bool r.2) ∧ Holds (([.bx bp0 104 [A0, iV B1]] : List Res).flatMap Res.own) w w' [.bx bp0 104 [A0, iV r.1]] G := by
 have H : Holds (([.bx bp0 104 [A0, iV B1]] : List Res).flatMap Res.own) w w [.bx bp0 104 [A0, iV B1]] G := zb H
 refine zg (args := [pB bp0, iV p1]) (n := 15) Tryd.func46 q q q ?_
 unfold spec_l20Rd__oddS at h
 refine rR <| qA q q q <| rN <| qM q q q <| A q (qt_gtr q q) q q <| qM q q q ?_
 obtain ⟨o3, ho4, h⟩ := D h
 obtain ⟨g1, b2⟩ := o3
 refine WL_cutM 7 (fun a w2 => (Fr a 15 [(0, pB bp0), (14, .bool b2)] ∧ Holds (([.bx bp0 104 [A0, iV B1]] : List Res).flatMap Res.own) w w2 [.bx bp0 104 [A0, iV g1]] G)) ?_ ?_
 ·rcases btf (decide (p1 > 0)) with hc5 | hc5
  ·have ho4 := if_t hc5 ho4
   refine qM (J q hc5) q q <| qM (J q hc5) q q ?_
   obtain ⟨x6, hx7, ho4⟩ := D ho4
   refine zd (J q hc5) q c44 (w_spec_l20Rd__pick w G bp0 A0 B0 (C0) B1 p1 x6 hx7 H.ctx) (by rfl) ?_
   rintro _ w8 ⟨rfl, H9⟩; refine ⟨_, q, ?_⟩
   have H10 := H.cN1 [_] H9
   refine qM (J q hc5) q q <| A (J q hc5) (qt_sub q q) q q <| A (J q hc5) (qt_eql q q) q q <| A q (ze q hc5 q) q q <| WL_nil fun a ha => ?_
   obtain ⟨rfl, rfl⟩ := L ho4 |> Prod.mk.inj
   exact X ⟨ha.sub ⟨q, q, trivial⟩, H10⟩
  have ho4 := if_f hc5 ho4
  refine qS q hc5 q q <| qS q hc5 q q <| qS q hc5 q q <| qS q hc5 q q <| qS q hc5 q q <| qS q hc5 q q <| A q (zf q hc5 q) q q <| WL_nil fun a ha => ?_
  obtain ⟨rfl, rfl⟩ := L ho4 |> Prod.mk.inj
  exact X ⟨ha.sub ⟨q, q, trivial⟩, H⟩
 intro a w11 hI12
 obtain ⟨ha, H13⟩ := hI12
 refine SL_app ?_ ha
 clear ha
 refine qA q q q <| B <| W fun a ha => ?_
 obtain rfl := L h
 exact ret1 q ha q ⟨q, H13⟩
theorem w_spec_l20Item (w : World) (G : List Res) (bp0 : Nat) (A0 : Value) (B0 : List Int) (C0 : Has G (.int .u8) A0 B0) (B1 : Int) (p1 : Int) (p2 : Int) (r : Int × (Int × LP × Int)) (h : spec_l20ItemS B0 B1 p1 p2 = some r) (H : Ctx w ([.bx bp0 104 [A0, iV B1]] ++ G)) : Calls Tryd.prog 80 #[pB bp0, iV p1, iV p2] w fun e w' => ∃ (v1 : Value), e = .returned (.agg #[iV r.2.1, v1, iV r.2.2.2]) ∧ Holds (([.bx bp0 104 [A0, iV B1]] : List Res).flatMap Res.own) w w' [.sl 67 ty1 v1 r.2.2.1, .bx bp0 104 [A0, iV r.1]] G := by
 have H : Holds (([.bx bp0 104 [A0, iV B1]] : List Res).flatMap Res.own) w w [.bx bp0 104 [A0, iV B1]] G := zb H
 refine zg (args := [pB bp0, iV p1, iV p2]) (n := 94) Tryd.func80 q q q ?_
 unfold spec_l20ItemS at h
 refine C <| Z ?_
 refine zq (cs := [iV 0, nS, iV 0]) H z70 q q q (fun b1 w2 H3 => ?_)
 refine rN <| qM q q q ?_
 have H7 := H3.p1
 obtain ⟨x5, hx6, h⟩ := D h
 refine zd q q c44 (w_spec_l20Rd__pick w2 _ bp0 A0 B0 (C0.c) B1 32 x5 hx6 H7.ctx) (by rfl) ?_
 rintro _ w8 ⟨rfl, H9⟩; refine ⟨_, q, ?_⟩
 have H10 := H7.cN1 [_] H9
 refine qM q q q ?_
 obtain ⟨x11, hx12, h⟩ := D h
 refine zd q q c44 (w_spec_l20Rd__pick w8 _ bp0 A0 B0 (C0.c) x5.1 2 x11 hx12 H10.ctx) (by rfl) ?_
 rintro _ w13 ⟨rfl, H14⟩; refine ⟨_, q, ?_⟩
 have H15 := H10.cN1 [_] H14
 refine A q (qt_mul q q) q q <| A q (qt_build (args := [(2, .tmp 13)]) (css := [#[iV (IntKind.wrap .i64 (x5.2 * x11.2))]]) (cells := #[iV 0, nS, iV (IntKind.wrap .i64 (x5.2 * x11.2))]) q ⟨q, trivial⟩ (by kernel_rfl)) q q ?_
 refine zq (cs := [iV 0, nS, iV 0]) H15 z70 q q q (fun b16 w17 H18 => ?_)
 refine zl (cs' := [iV 0, nS, iV (IntKind.wrap .i64 (x5.2 * x11.2))]) H18 q il70 q q q q q (fun w20 H21 => ?_)
 refine B <| C <| rR <| qM q q q <| A q (qt_gtr q q) q q <| qM q q q ?_
 obtain ⟨o25, ho26, h⟩ := D h
 obtain ⟨g23, b24⟩ := o25
 refine WL_cutM 4 (fun a w2 => (Fr a 94 [(0, pB bp0), (1, iV p1), (2, iV p2), (6, pB b1), (7, pB b16), (21, .bool b24)] ∧ Holds (([.bx bp0 104 [A0, iV B1]] : List Res).flatMap Res.own) w w2 [.bx bp0 104 [A0, iV g23], .bx b1 70 [iV 0, nS, iV 0], .bx b16 70 [iV 0, nS, iV (IntKind.wrap .i64 (x5.2 * x11.2))]] G)) ?_ ?_
 ·rcases btf (decide (p1 > 0)) with hc27 | hc27
  ·have ho26 := if_t hc27 ho26
   refine qM (J q hc27) q q ?_
   have H30 := H21.p1
   obtain ⟨x28, hx29, ho26⟩ := D ho26
   refine zd (J q hc27) q c44 (w_spec_l20Rd__pick w20 _ bp0 A0 B0 (C0.c.c) x11.1 3 x28 hx29 H30.ctx) (by rfl) ?_
   rintro _ w31 ⟨rfl, H32⟩; refine ⟨_, q, ?_⟩
   have H33 := H30.cN1 [_] H32
   refine A (J q hc27) (qt_gtr q q) q q <| A q (ze q hc27 q) q q <| WL_nil fun a ha => ?_
   obtain ⟨rfl, rfl⟩ := L ho26 |> Prod.mk.inj
   have H34 := H33.p1.p2.p2
   exact X ⟨ha.sub ⟨q, q, q, q, q, q, trivial⟩, H34⟩
  have ho26 := if_f hc27 ho26
  refine qS q hc27 q q <| qS q hc27 q q <| qS q hc27 q q <| A q (zf q hc27 q) q q <| WL_nil fun a ha => ?_
  obtain ⟨rfl, rfl⟩ := L ho26 |> Prod.mk.inj
  have H35 := H21.p2.p2
  exact X ⟨ha.sub ⟨q, q, q, q, q, q, trivial⟩, H35⟩
 intro a w36 hI37
 obtain ⟨ha, H38⟩ := hI37
 refine SL_app ?_ ha
 clear ha
 refine B ?_
 obtain ⟨o42, ho43, h⟩ := D h
 obtain ⟨j39, j40, j41⟩ := o42
 refine WP_join (M := fun a w2 => ∃ vj41, Fr a 94 [(0, pB bp0), (1, iV p1), (2, iV p2), (6, pB b1), (7, pB b16)] ∧ Holds (([.bx bp0 104 [A0, iV B1]] : List Res).flatMap Res.own) w w2 [.bx bp0 104 [A0, iV j39], .bx b1 70 [iV 0, nS, iV 0], .bx b16 70 [iV j40, vj41, iV (IntKind.wrap .i64 (x5.2 * x11.2))], .sl 67 ty1 vj41 j41] G) ?_ ?_
 ·refine Y q (fun hc44 => ?_) (fun hc44 => ?_)
  ·have ho43 := if_t hc44 ho43
   refine rR <| qM q q q ?_
   obtain ⟨x45, hx46, ho43⟩ := D ho43
   refine zd q q c44 (w_spec_l20Rd__pick w36 _ bp0 A0 B0 (C0.c.c) g23 6 x45 hx46 H38.ctx) (by rfl) ?_
   rintro _ w47 ⟨rfl, H48⟩; refine ⟨_, q, ?_⟩
   have H49 := H38.cN1 [_] H48
   refine A q (qt_add q q) q q <| qF uf70 fi70_0 nz3 q q q ?_
   have H50 := H49.p2
   refine WL_store_bx H50 q il3 q q q q q (fun w51 H52 => ?_)
   refine rN <| qA q q q <| B <| g ?_
   have H57 := H52.nS 67 ty1
   obtain ⟨o58, ho59, ho43⟩ := D ho43
   have H62 := H57.p1.p3.p3
   refine fun a60 ha61 => zp (I := fun s a w2 => match s with | (s54, s55, s56) => ∃ vs56, Fr a 94 [(0, pB bp0), (1, iV p1), (2, iV p2), (6, pB b1), (7, pB b16), (8, iV s54)] ∧ Holds (([.bx bp0 104 [A0, iV B1]] : List Res).flatMap Res.own) w w2 [.bx bp0 104 [A0, iV s55], .bx b1 70 [iV 0, nS, iV 0], .bx b16 70 [iV (IntKind.wrap .i64 (1 + x45.2)), vs56, iV (IntKind.wrap .i64 (x5.2 * x11.2))], .sl 67 ty1 vs56 s56] G) (O := fun o e a w2 => match o with | (q0, q1) => e = .exit 0 ∧ ∃ vq1, Fr a 94 [(0, pB bp0), (1, iV p1), (2, iV p2), (6, pB b1), (7, pB b16)] ∧ Holds (([.bx bp0 104 [A0, iV B1]] : List Res).flatMap Res.own) w w2 [.bx bp0 104 [A0, iV q0], .bx b1 70 [iV 0, nS, iV 0], .bx b16 70 [iV (IntKind.wrap .i64 (1 + x45.2)), vq1, iV (IntKind.wrap .i64 (x5.2 * x11.2))], .sl 67 ty1 vq1 q1] G) ho59 ?_ ?_ ?_
   ·exact ⟨(nS), ha61.sub ⟨q, q, q, q, q, q, trivial⟩, H62⟩
   ·clear ha61
    intro s o65 a w63 hs64 hI66
    obtain ⟨s54, s55, s56⟩ := s
    obtain ⟨vs56, ha, H67⟩ := hI66
    refine S ?_ ha
    clear ha
    refine C <| rR <| qM q q q <| qM q q q <| A q (qt_lss q q) q q <| qM q q q ?_
    refine zh 5 34 (.bool ((decide (s54 < p1)) && (decide ((List.length s56 : Int) < 3)))) ?_ (fun md hmd hk => ?_)
    rotate_left
    ·obtain ⟨Q, rfl⟩ := Md.seq_of hmd
     rcases btf (decide (s54 < p1)) with hc68 | hc68
     ·skip
      refine qF uf70 fi70_1 nz68 (J q hc68) q q ?_
      have hB69 := R H67.p2
      refine l u68 q hB69 q (J q hc68) q q <| za H67.ctx (t := ty1) hS3 u68 (J q hc68) q q <| A (J q hc68) (qt_lss q q) q q <| A q (ze q hc68 q) q q ?_
      exact hk _ (p (by rw [hc68]; rfl) (cfn 4 q (u)))
     skip
     refine qS q hc68 q q <| qS q hc68 q q <| qS q hc68 q q <| qS q hc68 q q <| A q (zf q hc68 q) q q ?_
     exact hk _ (p (by rw [hc68]; rfl) (cfn 4 q (u)))
    refine B ?_
    refine Y q (fun hc70 => ?_) (fun hc70 => ?_)
    ·have hs64 := if_t hc70 hs64
     refine y <| C <| g <| rR <| qM q q q ?_
     obtain ⟨x71, hx72, hs64⟩ := D hs64
     refine zd q q c44 (w_spec_l20Rd__pick w63 _ bp0 A0 B0 (C0.c.c.c) s55 2 x71 hx72 H67.ctx) (by rfl) ?_
     rintro _ w73 ⟨rfl, H74⟩; refine ⟨_, q, ?_⟩
     have H75 := H67.cN1 [_] H74
     refine A q (qt_eql q q) q q <| qM q q q ?_
     refine zh 11 51 (.bool ((x71.2 == 0) || ((s54 == (IntKind.wrap .i64 (p1 - 1))) && ((List.length s56 : Int) == 0)))) ?_ (fun md hmd hk => ?_)
     rotate_left
     ·obtain ⟨Q, rfl⟩ := Md.seq_of hmd
      rcases btf (x71.2 == 0) with hc76 | hc76
      ·skip
       refine qS q hc76 q q <| qS q hc76 q q <| qS q hc76 q q <| qS q hc76 q q <| qS q hc76 q q <| XL_skip q q q <| XL_skip q q q <| XL_skip q q q <| XL_skip q q q <| qS q hc76 q q ?_
       refine A q (ze q hc76 q) q q ?_
       exact hk _ (p (by rw [hc76]; rfl) (cfn 10 q (u)))
      skip
      refine qM (J q hc76) q q <| qM (J q hc76) q q <| A (J q hc76) (qt_sub q q) q q <| A (J q hc76) (qt_eql q q) q q <| qM (J q hc76) q q ?_
      refine zh 5 50 (.bool ((s54 == (IntKind.wrap .i64 (p1 - 1))) && ((List.length s56 : Int) == 0))) ?_ (fun md hmd hk => ?_)
      rotate_left
      ·obtain ⟨Q, rfl⟩ := Md.seq_of hmd
       rcases btf (s54 == (IntKind.wrap .i64 (p1 - 1))) with hc77 | hc77
       ·skip
        refine qF uf70 fi70_1 nz68 (J q hc77) q q ?_
        have hB78 := R H75.p2
        refine l u68 q hB78 q (J q hc77) q q <| za H75.ctx (t := ty1) hS3 u68 (J q hc77) q q <| A (J q hc77) (qt_eql q q) q q <| A (J q hc76) (ze q hc77 q) q q ?_
        exact hk _ (p (by rw [hc77]; rfl) (cfn 4 q (u)))
       skip
       refine qS q hc77 q q <| qS q hc77 q q <| qS q hc77 q q <| qS q hc77 q q <| A (J q hc76) (zf q hc77 q) q q ?_
       exact hk _ (p (by rw [hc77]; rfl) (cfn 4 q (u)))
      refine A q (zf q hc76 q) q q ?_
      exact hk _ (p (by rw [hc76]; rfl) (cfn 6 q (u)))
     refine B ?_
     refine Y q (fun hc79 => ?_) (fun hc79 => ?_)
     ·have hs64 := if_t hc79 hs64
      obtain ⟨x81, hx82, hs64⟩ := D hs64
      obtain ⟨x91, hx92, hs64⟩ := D hs64
      refine WP_mid (Mid := fun a w2 => ∃ vz79_0, Fr a 94 [(0, pB bp0), (1, iV p1), (2, iV p2), (6, pB b1), (7, pB b16), (8, iV s54)] ∧ Holds (([.bx bp0 104 [A0, iV B1]] : List Res).flatMap Res.own) w w2 [.bx bp0 104 [A0, iV x81.1], .bx b1 70 [iV 0, nS, iV 0], .bx b16 70 [iV (IntKind.wrap .i64 (1 + x45.2)), vz79_0, iV (IntKind.wrap .i64 (x5.2 * x11.2))], .sl 67 ty1 vz79_0 x91] G) ?_ ?_
      ·refine WP_ordersT (fun w1 w2 => Chg (([.bx bp0 104 [A0, iV x71.1], .sl 67 ty1 vs56 s56] : List Res).flatMap Res.own) w1 w2) 9 (by kernel_rfl) (fun w280 hb281 => ?_)
       have H282 := H75.grow hb281
       have H283 := H282.p3
       have H284 := H283.p1
       have C285 : Ctx w280 ([.bx bp0 104 [A0, iV x71.1], .sl 67 ty1 vs56 s56] ++ ([.bx b1 70 [iV 0, nS, iV 0], .bx b16 70 [iV (IntKind.wrap .i64 (1 + x45.2)), vs56, iV (IntKind.wrap .i64 (x5.2 * x11.2))]] ++ G)) := H284.ctx
       have H286 : Holds _ w280 w280 [.bx bp0 104 [A0, iV x71.1], .sl 67 ty1 vs56 s56] ([.bx b1 70 [iV 0, nS, iV 0], .bx b16 70 [iV (IntKind.wrap .i64 (1 + x45.2)), vs56, iV (IntKind.wrap .i64 (x5.2 * x11.2))]] ++ G) := zb (Rs := [.bx bp0 104 [A0, iV x71.1], .sl 67 ty1 vs56 s56]) C285
       refine XQ (i := 0) q (by kernel_rfl) q H286.chg q (fun _ => qt_fieldAddr uf70 fi70_1 nz68 q) q q ?_
       have hB322 := HasB.bx (HasB.c (HasB.c (HasB.c (HasB.hd)))) H286.ctx
       refine XT (i := 1) q (by kernel_rfl) q H286.chg q (qs_cell u68 q q (hB322.cell (i := 1) q) H286.chg (Ctx.outB C285 (HasB.c (HasB.hd)))) q q <| XQ (i := 2) q (by kernel_rfl) q H286.chg q (fun _ => qt_move q) q q <| XQ (i := 3) q (by kernel_rfl) q H286.chg q (fun _ => qt_move q) q q <| X1 4 (by kernel_rfl) q <| zd q q c44 (w_spec_l20Rd__pick w280 _ bp0 A0 B0 (C0.c.c.c) x71.1 4 x81 hx82 H286.ctx) (by rfl) ?_
       rintro _ w323 ⟨rfl, H324⟩; refine ⟨_, q, ?_⟩
       have H325 := H286.cN1 [_] H324
       refine XN H325.chg <| XQ (i := 5) q (by kernel_rfl) q H325.chg q (fun _ => qt_add q q) q q <| XQ (i := 6) q (by kernel_rfl) q H325.chg q (fun _ => qt_build (args := [(0, .tmp 54), (1, .tmp 57)]) (css := [#[iV s54], #[iV (IntKind.wrap .i64 (1 + x81.2))]]) (cells := #[iV s54, iV (IntKind.wrap .i64 (1 + x81.2))]) q ⟨q, q, trivial⟩ (by kernel_rfl)) q q <| X1 7 (by kernel_rfl) q ?_
       refine zs (t := ty1) (args := [.tmp 58]) (xs := ([(s54, IntKind.wrap .i64 (1 + x81.2))] : LP)) H325 (BltL.cons (Blt.pair (Blt.int) (Blt.int)) q (BltL.nil)) u68 j67 q q q q q q (fun v326 w327 H328 => ?_)
       refine XN H328.chg <| X1 8 (by kernel_rfl) q ?_
       have H330 := H328.p2
       refine zw H330 hS1 hx92 u68 j67 q q q q q q (fun v331 w332 H333 => ?_)
       refine XN H333.chg ?_
       have H335 := H284.cN3 [_, _] H333
       refine X1 9 (by kernel_rfl) q <| qF uf70 fi70_1 nz68 q q q <| XE q <| X1 10 (by kernel_rfl) q ?_
       have H336 := H335.p4
       refine WL_store_bx H336 q il68 (H336.ctx.sliceCells hS1) (H336.ctx.sliceOne hS1) q q q (fun w337 H338 => ?_)
       refine XE q ?_
       refine XC_done (by kernel_rfl) (fun a ha => ?_)
       have H340 := H338.q2.p1.p1.p3.p3
       exact ⟨v331, ha.sub ⟨q, q, q, q, q, q, trivial⟩, H340⟩
      intro a w341 hI342
      obtain ⟨vz79_0, ha, H343⟩ := hI342
      refine zi (X (S ?_ ha))
      refine Z <| qM q q q <| A q (qt_add q q) q q <| qA q q q <| WL_nil fun a ha => ?_
      obtain rfl := L hs64
      have H344 := H343.p3.p3.p3.p3
      exact ⟨q, vz79_0, ha.sub ⟨q, q, q, q, q, q, trivial⟩, H344⟩
     have hs64 := if_f hc79 hs64
     refine WP_skip fun a ha => ?_
     refine zi (X (S ?_ ha))
     refine Z <| qM q q q <| A q (qt_add q q) q q <| qA q q q <| WL_nil fun a ha => ?_
     obtain rfl := L hs64
     have H345 := H75.p3.p3.p3.p3
     exact ⟨q, vs56, ha.sub ⟨q, q, q, q, q, q, trivial⟩, H345⟩
    have hs64 := if_f hc70 hs64
    refine WP_exit fun a ha => ?_
    obtain rfl := L hs64
    have H346 := H67.p3.p3.p3.p3
    exact zo (⟨exit_ne, q, vs56, ha.sub ⟨q, q, q, q, q, trivial⟩, H346⟩)
   intro e a60 w347 hO348
   obtain ⟨p349, p350⟩ := o58
   obtain ⟨rfl, hO352⟩ := hO348
   obtain ⟨vp350, ha, H351⟩ := hO352
   obtain ⟨rfl, rfl, rfl⟩ := (by simpa only [Option.some.injEq, Prod.mk.injEq] using ho43 : _)
   have H353 := H351.p3.p3.p3.p3
   exact zn (X (⟨vp350, ha.sub ⟨q, q, q, q, q, trivial⟩, H353⟩))
  have ho43 := if_f hc44 ho43
  refine WP_skip fun a ha => ?_
  obtain ⟨rfl, rfl, rfl⟩ := (by simpa only [Option.some.injEq, Prod.mk.injEq] using ho43 : _)
  have H354 := H38.nS 67 ty1
  have H355 := H354.p3.p3.p3
  exact X (⟨(nS), ha.sub ⟨q, q, q, q, q, trivial⟩, H355⟩)
 intro a w356 hI357
 obtain ⟨vj41, ha, H358⟩ := hI357
 refine S ?_ ha
 clear ha
 refine C <| rR <| qM q q q <| qM q q q ?_
 obtain ⟨x359, hx360, h⟩ := D h
 refine zd q q c46 (w_spec_l20Rd__odd w356 _ bp0 A0 B0 (C0.c.c.c) j39 p2 x359 hx360 H358.ctx) (by rfl) ?_
 rintro _ w361 ⟨rfl, H362⟩; refine ⟨_, q, ?_⟩
 have H363 := H358.cN1 [_] H362
 refine B ?_
 obtain ⟨o368, ho369, h⟩ := D h
 obtain ⟨j364, j365, j366, j367⟩ := o368
 refine WP_join (M := fun a w2 => ∃ vj366, Fr a 94 [(0, pB bp0), (6, pB b1), (7, pB b16)] ∧ Holds (([.bx bp0 104 [A0, iV B1]] : List Res).flatMap Res.own) w w2 [.bx bp0 104 [A0, iV j364], .bx b1 70 [iV 0, nS, iV 0], .bx b16 70 [iV j365, vj366, iV j367], .sl 67 ty1 vj366 j366] G) ?_ ?_
 ·refine Y q (fun hc370 => ?_) (fun hc370 => ?_)
  ·have ho369 := if_t hc370 ho369
   refine rR <| qM q q q ?_
   obtain ⟨x371, hx372, ho369⟩ := D ho369
   refine zd q q c44 (w_spec_l20Rd__pick w361 _ bp0 A0 B0 (C0.c.c.c) x359.1 4 x371 hx372 H363.ctx) (by rfl) ?_
   rintro _ w373 ⟨rfl, H374⟩; refine ⟨_, q, ?_⟩
   have H375 := H363.cN1 [_] H374
   refine B <| g <| rR <| A q (qt_eql q q) q q <| qA q q q <| B ?_
   refine Y q (fun hc376 => ?_) (fun hc376 => ?_)
   ·have ho369 := if_t hc376 ho369
    refine Z ?_
    refine zs (t := tI) (args := [.const (iV (-1)), .const (iV 32)]) (xs := ([(-1), 32] : List Int)) H375 (BltL.cons (Blt.int) q (BltL.cons (Blt.int) q (BltL.nil))) u24 j3 q q q q q q (fun v377 w378 H379 => ?_)
    refine qM q q q ?_
    have H383 := H379.p1
    obtain ⟨x381, hx382, ho369⟩ := D ho369
    refine zd q q c44 (w_spec_l20Rd__pick w378 _ bp0 A0 B0 (C0.c.c.c.c) x371.1 2 x381 hx382 H383.ctx) (by rfl) ?_
    rintro _ w384 ⟨rfl, H385⟩; refine ⟨_, q, ?_⟩
    have H386 := H383.cN1 [_] H385
    obtain ⟨x387, hx388, ho369⟩ := D ho369
    refine b H386.ctx hS1 hx388 u24 i3 q q q q (fun b389 off390 cap391 hv392 => ?_)
    obtain ⟨F393, hat394, hdup395⟩ := H386.at hS1 hx388 hv392
    refine zt (k := .i64) u3 q hat394 q q q <| qF uf70 fi70_2 nz3 q q q ?_
    have H396 := H386.p3
    refine WL_store_bx H396 q il3 q q q q q (fun w397 H398 => ?_)
    refine WL_nil fun a ha => ?_
    obtain ⟨rfl, rfl, rfl, rfl⟩ := (by simpa only [Option.some.injEq, Prod.mk.injEq] using ho369 : _)
    have H400 := H398.q2.p3.p1.p3.p3
    exact zi (X (⟨vj41, ha.sub ⟨q, q, q, trivial⟩, H400⟩))
   have ho369 := if_f hc376 ho369
   refine rR <| A q (qt_eql q q) q q <| qA q q q <| B ?_
   refine Y q (fun hc401 => ?_) (fun hc401 => ?_)
   ·have ho369 := if_t hc401 ho369
    refine Z ?_
    refine zs (t := tI) (args := [.const (iV (-1)), .const (iV 7)]) (xs := ([(-1), 7] : List Int)) H375 (BltL.cons (Blt.int) q (BltL.cons (Blt.int) q (BltL.nil))) u24 j3 q q q q q q (fun v402 w403 H404 => ?_)
    refine qM q q q ?_
    have H408 := H404.p1
    obtain ⟨x406, hx407, ho369⟩ := D ho369
    refine zd q q c44 (w_spec_l20Rd__pick w403 _ bp0 A0 B0 (C0.c.c.c.c) x371.1 2 x406 hx407 H408.ctx) (by rfl) ?_
    rintro _ w409 ⟨rfl, H410⟩; refine ⟨_, q, ?_⟩
    have H411 := H408.cN1 [_] H410
    obtain ⟨x412, hx413, ho369⟩ := D ho369
    refine b H411.ctx hS1 hx413 u24 i3 q q q q (fun b414 off415 cap416 hv417 => ?_)
    obtain ⟨F418, hat419, hdup420⟩ := H411.at hS1 hx413 hv417
    refine zt (k := .i64) u3 q hat419 q q q <| qF uf70 fi70_0 nz3 q q q ?_
    have H421 := H411.p3
    refine WL_store_bx H421 q il3 q q q q q (fun w422 H423 => ?_)
    refine WL_nil fun a ha => ?_
    obtain ⟨rfl, rfl, rfl, rfl⟩ := (by simpa only [Option.some.injEq, Prod.mk.injEq] using ho369 : _)
    have H425 := H423.q2.p3.p1.p3.p3
    exact zi (X (⟨vj41, ha.sub ⟨q, q, q, trivial⟩, H425⟩))
   have ho369 := if_f hc401 ho369
   refine rR <| A q (qt_eql q q) q q <| qA q q q <| B ?_
   refine Y q (fun hc426 => ?_) (fun hc426 => ?_)
   ·have ho369 := if_t hc426 ho369
    refine Z <| qF uf70 fi70_1 nz68 q q q ?_
    have hB427 := R H375.p2
    refine l u68 q hB427 q q q q <| qM q q q <| A q (qt_build (args := [(0, .tmp 88), (1, .const (iV 1))]) (css := [#[iV p1], #[iV 1]]) (cells := #[iV p1, iV 1]) q ⟨q, q, trivial⟩ (by kernel_rfl)) q q ?_
    refine zs (t := ty1) (args := [.tmp 89]) (xs := ([(p1, 1)] : LP)) H375 (BltL.cons (Blt.pair (Blt.int) (Blt.int)) q (BltL.nil)) u68 j67 q q q q q q (fun v428 w429 H430 => ?_)
    have H432 := H430.p4
    obtain ⟨x433, hx434, ho369⟩ := D ho369
    refine zw H432 hS1 hx434 u68 j67 q q q q q q (fun v435 w436 H437 => ?_)
    refine qF uf70 fi70_1 nz68 q q q ?_
    have H439 := H437.p4
    refine WL_store_bx H439 q il68 (H439.ctx.sliceCells hS1) (H439.ctx.sliceOne hS1) q q q (fun w440 H441 => ?_)
    refine WL_nil fun a ha => ?_
    obtain ⟨rfl, rfl, rfl, rfl⟩ := (by simpa only [Option.some.injEq, Prod.mk.injEq] using ho369 : _)
    have H443 := H441.q2.p1.p1.p3.p3
    exact zi (X (⟨v435, ha.sub ⟨q, q, q, trivial⟩, H443⟩))
   have ho369 := if_f hc426 ho369
   refine Z <| A q (qt_build (args := [(0, .const (iV 2))]) (css := [#[iV 2]]) (cells := #[iV 2, nS, iV 0]) q ⟨q, trivial⟩ (by kernel_rfl)) q q ?_
   have H444 := H375.p2
   refine zl (cs' := [iV 2, nS, iV 0]) H444 q il70 q q q q q (fun w445 H446 => ?_)
   refine WL_nil fun a ha => ?_
   obtain ⟨rfl, rfl, rfl, rfl⟩ := (by simpa only [Option.some.injEq, Prod.mk.injEq] using ho369 : _)
   have H448 := H446.nS 67 ty1
   have H449 := H448.q4.p1.p3.p3
   exact zi (X (⟨(nS), ha.sub ⟨q, q, q, trivial⟩, H449⟩))
  have ho369 := if_f hc370 ho369
  refine WP_skip fun a ha => ?_
  obtain ⟨rfl, rfl, rfl, rfl⟩ := (by simpa only [Option.some.injEq, Prod.mk.injEq] using ho369 : _)
  have H450 := H363.p3.p3.p3.p3
  exact X (⟨vj41, ha.sub ⟨q, q, q, trivial⟩, H450⟩)
 intro a w451 hI452
 obtain ⟨vj366, ha, H453⟩ := hI452
 refine S ?_ ha
 clear ha
 refine C <| Z ?_
 have hB454 := R H453.p2
 refine zm (cs := [iV j365, vj366, iV j367]) us70 uo70 il70 hB454 q q q ?_
 change XL _ _ _ _ _ ((93, .agg #[iV j365, vj366, iV j367]) :: _) _
 have H455 := H453.p1
 refine zl (cs' := [iV j365, vj366, iV j367]) H455 q il70 q (T q (T (H455.ctx.sliceOne hS3) (T q q))) q q q (fun w456 H457 => ?_)
 refine B <| W fun a ha => ?_
 obtain rfl := L h
 have hB459 := R H457.p0
 have H460 := H457.q0.q1.p1
 exact retc q ha q (run_loadVar_bx (cs := [iV j365, vj366, iV j367]) us70 uo70 il70 hB459) ⟨vj366, q, H460⟩
theorem w_spec_l20Items (w : World) (G : List Res) (bp0 : Nat) (A0 : Value) (B0 : List Int) (C0 : Has G (.int .u8) A0 B0) (B1 : Int) (p1 : Int) (r : Int × LI) (h : spec_l20ItemsS B0 B1 p1 = some r) (H : Ctx w ([.bx bp0 104 [A0, iV B1]] ++ G)) : Calls Tryd.prog 62 #[pB bp0, iV p1] w fun e w' => ∃ (v1 : Value), e = .returned (v1) ∧ Holds (([.bx bp0 104 [A0, iV B1]] : List Res).flatMap Res.own) w w' [.sl 70 ty7 v1 r.2, .bx bp0 104 [A0, iV r.1]] G := by
 have H : Holds (([.bx bp0 104 [A0, iV B1]] : List Res).flatMap Res.own) w w [.bx bp0 104 [A0, iV B1]] G := zb H
 refine zg (args := [pB bp0, iV p1]) (n := 36) Tryd.func62 q q q ?_
 unfold spec_l20ItemsS at h
 refine rR <| qA q q q <| B <| C <| Z ?_
 refine zs (t := ty7) (args := []) (xs := ([] : LI)) H (BltL.nil) u23 j70 q q q q q q (fun v1 w2 H3 => ?_)
 refine qA q q q <| B <| C <| rR <| qM q q q ?_
 have H7 := H3.p1
 obtain ⟨x5, hx6, h⟩ := D h
 refine zd q q c44 (w_spec_l20Rd__pick w2 _ bp0 A0 B0 (C0.c) B1 7 x5 hx6 H7.ctx) (by rfl) ?_
 rintro _ w8 ⟨rfl, H9⟩; refine ⟨_, q, ?_⟩
 have H10 := H7.cN1 [_] H9
 refine qA q q q <| B <| g ?_
 obtain ⟨o14, ho15, h⟩ := D h
 have H18 := H10.p1.p1
 refine fun a16 ha17 => zp (I := fun s a w2 => match s with | (s11, s12, s13) => ∃ vs11, Fr a 36 [(0, pB bp0), (1, iV p1), (5, vs11), (6, iV s12)] ∧ Holds (([.bx bp0 104 [A0, iV B1]] : List Res).flatMap Res.own) w w2 [.bx bp0 104 [A0, iV s13], .sl 70 ty7 vs11 s11] G) (O := fun o e a w2 => match o with | (q0, q1) => e = .exit 0 ∧ ∃ vq0, Fr a 36 [(0, pB bp0), (1, iV p1), (5, vq0)] ∧ Holds (([.bx bp0 104 [A0, iV B1]] : List Res).flatMap Res.own) w w2 [.bx bp0 104 [A0, iV q1], .sl 70 ty7 vq0 q0] G) ho15 ?_ ?_ ?_
 ·exact ⟨v1, ha17.sub ⟨q, q, q, q, trivial⟩, H18⟩
 ·clear ha17
  intro s o21 a w19 hs20 hI22
  obtain ⟨s11, s12, s13⟩ := s
  obtain ⟨vs11, ha, H23⟩ := hI22
  refine S ?_ ha
  clear ha
  refine C <| rR <| qM q q q <| A q (qt_gtr q q) q q <| B ?_
  refine Y q (fun hc24 => ?_) (fun hc24 => ?_)
  ·have hs20 := if_t hc24 hs20
   refine y <| C <| g <| Z <| qM q q q <| qM q q q <| qM q q q <| za H23.ctx (t := ty7) hS1 u23 q q q ?_
   obtain ⟨x25, hx26, hs20⟩ := D hs20
   refine zd q q c80 (w_spec_l20Item w19 _ bp0 A0 B0 (C0.c) s13 (List.length s11 : Int) 0 x25 hx26 H23.ctx) (by rfl) ?_
   rintro _ w27 ⟨v29, rfl, H28⟩; refine ⟨_, q, ?_⟩
   have H30 := H23.cN2 [_] H28
   have H31 := H30.freeze
   refine zs (t := ty7) (args := [.tmp 18]) (xs := ([(x25.2.1, x25.2.2.1, x25.2.2.2)] : LI)) H31 (BltL.cons (Blt.pair (Blt.int) (Blt.pair (Blt.slice hO0) (Blt.int))) q (BltL.nil)) u23 j70 q q q q q q (fun v32 w33 H34 => ?_)
   have H36 := H34.p3
   obtain ⟨x37, hx38, hs20⟩ := D hs20
   refine zw H36 hS1 hx38 u23 j70 q q q q q q (fun v39 w40 H41 => ?_)
   refine qA q q q <| WL_nil fun a ha => ?_
   refine zi (X (S ?_ ha))
   refine Z <| qM q q q <| A q (qt_sub q q) q q <| qA q q q <| WL_nil fun a ha => ?_
   obtain rfl := L hs20
   have H43 := H41.q1.q1.p1
   exact ⟨q, v39, ha.sub ⟨q, q, q, q, trivial⟩, H43⟩
  have hs20 := if_f hc24 hs20
  refine WP_exit fun a ha => ?_
  obtain rfl := L hs20
  have H44 := H23.p1.p1
  exact zo (⟨exit_ne, q, vs11, ha.sub ⟨q, q, q, trivial⟩, H44⟩)
 intro e a16 w45 hO46
 obtain ⟨p47, p48⟩ := o14
 obtain ⟨rfl, hO50⟩ := hO46
 obtain ⟨vp47, ha, H49⟩ := hO50
 refine zn (X (S ?_ ha))
 refine C <| rR <| qM q q q <| qM q q q ?_
 obtain ⟨x51, hx52, h⟩ := D h
 refine zd q q c46 (w_spec_l20Rd__odd w45 _ bp0 A0 B0 (C0.c) p48 p1 x51 hx52 H49.ctx) (by rfl) ?_
 rintro _ w53 ⟨rfl, H54⟩; refine ⟨_, q, ?_⟩
 have H55 := H49.cN1 [_] H54
 refine B ?_
 refine Y q (fun hc56 => ?_) (fun hc56 => ?_)
 ·have h := if_t hc56 h
  refine C <| rR <| qM q q q ?_
  obtain ⟨x57, hx58, h⟩ := D h
  refine zd q q c44 (w_spec_l20Rd__pick w53 _ bp0 A0 B0 (C0.c) x51.1 3 x57 hx58 H55.ctx) (by rfl) ?_
  rintro _ w59 ⟨rfl, H60⟩; refine ⟨_, q, ?_⟩
  have H61 := H55.cN1 [_] H60
  refine A q (qt_eql q q) q q <| B ?_
  refine Y q (fun hc62 => ?_) (fun hc62 => ?_)
  ·have h := if_t hc62 h
   refine C <| Z ?_
   obtain ⟨x63, hx64, h⟩ := D h
   refine WL_makeH H61 hx64 u23 j70 q (fun _ => ⟨_, _, [], [], q, q, ⟨q, q⟩, ⟨_, _, [], [], q, q, ⟨none, 0, q, Nat.le_refl _, .inl ⟨q, q⟩⟩, ⟨q, q⟩⟩⟩) q q q q q (fun v65 w66 H67 => ?_)
   refine qA q q q <| B <| W fun a ha => ?_
   obtain rfl := L h
   have H69 := H67.q2.p1.p1
   exact m (m (ret1 q ha q ⟨v65, q, H69⟩))
  have h := if_f hc62 h
  refine y <| rR <| qM q q q <| qM q q q <| qM q q q <| za H61.ctx (t := ty7) hS1 u23 q q q ?_
  obtain ⟨x70, hx71, h⟩ := D h
  refine zd q q c80 (w_spec_l20Item w59 _ bp0 A0 B0 (C0.c) x57.1 (List.length p47 : Int) 1 x70 hx71 H61.ctx) (by rfl) ?_
  rintro _ w72 ⟨v74, rfl, H73⟩; refine ⟨_, q, ?_⟩
  have H75 := H61.cN2 [_] H73
  have H76 := H75.freeze
  refine zs (t := ty7) (args := [.tmp 32]) (xs := ([(x70.2.1, x70.2.2.1, x70.2.2.2)] : LI)) H76 (BltL.cons (Blt.pair (Blt.int) (Blt.pair (Blt.slice hO0) (Blt.int))) q (BltL.nil)) u23 j70 q q q q q q (fun v77 w78 H79 => ?_)
  have H81 := H79.p3
  obtain ⟨x82, hx83, h⟩ := D h
  refine zw H81 hS1 hx83 u23 j70 q q q q q q (fun v84 w85 H86 => ?_)
  refine qA q q q <| B <| W fun a ha => ?_
  obtain rfl := L h
  have H88 := H86.q1.q1.p1.p1
  exact m (ret1 q ha q ⟨v84, q, H88⟩)
 have h := if_f hc56 h
 refine y <| rR <| qM q q q <| qA q q q <| B <| W fun a ha => ?_
 obtain rfl := L h
 have H89 := H55.p1
 exact ret1 q ha q ⟨vp47, q, H89⟩
theorem w_spec_l20Prices (w : World) (G : List Res) (bp0 : Nat) (A0 : Value) (B0 : List Int) (C0 : Has G (.int .u8) A0 B0) (B1 : Int) (vp1 : Value) (p1 : LI) (hp1 : Has G ty7 vp1 p1) (p2 : Int) (r : Int × (List Int)) (h : spec_l20PricesS B0 B1 p1 p2 = some r) (H : Ctx w ([.bx bp0 104 [A0, iV B1]] ++ G)) : Calls Tryd.prog 63 #[pB bp0, vp1, iV p2] w fun e w' => ∃ (v1 : Value), e = .returned (v1) ∧ Holds (([.bx bp0 104 [A0, iV B1]] : List Res).flatMap Res.own) w w' [.sl 3 tI v1 r.2, .bx bp0 104 [A0, iV r.1]] G := by
 have H : Holds (([.bx bp0 104 [A0, iV B1]] : List Res).flatMap Res.own) w w [.bx bp0 104 [A0, iV B1]] G := zb H
 refine zg (args := [pB bp0, vp1, iV p2]) (n := 44) Tryd.func63 q q q ?_
 unfold spec_l20PricesS at h
 refine rR <| qA q q q <| B <| C <| Z ?_
 refine zs (t := tI) (args := []) (xs := ([] : List Int)) H (BltL.nil) u24 j3 q q q q q q (fun v1 w2 H3 => ?_)
 refine qA q q q <| B <| C <| rR <| qA q q q <| B <| g ?_
 obtain ⟨o8, ho9, h⟩ := D h
 have H12 := H3.p1
 refine fun a10 ha11 => zp (I := fun s a w2 => match s with | (s5, s6, s7) => ∃ vs5, Fr a 44 [(0, pB bp0), (1, vp1), (2, iV p2), (7, vs5), (8, iV s6)] ∧ Holds (([.bx bp0 104 [A0, iV B1]] : List Res).flatMap Res.own) w w2 [.bx bp0 104 [A0, iV s7], .sl 3 tI vs5 s5] G) (O := fun o e a w2 => match o with | (q0, q1) => e = .exit 0 ∧ ∃ vq0, Fr a 44 [(0, pB bp0), (2, iV p2), (7, vq0)] ∧ Holds (([.bx bp0 104 [A0, iV B1]] : List Res).flatMap Res.own) w w2 [.bx bp0 104 [A0, iV q1], .sl 3 tI vq0 q0] G) ho9 ?_ ?_ ?_
 ·exact ⟨v1, ha11.sub ⟨q, q, q, q, q, trivial⟩, H12⟩
 ·clear ha11
  intro s o15 a w13 hs14 hI16
  obtain ⟨s5, s6, s7⟩ := s
  obtain ⟨vs5, ha, H17⟩ := hI16
  refine S ?_ ha
  clear ha
  refine C <| rR <| qM q q q <| qM q q q <| za H17.ctx (t := ty7) (hp1.c.c) u23 q q q <| A q (qt_lss q q) q q <| B ?_
  refine Y q (fun hc18 => ?_) (fun hc18 => ?_)
  ·have hs14 := if_t hc18 hs14
   refine y <| C <| g <| Z <| qM q q q <| qM q q q ?_
   obtain ⟨x19, hx20, hs14⟩ := D hs14
   refine zd q q c44 (w_spec_l20Rd__pick w13 _ bp0 A0 B0 (C0.c) s7 21 x19 hx20 H17.ctx) (by rfl) ?_
   rintro _ w21 ⟨rfl, H22⟩; refine ⟨_, q, ?_⟩
   have H23 := H17.cN1 [_] H22
   refine zs (t := tI) (args := [.tmp 18]) (xs := ([x19.2] : List Int)) H23 (BltL.cons (Blt.int) q (BltL.nil)) u24 j3 q q q q q q (fun v24 w25 H26 => ?_)
   have H28 := H26.p2
   obtain ⟨x29, hx30, hs14⟩ := D hs14
   refine zw H28 hS1 hx30 u24 j3 q q q q q q (fun v31 w32 H33 => ?_)
   refine qA q q q <| WL_nil fun a ha => ?_
   refine zi (X (S ?_ ha))
   refine Z <| qM q q q <| A q (qt_add q q) q q <| qA q q q <| WL_nil fun a ha => ?_
   obtain rfl := L hs14
   have H35 := H33.q1.p1
   exact ⟨q, v31, ha.sub ⟨q, q, q, q, q, trivial⟩, H35⟩
  have hs14 := if_f hc18 hs14
  refine WP_exit fun a ha => ?_
  obtain rfl := L hs14
  have H36 := H17.p1.p1
  exact zo (⟨exit_ne, q, vs5, ha.sub ⟨q, q, q, trivial⟩, H36⟩)
 intro e a10 w37 hO38
 obtain ⟨p39, p40⟩ := o8
 obtain ⟨rfl, hO42⟩ := hO38
 obtain ⟨vp39, ha, H41⟩ := hO42
 refine zn (X (S ?_ ha))
 refine C <| rR <| qM q q q <| qM q q q ?_
 obtain ⟨x43, hx44, h⟩ := D h
 refine zd q q c46 (w_spec_l20Rd__odd w37 _ bp0 A0 B0 (C0.c) p40 p2 x43 hx44 H41.ctx) (by rfl) ?_
 rintro _ w45 ⟨rfl, H46⟩; refine ⟨_, q, ?_⟩
 have H47 := H41.cN1 [_] H46
 refine B ?_
 refine Y q (fun hc48 => ?_) (fun hc48 => ?_)
 ·have h := if_t hc48 h
  refine C <| rR <| qM q q q <| za H47.ctx (t := tI) hS1 u24 q q q <| A q (qt_gtr q q) q q <| qM q q q ?_
  obtain ⟨o51, ho52, h⟩ := D h
  obtain ⟨g49, b50⟩ := o51
  refine WL_cutM 4 (fun a w2 => (Fr a 44 [(0, pB bp0), (7, vp39), (31, .bool b50)] ∧ Holds (([.bx bp0 104 [A0, iV B1]] : List Res).flatMap Res.own) w w2 [.bx bp0 104 [A0, iV g49], .sl 3 tI vp39 p39] G)) ?_ ?_
  ·rcases btf (decide ((List.length p39 : Int) > 0)) with hc53 | hc53
   ·have ho52 := if_t hc53 ho52
    refine qM (J q hc53) q q ?_
    obtain ⟨x54, hx55, ho52⟩ := D ho52
    refine zd (J q hc53) q c44 (w_spec_l20Rd__pick w45 _ bp0 A0 B0 (C0.c) x43.1 2 x54 hx55 H47.ctx) (by rfl) ?_
    rintro _ w56 ⟨rfl, H57⟩; refine ⟨_, q, ?_⟩
    have H58 := H47.cN1 [_] H57
    refine A (J q hc53) (qt_eql q q) q q <| A q (ze q hc53 q) q q <| WL_nil fun a ha => ?_
    obtain ⟨rfl, rfl⟩ := L ho52 |> Prod.mk.inj
    have H59 := H58.p1.p1
    exact X ⟨ha.sub ⟨q, q, q, trivial⟩, H59⟩
   have ho52 := if_f hc53 ho52
   refine qS q hc53 q q <| qS q hc53 q q <| qS q hc53 q q <| A q (zf q hc53 q) q q <| WL_nil fun a ha => ?_
   obtain ⟨rfl, rfl⟩ := L ho52 |> Prod.mk.inj
   have H60 := H47.p1.p1
   exact X ⟨ha.sub ⟨q, q, q, trivial⟩, H60⟩
  intro a w61 hI62
  obtain ⟨ha, H63⟩ := hI62
  refine SL_app ?_ ha
  clear ha
  refine B ?_
  refine Y q (fun hc64 => ?_) (fun hc64 => ?_)
  ·have h := if_t hc64 h
   refine rR <| qM q q q ?_
   refine zs (t := tI) (args := [.const (iV (-1)), .const (iV 21)]) (xs := ([(-1), 21] : List Int)) H63 (BltL.cons (Blt.int) q (BltL.cons (Blt.int) q (BltL.nil))) u24 j3 q q q q q q (fun v65 w66 H67 => ?_)
   refine qM q q q ?_
   have H71 := H67.p1
   obtain ⟨x69, hx70, h⟩ := D h
   refine zd q q c44 (w_spec_l20Rd__pick w66 _ bp0 A0 B0 (C0.c.c) g49 2 x69 hx70 H71.ctx) (by rfl) ?_
   rintro _ w72 ⟨rfl, H73⟩; refine ⟨_, q, ?_⟩
   have H74 := H71.cN1 [_] H73
   obtain ⟨x75, hx76, h⟩ := D h
   refine b H74.ctx hS1 hx76 u24 i3 q q q q (fun b77 off78 cap79 hv80 => ?_)
   obtain ⟨F81, hat82, hdup83⟩ := H74.at hS1 hx76 hv80
   refine zt (k := .i64) u3 q hat82 q q q ?_
   obtain ⟨x84, hx85, h⟩ := D h
   refine b H74.ctx hS2 hx85 u24 i3 q q q q (fun b86 off87 cap88 hv89 => ?_)
   have H90 := H74.p2
   refine WL_storeH (fo := 0) (cs' := [iV x75]) H90 hx85 hv89 (Upd.whole (Blt.int)) q il3 q q q q (fun w91 H92 => ?_)
   refine rN <| qM q q q <| qA q q q <| B <| W fun a ha => ?_
   obtain rfl := L h
   have H94 := H92.q2.p1.p1
   exact m (m (ret1 q ha q ⟨vp39, q, H94⟩))
  have h := if_f hc64 h
  refine y <| rR <| qM q q q ?_
  refine zs (t := tI) (args := [.const (iV 1)]) (xs := ([1] : List Int)) H63 (BltL.cons (Blt.int) q (BltL.nil)) u24 j3 q q q q q q (fun v95 w96 H97 => ?_)
  have H99 := H97.p2
  obtain ⟨x100, hx101, h⟩ := D h
  refine zw H99 hS1 hx101 u24 j3 q q q q q q (fun v102 w103 H104 => ?_)
  refine qA q q q <| B <| W fun a ha => ?_
  obtain rfl := L h
  have H106 := H104.q1.p1.p1
  exact m (ret1 q ha q ⟨v102, q, H106⟩)
 have h := if_f hc48 h
 refine y <| rR <| qM q q q <| qA q q q <| B <| W fun a ha => ?_
 obtain rfl := L h
 have H107 := H47.p1
 exact ret1 q ha q ⟨vp39, q, H107⟩
theorem w_spec_l20Amounts (w : World) (G : List Res) (bp0 : Nat) (A0 : Value) (B0 : List Int) (C0 : Has G (.int .u8) A0 B0) (B1 : Int) (vp1 : Value) (p1 : LI) (hp1 : Has G ty7 vp1 p1) (p2 : Int) (r : Int × (List Int)) (h : spec_l20AmountsS B0 B1 p1 p2 = some r) (H : Ctx w ([.bx bp0 104 [A0, iV B1]] ++ G)) : Calls Tryd.prog 64 #[pB bp0, vp1, iV p2] w fun e w' => ∃ (v1 : Value), e = .returned (v1) ∧ Holds (([.bx bp0 104 [A0, iV B1]] : List Res).flatMap Res.own) w w' [.sl 3 tI v1 r.2, .bx bp0 104 [A0, iV r.1]] G := by
 have H : Holds (([.bx bp0 104 [A0, iV B1]] : List Res).flatMap Res.own) w w [.bx bp0 104 [A0, iV B1]] G := zb H
 refine zg (args := [pB bp0, vp1, iV p2]) (n := 47) Tryd.func64 q q q ?_
 unfold spec_l20AmountsS at h
 refine rR <| qA q q q <| B <| C <| Z ?_
 refine zs (t := tI) (args := []) (xs := ([] : List Int)) H (BltL.nil) u24 j3 q q q q q q (fun v1 w2 H3 => ?_)
 refine qA q q q <| B <| C <| rR <| qA q q q <| B <| g ?_
 obtain ⟨o8, ho9, h⟩ := D h
 have H12 := H3.p1
 refine fun a10 ha11 => zp (I := fun s a w2 => match s with | (s5, s6, s7) => ∃ vs5, Fr a 47 [(0, pB bp0), (1, vp1), (2, iV p2), (7, vs5), (8, iV s6)] ∧ Holds (([.bx bp0 104 [A0, iV B1]] : List Res).flatMap Res.own) w w2 [.bx bp0 104 [A0, iV s7], .sl 3 tI vs5 s5] G) (O := fun o e a w2 => match o with | (q0, q1) => e = .exit 0 ∧ ∃ vq0, Fr a 47 [(0, pB bp0), (2, iV p2), (7, vq0)] ∧ Holds (([.bx bp0 104 [A0, iV B1]] : List Res).flatMap Res.own) w w2 [.bx bp0 104 [A0, iV q1], .sl 3 tI vq0 q0] G) ho9 ?_ ?_ ?_
 ·exact ⟨v1, ha11.sub ⟨q, q, q, q, q, trivial⟩, H12⟩
 ·clear ha11
  intro s o15 a w13 hs14 hI16
  obtain ⟨s5, s6, s7⟩ := s
  obtain ⟨vs5, ha, H17⟩ := hI16
  refine S ?_ ha
  clear ha
  refine C <| rR <| qM q q q <| qM q q q <| za H17.ctx (t := ty7) (hp1.c.c) u23 q q q <| A q (qt_lss q q) q q <| B ?_
  refine Y q (fun hc18 => ?_) (fun hc18 => ?_)
  ·have hs14 := if_t hc18 hs14
   refine y <| C <| g <| Z <| qM q q q <| qM q q q ?_
   obtain ⟨x19, hx20, hs14⟩ := D hs14
   refine zd q q c44 (w_spec_l20Rd__pick w13 _ bp0 A0 B0 (C0.c) s7 12 x19 hx20 H17.ctx) (by rfl) ?_
   rintro _ w21 ⟨rfl, H22⟩; refine ⟨_, q, ?_⟩
   have H23 := H17.cN1 [_] H22
   refine qM q q q ?_
   obtain ⟨x24, hx25, hs14⟩ := D hs14
   refine zd q q c44 (w_spec_l20Rd__pick w21 _ bp0 A0 B0 (C0.c) x19.1 3 x24 hx25 H23.ctx) (by rfl) ?_
   rintro _ w26 ⟨rfl, H27⟩; refine ⟨_, q, ?_⟩
   have H28 := H23.cN1 [_] H27
   refine A q (qt_mul q q) q q ?_
   refine zs (t := tI) (args := [.tmp 21]) (xs := ([IntKind.wrap .i64 (x19.2 * x24.2)] : List Int)) H28 (BltL.cons (Blt.int) q (BltL.nil)) u24 j3 q q q q q q (fun v29 w30 H31 => ?_)
   have H33 := H31.p2
   obtain ⟨x34, hx35, hs14⟩ := D hs14
   refine zw H33 hS1 hx35 u24 j3 q q q q q q (fun v36 w37 H38 => ?_)
   refine qA q q q <| WL_nil fun a ha => ?_
   refine zi (X (S ?_ ha))
   refine Z <| qM q q q <| A q (qt_add q q) q q <| qA q q q <| WL_nil fun a ha => ?_
   obtain rfl := L hs14
   have H40 := H38.q1.p1
   exact ⟨q, v36, ha.sub ⟨q, q, q, q, q, trivial⟩, H40⟩
  have hs14 := if_f hc18 hs14
  refine WP_exit fun a ha => ?_
  obtain rfl := L hs14
  have H41 := H17.p1.p1
  exact zo (⟨exit_ne, q, vs5, ha.sub ⟨q, q, q, trivial⟩, H41⟩)
 intro e a10 w42 hO43
 obtain ⟨p44, p45⟩ := o8
 obtain ⟨rfl, hO47⟩ := hO43
 obtain ⟨vp44, ha, H46⟩ := hO47
 refine zn (X (S ?_ ha))
 refine C <| rR <| qM q q q <| qM q q q ?_
 obtain ⟨x48, hx49, h⟩ := D h
 refine zd q q c46 (w_spec_l20Rd__odd w42 _ bp0 A0 B0 (C0.c) p45 p2 x48 hx49 H46.ctx) (by rfl) ?_
 rintro _ w50 ⟨rfl, H51⟩; refine ⟨_, q, ?_⟩
 have H52 := H46.cN1 [_] H51
 refine B ?_
 refine Y q (fun hc53 => ?_) (fun hc53 => ?_)
 ·have h := if_t hc53 h
  refine C <| rR <| qM q q q <| za H52.ctx (t := tI) hS1 u24 q q q <| A q (qt_gtr q q) q q <| qM q q q ?_
  obtain ⟨o56, ho57, h⟩ := D h
  obtain ⟨g54, b55⟩ := o56
  refine WL_cutM 4 (fun a w2 => (Fr a 47 [(0, pB bp0), (7, vp44), (34, .bool b55)] ∧ Holds (([.bx bp0 104 [A0, iV B1]] : List Res).flatMap Res.own) w w2 [.bx bp0 104 [A0, iV g54], .sl 3 tI vp44 p44] G)) ?_ ?_
  ·rcases btf (decide ((List.length p44 : Int) > 0)) with hc58 | hc58
   ·have ho57 := if_t hc58 ho57
    refine qM (J q hc58) q q ?_
    obtain ⟨x59, hx60, ho57⟩ := D ho57
    refine zd (J q hc58) q c44 (w_spec_l20Rd__pick w50 _ bp0 A0 B0 (C0.c) x48.1 2 x59 hx60 H52.ctx) (by rfl) ?_
    rintro _ w61 ⟨rfl, H62⟩; refine ⟨_, q, ?_⟩
    have H63 := H52.cN1 [_] H62
    refine A (J q hc58) (qt_eql q q) q q <| A q (ze q hc58 q) q q <| WL_nil fun a ha => ?_
    obtain ⟨rfl, rfl⟩ := L ho57 |> Prod.mk.inj
    have H64 := H63.p1.p1
    exact X ⟨ha.sub ⟨q, q, q, trivial⟩, H64⟩
   have ho57 := if_f hc58 ho57
   refine qS q hc58 q q <| qS q hc58 q q <| qS q hc58 q q <| A q (zf q hc58 q) q q <| WL_nil fun a ha => ?_
   obtain ⟨rfl, rfl⟩ := L ho57 |> Prod.mk.inj
   have H65 := H52.p1.p1
   exact X ⟨ha.sub ⟨q, q, q, trivial⟩, H65⟩
  intro a w66 hI67
  obtain ⟨ha, H68⟩ := hI67
  refine SL_app ?_ ha
  clear ha
  refine B ?_
  refine Y q (fun hc69 => ?_) (fun hc69 => ?_)
  ·have h := if_t hc69 h
   refine rR <| qM q q q ?_
   refine zs (t := tI) (args := [.const (iV (-1)), .const (iV 51)]) (xs := ([(-1), 51] : List Int)) H68 (BltL.cons (Blt.int) q (BltL.cons (Blt.int) q (BltL.nil))) u24 j3 q q q q q q (fun v70 w71 H72 => ?_)
   refine qM q q q ?_
   have H76 := H72.p1
   obtain ⟨x74, hx75, h⟩ := D h
   refine zd q q c44 (w_spec_l20Rd__pick w71 _ bp0 A0 B0 (C0.c.c) g54 2 x74 hx75 H76.ctx) (by rfl) ?_
   rintro _ w77 ⟨rfl, H78⟩; refine ⟨_, q, ?_⟩
   have H79 := H76.cN1 [_] H78
   obtain ⟨x80, hx81, h⟩ := D h
   refine b H79.ctx hS1 hx81 u24 i3 q q q q (fun b82 off83 cap84 hv85 => ?_)
   obtain ⟨F86, hat87, hdup88⟩ := H79.at hS1 hx81 hv85
   refine zt (k := .i64) u3 q hat87 q q q ?_
   obtain ⟨x89, hx90, h⟩ := D h
   refine b H79.ctx hS2 hx90 u24 i3 q q q q (fun b91 off92 cap93 hv94 => ?_)
   have H95 := H79.p2
   refine WL_storeH (fo := 0) (cs' := [iV x80]) H95 hx90 hv94 (Upd.whole (Blt.int)) q il3 q q q q (fun w96 H97 => ?_)
   refine rN <| qM q q q <| qA q q q <| B <| W fun a ha => ?_
   obtain rfl := L h
   have H99 := H97.q2.p1.p1
   exact m (m (ret1 q ha q ⟨vp44, q, H99⟩))
  have h := if_f hc69 h
  refine y <| rR <| qM q q q ?_
  refine zs (t := tI) (args := [.const (iV 1)]) (xs := ([1] : List Int)) H68 (BltL.cons (Blt.int) q (BltL.nil)) u24 j3 q q q q q q (fun v100 w101 H102 => ?_)
  have H104 := H102.p2
  obtain ⟨x105, hx106, h⟩ := D h
  refine zw H104 hS1 hx106 u24 j3 q q q q q q (fun v107 w108 H109 => ?_)
  refine qA q q q <| B <| W fun a ha => ?_
  obtain rfl := L h
  have H111 := H109.q1.p1.p1
  exact m (ret1 q ha q ⟨v107, q, H111⟩)
 have h := if_f hc53 h
 refine y <| rR <| qM q q q <| qA q q q <| B <| W fun a ha => ?_
 obtain rfl := L h
 have H112 := H52.p1
 exact ret1 q ha q ⟨vp44, q, H112⟩
end Go.Proofs.YthofjabphcheeaaDoor
