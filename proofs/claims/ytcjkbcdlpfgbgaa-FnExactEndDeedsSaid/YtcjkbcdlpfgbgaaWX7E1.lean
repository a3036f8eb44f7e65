/- The walks: each Go function computes its shallow function. Printed by a program. -/
import Derived.Test.YtcjkbcdlpfgbgaaChecked
import Derived.Test.YtcjkbcdlpfgbgaaShX7E
set_option linter.unusedVariables false
set_option maxRecDepth 10000
namespace Go.Proofs.Ytcjkbcdlpfgbgaa
open Go Go.RowKit
noncomputable def fd103 : Array Field := match Try.prog.underlying 103 with | some (.struct fs) => fs | _ => #[]
theorem uf103 : Try.prog.underlying 103 = some (.struct fd103) := by kernel_rfl
noncomputable def fd105 : Array Field := match Try.prog.underlying 105 with | some (.struct fs) => fs | _ => #[]
theorem uf105 : Try.prog.underlying 105 = some (.struct fd105) := by kernel_rfl
noncomputable def fd107 : Array Field := match Try.prog.underlying 107 with | some (.struct fs) => fs | _ => #[]
theorem uf107 : Try.prog.underlying 107 = some (.struct fd107) := by kernel_rfl
noncomputable def fd26 : Array Field := match Try.prog.underlying 26 with | some (.struct fs) => fs | _ => #[]
theorem uf26 : Try.prog.underlying 26 = some (.struct fd26) := by kernel_rfl
noncomputable def fd32 : Array Field := match Try.prog.underlying 32 with | some (.struct fs) => fs | _ => #[]
theorem uf32 : Try.prog.underlying 32 = some (.struct fd32) := by kernel_rfl
noncomputable def fd50 : Array Field := match Try.prog.underlying 50 with | some (.struct fs) => fs | _ => #[]
theorem uf50 : Try.prog.underlying 50 = some (.struct fd50) := by kernel_rfl
noncomputable def fd63 : Array Field := match Try.prog.underlying 63 with | some (.struct fs) => fs | _ => #[]
theorem uf63 : Try.prog.underlying 63 = some (.struct fd63) := by kernel_rfl
noncomputable def fd68 : Array Field := match Try.prog.underlying 68 with | some (.struct fs) => fs | _ => #[]
theorem uf68 : Try.prog.underlying 68 = some (.struct fd68) := by kernel_rfl
noncomputable def fd75 : Array Field := match Try.prog.underlying 75 with | some (.struct fs) => fs | _ => #[]
theorem uf75 : Try.prog.underlying 75 = some (.struct fd75) := by kernel_rfl
noncomputable def fd79 : Array Field := match Try.prog.underlying 79 with | some (.struct fs) => fs | _ => #[]
theorem uf79 : Try.prog.underlying 79 = some (.struct fd79) := by kernel_rfl
noncomputable def fd84 : Array Field := match Try.prog.underlying 84 with | some (.struct fs) => fs | _ => #[]
theorem uf84 : Try.prog.underlying 84 = some (.struct fd84) := by kernel_rfl
noncomputable def sd103 : TypeDesc := (Try.prog.underlying 103).getD .bool
theorem us103 : Try.prog.underlying 103 = some sd103 := by kernel_rfl
theorem uo103 : oneB sd103 = false := by kernel_rfl
noncomputable def sd105 : TypeDesc := (Try.prog.underlying 105).getD .bool
theorem us105 : Try.prog.underlying 105 = some sd105 := by kernel_rfl
theorem uo105 : oneB sd105 = false := by kernel_rfl
noncomputable def sd107 : TypeDesc := (Try.prog.underlying 107).getD .bool
theorem us107 : Try.prog.underlying 107 = some sd107 := by kernel_rfl
theorem uo107 : oneB sd107 = false := by kernel_rfl
noncomputable def sd26 : TypeDesc := (Try.prog.underlying 26).getD .bool
theorem us26 : Try.prog.underlying 26 = some sd26 := by kernel_rfl
theorem uo26 : oneB sd26 = false := by kernel_rfl
noncomputable def sd32 : TypeDesc := (Try.prog.underlying 32).getD .bool
theorem us32 : Try.prog.underlying 32 = some sd32 := by kernel_rfl
theorem uo32 : oneB sd32 = false := by kernel_rfl
noncomputable def sd50 : TypeDesc := (Try.prog.underlying 50).getD .bool
theorem us50 : Try.prog.underlying 50 = some sd50 := by kernel_rfl
theorem uo50 : oneB sd50 = false := by kernel_rfl
noncomputable def sd63 : TypeDesc := (Try.prog.underlying 63).getD .bool
theorem us63 : Try.prog.underlying 63 = some sd63 := by kernel_rfl
theorem uo63 : oneB sd63 = false := by kernel_rfl
noncomputable def sd68 : TypeDesc := (Try.prog.underlying 68).getD .bool
theorem us68 : Try.prog.underlying 68 = some sd68 := by kernel_rfl
theorem uo68 : oneB sd68 = false := by kernel_rfl
noncomputable def sd75 : TypeDesc := (Try.prog.underlying 75).getD .bool
theorem us75 : Try.prog.underlying 75 = some sd75 := by kernel_rfl
theorem uo75 : oneB sd75 = false := by kernel_rfl
noncomputable def sd79 : TypeDesc := (Try.prog.underlying 79).getD .bool
theorem us79 : Try.prog.underlying 79 = some sd79 := by kernel_rfl
theorem uo79 : oneB sd79 = false := by kernel_rfl
noncomputable def sd84 : TypeDesc := (Try.prog.underlying 84).getD .bool
theorem us84 : Try.prog.underlying 84 = some sd84 := by kernel_rfl
theorem uo84 : oneB sd84 = false := by kernel_rfl
theorem i103 : (Try.prog.info? 103).map (·.size) = some (Ty.size (.pair (.int .i64) (.int .i64))) := by kernel_rfl
theorem i105 : (Try.prog.info? 105).map (·.size) = some (Ty.size (.pair (.int .i64) (.int .i64))) := by kernel_rfl
theorem i107 : (Try.prog.info? 107).map (·.size) = some (Ty.size (.pair (.int .i64) (.int .i64))) := by kernel_rfl
theorem i3 : (Try.prog.info? 3).map (·.size) = some (Ty.size (.int .i64)) := by kernel_rfl
theorem i48 : (Try.prog.info? 48).map (·.size) = some (Ty.size (.slice (.pair (.int .i64) (.int .i64)))) := by kernel_rfl
theorem i50 : (Try.prog.info? 50).map (·.size) = some (Ty.size (.pair (.int .i64) (.pair (.slice (.pair (.int .i64) (.int .i64))) (.slice (.int .i64))))) := by kernel_rfl
theorem i63 : (Try.prog.info? 63).map (·.size) = some (Ty.size (.pair (.int .i64) (.int .i64))) := by kernel_rfl
theorem i68 : (Try.prog.info? 68).map (·.size) = some (Ty.size (.pair (.int .i64) (.pair (.int .i64) (.pair (.int .i64) (.int .i64))))) := by kernel_rfl
theorem i75 : (Try.prog.info? 75).map (·.size) = some (Ty.size (.pair (.int .i64) (.pair (.slice (.pair (.int .i64) (.int .i64))) (.int .i64)))) := by kernel_rfl
theorem i79 : (Try.prog.info? 79).map (·.size) = some (Ty.size (.pair (.int .i64) (.pair (.slice (.pair (.int .i64) (.int .i64))) (.slice (.int .i64))))) := by kernel_rfl
theorem i84 : (Try.prog.info? 84).map (·.size) = some (Ty.size (.pair (.int .i64) (.pair (.slice (.pair (.int .i64) (.int .i64))) (.int .i64)))) := by kernel_rfl
theorem il103 : (Try.prog.info? 103).map (·.size) = some 2 := by kernel_rfl
theorem il23 : (Try.prog.info? 23).map (·.size) = some 1 := by kernel_rfl
theorem il26 : (Try.prog.info? 26).map (·.size) = some 5 := by kernel_rfl
theorem il29 : (Try.prog.info? 29).map (·.size) = some 1 := by kernel_rfl
theorem il3 : (Try.prog.info? 3).map (·.size) = some 1 := by kernel_rfl
theorem il30 : (Try.prog.info? 30).map (·.size) = some 1 := by kernel_rfl
theorem il32 : (Try.prog.info? 32).map (·.size) = some 5 := by kernel_rfl
theorem il48 : (Try.prog.info? 48).map (·.size) = some 1 := by kernel_rfl
theorem il50 : (Try.prog.info? 50).map (·.size) = some 3 := by kernel_rfl
theorem il63 : (Try.prog.info? 63).map (·.size) = some 2 := by kernel_rfl
theorem il82 : (Try.prog.info? 82).map (·.size) = some 1 := by kernel_rfl
theorem il84 : (Try.prog.info? 84).map (·.size) = some 3 := by kernel_rfl
theorem j103 : (Try.prog.info? 103).map (fun i => (i.zero, i.size, i.bytes)) = some (some (.agg #[.int .i64 0, .int .i64 0]), Ty.size (.pair (.int .i64) (.int .i64)), 16) := by kernel_rfl
theorem j3 : (Try.prog.info? 3).map (fun i => (i.zero, i.size, i.bytes)) = some (some (.int .i64 0), Ty.size (.int .i64), 8) := by kernel_rfl
theorem j48 : (Try.prog.info? 48).map (fun i => (i.zero, i.size, i.bytes)) = some (some (.slice none 0 0), Ty.size (.slice (.pair (.int .i64) (.int .i64))), 24) := by kernel_rfl
theorem j50 : (Try.prog.info? 50).map (fun i => (i.zero, i.size, i.bytes)) = some (some (.agg #[.int .i64 0, .slice none 0 0, .slice none 0 0]), Ty.size (.pair (.int .i64) (.pair (.slice (.pair (.int .i64) (.int .i64))) (.slice (.int .i64)))), 56) := by kernel_rfl
theorem j63 : (Try.prog.info? 63).map (fun i => (i.zero, i.size, i.bytes)) = some (some (.agg #[.int .i64 0, .int .i64 0]), Ty.size (.pair (.int .i64) (.int .i64)), 16) := by kernel_rfl
theorem j68 : (Try.prog.info? 68).map (fun i => (i.zero, i.size, i.bytes)) = some (some (.agg #[.int .i64 0, .int .i64 0, .int .i64 0, .int .i64 0]), Ty.size (.pair (.int .i64) (.pair (.int .i64) (.pair (.int .i64) (.int .i64)))), 32) := by kernel_rfl
theorem j84 : (Try.prog.info? 84).map (fun i => (i.zero, i.size, i.bytes)) = some (some (.agg #[.int .i64 0, .slice none 0 0, .int .i64 0]), Ty.size (.pair (.int .i64) (.pair (.slice (.pair (.int .i64) (.int .i64))) (.int .i64))), 40) := by kernel_rfl
theorem nz22 : (Try.prog.info? 22).map (fun i => Nat.beq i.size 0) = some false := by kernel_rfl
theorem nz23 : (Try.prog.info? 23).map (fun i => Nat.beq i.size 0) = some false := by kernel_rfl
theorem nz24 : (Try.prog.info? 24).map (fun i => Nat.beq i.size 0) = some false := by kernel_rfl
theorem nz29 : (Try.prog.info? 29).map (fun i => Nat.beq i.size 0) = some false := by kernel_rfl
theorem nz3 : (Try.prog.info? 3).map (fun i => Nat.beq i.size 0) = some false := by kernel_rfl
theorem nz30 : (Try.prog.info? 30).map (fun i => Nat.beq i.size 0) = some false := by kernel_rfl
theorem nz48 : (Try.prog.info? 48).map (fun i => Nat.beq i.size 0) = some false := by kernel_rfl
theorem nz73 : (Try.prog.info? 73).map (fun i => Nat.beq i.size 0) = some false := by kernel_rfl
theorem nz77 : (Try.prog.info? 77).map (fun i => Nat.beq i.size 0) = some false := by kernel_rfl
theorem nz82 : (Try.prog.info? 82).map (fun i => Nat.beq i.size 0) = some false := by kernel_rfl
theorem u22 : Try.prog.underlying 22 = some (.slice 75) := by kernel_rfl
theorem u23 : Try.prog.underlying 23 = some (.slice 3) := by kernel_rfl
theorem u24 : Try.prog.underlying 24 = some (.slice 79) := by kernel_rfl
theorem u29 : Try.prog.underlying 29 = some (.slice 84) := by kernel_rfl
theorem u3 : Try.prog.underlying 3 = some (.int .i64) := by kernel_rfl
theorem u30 : Try.prog.underlying 30 = some (.slice 50) := by kernel_rfl
theorem u39 : Try.prog.underlying 39 = some (.slice 68) := by kernel_rfl
theorem u4 : Try.prog.underlying 4 = some (.bool) := by kernel_rfl
theorem u48 : Try.prog.underlying 48 = some (.slice 63) := by kernel_rfl
theorem u65 : Try.prog.underlying 65 = some (.slice 48) := by kernel_rfl
theorem u73 : Try.prog.underlying 73 = some (.slice 105) := by kernel_rfl
theorem u77 : Try.prog.underlying 77 = some (.slice 107) := by kernel_rfl
theorem u82 : Try.prog.underlying 82 = some (.slice 103) := by kernel_rfl
theorem z103 : (Try.prog.info? 103).map (·.zero) = some (some (.agg #[.int .i64 0, .int .i64 0])) := by kernel_rfl
theorem z32 : (Try.prog.info? 32).map (·.zero) = some (some (.agg #[.slice none 0 0, .slice none 0 0, .slice none 0 0, .int .i64 0, .slice none 0 0])) := by kernel_rfl
theorem z50 : (Try.prog.info? 50).map (·.zero) = some (some (.agg #[.int .i64 0, .slice none 0 0, .slice none 0 0])) := by kernel_rfl
theorem z63 : (Try.prog.info? 63).map (·.zero) = some (some (.agg #[.int .i64 0, .int .i64 0])) := by kernel_rfl
theorem z84 : (Try.prog.info? 84).map (·.zero) = some (some (.agg #[.int .i64 0, .slice none 0 0, .int .i64 0])) := by kernel_rfl
theorem fi103_0 : (fd103[0]?).map (fun f => (f.type, f.offset)) = some (3, 0) := by kernel_rfl
theorem fi103_1 : (fd103[1]?).map (fun f => (f.type, f.offset)) = some (3, 1) := by kernel_rfl
theorem fi105_0 : (fd105[0]?).map (fun f => (f.type, f.offset)) = some (3, 0) := by kernel_rfl
theorem fi105_1 : (fd105[1]?).map (fun f => (f.type, f.offset)) = some (3, 1) := by kernel_rfl
theorem fi107_0 : (fd107[0]?).map (fun f => (f.type, f.offset)) = some (3, 0) := by kernel_rfl
theorem fi107_1 : (fd107[1]?).map (fun f => (f.type, f.offset)) = some (3, 1) := by kernel_rfl
theorem fi26_0 : (fd26[0]?).map (fun f => (f.type, f.offset)) = some (22, 0) := by kernel_rfl
theorem fi26_1 : (fd26[1]?).map (fun f => (f.type, f.offset)) = some (23, 1) := by kernel_rfl
theorem fi26_2 : (fd26[2]?).map (fun f => (f.type, f.offset)) = some (23, 2) := by kernel_rfl
theorem fi26_3 : (fd26[3]?).map (fun f => (f.type, f.offset)) = some (3, 3) := by kernel_rfl
theorem fi26_4 : (fd26[4]?).map (fun f => (f.type, f.offset)) = some (24, 4) := by kernel_rfl
theorem fi32_0 : (fd32[0]?).map (fun f => (f.type, f.offset)) = some (29, 0) := by kernel_rfl
theorem fi32_1 : (fd32[1]?).map (fun f => (f.type, f.offset)) = some (23, 1) := by kernel_rfl
theorem fi32_2 : (fd32[2]?).map (fun f => (f.type, f.offset)) = some (23, 2) := by kernel_rfl
theorem fi32_3 : (fd32[3]?).map (fun f => (f.type, f.offset)) = some (3, 3) := by kernel_rfl
theorem fi32_4 : (fd32[4]?).map (fun f => (f.type, f.offset)) = some (30, 4) := by kernel_rfl
theorem fi50_0 : (fd50[0]?).map (fun f => (f.type, f.offset)) = some (3, 0) := by kernel_rfl
theorem fi50_1 : (fd50[1]?).map (fun f => (f.type, f.offset)) = some (48, 1) := by kernel_rfl
theorem fi50_2 : (fd50[2]?).map (fun f => (f.type, f.offset)) = some (23, 2) := by kernel_rfl
theorem fi63_0 : (fd63[0]?).map (fun f => (f.type, f.offset)) = some (3, 0) := by kernel_rfl
theorem fi63_1 : (fd63[1]?).map (fun f => (f.type, f.offset)) = some (3, 1) := by kernel_rfl
theorem fi68_0 : (fd68[0]?).map (fun f => (f.type, f.offset)) = some (3, 0) := by kernel_rfl
theorem fi68_1 : (fd68[1]?).map (fun f => (f.type, f.offset)) = some (3, 1) := by kernel_rfl
theorem fi68_2 : (fd68[2]?).map (fun f => (f.type, f.offset)) = some (3, 2) := by kernel_rfl
theorem fi68_3 : (fd68[3]?).map (fun f => (f.type, f.offset)) = some (3, 3) := by kernel_rfl
theorem fi75_0 : (fd75[0]?).map (fun f => (f.type, f.offset)) = some (3, 0) := by kernel_rfl
theorem fi75_1 : (fd75[1]?).map (fun f => (f.type, f.offset)) = some (73, 1) := by kernel_rfl
theorem fi75_2 : (fd75[2]?).map (fun f => (f.type, f.offset)) = some (3, 2) := by kernel_rfl
theorem fi79_0 : (fd79[0]?).map (fun f => (f.type, f.offset)) = some (3, 0) := by kernel_rfl
theorem fi79_1 : (fd79[1]?).map (fun f => (f.type, f.offset)) = some (77, 1) := by kernel_rfl
theorem fi79_2 : (fd79[2]?).map (fun f => (f.type, f.offset)) = some (23, 2) := by kernel_rfl
theorem fi84_0 : (fd84[0]?).map (fun f => (f.type, f.offset)) = some (3, 0) := by kernel_rfl
theorem fi84_1 : (fd84[1]?).map (fun f => (f.type, f.offset)) = some (82, 1) := by kernel_rfl
theorem fi84_2 : (fd84[2]?).map (fun f => (f.type, f.offset)) = some (3, 2) := by kernel_rfl
theorem c10 : Callable Try.prog 10 := ⟨Try.f10, Try.func10, by kernel_rfl, by kernel_rfl⟩
theorem c11 : Callable Try.prog 11 := ⟨Try.f11, Try.func11, by kernel_rfl, by kernel_rfl⟩
theorem c16 : Callable Try.prog 16 := ⟨Try.f16, Try.func16, by kernel_rfl, by kernel_rfl⟩
theorem c17 : Callable Try.prog 17 := ⟨Try.f17, Try.func17, by kernel_rfl, by kernel_rfl⟩
theorem c18 : Callable Try.prog 18 := ⟨Try.f18, Try.func18, by kernel_rfl, by kernel_rfl⟩
theorem c19 : Callable Try.prog 19 := ⟨Try.f19, Try.func19, by kernel_rfl, by kernel_rfl⟩
theorem c20 : Callable Try.prog 20 := ⟨Try.f20, Try.func20, by kernel_rfl, by kernel_rfl⟩
theorem c21 : Callable Try.prog 21 := ⟨Try.f21, Try.func21, by kernel_rfl, by kernel_rfl⟩
theorem c22 : Callable Try.prog 22 := ⟨Try.f22, Try.func22, by kernel_rfl, by kernel_rfl⟩
theorem c23 : Callable Try.prog 23 := ⟨Try.f23, Try.func23, by kernel_rfl, by kernel_rfl⟩
theorem c24 : Callable Try.prog 24 := ⟨Try.f24, Try.func24, by kernel_rfl, by kernel_rfl⟩
theorem c25 : Callable Try.prog 25 := ⟨Try.f25, Try.func25, by kernel_rfl, by kernel_rfl⟩
theorem c26 : Callable Try.prog 26 := ⟨Try.f26, Try.func26, by kernel_rfl, by kernel_rfl⟩
theorem c27 : Callable Try.prog 27 := ⟨Try.f27, Try.func27, by kernel_rfl, by kernel_rfl⟩
theorem c28 : Callable Try.prog 28 := ⟨Try.f28, Try.func28, by kernel_rfl, by kernel_rfl⟩
theorem c29 : Callable Try.prog 29 := ⟨Try.f29, Try.func29, by kernel_rfl, by kernel_rfl⟩
theorem c30 : Callable Try.prog 30 := ⟨Try.f30, Try.func30, by kernel_rfl, by kernel_rfl⟩
theorem c31 : Callable Try.prog 31 := ⟨Try.f31, Try.func31, by kernel_rfl, by kernel_rfl⟩
theorem c32 : Callable Try.prog 32 := ⟨Try.f32, Try.func32, by kernel_rfl, by kernel_rfl⟩
theorem c33 : Callable Try.prog 33 := ⟨Try.f33, Try.func33, by kernel_rfl, by kernel_rfl⟩
theorem c34 : Callable Try.prog 34 := ⟨Try.f34, Try.func34, by kernel_rfl, by kernel_rfl⟩
theorem c35 : Callable Try.prog 35 := ⟨Try.f35, Try.func35, by kernel_rfl, by kernel_rfl⟩
theorem c36 : Callable Try.prog 36 := ⟨Try.f36, Try.func36, by kernel_rfl, by kernel_rfl⟩
theorem c37 : Callable Try.prog 37 := ⟨Try.f37, Try.func37, by kernel_rfl, by kernel_rfl⟩
theorem c38 : Callable Try.prog 38 := ⟨Try.f38, Try.func38, by kernel_rfl, by kernel_rfl⟩
theorem c39 : Callable Try.prog 39 := ⟨Try.f39, Try.func39, by kernel_rfl, by kernel_rfl⟩
theorem c40 : Callable Try.prog 40 := ⟨Try.f40, Try.func40, by kernel_rfl, by kernel_rfl⟩
theorem c41 : Callable Try.prog 41 := ⟨Try.f41, Try.func41, by kernel_rfl, by kernel_rfl⟩
theorem c42 : Callable Try.prog 42 := ⟨Try.f42, Try.func42, by kernel_rfl, by kernel_rfl⟩
theorem c43 : Callable Try.prog 43 := ⟨Try.f43, Try.func43, by kernel_rfl, by kernel_rfl⟩
theorem c44 : Callable Try.prog 44 := ⟨Try.f44, Try.func44, by kernel_rfl, by kernel_rfl⟩
theorem c45 : Callable Try.prog 45 := ⟨Try.f45, Try.func45, by kernel_rfl, by kernel_rfl⟩
theorem c46 : Callable Try.prog 46 := ⟨Try.f46, Try.func46, by kernel_rfl, by kernel_rfl⟩
theorem c47 : Callable Try.prog 47 := ⟨Try.f47, Try.func47, by kernel_rfl, by kernel_rfl⟩
theorem c48 : Callable Try.prog 48 := ⟨Try.f48, Try.func48, by kernel_rfl, by kernel_rfl⟩
theorem c49 : Callable Try.prog 49 := ⟨Try.f49, Try.func49, by kernel_rfl, by kernel_rfl⟩
theorem c50 : Callable Try.prog 50 := ⟨Try.f50, Try.func50, by kernel_rfl, by kernel_rfl⟩
theorem c51 : Callable Try.prog 51 := ⟨Try.f51, Try.func51, by kernel_rfl, by kernel_rfl⟩
theorem c52 : Callable Try.prog 52 := ⟨Try.f52, Try.func52, by kernel_rfl, by kernel_rfl⟩
theorem c53 : Callable Try.prog 53 := ⟨Try.f53, Try.func53, by kernel_rfl, by kernel_rfl⟩
theorem c54 : Callable Try.prog 54 := ⟨Try.f54, Try.func54, by kernel_rfl, by kernel_rfl⟩
theorem c55 : Callable Try.prog 55 := ⟨Try.f55, Try.func55, by kernel_rfl, by kernel_rfl⟩
theorem c56 : Callable Try.prog 56 := ⟨Try.f56, Try.func56, by kernel_rfl, by kernel_rfl⟩
theorem c57 : Callable Try.prog 57 := ⟨Try.f57, Try.func57, by kernel_rfl, by kernel_rfl⟩
theorem c58 : Callable Try.prog 58 := ⟨Try.f58, Try.func58, by kernel_rfl, by kernel_rfl⟩
theorem c59 : Callable Try.prog 59 := ⟨Try.f59, Try.func59, by kernel_rfl, by kernel_rfl⟩
theorem c60 : Callable Try.prog 60 := ⟨Try.f60, Try.func60, by kernel_rfl, by kernel_rfl⟩
theorem c61 : Callable Try.prog 61 := ⟨Try.f61, Try.func61, by kernel_rfl, by kernel_rfl⟩
theorem c62 : Callable Try.prog 62 := ⟨Try.f62, Try.func62, by kernel_rfl, by kernel_rfl⟩
theorem c63 : Callable Try.prog 63 := ⟨Try.f63, Try.func63, by kernel_rfl, by kernel_rfl⟩
theorem c64 : Callable Try.prog 64 := ⟨Try.f64, Try.func64, by kernel_rfl, by kernel_rfl⟩
theorem c65 : Callable Try.prog 65 := ⟨Try.f65, Try.func65, by kernel_rfl, by kernel_rfl⟩
theorem c66 : Callable Try.prog 66 := ⟨Try.f66, Try.func66, by kernel_rfl, by kernel_rfl⟩
theorem c67 : Callable Try.prog 67 := ⟨Try.f67, Try.func67, by kernel_rfl, by kernel_rfl⟩
theorem c68 : Callable Try.prog 68 := ⟨Try.f68, Try.func68, by kernel_rfl, by kernel_rfl⟩
theorem c69 : Callable Try.prog 69 := ⟨Try.f69, Try.func69, by kernel_rfl, by kernel_rfl⟩
theorem c7 : Callable Try.prog 7 := ⟨Try.f7, Try.func7, by kernel_rfl, by kernel_rfl⟩
theorem c70 : Callable Try.prog 70 := ⟨Try.f70, Try.func70, by kernel_rfl, by kernel_rfl⟩
theorem c71 : Callable Try.prog 71 := ⟨Try.f71, Try.func71, by kernel_rfl, by kernel_rfl⟩
theorem c72 : Callable Try.prog 72 := ⟨Try.f72, Try.func72, by kernel_rfl, by kernel_rfl⟩
theorem c73 : Callable Try.prog 73 := ⟨Try.f73, Try.func73, by kernel_rfl, by kernel_rfl⟩
theorem c74 : Callable Try.prog 74 := ⟨Try.f74, Try.func74, by kernel_rfl, by kernel_rfl⟩
theorem c75 : Callable Try.prog 75 := ⟨Try.f75, Try.func75, by kernel_rfl, by kernel_rfl⟩
theorem c76 : Callable Try.prog 76 := ⟨Try.f76, Try.func76, by kernel_rfl, by kernel_rfl⟩
theorem c77 : Callable Try.prog 77 := ⟨Try.f77, Try.func77, by kernel_rfl, by kernel_rfl⟩
theorem c78 : Callable Try.prog 78 := ⟨Try.f78, Try.func78, by kernel_rfl, by kernel_rfl⟩
theorem c79 : Callable Try.prog 79 := ⟨Try.f79, Try.func79, by kernel_rfl, by kernel_rfl⟩
theorem c8 : Callable Try.prog 8 := ⟨Try.f8, Try.func8, by kernel_rfl, by kernel_rfl⟩
theorem c80 : Callable Try.prog 80 := ⟨Try.f80, Try.func80, by kernel_rfl, by kernel_rfl⟩
theorem c81 : Callable Try.prog 81 := ⟨Try.f81, Try.func81, by kernel_rfl, by kernel_rfl⟩
theorem c82 : Callable Try.prog 82 := ⟨Try.f82, Try.func82, by kernel_rfl, by kernel_rfl⟩
theorem c83 : Callable Try.prog 83 := ⟨Try.f83, Try.func83, by kernel_rfl, by kernel_rfl⟩
theorem c84 : Callable Try.prog 84 := ⟨Try.f84, Try.func84, by kernel_rfl, by kernel_rfl⟩
theorem c85 : Callable Try.prog 85 := ⟨Try.f85, Try.func85, by kernel_rfl, by kernel_rfl⟩
theorem c86 : Callable Try.prog 86 := ⟨Try.f86, Try.func86, by kernel_rfl, by kernel_rfl⟩
theorem c9 : Callable Try.prog 9 := ⟨Try.f9, Try.func9, by kernel_rfl, by kernel_rfl⟩
theorem w_laws_szPartS (w : World) (G : List Res) (vp0 : Value) (p0 : List (Int × Int)) (hp0 : Has G (.pair (.int .i64) (.int .i64)) vp0 p0) (p1 : Int) (r : Int) (h : laws_szPartSS p0 p1 = some r) (H : Ctx w G) : Calls Try.prog 68 #[vp0, .int .i64 p1] w fun e w' => e = .returned (.int .i64 r) ∧ Holds (([] : List Res).flatMap Res.own) w w' [] G := by
  have H : Holds (([] : List Res).flatMap Res.own) w w [] G := Holds.startN H
  refine calls_enter (args := [vp0, .int .i64 p1]) (n := 12) Try.func68 rfl rfl rfl ?_
  unfold laws_szPartSS at h
  refine WP_seq ?_
  refine WP_region ?_
  refine XL_q rfl (qt_assign rfl) rfl rfl ?_
  refine WL_nil_seq ?_
  refine WP_seq ?_
  refine WP_region ?_
  refine XL_q rfl (qt_move rfl) rfl rfl ?_
  refine XL_q rfl (qt_move rfl) rfl rfl ?_
  refine XL_lenH H.ctx (t := (.pair (.int .i64) (.int .i64))) (hp0) u73 rfl rfl rfl ?_
  refine XL_q rfl (qt_sub rfl rfl) rfl rfl ?_
  refine XL_q rfl (qt_assign rfl) rfl rfl ?_
  refine WL_nil_seq ?_
  refine WP_seq ?_
  refine WP_seq ?_
  refine WP_region ?_
  refine XL_q rfl (qt_move rfl) rfl rfl ?_
  refine XL_q rfl (qt_lss rfl rfl) rfl rfl ?_
  refine WL_nil_seq ?_
  refine WP_cond rfl (fun hc1 => ?_) (fun hc1 => ?_)
  · have h := if_t hc1 h
    refine WP_seq ?_
    refine WP_region ?_
    refine XL_q rfl (qt_assign rfl) rfl rfl ?_
    refine WL_nil_seq ?_
    refine WP_ret fun a ha => ?_
    obtain rfl := Option.some.inj h
    exact ret_seq (ret1 rfl ha rfl ⟨rfl, H⟩)
  · have h := if_f hc1 h
    refine WP_skip_seq ?_
    refine WP_seq ?_
    refine WP_region ?_
    refine XL_q rfl (qt_move rfl) rfl rfl ?_
    refine XL_q rfl (qt_assign rfl) rfl rfl ?_
    refine WL_nil_seq ?_
    refine WP_ret fun a ha => ?_
    obtain rfl := Option.some.inj h
    exact ret1 rfl ha rfl ⟨rfl, H⟩
theorem w_laws_szItem (w : World) (G : List Res) (p0_0 : Int) (vp0_1 : Value) (p0_1 : List (Int × Int)) (hp0_1 : Has G (.pair (.int .i64) (.int .i64)) vp0_1 p0_1) (p0_2 : Int) (p1 : Int) (r : Int) (h : laws_szItemS p0_0 p0_1 p0_2 p1 = some r) (H : Ctx w G) : Calls Try.prog 48 #[.agg #[.int .i64 p0_0, vp0_1, .int .i64 p0_2], .int .i64 p1] w fun e w' => e = .returned (.int .i64 r) ∧ Holds (([] : List Res).flatMap Res.own) w w' [] G := by
  have H : Holds (([] : List Res).flatMap Res.own) w w [] G := Holds.startN H
  refine calls_enter (args := [.agg #[.int .i64 p0_0, vp0_1, .int .i64 p0_2], .int .i64 p1]) (n := 12) Try.func48 rfl rfl rfl ?_
  unfold laws_szItemS at h
  refine WP_seq ?_
  refine WP_region ?_
  refine WL_box (cs := [.int .i64 p0_0, vp0_1, .int .i64 p0_2]) H rfl rfl rfl rfl (fun b1 w2 H3 => ?_)
  have H4 : Holds (([] : List Res).flatMap Res.own) w w2 [.bx b1 75 [.int .i64 p0_0, vp0_1, .int .i64 p0_2]] G := H3
  refine XL_q rfl (qt_assign rfl) rfl rfl ?_
  refine WL_nil_seq ?_
  refine WP_seq ?_
  refine WP_still ?_
  refine XL_q rfl (qt_fieldAddr uf75 fi75_1 nz73 rfl) rfl rfl ?_
  have hB5 : Bx w2 b1 75 [.int .i64 p0_0, vp0_1, .int .i64 p0_2] := Holds.bx (H4.pull 0)
  refine XL_load_bx u73 rfl hB5 rfl rfl rfl rfl ?_
  refine XL_q rfl (qt_move rfl) rfl rfl ?_
  obtain ⟨x6, hx7, h⟩ := bind_some h
  refine QL_call rfl rfl c68 (fun w' hb => (w_laws_szPartS w' ([.bx b1 75 [.int .i64 p0_0, vp0_1, .int .i64 p0_2]] ++ G) vp0_1 p0_1 (hp0_1.c) p1 x6 hx7 (H4.grow hb).ctx).mono fun e w'' hK => ⟨hK.1, hK.2.bel⟩) (by rfl) ?_
  refine XL_q rfl (qt_assign rfl) rfl rfl ?_
  refine QL_nil fun a ha w8 hb9 => ?_
  have H10 : Holds (([] : List Res).flatMap Res.own) w w8 [.bx b1 75 [.int .i64 p0_0, vp0_1, .int .i64 p0_2]] G := H4.grow hb9
  refine nrm_seq (WP.app ?_ ha)
  refine WP_seq ?_
  refine WP_seq ?_
  refine WP_region ?_
  refine XL_q rfl (qt_move rfl) rfl rfl ?_
  refine XL_q rfl (qt_lss rfl rfl) rfl rfl ?_
  refine WL_nil_seq ?_
  refine WP_cond rfl (fun hc11 => ?_) (fun hc11 => ?_)
  · have h := if_t hc11 h
    refine WP_seq ?_
    refine WP_region ?_
    refine XL_q rfl (qt_assign rfl) rfl rfl ?_
    refine WL_nil_seq ?_
    refine WP_ret fun a ha => ?_
    obtain rfl := Option.some.inj h
    have H12 : Holds (([] : List Res).flatMap Res.own) w w8 [] G := (H10.cut 0)
    exact ret_seq (ret1 rfl ha rfl ⟨rfl, H12⟩)
  · have h := if_f hc11 h
    refine WP_skip_seq ?_
    refine WP_seq ?_
    refine WP_region ?_
    refine XL_q rfl (qt_move rfl) rfl rfl ?_
    refine XL_q rfl (qt_assign rfl) rfl rfl ?_
    refine WL_nil_seq ?_
    refine WP_ret fun a ha => ?_
    obtain rfl := Option.some.inj h
    have H13 : Holds (([] : List Res).flatMap Res.own) w w8 [] G := (H10.cut 0)
    exact ret1 rfl ha rfl ⟨rfl, H13⟩
theorem w_laws_szItemS (w : World) (G : List Res) (vp0 : Value) (p0 : List (Int × (List (Int × Int)) × Int)) (hp0 : Has G (.pair (.int .i64) (.pair (.slice (.pair (.int .i64) (.int .i64))) (.int .i64))) vp0 p0) (p1 : Int) (r : Int) (h : laws_szItemSS p0 p1 = some r) (H : Ctx w G) : Calls Try.prog 22 #[vp0, .int .i64 p1] w fun e w' => e = .returned (.int .i64 r) ∧ Holds (([] : List Res).flatMap Res.own) w w' [] G := by
  have H : Holds (([] : List Res).flatMap Res.own) w w [] G := Holds.startN H
  refine calls_enter (args := [vp0, .int .i64 p1]) (n := 27) Try.func22 rfl rfl rfl ?_
  unfold laws_szItemSS at h
  refine WP_seq ?_
  refine WP_region ?_
  refine XL_q rfl (qt_assign rfl) rfl rfl ?_
  refine WL_nil_seq ?_
  refine WP_seq ?_
  refine WP_region ?_
  refine XL_q rfl (qt_move rfl) rfl rfl ?_
  refine XL_q rfl (qt_move rfl) rfl rfl ?_
  refine XL_lenH H.ctx (t := (.pair (.int .i64) (.pair (.slice (.pair (.int .i64) (.int .i64))) (.int .i64)))) (hp0) u22 rfl rfl rfl ?_
  refine XL_q rfl (qt_sub rfl rfl) rfl rfl ?_
  refine XL_q rfl (qt_assign rfl) rfl rfl ?_
  refine WL_nil_seq ?_
  refine WP_seq ?_
  refine WP_seq ?_
  refine WP_region ?_
  refine XL_q rfl (qt_move rfl) rfl rfl ?_
  refine XL_q rfl (qt_lss rfl rfl) rfl rfl ?_
  refine WL_nil_seq ?_
  refine WP_cond rfl (fun hc1 => ?_) (fun hc1 => ?_)
  · have h := if_t hc1 h
    refine WP_seq ?_
    refine WP_region ?_
    refine XL_q rfl (qt_assign rfl) rfl rfl ?_
    refine WL_nil_seq ?_
    refine WP_ret fun a ha => ?_
    obtain rfl := Option.some.inj h
    exact ret_seq (ret1 rfl ha rfl ⟨rfl, H⟩)
  · have h := if_f hc1 h
    refine WP_skip_seq ?_
    refine WP_seq ?_
    refine WP_seq ?_
    refine WP_region ?_
    refine XL_q rfl (qt_assign rfl) rfl rfl ?_
    refine WL_nil_seq ?_
    refine WP_block ?_
    obtain ⟨o4, ho5, h⟩ := bind_some h
    refine fun a6 ha7 => wp_loop_fix (I := fun s a w2 => match s with | (s2, s3) => (Fr a 27 [(0, vp0), (1, .int .i64 s2), (5, .int .i64 s3)] ∧ Holds (([] : List Res).flatMap Res.own) w w2 [] G)) (O := fun o e a w2 => match o with | .inl q0 => e = .exit 0 ∧ (Fr a 27 [(1, .int .i64 q0)] ∧ Holds (([] : List Res).flatMap Res.own) w w2 [] G) | .inr q0 => e = .ret ∧ (Fr a 27 [(4, .int .i64 q0)] ∧ Holds (([] : List Res).flatMap Res.own) w w2 [] G)) ho5 ?_ ?_ ?_
    · exact ⟨ha7.sub ⟨rfl, rfl, rfl, trivial⟩, H⟩
    · clear ha7
      intro s o10 a w8 hs9 hI11
      obtain ⟨s2, s3⟩ := s
      obtain ⟨ha, H12⟩ := hI11
      refine WP.app ?_ ha
      clear ha
      refine WP_seq ?_
      refine WP_seq ?_
      refine WP_region ?_
      refine XL_q rfl (qt_move rfl) rfl rfl ?_
      refine XL_q rfl (qt_move rfl) rfl rfl ?_
      refine XL_lenH H12.ctx (t := (.pair (.int .i64) (.pair (.slice (.pair (.int .i64) (.int .i64))) (.int .i64)))) (hp0) u22 rfl rfl rfl ?_
      refine XL_q rfl (qt_lss rfl rfl) rfl rfl ?_
      refine WL_nil_seq ?_
      refine WP_cond rfl (fun hc13 => ?_) (fun hc13 => ?_)
      · have hs9 := if_t hc13 hs9
        refine WP_skip_seq ?_
        refine WP_seq ?_
        refine WP_block ?_
        refine WP_seq ?_
        refine WP_still ?_
        refine XL_q rfl (qt_move rfl) rfl rfl ?_
        refine XL_q rfl (qt_move rfl) rfl rfl ?_
        obtain ⟨x14, hx15, hs9⟩ := bind_some hs9
        refine XL_indexH H12.ctx (hp0) hx15 u22 i75 rfl rfl rfl rfl (fun b16 off17 cap18 hv19 => ?_)
        obtain ⟨F20, hat21, hdup22⟩ := H12.atN (hp0) hx15 hv19
        refine XL_load_agg (t := (.pair (.int .i64) (.pair (.slice (.pair (.int .i64) (.int .i64))) (.int .i64)))) us75 uo75 i75 hat21 rfl rfl rfl (fun cs23 hr24 => ?_)
        obtain ⟨c25, c26, F27, F28, rfl, eF31, hr29, hr30⟩ := hr24
        obtain ⟨rfl, _⟩ := hr29
        obtain ⟨c32, c33, F34, F35, rfl, eF38, hr36, hr37⟩ := hr30
        obtain ⟨v39, rfl, hr40⟩ := Rep.sl_inv hr36
        obtain ⟨rfl, _⟩ := hr37
        have H41 : Holds (([] : List Res).flatMap Res.own) w w8 [.ro (.pair (.int .i64) (.int .i64)) v39 x14.2.1] G := hdup22 [.ro (.pair (.int .i64) (.int .i64)) v39 x14.2.1] ⟨⟨_, _, _, _, rfl, hr40, (fun k h => (fun k h => (fun _ h => h) k (by rw [eF31]; exact List.mem_append_right _ h)) k (by rw [eF38]; exact List.mem_append_left _ h))⟩, trivial⟩
        change XL _ _ _ _ _ ((21, .agg #[.int .i64 x14.1, v39, .int .i64 x14.2.2]) :: _) _
        refine XL_q rfl (qt_move rfl) rfl rfl ?_
        obtain ⟨x42, hx43, hs9⟩ := bind_some hs9
        refine QL_call rfl rfl c48 (fun w' hb => (w_laws_szItem w' ([.ro (.pair (.int .i64) (.int .i64)) v39 x14.2.1] ++ G) x14.1 v39 x14.2.1 (HasRo.has (HasRo.hd)) x14.2.2 s2 x42 hx43 (H41.grow hb).ctx).mono fun e w'' hK => ⟨hK.1, hK.2.bel⟩) (by rfl) ?_
        refine XL_q rfl (qt_assign rfl) rfl rfl ?_
        refine QL_nil fun a ha w44 hb45 => ?_
        have H46 : Holds (([] : List Res).flatMap Res.own) w w44 [.ro (.pair (.int .i64) (.int .i64)) v39 x14.2.1] G := H41.grow hb45
        refine nrm_seq (WP.app ?_ ha)
        refine WP_seq ?_
        refine WP_region ?_
        refine XL_q rfl (qt_move rfl) rfl rfl ?_
        refine XL_q rfl (qt_lss rfl rfl) rfl rfl ?_
        refine WL_nil_seq ?_
        refine WP_cond rfl (fun hc47 => ?_) (fun hc47 => ?_)
        · have hs9 := if_t hc47 hs9
          refine WP_seq ?_
          refine WP_region ?_
          refine XL_q rfl (qt_assign rfl) rfl rfl ?_
          refine WL_nil_seq ?_
          refine WP_ret fun a ha => ?_
          obtain rfl := Option.some.inj hs9
          have H48 : Holds (([] : List Res).flatMap Res.own) w w44 [] G := (H46.cut 0)
          exact ret_block (ret_seq (⟨ret_ne, rfl, ha.sub ⟨rfl, trivial⟩, H48⟩))
        · have hs9 := if_f hc47 hs9
          refine WP_skip fun a ha => ?_
          refine nrm_block (nrm_seq (WP.app ?_ ha))
          refine WP_region ?_
          refine XL_q rfl (qt_move rfl) rfl rfl ?_
          refine XL_q rfl (qt_add rfl rfl) rfl rfl ?_
          refine XL_q rfl (qt_assign rfl) rfl rfl ?_
          refine WL_nil fun a ha => ?_
          obtain rfl := Option.some.inj hs9
          have H49 : Holds (([] : List Res).flatMap Res.own) w w44 [] G := (H46.cut 0)
          exact ⟨rfl, ha.sub ⟨rfl, rfl, rfl, trivial⟩, H49⟩
      · have hs9 := if_f hc13 hs9
        refine WP_exit fun a ha => ?_
        obtain rfl := Option.some.inj hs9
        exact exit_seq (⟨exit_ne, rfl, ha.sub ⟨rfl, trivial⟩, H12⟩)
    · intro e a6 w50 hO51
      rcases o4 with o4 | o4
      · skip
        obtain ⟨p52, rfl⟩ : ∃ z, z = o4 := ⟨o4, rfl⟩
        obtain ⟨rfl, hO54⟩ := hO51
        obtain ⟨ha, H53⟩ := hO54
        refine exit_block_eq (nrm_seq (WP.app ?_ ha))
        refine WP_seq ?_
        refine WP_region ?_
        refine XL_q rfl (qt_move rfl) rfl rfl ?_
        refine XL_q rfl (qt_assign rfl) rfl rfl ?_
        refine WL_nil_seq ?_
        refine WP_ret fun a ha => ?_
        obtain rfl := Option.some.inj h
        exact ret1 rfl ha rfl ⟨rfl, H53⟩
      · skip
        obtain ⟨p55, rfl⟩ : ∃ z, z = o4 := ⟨o4, rfl⟩
        obtain ⟨rfl, hO57⟩ := hO51
        obtain ⟨ha, H56⟩ := hO57
        obtain rfl := Option.some.inj h
        exact ret_block (ret_seq (ret1 rfl ha rfl ⟨rfl, H56⟩))
theorem w_laws_szIntS (w : World) (G : List Res) (vp0 : Value) (p0 : List Int) (hp0 : Has G (.int .i64) vp0 p0) (p1 : Int) (r : Int) (h : laws_szIntSS p0 p1 = some r) (H : Ctx w G) : Calls Try.prog 23 #[vp0, .int .i64 p1] w fun e w' => e = .returned (.int .i64 r) ∧ Holds (([] : List Res).flatMap Res.own) w w' [] G := by
  have H : Holds (([] : List Res).flatMap Res.own) w w [] G := Holds.startN H
  refine calls_enter (args := [vp0, .int .i64 p1]) (n := 12) Try.func23 rfl rfl rfl ?_
  unfold laws_szIntSS at h
  refine WP_seq ?_
  refine WP_region ?_
  refine XL_q rfl (qt_assign rfl) rfl rfl ?_
  refine WL_nil_seq ?_
  refine WP_seq ?_
  refine WP_region ?_
  refine XL_q rfl (qt_move rfl) rfl rfl ?_
  refine XL_q rfl (qt_move rfl) rfl rfl ?_
  refine XL_lenH H.ctx (t := (.int .i64)) (hp0) u23 rfl rfl rfl ?_
  refine XL_q rfl (qt_sub rfl rfl) rfl rfl ?_
  refine XL_q rfl (qt_assign rfl) rfl rfl ?_
  refine WL_nil_seq ?_
  refine WP_seq ?_
  refine WP_seq ?_
  refine WP_region ?_
  refine XL_q rfl (qt_move rfl) rfl rfl ?_
  refine XL_q rfl (qt_lss rfl rfl) rfl rfl ?_
  refine WL_nil_seq ?_
  refine WP_cond rfl (fun hc1 => ?_) (fun hc1 => ?_)
  · have h := if_t hc1 h
    refine WP_seq ?_
    refine WP_region ?_
    refine XL_q rfl (qt_assign rfl) rfl rfl ?_
    refine WL_nil_seq ?_
    refine WP_ret fun a ha => ?_
    obtain rfl := Option.some.inj h
    exact ret_seq (ret1 rfl ha rfl ⟨rfl, H⟩)
  · have h := if_f hc1 h
    refine WP_skip_seq ?_
    refine WP_seq ?_
    refine WP_region ?_
    refine XL_q rfl (qt_move rfl) rfl rfl ?_
    refine XL_q rfl (qt_assign rfl) rfl rfl ?_
    refine WL_nil_seq ?_
    refine WP_ret fun a ha => ?_
    obtain rfl := Option.some.inj h
    exact ret1 rfl ha rfl ⟨rfl, H⟩
theorem w_laws_szOrderS (w : World) (G : List Res) (vp0 : Value) (p0 : List (Int × Int)) (hp0 : Has G (.pair (.int .i64) (.int .i64)) vp0 p0) (p1 : Int) (r : Int) (h : laws_szOrderSS p0 p1 = some r) (H : Ctx w G) : Calls Try.prog 69 #[vp0, .int .i64 p1] w fun e w' => e = .returned (.int .i64 r) ∧ Holds (([] : List Res).flatMap Res.own) w w' [] G := by
  have H : Holds (([] : List Res).flatMap Res.own) w w [] G := Holds.startN H
  refine calls_enter (args := [vp0, .int .i64 p1]) (n := 12) Try.func69 rfl rfl rfl ?_
  unfold laws_szOrderSS at h
  refine WP_seq ?_
  refine WP_region ?_
  refine XL_q rfl (qt_assign rfl) rfl rfl ?_
  refine WL_nil_seq ?_
  refine WP_seq ?_
  refine WP_region ?_
  refine XL_q rfl (qt_move rfl) rfl rfl ?_
  refine XL_q rfl (qt_move rfl) rfl rfl ?_
  refine XL_lenH H.ctx (t := (.pair (.int .i64) (.int .i64))) (hp0) u77 rfl rfl rfl ?_
  refine XL_q rfl (qt_sub rfl rfl) rfl rfl ?_
  refine XL_q rfl (qt_assign rfl) rfl rfl ?_
  refine WL_nil_seq ?_
  refine WP_seq ?_
  refine WP_seq ?_
  refine WP_region ?_
  refine XL_q rfl (qt_move rfl) rfl rfl ?_
  refine XL_q rfl (qt_lss rfl rfl) rfl rfl ?_
  refine WL_nil_seq ?_
  refine WP_cond rfl (fun hc1 => ?_) (fun hc1 => ?_)
  · have h := if_t hc1 h
    refine WP_seq ?_
    refine WP_region ?_
    refine XL_q rfl (qt_assign rfl) rfl rfl ?_
    refine WL_nil_seq ?_
    refine WP_ret fun a ha => ?_
    obtain rfl := Option.some.inj h
    exact ret_seq (ret1 rfl ha rfl ⟨rfl, H⟩)
  · have h := if_f hc1 h
    refine WP_skip_seq ?_
    refine WP_seq ?_
    refine WP_region ?_
    refine XL_q rfl (qt_move rfl) rfl rfl ?_
    refine XL_q rfl (qt_assign rfl) rfl rfl ?_
    refine WL_nil_seq ?_
    refine WP_ret fun a ha => ?_
    obtain rfl := Option.some.inj h
    exact ret1 rfl ha rfl ⟨rfl, H⟩
theorem w_laws_szTable (w : World) (G : List Res) (p0_0 : Int) (vp0_1 : Value) (p0_1 : List (Int × Int)) (hp0_1 : Has G (.pair (.int .i64) (.int .i64)) vp0_1 p0_1) (vp0_2 : Value) (p0_2 : List Int) (hp0_2 : Has G (.int .i64) vp0_2 p0_2) (p1 : Int) (r : Int) (h : laws_szTableS p0_0 p0_1 p0_2 p1 = some r) (H : Ctx w G) : Calls Try.prog 49 #[.agg #[.int .i64 p0_0, vp0_1, vp0_2], .int .i64 p1] w fun e w' => e = .returned (.int .i64 r) ∧ Holds (([] : List Res).flatMap Res.own) w w' [] G := by
  have H : Holds (([] : List Res).flatMap Res.own) w w [] G := Holds.startN H
  refine calls_enter (args := [.agg #[.int .i64 p0_0, vp0_1, vp0_2], .int .i64 p1]) (n := 18) Try.func49 rfl rfl rfl ?_
  unfold laws_szTableS at h
  refine WP_seq ?_
  refine WP_region ?_
  refine WL_box (cs := [.int .i64 p0_0, vp0_1, vp0_2]) H rfl rfl rfl rfl (fun b1 w2 H3 => ?_)
  have H4 : Holds (([] : List Res).flatMap Res.own) w w2 [.bx b1 79 [.int .i64 p0_0, vp0_1, vp0_2]] G := H3
  refine XL_q rfl (qt_assign rfl) rfl rfl ?_
  refine WL_nil_seq ?_
  refine WP_seq ?_
  refine WP_still ?_
  refine XL_q rfl (qt_fieldAddr uf79 fi79_1 nz77 rfl) rfl rfl ?_
  have hB5 : Bx w2 b1 79 [.int .i64 p0_0, vp0_1, vp0_2] := Holds.bx (H4.pull 0)
  refine XL_load_bx u77 rfl hB5 rfl rfl rfl rfl ?_
  refine XL_q rfl (qt_move rfl) rfl rfl ?_
  obtain ⟨x6, hx7, h⟩ := bind_some h
  refine QL_call rfl rfl c69 (fun w' hb => (w_laws_szOrderS w' ([.bx b1 79 [.int .i64 p0_0, vp0_1, vp0_2]] ++ G) vp0_1 p0_1 (hp0_1.c) p1 x6 hx7 (H4.grow hb).ctx).mono fun e w'' hK => ⟨hK.1, hK.2.bel⟩) (by rfl) ?_
  refine XL_q rfl (qt_assign rfl) rfl rfl ?_
  refine QL_nil fun a ha w8 hb9 => ?_
  have H10 : Holds (([] : List Res).flatMap Res.own) w w8 [.bx b1 79 [.int .i64 p0_0, vp0_1, vp0_2]] G := H4.grow hb9
  refine nrm_seq (WP.app ?_ ha)
  refine WP_seq ?_
  refine WP_seq ?_
  refine WP_region ?_
  refine XL_q rfl (qt_move rfl) rfl rfl ?_
  refine XL_q rfl (qt_lss rfl rfl) rfl rfl ?_
  refine WL_nil_seq ?_
  refine WP_cond rfl (fun hc11 => ?_) (fun hc11 => ?_)
  · have h := if_t hc11 h
    refine WP_seq ?_
    refine WP_region ?_
    refine XL_q rfl (qt_assign rfl) rfl rfl ?_
    refine WL_nil_seq ?_
    refine WP_ret fun a ha => ?_
    obtain rfl := Option.some.inj h
    have H12 : Holds (([] : List Res).flatMap Res.own) w w8 [] G := (H10.cut 0)
    exact ret_seq (ret1 rfl ha rfl ⟨rfl, H12⟩)
  · have h := if_f hc11 h
    refine WP_skip_seq ?_
    refine WP_seq ?_
    refine WP_still ?_
    refine XL_q rfl (qt_fieldAddr uf79 fi79_2 nz23 rfl) rfl rfl ?_
    have hB13 : Bx w8 b1 79 [.int .i64 p0_0, vp0_1, vp0_2] := Holds.bx (H10.pull 0)
    refine XL_load_bx u23 rfl hB13 rfl rfl rfl rfl ?_
    refine XL_q rfl (qt_move rfl) rfl rfl ?_
    obtain ⟨x14, hx15, h⟩ := bind_some h
    refine QL_call rfl rfl c23 (fun w' hb => (w_laws_szIntS w' ([.bx b1 79 [.int .i64 p0_0, vp0_1, vp0_2]] ++ G) vp0_2 p0_2 (hp0_2.c) x6 x14 hx15 (H10.grow hb).ctx).mono fun e w'' hK => ⟨hK.1, hK.2.bel⟩) (by rfl) ?_
    refine XL_q rfl (qt_assign rfl) rfl rfl ?_
    refine QL_nil fun a ha w16 hb17 => ?_
    have H18 : Holds (([] : List Res).flatMap Res.own) w w16 [.bx b1 79 [.int .i64 p0_0, vp0_1, vp0_2]] G := H10.grow hb17
    refine nrm_seq (WP.app ?_ ha)
    refine WP_seq ?_
    refine WP_seq ?_
    refine WP_region ?_
    refine XL_q rfl (qt_move rfl) rfl rfl ?_
    refine XL_q rfl (qt_lss rfl rfl) rfl rfl ?_
    refine WL_nil_seq ?_
    refine WP_cond rfl (fun hc19 => ?_) (fun hc19 => ?_)
    · have h := if_t hc19 h
      refine WP_seq ?_
      refine WP_region ?_
      refine XL_q rfl (qt_assign rfl) rfl rfl ?_
      refine WL_nil_seq ?_
      refine WP_ret fun a ha => ?_
      obtain rfl := Option.some.inj h
      have H20 : Holds (([] : List Res).flatMap Res.own) w w16 [] G := (H18.cut 0)
      exact ret_seq (ret1 rfl ha rfl ⟨rfl, H20⟩)
    · have h := if_f hc19 h
      refine WP_skip_seq ?_
      refine WP_seq ?_
      refine WP_region ?_
      refine XL_q rfl (qt_move rfl) rfl rfl ?_
      refine XL_q rfl (qt_assign rfl) rfl rfl ?_
      refine WL_nil_seq ?_
      refine WP_ret fun a ha => ?_
      obtain rfl := Option.some.inj h
      have H21 : Holds (([] : List Res).flatMap Res.own) w w16 [] G := (H18.cut 0)
      exact ret1 rfl ha rfl ⟨rfl, H21⟩
theorem w_laws_szTableS (w : World) (G : List Res) (vp0 : Value) (p0 : List (Int × (List (Int × Int)) × (List Int))) (hp0 : Has G (.pair (.int .i64) (.pair (.slice (.pair (.int .i64) (.int .i64))) (.slice (.int .i64)))) vp0 p0) (p1 : Int) (r : Int) (h : laws_szTableSS p0 p1 = some r) (H : Ctx w G) : Calls Try.prog 24 #[vp0, .int .i64 p1] w fun e w' => e = .returned (.int .i64 r) ∧ Holds (([] : List Res).flatMap Res.own) w w' [] G := by
  have H : Holds (([] : List Res).flatMap Res.own) w w [] G := Holds.startN H
  refine calls_enter (args := [vp0, .int .i64 p1]) (n := 27) Try.func24 rfl rfl rfl ?_
  unfold laws_szTableSS at h
  refine WP_seq ?_
  refine WP_region ?_
  refine XL_q rfl (qt_assign rfl) rfl rfl ?_
  refine WL_nil_seq ?_
  refine WP_seq ?_
  refine WP_region ?_
  refine XL_q rfl (qt_move rfl) rfl rfl ?_
  refine XL_q rfl (qt_move rfl) rfl rfl ?_
  refine XL_lenH H.ctx (t := (.pair (.int .i64) (.pair (.slice (.pair (.int .i64) (.int .i64))) (.slice (.int .i64))))) (hp0) u24 rfl rfl rfl ?_
  refine XL_q rfl (qt_sub rfl rfl) rfl rfl ?_
  refine XL_q rfl (qt_assign rfl) rfl rfl ?_
  refine WL_nil_seq ?_
  refine WP_seq ?_
  refine WP_seq ?_
  refine WP_region ?_
  refine XL_q rfl (qt_move rfl) rfl rfl ?_
  refine XL_q rfl (qt_lss rfl rfl) rfl rfl ?_
  refine WL_nil_seq ?_
  refine WP_cond rfl (fun hc1 => ?_) (fun hc1 => ?_)
  · have h := if_t hc1 h
    refine WP_seq ?_
    refine WP_region ?_
    refine XL_q rfl (qt_assign rfl) rfl rfl ?_
    refine WL_nil_seq ?_
    refine WP_ret fun a ha => ?_
    obtain rfl := Option.some.inj h
    exact ret_seq (ret1 rfl ha rfl ⟨rfl, H⟩)
  · have h := if_f hc1 h
    refine WP_skip_seq ?_
    refine WP_seq ?_
    refine WP_seq ?_
    refine WP_region ?_
    refine XL_q rfl (qt_assign rfl) rfl rfl ?_
    refine WL_nil_seq ?_
    refine WP_block ?_
    obtain ⟨o4, ho5, h⟩ := bind_some h
    refine fun a6 ha7 => wp_loop_fix (I := fun s a w2 => match s with | (s2, s3) => (Fr a 27 [(0, vp0), (1, .int .i64 s2), (5, .int .i64 s3)] ∧ Holds (([] : List Res).flatMap Res.own) w w2 [] G)) (O := fun o e a w2 => match o with | .inl q0 => e = .exit 0 ∧ (Fr a 27 [(1, .int .i64 q0)] ∧ Holds (([] : List Res).flatMap Res.own) w w2 [] G) | .inr q0 => e = .ret ∧ (Fr a 27 [(4, .int .i64 q0)] ∧ Holds (([] : List Res).flatMap Res.own) w w2 [] G)) ho5 ?_ ?_ ?_
    · exact ⟨ha7.sub ⟨rfl, rfl, rfl, trivial⟩, H⟩
    · clear ha7
      intro s o10 a w8 hs9 hI11
      obtain ⟨s2, s3⟩ := s
      obtain ⟨ha, H12⟩ := hI11
      refine WP.app ?_ ha
      clear ha
      refine WP_seq ?_
      refine WP_seq ?_
      refine WP_region ?_
      refine XL_q rfl (qt_move rfl) rfl rfl ?_
      refine XL_q rfl (qt_move rfl) rfl rfl ?_
      refine XL_lenH H12.ctx (t := (.pair (.int .i64) (.pair (.slice (.pair (.int .i64) (.int .i64))) (.slice (.int .i64))))) (hp0) u24 rfl rfl rfl ?_
      refine XL_q rfl (qt_lss rfl rfl) rfl rfl ?_
      refine WL_nil_seq ?_
      refine WP_cond rfl (fun hc13 => ?_) (fun hc13 => ?_)
      · have hs9 := if_t hc13 hs9
        refine WP_skip_seq ?_
        refine WP_seq ?_
        refine WP_block ?_
        refine WP_seq ?_
        refine WP_still ?_
        refine XL_q rfl (qt_move rfl) rfl rfl ?_
        refine XL_q rfl (qt_move rfl) rfl rfl ?_
        obtain ⟨x14, hx15, hs9⟩ := bind_some hs9
        refine XL_indexH H12.ctx (hp0) hx15 u24 i79 rfl rfl rfl rfl (fun b16 off17 cap18 hv19 => ?_)
        obtain ⟨F20, hat21, hdup22⟩ := H12.atN (hp0) hx15 hv19
        refine XL_load_agg (t := (.pair (.int .i64) (.pair (.slice (.pair (.int .i64) (.int .i64))) (.slice (.int .i64))))) us79 uo79 i79 hat21 rfl rfl rfl (fun cs23 hr24 => ?_)
        obtain ⟨c25, c26, F27, F28, rfl, eF31, hr29, hr30⟩ := hr24
        obtain ⟨rfl, _⟩ := hr29
        obtain ⟨c32, c33, F34, F35, rfl, eF38, hr36, hr37⟩ := hr30
        obtain ⟨v39, rfl, hr40⟩ := Rep.sl_inv hr36
        obtain ⟨v41, rfl, hr42⟩ := Rep.sl_inv hr37
        have H43 : Holds (([] : List Res).flatMap Res.own) w w8 [.ro (.pair (.int .i64) (.int .i64)) v39 x14.2.1, .ro (.int .i64) v41 x14.2.2] G := hdup22 [.ro (.pair (.int .i64) (.int .i64)) v39 x14.2.1, .ro (.int .i64) v41 x14.2.2] ⟨⟨_, _, _, _, rfl, hr40, (fun k h => (fun k h => (fun _ h => h) k (by rw [eF31]; exact List.mem_append_right _ h)) k (by rw [eF38]; exact List.mem_append_left _ h))⟩, ⟨_, _, _, _, rfl, hr42, (fun k h => (fun k h => (fun _ h => h) k (by rw [eF31]; exact List.mem_append_right _ h)) k (by rw [eF38]; exact List.mem_append_right _ h))⟩, trivial⟩
        change XL _ _ _ _ _ ((21, .agg #[.int .i64 x14.1, v39, v41]) :: _) _
        refine XL_q rfl (qt_move rfl) rfl rfl ?_
        obtain ⟨x44, hx45, hs9⟩ := bind_some hs9
        refine QL_call rfl rfl c49 (fun w' hb => (w_laws_szTable w' ([.ro (.pair (.int .i64) (.int .i64)) v39 x14.2.1, .ro (.int .i64) v41 x14.2.2] ++ G) x14.1 v39 x14.2.1 (HasRo.has (HasRo.hd)) v41 x14.2.2 (HasRo.has (HasRo.c (HasRo.hd))) s2 x44 hx45 (H43.grow hb).ctx).mono fun e w'' hK => ⟨hK.1, hK.2.bel⟩) (by rfl) ?_
        refine XL_q rfl (qt_assign rfl) rfl rfl ?_
        refine QL_nil fun a ha w46 hb47 => ?_
        have H48 : Holds (([] : List Res).flatMap Res.own) w w46 [.ro (.pair (.int .i64) (.int .i64)) v39 x14.2.1, .ro (.int .i64) v41 x14.2.2] G := H43.grow hb47
        refine nrm_seq (WP.app ?_ ha)
        refine WP_seq ?_
        refine WP_region ?_
        refine XL_q rfl (qt_move rfl) rfl rfl ?_
        refine XL_q rfl (qt_lss rfl rfl) rfl rfl ?_
        refine WL_nil_seq ?_
        refine WP_cond rfl (fun hc49 => ?_) (fun hc49 => ?_)
        · have hs9 := if_t hc49 hs9
          refine WP_seq ?_
          refine WP_region ?_
          refine XL_q rfl (qt_assign rfl) rfl rfl ?_
          refine WL_nil_seq ?_
          refine WP_ret fun a ha => ?_
          obtain rfl := Option.some.inj hs9
          have H50 : Holds (([] : List Res).flatMap Res.own) w w46 [] G := ((H48.cut 0).cut 0)
          exact ret_block (ret_seq (⟨ret_ne, rfl, ha.sub ⟨rfl, trivial⟩, H50⟩))
        · have hs9 := if_f hc49 hs9
          refine WP_skip fun a ha => ?_
          refine nrm_block (nrm_seq (WP.app ?_ ha))
          refine WP_region ?_
          refine XL_q rfl (qt_move rfl) rfl rfl ?_
          refine XL_q rfl (qt_add rfl rfl) rfl rfl ?_
          refine XL_q rfl (qt_assign rfl) rfl rfl ?_
          refine WL_nil fun a ha => ?_
          obtain rfl := Option.some.inj hs9
          have H51 : Holds (([] : List Res).flatMap Res.own) w w46 [] G := ((H48.cut 0).cut 0)
          exact ⟨rfl, ha.sub ⟨rfl, rfl, rfl, trivial⟩, H51⟩
      · have hs9 := if_f hc13 hs9
        refine WP_exit fun a ha => ?_
        obtain rfl := Option.some.inj hs9
        exact exit_seq (⟨exit_ne, rfl, ha.sub ⟨rfl, trivial⟩, H12⟩)
    · intro e a6 w52 hO53
      rcases o4 with o4 | o4
      · skip
        obtain ⟨p54, rfl⟩ : ∃ z, z = o4 := ⟨o4, rfl⟩
        obtain ⟨rfl, hO56⟩ := hO53
        obtain ⟨ha, H55⟩ := hO56
        refine exit_block_eq (nrm_seq (WP.app ?_ ha))
        refine WP_seq ?_
        refine WP_region ?_
        refine XL_q rfl (qt_move rfl) rfl rfl ?_
        refine XL_q rfl (qt_assign rfl) rfl rfl ?_
        refine WL_nil_seq ?_
        refine WP_ret fun a ha => ?_
        obtain rfl := Option.some.inj h
        exact ret1 rfl ha rfl ⟨rfl, H55⟩
      · skip
        obtain ⟨p57, rfl⟩ : ∃ z, z = o4 := ⟨o4, rfl⟩
        obtain ⟨rfl, hO59⟩ := hO53
        obtain ⟨ha, H58⟩ := hO59
        obtain rfl := Option.some.inj h
        exact ret_block (ret_seq (ret1 rfl ha rfl ⟨rfl, H58⟩))
theorem w_laws_szHouse (w : World) (G : List Res) (vp0_0 : Value) (p0_0 : List (Int × (List (Int × Int)) × Int)) (hp0_0 : Has G (.pair (.int .i64) (.pair (.slice (.pair (.int .i64) (.int .i64))) (.int .i64))) vp0_0 p0_0) (vp0_1 : Value) (p0_1 : List Int) (hp0_1 : Has G (.int .i64) vp0_1 p0_1) (vp0_2 : Value) (p0_2 : List Int) (hp0_2 : Has G (.int .i64) vp0_2 p0_2) (p0_3 : Int) (vp0_4 : Value) (p0_4 : List (Int × (List (Int × Int)) × (List Int))) (hp0_4 : Has G (.pair (.int .i64) (.pair (.slice (.pair (.int .i64) (.int .i64))) (.slice (.int .i64)))) vp0_4 p0_4) (p1 : Int) (r : Int) (h : laws_szHouseS p0_0 p0_1 p0_2 p0_3 p0_4 p1 = some r) (H : Ctx w G) : Calls Try.prog 7 #[.agg #[vp0_0, vp0_1, vp0_2, .int .i64 p0_3, vp0_4], .int .i64 p1] w fun e w' => e = .returned (.int .i64 r) ∧ Holds (([] : List Res).flatMap Res.own) w w' [] G := by
  have H : Holds (([] : List Res).flatMap Res.own) w w [] G := Holds.startN H
  refine calls_enter (args := [.agg #[vp0_0, vp0_1, vp0_2, .int .i64 p0_3, vp0_4], .int .i64 p1]) (n := 30) Try.func7 rfl rfl rfl ?_
  unfold laws_szHouseS at h
  refine WP_seq ?_
  refine WP_region ?_
  refine WL_box (cs := [vp0_0, vp0_1, vp0_2, .int .i64 p0_3, vp0_4]) H rfl rfl rfl rfl (fun b1 w2 H3 => ?_)
  have H4 : Holds (([] : List Res).flatMap Res.own) w w2 [.bx b1 26 [vp0_0, vp0_1, vp0_2, .int .i64 p0_3, vp0_4]] G := H3
  refine XL_q rfl (qt_assign rfl) rfl rfl ?_
  refine WL_nil_seq ?_
  refine WP_seq ?_
  refine WP_still ?_
  refine XL_q rfl (qt_fieldAddr uf26 fi26_0 nz22 rfl) rfl rfl ?_
  have hB5 : Bx w2 b1 26 [vp0_0, vp0_1, vp0_2, .int .i64 p0_3, vp0_4] := Holds.bx (H4.pull 0)
  refine XL_load_bx u22 rfl hB5 rfl rfl rfl rfl ?_
  refine XL_q rfl (qt_move rfl) rfl rfl ?_
  obtain ⟨x6, hx7, h⟩ := bind_some h
  refine QL_call rfl rfl c22 (fun w' hb => (w_laws_szItemS w' ([.bx b1 26 [vp0_0, vp0_1, vp0_2, .int .i64 p0_3, vp0_4]] ++ G) vp0_0 p0_0 (hp0_0.c) p1 x6 hx7 (H4.grow hb).ctx).mono fun e w'' hK => ⟨hK.1, hK.2.bel⟩) (by rfl) ?_
  refine XL_q rfl (qt_assign rfl) rfl rfl ?_
  refine QL_nil fun a ha w8 hb9 => ?_
  have H10 : Holds (([] : List Res).flatMap Res.own) w w8 [.bx b1 26 [vp0_0, vp0_1, vp0_2, .int .i64 p0_3, vp0_4]] G := H4.grow hb9
  refine nrm_seq (WP.app ?_ ha)
  refine WP_seq ?_
  refine WP_seq ?_
  refine WP_region ?_
  refine XL_q rfl (qt_move rfl) rfl rfl ?_
  refine XL_q rfl (qt_lss rfl rfl) rfl rfl ?_
  refine WL_nil_seq ?_
  refine WP_cond rfl (fun hc11 => ?_) (fun hc11 => ?_)
  · have h := if_t hc11 h
    refine WP_seq ?_
    refine WP_region ?_
    refine XL_q rfl (qt_assign rfl) rfl rfl ?_
    refine WL_nil_seq ?_
    refine WP_ret fun a ha => ?_
    obtain rfl := Option.some.inj h
    have H12 : Holds (([] : List Res).flatMap Res.own) w w8 [] G := (H10.cut 0)
    exact ret_seq (ret1 rfl ha rfl ⟨rfl, H12⟩)
  · have h := if_f hc11 h
    refine WP_skip_seq ?_
    refine WP_seq ?_
    refine WP_still ?_
    refine XL_q rfl (qt_fieldAddr uf26 fi26_1 nz23 rfl) rfl rfl ?_
    have hB13 : Bx w8 b1 26 [vp0_0, vp0_1, vp0_2, .int .i64 p0_3, vp0_4] := Holds.bx (H10.pull 0)
    refine XL_load_bx u23 rfl hB13 rfl rfl rfl rfl ?_
    refine XL_q rfl (qt_move rfl) rfl rfl ?_
    obtain ⟨x14, hx15, h⟩ := bind_some h
    refine QL_call rfl rfl c23 (fun w' hb => (w_laws_szIntS w' ([.bx b1 26 [vp0_0, vp0_1, vp0_2, .int .i64 p0_3, vp0_4]] ++ G) vp0_1 p0_1 (hp0_1.c) x6 x14 hx15 (H10.grow hb).ctx).mono fun e w'' hK => ⟨hK.1, hK.2.bel⟩) (by rfl) ?_
    refine XL_q rfl (qt_assign rfl) rfl rfl ?_
    refine QL_nil fun a ha w16 hb17 => ?_
    have H18 : Holds (([] : List Res).flatMap Res.own) w w16 [.bx b1 26 [vp0_0, vp0_1, vp0_2, .int .i64 p0_3, vp0_4]] G := H10.grow hb17
    refine nrm_seq (WP.app ?_ ha)
    refine WP_seq ?_
    refine WP_seq ?_
    refine WP_region ?_
    refine XL_q rfl (qt_move rfl) rfl rfl ?_
    refine XL_q rfl (qt_lss rfl rfl) rfl rfl ?_
    refine WL_nil_seq ?_
    refine WP_cond rfl (fun hc19 => ?_) (fun hc19 => ?_)
    · have h := if_t hc19 h
      refine WP_seq ?_
      refine WP_region ?_
      refine XL_q rfl (qt_assign rfl) rfl rfl ?_
      refine WL_nil_seq ?_
      refine WP_ret fun a ha => ?_
      obtain rfl := Option.some.inj h
      have H20 : Holds (([] : List Res).flatMap Res.own) w w16 [] G := (H18.cut 0)
      exact ret_seq (ret1 rfl ha rfl ⟨rfl, H20⟩)
    · have h := if_f hc19 h
      refine WP_skip_seq ?_
      refine WP_seq ?_
      refine WP_still ?_
      refine XL_q rfl (qt_fieldAddr uf26 fi26_2 nz23 rfl) rfl rfl ?_
      have hB21 : Bx w16 b1 26 [vp0_0, vp0_1, vp0_2, .int .i64 p0_3, vp0_4] := Holds.bx (H18.pull 0)
      refine XL_load_bx u23 rfl hB21 rfl rfl rfl rfl ?_
      refine XL_q rfl (qt_move rfl) rfl rfl ?_
      obtain ⟨x22, hx23, h⟩ := bind_some h
      refine QL_call rfl rfl c23 (fun w' hb => (w_laws_szIntS w' ([.bx b1 26 [vp0_0, vp0_1, vp0_2, .int .i64 p0_3, vp0_4]] ++ G) vp0_2 p0_2 (hp0_2.c) x14 x22 hx23 (H18.grow hb).ctx).mono fun e w'' hK => ⟨hK.1, hK.2.bel⟩) (by rfl) ?_
      refine XL_q rfl (qt_assign rfl) rfl rfl ?_
      refine QL_nil fun a ha w24 hb25 => ?_
      have H26 : Holds (([] : List Res).flatMap Res.own) w w24 [.bx b1 26 [vp0_0, vp0_1, vp0_2, .int .i64 p0_3, vp0_4]] G := H18.grow hb25
      refine nrm_seq (WP.app ?_ ha)
      refine WP_seq ?_
      refine WP_seq ?_
      refine WP_region ?_
      refine XL_q rfl (qt_move rfl) rfl rfl ?_
      refine XL_q rfl (qt_lss rfl rfl) rfl rfl ?_
      refine WL_nil_seq ?_
      refine WP_cond rfl (fun hc27 => ?_) (fun hc27 => ?_)
      · have h := if_t hc27 h
        refine WP_seq ?_
        refine WP_region ?_
        refine XL_q rfl (qt_assign rfl) rfl rfl ?_
        refine WL_nil_seq ?_
        refine WP_ret fun a ha => ?_
        obtain rfl := Option.some.inj h
        have H28 : Holds (([] : List Res).flatMap Res.own) w w24 [] G := (H26.cut 0)
        exact ret_seq (ret1 rfl ha rfl ⟨rfl, H28⟩)
      · have h := if_f hc27 h
        refine WP_skip_seq ?_
        refine WP_seq ?_
        refine WP_still ?_
        refine XL_q rfl (qt_fieldAddr uf26 fi26_4 nz24 rfl) rfl rfl ?_
        have hB29 : Bx w24 b1 26 [vp0_0, vp0_1, vp0_2, .int .i64 p0_3, vp0_4] := Holds.bx (H26.pull 0)
        refine XL_load_bx u24 rfl hB29 rfl rfl rfl rfl ?_
        refine XL_q rfl (qt_move rfl) rfl rfl ?_
        obtain ⟨x30, hx31, h⟩ := bind_some h
        refine QL_call rfl rfl c24 (fun w' hb => (w_laws_szTableS w' ([.bx b1 26 [vp0_0, vp0_1, vp0_2, .int .i64 p0_3, vp0_4]] ++ G) vp0_4 p0_4 (hp0_4.c) x22 x30 hx31 (H26.grow hb).ctx).mono fun e w'' hK => ⟨hK.1, hK.2.bel⟩) (by rfl) ?_
        refine XL_q rfl (qt_assign rfl) rfl rfl ?_
        refine QL_nil fun a ha w32 hb33 => ?_
        have H34 : Holds (([] : List Res).flatMap Res.own) w w32 [.bx b1 26 [vp0_0, vp0_1, vp0_2, .int .i64 p0_3, vp0_4]] G := H26.grow hb33
        refine nrm_seq (WP.app ?_ ha)
        refine WP_seq ?_
        refine WP_seq ?_
        refine WP_region ?_
        refine XL_q rfl (qt_move rfl) rfl rfl ?_
        refine XL_q rfl (qt_lss rfl rfl) rfl rfl ?_
        refine WL_nil_seq ?_
        refine WP_cond rfl (fun hc35 => ?_) (fun hc35 => ?_)
        · have h := if_t hc35 h
          refine WP_seq ?_
          refine WP_region ?_
          refine XL_q rfl (qt_assign rfl) rfl rfl ?_
          refine WL_nil_seq ?_
          refine WP_ret fun a ha => ?_
          obtain rfl := Option.some.inj h
          have H36 : Holds (([] : List Res).flatMap Res.own) w w32 [] G := (H34.cut 0)
          exact ret_seq (ret1 rfl ha rfl ⟨rfl, H36⟩)
        · have h := if_f hc35 h
          refine WP_skip_seq ?_
          refine WP_seq ?_
          refine WP_region ?_
          refine XL_q rfl (qt_move rfl) rfl rfl ?_
          refine XL_q rfl (qt_assign rfl) rfl rfl ?_
          refine WL_nil_seq ?_
          refine WP_ret fun a ha => ?_
          obtain rfl := Option.some.inj h
          have H37 : Holds (([] : List Res).flatMap Res.own) w w32 [] G := (H34.cut 0)
          exact ret1 rfl ha rfl ⟨rfl, H37⟩
theorem w_laws_toPart (w : World) (G : List Res) (p0_0 : Int) (p0_1 : Int) (r : (Int × Int)) (h : laws_toPartS p0_0 p0_1 = some r) (H : Ctx w G) : Calls Try.prog 81 #[.agg #[.int .i64 p0_0, .int .i64 p0_1]] w fun e w' => e = .returned (.agg #[.int .i64 r.1, .int .i64 r.2]) ∧ Holds (([] : List Res).flatMap Res.own) w w' [] G := by
  have H : Holds (([] : List Res).flatMap Res.own) w w [] G := Holds.startN H
  refine calls_enter (args := [.agg #[.int .i64 p0_0, .int .i64 p0_1]]) (n := 11) Try.func81 rfl rfl rfl ?_
  unfold laws_toPartS at h
  refine WP_seq ?_
  refine WP_region ?_
  refine WL_box (cs := [.int .i64 p0_0, .int .i64 p0_1]) H rfl rfl rfl rfl (fun b1 w2 H3 => ?_)
  have H4 : Holds (([] : List Res).flatMap Res.own) w w2 [.bx b1 105 [.int .i64 p0_0, .int .i64 p0_1]] G := H3
  refine WL_alloc (cs := [.int .i64 0, .int .i64 0]) H4 z103 rfl rfl rfl (fun b5 w6 H7 => ?_)
  have H8 : Holds (([] : List Res).flatMap Res.own) w w6 [.bx b5 103 [.int .i64 0, .int .i64 0], .bx b1 105 [.int .i64 p0_0, .int .i64 p0_1]] G := H7
  refine WL_nil_seq ?_
  refine WP_seq ?_
  refine WP_region ?_
  refine WL_alloc (cs := [.int .i64 0, .int .i64 0]) H8 z103 rfl rfl rfl (fun b9 w10 H11 => ?_)
  have H12 : Holds (([] : List Res).flatMap Res.own) w w10 [.bx b9 103 [.int .i64 0, .int .i64 0], .bx b5 103 [.int .i64 0, .int .i64 0], .bx b1 105 [.int .i64 p0_0, .int .i64 p0_1]] G := H11
  refine WL_nil_seq ?_
  refine WP_seq ?_
  refine WP_region ?_
  refine XL_q rfl (qt_fieldAddr uf105 fi105_0 nz3 rfl) rfl rfl ?_
  have hB13 : Bx w10 b1 105 [.int .i64 p0_0, .int .i64 p0_1] := Holds.bx (H12.pull 2)
  refine XL_load_bx u3 rfl hB13 rfl rfl rfl rfl ?_
  refine XL_q rfl (qt_fieldAddr uf103 fi103_0 nz3 rfl) rfl rfl ?_
  refine WL_store_bx H12 rfl il3 rfl rfl rfl rfl rfl (fun w14 H15 => ?_)
  have H16 : Holds (([] : List Res).flatMap Res.own) w w14 [.bx b9 103 [.int .i64 p0_0, .int .i64 0], .bx b5 103 [.int .i64 0, .int .i64 0], .bx b1 105 [.int .i64 p0_0, .int .i64 p0_1]] G := H15
  refine WL_nil_seq ?_
  refine WP_seq ?_
  refine WP_region ?_
  refine XL_q rfl (qt_fieldAddr uf105 fi105_1 nz3 rfl) rfl rfl ?_
  have hB17 : Bx w14 b1 105 [.int .i64 p0_0, .int .i64 p0_1] := Holds.bx (H16.pull 2)
  refine XL_load_bx u3 rfl hB17 rfl rfl rfl rfl ?_
  refine XL_q rfl (qt_fieldAddr uf103 fi103_1 nz3 rfl) rfl rfl ?_
  refine WL_store_bx H16 rfl il3 rfl rfl rfl rfl rfl (fun w18 H19 => ?_)
  have H20 : Holds (([] : List Res).flatMap Res.own) w w18 [.bx b9 103 [.int .i64 p0_0, .int .i64 p0_1], .bx b5 103 [.int .i64 0, .int .i64 0], .bx b1 105 [.int .i64 p0_0, .int .i64 p0_1]] G := H19
  refine WL_nil_seq ?_
  refine WP_seq ?_
  refine WP_region ?_
  have hB21 : Bx w18 b9 103 [.int .i64 p0_0, .int .i64 p0_1] := Holds.bx (H20.pull 0)
  refine XL_load_bxA (cs := [.int .i64 p0_0, .int .i64 p0_1]) us103 uo103 il103 hB21 rfl rfl rfl ?_
  change XL _ _ _ _ _ ((10, .agg #[.int .i64 p0_0, .int .i64 p0_1]) :: _) _
  have H22 : Holds (([] : List Res).flatMap Res.own) w w18 [.bx b5 103 [.int .i64 0, .int .i64 0], .bx b9 103 [.int .i64 p0_0, .int .i64 p0_1], .bx b1 105 [.int .i64 p0_0, .int .i64 p0_1]] G := H20.pull 1
  refine WL_store_bxA (cs' := [.int .i64 p0_0, .int .i64 p0_1]) H22 rfl il103 rfl rfl rfl rfl rfl (fun w23 H24 => ?_)
  have H25 : Holds (([] : List Res).flatMap Res.own) w w23 [.bx b5 103 [.int .i64 p0_0, .int .i64 p0_1], .bx b9 103 [.int .i64 p0_0, .int .i64 p0_1], .bx b1 105 [.int .i64 p0_0, .int .i64 p0_1]] G := H24
  refine WL_nil_seq ?_
  refine WP_ret fun a ha => ?_
  obtain rfl := Option.some.inj h
  have hB26 : Bx w23 b5 103 [.int .i64 p0_0, .int .i64 p0_1] := Holds.bx (H25.pull 0)
  have H27 : Holds (([] : List Res).flatMap Res.own) w w23 [] G := (((H25.cut 0).cut 0).cut 0)
  exact retc rfl ha rfl (run_loadVar_bx (cs := [.int .i64 p0_0, .int .i64 p0_1]) us103 uo103 il103 hB26) ⟨rfl, H27⟩
theorem w_laws_toPartS (w : World) (G : List Res) (vp0 : Value) (p0 : List (Int × Int)) (hp0 : Has G (.pair (.int .i64) (.int .i64)) vp0 p0) (r : (List (Int × Int))) (h : laws_toPartSS p0 = some r) (H : Ctx w G) : Calls Try.prog 73 #[vp0] w fun e w' => ∃ (v1 : Value), e = .returned (v1) ∧ Holds (([] : List Res).flatMap Res.own) w w' [.sl 103 (.pair (.int .i64) (.int .i64)) v1 r] G := by
  have H : Holds (([] : List Res).flatMap Res.own) w w [] G := Holds.startN H
  refine calls_enter (args := [vp0]) (n := 23) Try.func73 rfl rfl rfl ?_
  unfold laws_toPartSS at h
  refine WP_seq ?_
  refine WP_region ?_
  refine XL_q rfl (qt_assign rfl) rfl rfl ?_
  refine WL_nil_seq ?_
  refine WP_seq ?_
  refine WP_region ?_
  refine XL_q rfl (qt_move rfl) rfl rfl ?_
  refine XL_lenH H.ctx (t := (.pair (.int .i64) (.int .i64))) (hp0) u73 rfl rfl rfl ?_
  obtain ⟨x1, hx2, h⟩ := bind_some h
  refine WL_makeH H hx2 u82 j103 rfl (fun _ => ⟨_, _, [], [], rfl, rfl, ⟨rfl, rfl⟩, ⟨rfl, rfl⟩⟩) rfl rfl rfl rfl rfl (fun v3 w4 H5 => ?_)
  have H6 : Holds (([] : List Res).flatMap Res.own) w w4 [.sl 103 (.pair (.int .i64) (.int .i64)) v3 x1] G := H5
  refine XL_q rfl (qt_assign rfl) rfl rfl ?_
  refine WL_nil_seq ?_
  refine WP_seq ?_
  refine WP_seq ?_
  refine WP_region ?_
  refine XL_q rfl (qt_assign rfl) rfl rfl ?_
  refine WL_nil_seq ?_
  refine WP_block ?_
  obtain ⟨o9, ho10, h⟩ := bind_some h
  refine fun a11 ha12 => wp_loop_fix (I := fun s a w2 => match s with | (s7, s8) => (Fr a 23 [(0, vp0), (3, v3), (4, .int .i64 s7)] ∧ Holds (([] : List Res).flatMap Res.own) w w2 [.sl 103 (.pair (.int .i64) (.int .i64)) v3 s8] G)) (O := fun o e a w2 => match o with | q0 => e = .exit 0 ∧ (Fr a 23 [(3, v3)] ∧ Holds (([] : List Res).flatMap Res.own) w w2 [.sl 103 (.pair (.int .i64) (.int .i64)) v3 q0] G)) ho10 ?_ ?_ ?_
  · exact ⟨ha12.sub ⟨rfl, rfl, rfl, trivial⟩, H6⟩
  · clear ha12
    intro s o15 a w13 hs14 hI16
    obtain ⟨s7, s8⟩ := s
    obtain ⟨ha, H17⟩ := hI16
    refine WP.app ?_ ha
    clear ha
    refine WP_seq ?_
    refine WP_seq ?_
    refine WP_region ?_
    refine XL_q rfl (qt_move rfl) rfl rfl ?_
    refine XL_q rfl (qt_move rfl) rfl rfl ?_
    refine XL_lenH H17.ctx (t := (.pair (.int .i64) (.int .i64))) (hp0.c) u73 rfl rfl rfl ?_
    refine XL_q rfl (qt_lss rfl rfl) rfl rfl ?_
    refine WL_nil_seq ?_
    refine WP_cond rfl (fun hc18 => ?_) (fun hc18 => ?_)
    · have hs14 := if_t hc18 hs14
      refine WP_skip_seq ?_
      refine WP_seq ?_
      refine WP_block ?_
      refine WP_region ?_
      refine XL_q rfl (qt_move rfl) rfl rfl ?_
      refine XL_q rfl (qt_move rfl) rfl rfl ?_
      refine XL_q rfl (qt_move rfl) rfl rfl ?_
      refine XL_q rfl (qt_move rfl) rfl rfl ?_
      obtain ⟨x19, hx20, hs14⟩ := bind_some hs14
      refine XL_indexH H17.ctx (hp0.c) hx20 u73 i105 rfl rfl rfl rfl (fun b21 off22 cap23 hv24 => ?_)
      obtain ⟨F25, hat26, hdup27⟩ := H17.atN (hp0.c) hx20 hv24
      refine XL_load_agg (t := (.pair (.int .i64) (.int .i64))) us105 uo105 i105 hat26 rfl rfl rfl (fun cs28 hr29 => ?_)
      obtain ⟨c30, c31, F32, F33, rfl, eF36, hr34, hr35⟩ := hr29
      obtain ⟨rfl, _⟩ := hr34
      obtain ⟨rfl, _⟩ := hr35
      change XL _ _ _ _ _ ((19, .agg #[.int .i64 x19.1, .int .i64 x19.2]) :: _) _
      obtain ⟨x37, hx38, hs14⟩ := bind_some hs14
      refine WL_call rfl rfl c81 (w_laws_toPart w13 ([.sl 103 (.pair (.int .i64) (.int .i64)) v3 s8] ++ G) x19.1 x19.2 x37 hx38 H17.ctx) (by rfl) ?_
      rintro _ w39 ⟨rfl, H40⟩; refine ⟨_, rfl, ?_⟩
      have H41 : Holds (([] : List Res).flatMap Res.own) w w39 [.sl 103 (.pair (.int .i64) (.int .i64)) v3 s8] G := H17.calledN (Rs := []) H40
      obtain ⟨x42, hx43, hs14⟩ := bind_some hs14
      refine XL_indexH H41.ctx (Has.hd) hx43 u82 i103 rfl rfl rfl rfl (fun b44 off45 cap46 hv47 => ?_)
      refine WL_storeH (fo := 0) (cs' := [.int .i64 x37.1, .int .i64 x37.2]) H41 hx43 hv47 (Upd.whole (Blt.pair (Blt.int) (Blt.int))) rfl il103 rfl rfl rfl rfl (fun w48 H49 => ?_)
      have H50 : Holds (([] : List Res).flatMap Res.own) w w48 [.sl 103 (.pair (.int .i64) (.int .i64)) v3 (List.set s8 (Int.toNat s7) (x37.1, x37.2))] G := H49
      refine WL_nil fun a ha => ?_
      refine nrm_block (nrm_seq (WP.app ?_ ha))
      refine WP_region ?_
      refine XL_q rfl (qt_move rfl) rfl rfl ?_
      refine XL_q rfl (qt_add rfl rfl) rfl rfl ?_
      refine XL_q rfl (qt_assign rfl) rfl rfl ?_
      refine WL_nil fun a ha => ?_
      obtain rfl := Option.some.inj hs14
      exact ⟨rfl, ha.sub ⟨rfl, rfl, rfl, trivial⟩, H50⟩
    · have hs14 := if_f hc18 hs14
      refine WP_exit fun a ha => ?_
      obtain rfl := Option.some.inj hs14
      exact exit_seq (⟨exit_ne, rfl, ha.sub ⟨rfl, trivial⟩, H17⟩)
  · intro e a11 w51 hO52
    obtain ⟨p53, rfl⟩ : ∃ z, z = o9 := ⟨o9, rfl⟩
    obtain ⟨rfl, hO55⟩ := hO52
    obtain ⟨ha, H54⟩ := hO55
    refine exit_block_eq (nrm_seq (WP.app ?_ ha))
    refine WP_seq ?_
    refine WP_region ?_
    refine XL_q rfl (qt_move rfl) rfl rfl ?_
    refine XL_q rfl (qt_assign rfl) rfl rfl ?_
    refine WL_nil_seq ?_
    refine WP_ret fun a ha => ?_
    obtain rfl := Option.some.inj h
    exact ret1 rfl ha rfl ⟨v3, rfl, H54⟩
theorem w_laws_toItem (w : World) (G : List Res) (p0_0 : Int) (vp0_1 : Value) (p0_1 : List (Int × Int)) (hp0_1 : Has G (.pair (.int .i64) (.int .i64)) vp0_1 p0_1) (p0_2 : Int) (r : (Int × (List (Int × Int)) × Int)) (h : laws_toItemS p0_0 p0_1 p0_2 = some r) (H : Ctx w G) : Calls Try.prog 54 #[.agg #[.int .i64 p0_0, vp0_1, .int .i64 p0_2]] w fun e w' => ∃ (v1 : Value), e = .returned (.agg #[.int .i64 r.1, v1, .int .i64 r.2.2]) ∧ Holds (([] : List Res).flatMap Res.own) w w' [.sl 103 (.pair (.int .i64) (.int .i64)) v1 r.2.1] G := by
  have H : Holds (([] : List Res).flatMap Res.own) w w [] G := Holds.startN H
  refine calls_enter (args := [.agg #[.int .i64 p0_0, vp0_1, .int .i64 p0_2]]) (n := 15) Try.func54 rfl rfl rfl ?_
  unfold laws_toItemS at h
  refine WP_seq ?_
  refine WP_region ?_
  refine WL_box (cs := [.int .i64 p0_0, vp0_1, .int .i64 p0_2]) H rfl rfl rfl rfl (fun b1 w2 H3 => ?_)
  have H4 : Holds (([] : List Res).flatMap Res.own) w w2 [.bx b1 75 [.int .i64 p0_0, vp0_1, .int .i64 p0_2]] G := H3
  refine WL_alloc (cs := [.int .i64 0, .slice none 0 0, .int .i64 0]) H4 z84 rfl rfl rfl (fun b5 w6 H7 => ?_)
  have H8 : Holds (([] : List Res).flatMap Res.own) w w6 [.bx b5 84 [.int .i64 0, .slice none 0 0, .int .i64 0], .bx b1 75 [.int .i64 p0_0, vp0_1, .int .i64 p0_2]] G := H7
  refine WL_nil_seq ?_
  refine WP_seq ?_
  refine WP_region ?_
  refine WL_alloc (cs := [.int .i64 0, .slice none 0 0, .int .i64 0]) H8 z84 rfl rfl rfl (fun b9 w10 H11 => ?_)
  have H12 : Holds (([] : List Res).flatMap Res.own) w w10 [.bx b9 84 [.int .i64 0, .slice none 0 0, .int .i64 0], .bx b5 84 [.int .i64 0, .slice none 0 0, .int .i64 0], .bx b1 75 [.int .i64 p0_0, vp0_1, .int .i64 p0_2]] G := H11
  refine WL_nil_seq ?_
  refine WP_seq ?_
  refine WP_region ?_
  refine XL_q rfl (qt_fieldAddr uf75 fi75_0 nz3 rfl) rfl rfl ?_
  have hB13 : Bx w10 b1 75 [.int .i64 p0_0, vp0_1, .int .i64 p0_2] := Holds.bx (H12.pull 2)
  refine XL_load_bx u3 rfl hB13 rfl rfl rfl rfl ?_
  refine XL_q rfl (qt_fieldAddr uf84 fi84_0 nz3 rfl) rfl rfl ?_
  refine WL_store_bx H12 rfl il3 rfl rfl rfl rfl rfl (fun w14 H15 => ?_)
  have H16 : Holds (([] : List Res).flatMap Res.own) w w14 [.bx b9 84 [.int .i64 p0_0, .slice none 0 0, .int .i64 0], .bx b5 84 [.int .i64 0, .slice none 0 0, .int .i64 0], .bx b1 75 [.int .i64 p0_0, vp0_1, .int .i64 p0_2]] G := H15
  refine WL_nil_seq ?_
  refine WP_seq ?_
  refine WP_region ?_
  refine XL_q rfl (qt_fieldAddr uf75 fi75_1 nz73 rfl) rfl rfl ?_
  have hB17 : Bx w14 b1 75 [.int .i64 p0_0, vp0_1, .int .i64 p0_2] := Holds.bx (H16.pull 2)
  refine XL_load_bx u73 rfl hB17 rfl rfl rfl rfl ?_
  obtain ⟨x18, hx19, h⟩ := bind_some h
  refine WL_call rfl rfl c73 (w_laws_toPartS w14 ([.bx b9 84 [.int .i64 p0_0, .slice none 0 0, .int .i64 0], .bx b5 84 [.int .i64 0, .slice none 0 0, .int .i64 0], .bx b1 75 [.int .i64 p0_0, vp0_1, .int .i64 p0_2]] ++ G) vp0_1 p0_1 (hp0_1.c.c.c) x18 hx19 H16.ctx) (by rfl) ?_
  rintro _ w20 ⟨v22, rfl, H21⟩; refine ⟨_, rfl, ?_⟩
  have H23 : Holds (([] : List Res).flatMap Res.own) w w20 [.sl 103 (.pair (.int .i64) (.int .i64)) v22 x18, .bx b9 84 [.int .i64 p0_0, .slice none 0 0, .int .i64 0], .bx b5 84 [.int .i64 0, .slice none 0 0, .int .i64 0], .bx b1 75 [.int .i64 p0_0, vp0_1, .int .i64 p0_2]] G := H16.calledN (Rs := []) H21
  refine XL_q rfl (qt_fieldAddr uf84 fi84_1 nz82 rfl) rfl rfl ?_
  have H24 : Holds (([] : List Res).flatMap Res.own) w w20 [.bx b9 84 [.int .i64 p0_0, .slice none 0 0, .int .i64 0], .sl 103 (.pair (.int .i64) (.int .i64)) v22 x18, .bx b5 84 [.int .i64 0, .slice none 0 0, .int .i64 0], .bx b1 75 [.int .i64 p0_0, vp0_1, .int .i64 p0_2]] G := H23.pull 1
  refine WL_store_bx H24 rfl il82 (H24.ctx.sliceCells (Has.c (Has.hd))) (H24.ctx.sliceOne (Has.c (Has.hd))) rfl rfl rfl (fun w25 H26 => ?_)
  have H27 : Holds (([] : List Res).flatMap Res.own) w w25 [.bx b9 84 [.int .i64 p0_0, v22, .int .i64 0], .sl 103 (.pair (.int .i64) (.int .i64)) v22 x18, .bx b5 84 [.int .i64 0, .slice none 0 0, .int .i64 0], .bx b1 75 [.int .i64 p0_0, vp0_1, .int .i64 p0_2]] G := H26
  refine WL_nil_seq ?_
  refine WP_seq ?_
  refine WP_region ?_
  refine XL_q rfl (qt_fieldAddr uf75 fi75_2 nz3 rfl) rfl rfl ?_
  have hB28 : Bx w25 b1 75 [.int .i64 p0_0, vp0_1, .int .i64 p0_2] := Holds.bx (H27.pull 3)
  refine XL_load_bx u3 rfl hB28 rfl rfl rfl rfl ?_
  refine XL_q rfl (qt_fieldAddr uf84 fi84_2 nz3 rfl) rfl rfl ?_
  refine WL_store_bx H27 rfl il3 rfl rfl rfl rfl rfl (fun w29 H30 => ?_)
  have H31 : Holds (([] : List Res).flatMap Res.own) w w29 [.bx b9 84 [.int .i64 p0_0, v22, .int .i64 p0_2], .sl 103 (.pair (.int .i64) (.int .i64)) v22 x18, .bx b5 84 [.int .i64 0, .slice none 0 0, .int .i64 0], .bx b1 75 [.int .i64 p0_0, vp0_1, .int .i64 p0_2]] G := H30
  refine WL_nil_seq ?_
  refine WP_seq ?_
  refine WP_region ?_
  have hB32 : Bx w29 b9 84 [.int .i64 p0_0, v22, .int .i64 p0_2] := Holds.bx (H31.pull 0)
  refine XL_load_bxA (cs := [.int .i64 p0_0, v22, .int .i64 p0_2]) us84 uo84 il84 hB32 rfl rfl rfl ?_
  change XL _ _ _ _ _ ((14, .agg #[.int .i64 p0_0, v22, .int .i64 p0_2]) :: _) _
  have H33 : Holds (([] : List Res).flatMap Res.own) w w29 [.bx b5 84 [.int .i64 0, .slice none 0 0, .int .i64 0], .bx b9 84 [.int .i64 p0_0, v22, .int .i64 p0_2], .sl 103 (.pair (.int .i64) (.int .i64)) v22 x18, .bx b1 75 [.int .i64 p0_0, vp0_1, .int .i64 p0_2]] G := H31.pull 2
  refine WL_store_bxA (cs' := [.int .i64 p0_0, v22, .int .i64 p0_2]) H33 rfl il84 rfl (allOne rfl (allOne (H33.ctx.sliceOne (Has.c (Has.c (Has.hd)))) (allOne rfl rfl))) rfl rfl rfl (fun w34 H35 => ?_)
  have H36 : Holds (([] : List Res).flatMap Res.own) w w34 [.bx b5 84 [.int .i64 p0_0, v22, .int .i64 p0_2], .bx b9 84 [.int .i64 p0_0, v22, .int .i64 p0_2], .sl 103 (.pair (.int .i64) (.int .i64)) v22 x18, .bx b1 75 [.int .i64 p0_0, vp0_1, .int .i64 p0_2]] G := H35
  refine WL_nil_seq ?_
  refine WP_ret fun a ha => ?_
  obtain rfl := Option.some.inj h
  have hB37 : Bx w34 b5 84 [.int .i64 p0_0, v22, .int .i64 p0_2] := Holds.bx (H36.pull 0)
  have H38 : Holds (([] : List Res).flatMap Res.own) w w34 [.sl 103 (.pair (.int .i64) (.int .i64)) v22 x18] G := (((H36.cut 0).cut 0).cut 1)
  exact retc rfl ha rfl (run_loadVar_bx (cs := [.int .i64 p0_0, v22, .int .i64 p0_2]) us84 uo84 il84 hB37) ⟨v22, rfl, H38⟩
theorem w_laws_toItemS (w : World) (G : List Res) (vp0 : Value) (p0 : List (Int × (List (Int × Int)) × Int)) (hp0 : Has G (.pair (.int .i64) (.pair (.slice (.pair (.int .i64) (.int .i64))) (.int .i64))) vp0 p0) (r : (List (Int × (List (Int × Int)) × Int))) (h : laws_toItemSS p0 = some r) (H : Ctx w G) : Calls Try.prog 31 #[vp0] w fun e w' => ∃ (v1 : Value) (csv1 : List Value) (Fv1 : List Nat), e = .returned (v1) ∧ Holds (([] : List Res).flatMap Res.own) w w' [dpR 84 (.pair (.leaf (.int .i64)) (.pair (.sl 103 (.leaf (.pair (.int .i64) (.int .i64)))) (.leaf (.int .i64)))) v1 csv1 r Fv1] G := by
  have H : Holds (([] : List Res).flatMap Res.own) w w [] G := Holds.startN H
  refine calls_enter (args := [vp0]) (n := 23) Try.func31 rfl rfl rfl ?_
  unfold laws_toItemSS at h
  refine WP_seq ?_
  refine WP_region ?_
  refine XL_q rfl (qt_assign rfl) rfl rfl ?_
  refine WL_nil_seq ?_
  refine WP_seq ?_
  refine WP_region ?_
  refine XL_q rfl (qt_move rfl) rfl rfl ?_
  refine XL_lenH H.ctx (t := (.pair (.int .i64) (.pair (.slice (.pair (.int .i64) (.int .i64))) (.int .i64)))) (hp0) u22 rfl rfl rfl ?_
  obtain ⟨x1, hx2, h⟩ := bind_some h
  refine WL_makeD (d := (.pair (.leaf (.int .i64)) (.pair (.sl 103 (.leaf (.pair (.int .i64) (.int .i64)))) (.leaf (.int .i64))))) H hx2 u29 j84 rfl (DBlt.cast (DBlt.pair (DBlt.int (k := .i64) (n := 0)) (DBlt.pair (DBlt.nil (e := 103) (d := (.leaf (.pair (.int .i64) (.int .i64))))) (DBlt.int (k := .i64) (n := 0)))) rfl rfl) rfl rfl rfl rfl rfl (fun v3 cs6 F7 w4 H5 => ?_)
  have H8 : Holds (([] : List Res).flatMap Res.own) w w4 [dpR 84 (.pair (.leaf (.int .i64)) (.pair (.sl 103 (.leaf (.pair (.int .i64) (.int .i64)))) (.leaf (.int .i64)))) v3 cs6 x1 F7] G := H5
  refine XL_q rfl (qt_assign rfl) rfl rfl ?_
  refine WL_nil_seq ?_
  refine WP_seq ?_
  refine WP_seq ?_
  refine WP_region ?_
  refine XL_q rfl (qt_assign rfl) rfl rfl ?_
  refine WL_nil_seq ?_
  refine WP_block ?_
  obtain ⟨o11, ho12, h⟩ := bind_some h
  refine fun a13 ha14 => wp_loop_fix (I := fun s a w2 => match s with | (s9, s10) => ∃ css10 Fs10, Fr a 23 [(0, vp0), (3, v3), (4, .int .i64 s9)] ∧ Holds (([] : List Res).flatMap Res.own) w w2 [dpR 84 (.pair (.leaf (.int .i64)) (.pair (.sl 103 (.leaf (.pair (.int .i64) (.int .i64)))) (.leaf (.int .i64)))) v3 css10 s10 Fs10] G) (O := fun o e a w2 => match o with | q0 => e = .exit 0 ∧ ∃ csq0 Fq0, Fr a 23 [(3, v3)] ∧ Holds (([] : List Res).flatMap Res.own) w w2 [dpR 84 (.pair (.leaf (.int .i64)) (.pair (.sl 103 (.leaf (.pair (.int .i64) (.int .i64)))) (.leaf (.int .i64)))) v3 csq0 q0 Fq0] G) ho12 ?_ ?_ ?_
  · exact ⟨cs6, F7, ha14.sub ⟨rfl, rfl, rfl, trivial⟩, H8⟩
  · clear ha14
    intro s o17 a w15 hs16 hI18
    obtain ⟨s9, s10⟩ := s
    obtain ⟨css10, Fs10, ha, H19⟩ := hI18
    refine WP.app ?_ ha
    clear ha
    refine WP_seq ?_
    refine WP_seq ?_
    refine WP_region ?_
    refine XL_q rfl (qt_move rfl) rfl rfl ?_
    refine XL_q rfl (qt_move rfl) rfl rfl ?_
    have V20 : Ctx w15 ([.ro (.pair (.int .i64) (.pair (.slice (.pair (.int .i64) (.int .i64))) (.int .i64))) v3 s10] ++ G) := H19.viewG (Vw.dp (NsOk.self NsOk.nil) Vw.refl)
    refine XL_lenH V20 (t := (.pair (.int .i64) (.pair (.slice (.pair (.int .i64) (.int .i64))) (.int .i64)))) (hp0.c) u22 rfl rfl rfl ?_
    refine XL_q rfl (qt_lss rfl rfl) rfl rfl ?_
    refine WL_nil_seq ?_
    refine WP_cond rfl (fun hc21 => ?_) (fun hc21 => ?_)
    · have hs16 := if_t hc21 hs16
      refine WP_skip_seq ?_
      refine WP_seq ?_
      refine WP_block ?_
      refine WP_region ?_
      refine XL_q rfl (qt_move rfl) rfl rfl ?_
      refine XL_q rfl (qt_move rfl) rfl rfl ?_
      refine XL_q rfl (qt_move rfl) rfl rfl ?_
      refine XL_q rfl (qt_move rfl) rfl rfl ?_
      obtain ⟨x22, hx23, hs16⟩ := bind_some hs16
      refine XL_indexH V20 (hp0.c) hx23 u22 i75 rfl rfl rfl rfl (fun b24 off25 cap26 hv27 => ?_)
      obtain ⟨F28, hat29, hdup30⟩ := H19.atN (hp0.c) hx23 hv27
      refine XL_load_agg (t := (.pair (.int .i64) (.pair (.slice (.pair (.int .i64) (.int .i64))) (.int .i64)))) us75 uo75 i75 hat29 rfl rfl rfl (fun cs31 hr32 => ?_)
      obtain ⟨c33, c34, F35, F36, rfl, eF39, hr37, hr38⟩ := hr32
      obtain ⟨rfl, _⟩ := hr37
      obtain ⟨c40, c41, F42, F43, rfl, eF46, hr44, hr45⟩ := hr38
      obtain ⟨v47, rfl, hr48⟩ := Rep.sl_inv hr44
      obtain ⟨rfl, _⟩ := hr45
      have H49 : Holds (([] : List Res).flatMap Res.own) w w15 [.ro (.pair (.int .i64) (.int .i64)) v47 x22.2.1, dpR 84 (.pair (.leaf (.int .i64)) (.pair (.sl 103 (.leaf (.pair (.int .i64) (.int .i64)))) (.leaf (.int .i64)))) v3 css10 s10 Fs10] G := hdup30 [.ro (.pair (.int .i64) (.int .i64)) v47 x22.2.1] ⟨⟨_, _, _, _, rfl, hr48, (fun k h => (fun k h => (fun _ h => h) k (by rw [eF39]; exact List.mem_append_right _ h)) k (by rw [eF46]; exact List.mem_append_left _ h))⟩, trivial⟩
      change XL _ _ _ _ _ ((19, .agg #[.int .i64 x22.1, v47, .int .i64 x22.2.2]) :: _) _
      obtain ⟨x50, hx51, hs16⟩ := bind_some hs16
      have V52 : Ctx w15 ([.ro (.pair (.int .i64) (.int .i64)) v47 x22.2.1, .ro (.pair (.int .i64) (.pair (.slice (.pair (.int .i64) (.int .i64))) (.int .i64))) v3 s10] ++ G) := H49.viewG (Vw.c (Vw.dp (NsOk.self NsOk.nil) Vw.refl))
      refine WL_call rfl rfl c54 (w_laws_toItem w15 ([.ro (.pair (.int .i64) (.int .i64)) v47 x22.2.1, .ro (.pair (.int .i64) (.pair (.slice (.pair (.int .i64) (.int .i64))) (.int .i64))) v3 s10] ++ G) x22.1 v47 x22.2.1 (HasRo.has (HasRo.hd)) x22.2.2 x50 hx51 V52) (by rfl) ?_
      rintro _ w53 ⟨v55, rfl, H54⟩; refine ⟨_, rfl, ?_⟩
      have H56 : Holds (([] : List Res).flatMap Res.own) w w53 [.sl 103 (.pair (.int .i64) (.int .i64)) v55 x50.2.1, .ro (.pair (.int .i64) (.int .i64)) v47 x22.2.1, dpR 84 (.pair (.leaf (.int .i64)) (.pair (.sl 103 (.leaf (.pair (.int .i64) (.int .i64)))) (.leaf (.int .i64)))) v3 css10 s10 Fs10] G := H49.calledV (Rs := []) H54 (all_cons (Pure.sl rfl) all_nil)
      obtain ⟨x57, hx58, hs16⟩ := bind_some hs16
      have V63 : Ctx w53 ([.sl 103 (.pair (.int .i64) (.int .i64)) v55 x50.2.1, .ro (.pair (.int .i64) (.int .i64)) v47 x22.2.1, .ro (.pair (.int .i64) (.pair (.slice (.pair (.int .i64) (.int .i64))) (.int .i64))) v3 s10] ++ G) := H56.viewG (Vw.c (Vw.c (Vw.dp (NsOk.self NsOk.nil) Vw.refl)))
      refine XL_indexH V63 (HasRo.has (HasRo.c (HasRo.c (HasRo.hd)))) hx58 u29 i84 rfl rfl rfl rfl (fun b59 off60 cap61 hv62 => ?_)
      have H64 : Holds (([] : List Res).flatMap Res.own) w w53 [dpR 84 (.pair (.leaf (.int .i64)) (.pair (.sl 103 (.leaf (.pair (.int .i64) (.int .i64)))) (.leaf (.int .i64)))) v3 css10 s10 Fs10, .sl 103 (.pair (.int .i64) (.int .i64)) v55 x50.2.1, .ro (.pair (.int .i64) (.int .i64)) v47 x22.2.1] G := H56.pull 2
      have H65 : Holds (([] : List Res).flatMap Res.own) w w53 [.sl 103 (.pair (.int .i64) (.int .i64)) v55 x50.2.1, dpR 84 (.pair (.leaf (.int .i64)) (.pair (.sl 103 (.leaf (.pair (.int .i64) (.int .i64)))) (.leaf (.int .i64)))) v3 css10 s10 Fs10, .ro (.pair (.int .i64) (.int .i64)) v47 x22.2.1] G := H64.pull 1
      refine WL_storeD (Rs := [.sl 103 (.pair (.int .i64) (.int .i64)) v55 x50.2.1]) (fo := 0) (cs' := [.int .i64 x50.1, v55, .int .i64 x50.2.2]) H65 hx58 hv62 (Foc.refl) (DBlt.cast (DBlt.pair (DBlt.int (k := .i64) (n := x50.1)) (DBlt.pair (DBlt.sl (e := 103) (t := (.pair (.int .i64) (.int .i64))) (v := v55) (x := x50.2.1) rfl) (DBlt.int (k := .i64) (n := x50.2.2)))) rfl rfl) rfl il84 rfl rfl rfl (fun cs66 F67 w68 H69 => ?_)
      have H70 : Holds (([] : List Res).flatMap Res.own) w w68 [dpR 84 (.pair (.leaf (.int .i64)) (.pair (.sl 103 (.leaf (.pair (.int .i64) (.int .i64)))) (.leaf (.int .i64)))) v3 cs66 (List.set s10 (Int.toNat s9) (x50.1, x50.2.1, x50.2.2)) F67, .ro (.pair (.int .i64) (.int .i64)) v47 x22.2.1] G := H69
      refine WL_nil fun a ha => ?_
      refine nrm_block (nrm_seq (WP.app ?_ ha))
      refine WP_region ?_
      refine XL_q rfl (qt_move rfl) rfl rfl ?_
      refine XL_q rfl (qt_add rfl rfl) rfl rfl ?_
      refine XL_q rfl (qt_assign rfl) rfl rfl ?_
      refine WL_nil fun a ha => ?_
      obtain rfl := Option.some.inj hs16
      have H71 : Holds (([] : List Res).flatMap Res.own) w w68 [dpR 84 (.pair (.leaf (.int .i64)) (.pair (.sl 103 (.leaf (.pair (.int .i64) (.int .i64)))) (.leaf (.int .i64)))) v3 cs66 (List.set s10 (Int.toNat s9) (x50.1, x50.2.1, x50.2.2)) F67] G := (H70.cut 1)
      exact ⟨rfl, cs66, F67, ha.sub ⟨rfl, rfl, rfl, trivial⟩, H71⟩
    · have hs16 := if_f hc21 hs16
      refine WP_exit fun a ha => ?_
      obtain rfl := Option.some.inj hs16
      exact exit_seq (⟨exit_ne, rfl, css10, Fs10, ha.sub ⟨rfl, trivial⟩, H19⟩)
  · intro e a13 w72 hO73
    obtain ⟨p74, rfl⟩ : ∃ z, z = o11 := ⟨o11, rfl⟩
    obtain ⟨rfl, hO76⟩ := hO73
    obtain ⟨csp74, Fp74, ha, H75⟩ := hO76
    refine exit_block_eq (nrm_seq (WP.app ?_ ha))
    refine WP_seq ?_
    refine WP_region ?_
    refine XL_q rfl (qt_move rfl) rfl rfl ?_
    refine XL_q rfl (qt_assign rfl) rfl rfl ?_
    refine WL_nil_seq ?_
    refine WP_ret fun a ha => ?_
    obtain rfl := Option.some.inj h
    exact ret1 rfl ha rfl ⟨v3, csp74, Fp74, rfl, H75⟩
theorem w_laws_toIntS (w : World) (G : List Res) (vp0 : Value) (p0 : List Int) (hp0 : Has G (.int .i64) vp0 p0) (r : (List Int)) (h : laws_toIntSS p0 = some r) (H : Ctx w G) : Calls Try.prog 32 #[vp0] w fun e w' => ∃ (v1 : Value), e = .returned (v1) ∧ Holds (([] : List Res).flatMap Res.own) w w' [.sl 3 (.int .i64) v1 r] G := by
  have H : Holds (([] : List Res).flatMap Res.own) w w [] G := Holds.startN H
  refine calls_enter (args := [vp0]) (n := 22) Try.func32 rfl rfl rfl ?_
  unfold laws_toIntSS at h
  refine WP_seq ?_
  refine WP_region ?_
  refine XL_q rfl (qt_assign rfl) rfl rfl ?_
  refine WL_nil_seq ?_
  refine WP_seq ?_
  refine WP_region ?_
  refine XL_q rfl (qt_move rfl) rfl rfl ?_
  refine XL_lenH H.ctx (t := (.int .i64)) (hp0) u23 rfl rfl rfl ?_
  obtain ⟨x1, hx2, h⟩ := bind_some h
  refine WL_makeH H hx2 u23 j3 rfl (fun _ => ⟨rfl, rfl⟩) rfl rfl rfl rfl rfl (fun v3 w4 H5 => ?_)
  have H6 : Holds (([] : List Res).flatMap Res.own) w w4 [.sl 3 (.int .i64) v3 x1] G := H5
  refine XL_q rfl (qt_assign rfl) rfl rfl ?_
  refine WL_nil_seq ?_
  refine WP_seq ?_
  refine WP_seq ?_
  refine WP_region ?_
  refine XL_q rfl (qt_assign rfl) rfl rfl ?_
  refine WL_nil_seq ?_
  refine WP_block ?_
  obtain ⟨o9, ho10, h⟩ := bind_some h
  refine fun a11 ha12 => wp_loop_fix (I := fun s a w2 => match s with | (s7, s8) => (Fr a 22 [(0, vp0), (3, v3), (4, .int .i64 s7)] ∧ Holds (([] : List Res).flatMap Res.own) w w2 [.sl 3 (.int .i64) v3 s8] G)) (O := fun o e a w2 => match o with | q0 => e = .exit 0 ∧ (Fr a 22 [(3, v3)] ∧ Holds (([] : List Res).flatMap Res.own) w w2 [.sl 3 (.int .i64) v3 q0] G)) ho10 ?_ ?_ ?_
  · exact ⟨ha12.sub ⟨rfl, rfl, rfl, trivial⟩, H6⟩
  · clear ha12
    intro s o15 a w13 hs14 hI16
    obtain ⟨s7, s8⟩ := s
    obtain ⟨ha, H17⟩ := hI16
    refine WP.app ?_ ha
    clear ha
    refine WP_seq ?_
    refine WP_seq ?_
    refine WP_region ?_
    refine XL_q rfl (qt_move rfl) rfl rfl ?_
    refine XL_q rfl (qt_move rfl) rfl rfl ?_
    refine XL_lenH H17.ctx (t := (.int .i64)) (hp0.c) u23 rfl rfl rfl ?_
    refine XL_q rfl (qt_lss rfl rfl) rfl rfl ?_
    refine WL_nil_seq ?_
    refine WP_cond rfl (fun hc18 => ?_) (fun hc18 => ?_)
    · have hs14 := if_t hc18 hs14
      refine WP_skip_seq ?_
      refine WP_seq ?_
      refine WP_block ?_
      refine WP_region ?_
      refine XL_q rfl (qt_move rfl) rfl rfl ?_
      refine XL_q rfl (qt_move rfl) rfl rfl ?_
      refine XL_q rfl (qt_move rfl) rfl rfl ?_
      refine XL_q rfl (qt_move rfl) rfl rfl ?_
      obtain ⟨x19, hx20, hs14⟩ := bind_some hs14
      refine XL_indexH H17.ctx (hp0.c) hx20 u23 i3 rfl rfl rfl rfl (fun b21 off22 cap23 hv24 => ?_)
      obtain ⟨F25, hat26, hdup27⟩ := H17.at (hp0.c) hx20 hv24
      refine XL_load_int (k := .i64) u3 rfl hat26 rfl rfl rfl ?_
      obtain ⟨x28, hx29, hs14⟩ := bind_some hs14
      refine XL_indexH H17.ctx (Has.hd) hx29 u23 i3 rfl rfl rfl rfl (fun b30 off31 cap32 hv33 => ?_)
      refine WL_storeH (fo := 0) (cs' := [.int .i64 x19]) H17 hx29 hv33 (Upd.whole (Blt.int)) rfl il3 rfl rfl rfl rfl (fun w34 H35 => ?_)
      have H36 : Holds (([] : List Res).flatMap Res.own) w w34 [.sl 3 (.int .i64) v3 (List.set s8 (Int.toNat s7) x19)] G := H35
      refine WL_nil fun a ha => ?_
      refine nrm_block (nrm_seq (WP.app ?_ ha))
      refine WP_region ?_
      refine XL_q rfl (qt_move rfl) rfl rfl ?_
      refine XL_q rfl (qt_add rfl rfl) rfl rfl ?_
      refine XL_q rfl (qt_assign rfl) rfl rfl ?_
      refine WL_nil fun a ha => ?_
      obtain rfl := Option.some.inj hs14
      exact ⟨rfl, ha.sub ⟨rfl, rfl, rfl, trivial⟩, H36⟩
    · have hs14 := if_f hc18 hs14
      refine WP_exit fun a ha => ?_
      obtain rfl := Option.some.inj hs14
      exact exit_seq (⟨exit_ne, rfl, ha.sub ⟨rfl, trivial⟩, H17⟩)
  · intro e a11 w37 hO38
    obtain ⟨p39, rfl⟩ : ∃ z, z = o9 := ⟨o9, rfl⟩
    obtain ⟨rfl, hO41⟩ := hO38
    obtain ⟨ha, H40⟩ := hO41
    refine exit_block_eq (nrm_seq (WP.app ?_ ha))
    refine WP_seq ?_
    refine WP_region ?_
    refine XL_q rfl (qt_move rfl) rfl rfl ?_
    refine XL_q rfl (qt_assign rfl) rfl rfl ?_
    refine WL_nil_seq ?_
    refine WP_ret fun a ha => ?_
    obtain rfl := Option.some.inj h
    exact ret1 rfl ha rfl ⟨v3, rfl, H40⟩
theorem w_laws_toOrder (w : World) (G : List Res) (p0_0 : Int) (p0_1 : Int) (r : (Int × Int)) (h : laws_toOrderS p0_0 p0_1 = some r) (H : Ctx w G) : Calls Try.prog 82 #[.agg #[.int .i64 p0_0, .int .i64 p0_1]] w fun e w' => e = .returned (.agg #[.int .i64 r.1, .int .i64 r.2]) ∧ Holds (([] : List Res).flatMap Res.own) w w' [] G := by
  have H : Holds (([] : List Res).flatMap Res.own) w w [] G := Holds.startN H
  refine calls_enter (args := [.agg #[.int .i64 p0_0, .int .i64 p0_1]]) (n := 11) Try.func82 rfl rfl rfl ?_
  unfold laws_toOrderS at h
  refine WP_seq ?_
  refine WP_region ?_
  refine WL_box (cs := [.int .i64 p0_0, .int .i64 p0_1]) H rfl rfl rfl rfl (fun b1 w2 H3 => ?_)
  have H4 : Holds (([] : List Res).flatMap Res.own) w w2 [.bx b1 107 [.int .i64 p0_0, .int .i64 p0_1]] G := H3
  refine WL_alloc (cs := [.int .i64 0, .int .i64 0]) H4 z63 rfl rfl rfl (fun b5 w6 H7 => ?_)
  have H8 : Holds (([] : List Res).flatMap Res.own) w w6 [.bx b5 63 [.int .i64 0, .int .i64 0], .bx b1 107 [.int .i64 p0_0, .int .i64 p0_1]] G := H7
  refine WL_nil_seq ?_
  refine WP_seq ?_
  refine WP_region ?_
  refine WL_alloc (cs := [.int .i64 0, .int .i64 0]) H8 z63 rfl rfl rfl (fun b9 w10 H11 => ?_)
  have H12 : Holds (([] : List Res).flatMap Res.own) w w10 [.bx b9 63 [.int .i64 0, .int .i64 0], .bx b5 63 [.int .i64 0, .int .i64 0], .bx b1 107 [.int .i64 p0_0, .int .i64 p0_1]] G := H11
  refine WL_nil_seq ?_
  refine WP_seq ?_
  refine WP_region ?_
  refine XL_q rfl (qt_fieldAddr uf107 fi107_0 nz3 rfl) rfl rfl ?_
  have hB13 : Bx w10 b1 107 [.int .i64 p0_0, .int .i64 p0_1] := Holds.bx (H12.pull 2)
  refine XL_load_bx u3 rfl hB13 rfl rfl rfl rfl ?_
  refine XL_q rfl (qt_fieldAddr uf63 fi63_0 nz3 rfl) rfl rfl ?_
  refine WL_store_bx H12 rfl il3 rfl rfl rfl rfl rfl (fun w14 H15 => ?_)
  have H16 : Holds (([] : List Res).flatMap Res.own) w w14 [.bx b9 63 [.int .i64 p0_0, .int .i64 0], .bx b5 63 [.int .i64 0, .int .i64 0], .bx b1 107 [.int .i64 p0_0, .int .i64 p0_1]] G := H15
  refine WL_nil_seq ?_
  refine WP_seq ?_
  refine WP_region ?_
  refine XL_q rfl (qt_fieldAddr uf107 fi107_1 nz3 rfl) rfl rfl ?_
  have hB17 : Bx w14 b1 107 [.int .i64 p0_0, .int .i64 p0_1] := Holds.bx (H16.pull 2)
  refine XL_load_bx u3 rfl hB17 rfl rfl rfl rfl ?_
  refine XL_q rfl (qt_fieldAddr uf63 fi63_1 nz3 rfl) rfl rfl ?_
  refine WL_store_bx H16 rfl il3 rfl rfl rfl rfl rfl (fun w18 H19 => ?_)
  have H20 : Holds (([] : List Res).flatMap Res.own) w w18 [.bx b9 63 [.int .i64 p0_0, .int .i64 p0_1], .bx b5 63 [.int .i64 0, .int .i64 0], .bx b1 107 [.int .i64 p0_0, .int .i64 p0_1]] G := H19
  refine WL_nil_seq ?_
  refine WP_seq ?_
  refine WP_region ?_
  have hB21 : Bx w18 b9 63 [.int .i64 p0_0, .int .i64 p0_1] := Holds.bx (H20.pull 0)
  refine XL_load_bxA (cs := [.int .i64 p0_0, .int .i64 p0_1]) us63 uo63 il63 hB21 rfl rfl rfl ?_
  change XL _ _ _ _ _ ((10, .agg #[.int .i64 p0_0, .int .i64 p0_1]) :: _) _
  have H22 : Holds (([] : List Res).flatMap Res.own) w w18 [.bx b5 63 [.int .i64 0, .int .i64 0], .bx b9 63 [.int .i64 p0_0, .int .i64 p0_1], .bx b1 107 [.int .i64 p0_0, .int .i64 p0_1]] G := H20.pull 1
  refine WL_store_bxA (cs' := [.int .i64 p0_0, .int .i64 p0_1]) H22 rfl il63 rfl rfl rfl rfl rfl (fun w23 H24 => ?_)
  have H25 : Holds (([] : List Res).flatMap Res.own) w w23 [.bx b5 63 [.int .i64 p0_0, .int .i64 p0_1], .bx b9 63 [.int .i64 p0_0, .int .i64 p0_1], .bx b1 107 [.int .i64 p0_0, .int .i64 p0_1]] G := H24
  refine WL_nil_seq ?_
  refine WP_ret fun a ha => ?_
  obtain rfl := Option.some.inj h
  have hB26 : Bx w23 b5 63 [.int .i64 p0_0, .int .i64 p0_1] := Holds.bx (H25.pull 0)
  have H27 : Holds (([] : List Res).flatMap Res.own) w w23 [] G := (((H25.cut 0).cut 0).cut 0)
  exact retc rfl ha rfl (run_loadVar_bx (cs := [.int .i64 p0_0, .int .i64 p0_1]) us63 uo63 il63 hB26) ⟨rfl, H27⟩
theorem w_laws_toOrderS (w : World) (G : List Res) (vp0 : Value) (p0 : List (Int × Int)) (hp0 : Has G (.pair (.int .i64) (.int .i64)) vp0 p0) (r : (List (Int × Int))) (h : laws_toOrderSS p0 = some r) (H : Ctx w G) : Calls Try.prog 74 #[vp0] w fun e w' => ∃ (v1 : Value), e = .returned (v1) ∧ Holds (([] : List Res).flatMap Res.own) w w' [.sl 63 (.pair (.int .i64) (.int .i64)) v1 r] G := by
  have H : Holds (([] : List Res).flatMap Res.own) w w [] G := Holds.startN H
  refine calls_enter (args := [vp0]) (n := 23) Try.func74 rfl rfl rfl ?_
  unfold laws_toOrderSS at h
  refine WP_seq ?_
  refine WP_region ?_
  refine XL_q rfl (qt_assign rfl) rfl rfl ?_
  refine WL_nil_seq ?_
  refine WP_seq ?_
  refine WP_region ?_
  refine XL_q rfl (qt_move rfl) rfl rfl ?_
  refine XL_lenH H.ctx (t := (.pair (.int .i64) (.int .i64))) (hp0) u77 rfl rfl rfl ?_
  obtain ⟨x1, hx2, h⟩ := bind_some h
  refine WL_makeH H hx2 u48 j63 rfl (fun _ => ⟨_, _, [], [], rfl, rfl, ⟨rfl, rfl⟩, ⟨rfl, rfl⟩⟩) rfl rfl rfl rfl rfl (fun v3 w4 H5 => ?_)
  have H6 : Holds (([] : List Res).flatMap Res.own) w w4 [.sl 63 (.pair (.int .i64) (.int .i64)) v3 x1] G := H5
  refine XL_q rfl (qt_assign rfl) rfl rfl ?_
  refine WL_nil_seq ?_
  refine WP_seq ?_
  refine WP_seq ?_
  refine WP_region ?_
  refine XL_q rfl (qt_assign rfl) rfl rfl ?_
  refine WL_nil_seq ?_
  refine WP_block ?_
  obtain ⟨o9, ho10, h⟩ := bind_some h
  refine fun a11 ha12 => wp_loop_fix (I := fun s a w2 => match s with | (s7, s8) => (Fr a 23 [(0, vp0), (3, v3), (4, .int .i64 s7)] ∧ Holds (([] : List Res).flatMap Res.own) w w2 [.sl 63 (.pair (.int .i64) (.int .i64)) v3 s8] G)) (O := fun o e a w2 => match o with | q0 => e = .exit 0 ∧ (Fr a 23 [(3, v3)] ∧ Holds (([] : List Res).flatMap Res.own) w w2 [.sl 63 (.pair (.int .i64) (.int .i64)) v3 q0] G)) ho10 ?_ ?_ ?_
  · exact ⟨ha12.sub ⟨rfl, rfl, rfl, trivial⟩, H6⟩
  · clear ha12
    intro s o15 a w13 hs14 hI16
    obtain ⟨s7, s8⟩ := s
    obtain ⟨ha, H17⟩ := hI16
    refine WP.app ?_ ha
    clear ha
    refine WP_seq ?_
    refine WP_seq ?_
    refine WP_region ?_
    refine XL_q rfl (qt_move rfl) rfl rfl ?_
    refine XL_q rfl (qt_move rfl) rfl rfl ?_
    refine XL_lenH H17.ctx (t := (.pair (.int .i64) (.int .i64))) (hp0.c) u77 rfl rfl rfl ?_
    refine XL_q rfl (qt_lss rfl rfl) rfl rfl ?_
    refine WL_nil_seq ?_
    refine WP_cond rfl (fun hc18 => ?_) (fun hc18 => ?_)
    · have hs14 := if_t hc18 hs14
      refine WP_skip_seq ?_
      refine WP_seq ?_
      refine WP_block ?_
      refine WP_region ?_
      refine XL_q rfl (qt_move rfl) rfl rfl ?_
      refine XL_q rfl (qt_move rfl) rfl rfl ?_
      refine XL_q rfl (qt_move rfl) rfl rfl ?_
      refine XL_q rfl (qt_move rfl) rfl rfl ?_
      obtain ⟨x19, hx20, hs14⟩ := bind_some hs14
      refine XL_indexH H17.ctx (hp0.c) hx20 u77 i107 rfl rfl rfl rfl (fun b21 off22 cap23 hv24 => ?_)
      obtain ⟨F25, hat26, hdup27⟩ := H17.atN (hp0.c) hx20 hv24
      refine XL_load_agg (t := (.pair (.int .i64) (.int .i64))) us107 uo107 i107 hat26 rfl rfl rfl (fun cs28 hr29 => ?_)
      obtain ⟨c30, c31, F32, F33, rfl, eF36, hr34, hr35⟩ := hr29
      obtain ⟨rfl, _⟩ := hr34
      obtain ⟨rfl, _⟩ := hr35
      change XL _ _ _ _ _ ((19, .agg #[.int .i64 x19.1, .int .i64 x19.2]) :: _) _
      obtain ⟨x37, hx38, hs14⟩ := bind_some hs14
      refine WL_call rfl rfl c82 (w_laws_toOrder w13 ([.sl 63 (.pair (.int .i64) (.int .i64)) v3 s8] ++ G) x19.1 x19.2 x37 hx38 H17.ctx) (by rfl) ?_
      rintro _ w39 ⟨rfl, H40⟩; refine ⟨_, rfl, ?_⟩
      have H41 : Holds (([] : List Res).flatMap Res.own) w w39 [.sl 63 (.pair (.int .i64) (.int .i64)) v3 s8] G := H17.calledN (Rs := []) H40
      obtain ⟨x42, hx43, hs14⟩ := bind_some hs14
      refine XL_indexH H41.ctx (Has.hd) hx43 u48 i63 rfl rfl rfl rfl (fun b44 off45 cap46 hv47 => ?_)
      refine WL_storeH (fo := 0) (cs' := [.int .i64 x37.1, .int .i64 x37.2]) H41 hx43 hv47 (Upd.whole (Blt.pair (Blt.int) (Blt.int))) rfl il63 rfl rfl rfl rfl (fun w48 H49 => ?_)
      have H50 : Holds (([] : List Res).flatMap Res.own) w w48 [.sl 63 (.pair (.int .i64) (.int .i64)) v3 (List.set s8 (Int.toNat s7) (x37.1, x37.2))] G := H49
      refine WL_nil fun a ha => ?_
      refine nrm_block (nrm_seq (WP.app ?_ ha))
      refine WP_region ?_
      refine XL_q rfl (qt_move rfl) rfl rfl ?_
      refine XL_q rfl (qt_add rfl rfl) rfl rfl ?_
      refine XL_q rfl (qt_assign rfl) rfl rfl ?_
      refine WL_nil fun a ha => ?_
      obtain rfl := Option.some.inj hs14
      exact ⟨rfl, ha.sub ⟨rfl, rfl, rfl, trivial⟩, H50⟩
    · have hs14 := if_f hc18 hs14
      refine WP_exit fun a ha => ?_
      obtain rfl := Option.some.inj hs14
      exact exit_seq (⟨exit_ne, rfl, ha.sub ⟨rfl, trivial⟩, H17⟩)
  · intro e a11 w51 hO52
    obtain ⟨p53, rfl⟩ : ∃ z, z = o9 := ⟨o9, rfl⟩
    obtain ⟨rfl, hO55⟩ := hO52
    obtain ⟨ha, H54⟩ := hO55
    refine exit_block_eq (nrm_seq (WP.app ?_ ha))
    refine WP_seq ?_
    refine WP_region ?_
    refine XL_q rfl (qt_move rfl) rfl rfl ?_
    refine XL_q rfl (qt_assign rfl) rfl rfl ?_
    refine WL_nil_seq ?_
    refine WP_ret fun a ha => ?_
    obtain rfl := Option.some.inj h
    exact ret1 rfl ha rfl ⟨v3, rfl, H54⟩
theorem w_laws_toTable (w : World) (G : List Res) (p0_0 : Int) (vp0_1 : Value) (p0_1 : List (Int × Int)) (hp0_1 : Has G (.pair (.int .i64) (.int .i64)) vp0_1 p0_1) (vp0_2 : Value) (p0_2 : List Int) (hp0_2 : Has G (.int .i64) vp0_2 p0_2) (r : (Int × (List (Int × Int)) × (List Int))) (h : laws_toTableS p0_0 p0_1 p0_2 = some r) (H : Ctx w G) : Calls Try.prog 55 #[.agg #[.int .i64 p0_0, vp0_1, vp0_2]] w fun e w' => ∃ (v1 : Value) (v2 : Value), e = .returned (.agg #[.int .i64 r.1, v1, v2]) ∧ Holds (([] : List Res).flatMap Res.own) w w' [.sl 63 (.pair (.int .i64) (.int .i64)) v1 r.2.1, .sl 3 (.int .i64) v2 r.2.2] G := by
  have H : Holds (([] : List Res).flatMap Res.own) w w [] G := Holds.startN H
  refine calls_enter (args := [.agg #[.int .i64 p0_0, vp0_1, vp0_2]]) (n := 16) Try.func55 rfl rfl rfl ?_
  unfold laws_toTableS at h
  refine WP_seq ?_
  refine WP_region ?_
  refine WL_box (cs := [.int .i64 p0_0, vp0_1, vp0_2]) H rfl rfl rfl rfl (fun b1 w2 H3 => ?_)
  have H4 : Holds (([] : List Res).flatMap Res.own) w w2 [.bx b1 79 [.int .i64 p0_0, vp0_1, vp0_2]] G := H3
  refine WL_alloc (cs := [.int .i64 0, .slice none 0 0, .slice none 0 0]) H4 z50 rfl rfl rfl (fun b5 w6 H7 => ?_)
  have H8 : Holds (([] : List Res).flatMap Res.own) w w6 [.bx b5 50 [.int .i64 0, .slice none 0 0, .slice none 0 0], .bx b1 79 [.int .i64 p0_0, vp0_1, vp0_2]] G := H7
  refine WL_nil_seq ?_
  refine WP_seq ?_
  refine WP_region ?_
  refine WL_alloc (cs := [.int .i64 0, .slice none 0 0, .slice none 0 0]) H8 z50 rfl rfl rfl (fun b9 w10 H11 => ?_)
  have H12 : Holds (([] : List Res).flatMap Res.own) w w10 [.bx b9 50 [.int .i64 0, .slice none 0 0, .slice none 0 0], .bx b5 50 [.int .i64 0, .slice none 0 0, .slice none 0 0], .bx b1 79 [.int .i64 p0_0, vp0_1, vp0_2]] G := H11
  refine WL_nil_seq ?_
  refine WP_seq ?_
  refine WP_region ?_
  refine XL_q rfl (qt_fieldAddr uf79 fi79_0 nz3 rfl) rfl rfl ?_
  have hB13 : Bx w10 b1 79 [.int .i64 p0_0, vp0_1, vp0_2] := Holds.bx (H12.pull 2)
  refine XL_load_bx u3 rfl hB13 rfl rfl rfl rfl ?_
  refine XL_q rfl (qt_fieldAddr uf50 fi50_0 nz3 rfl) rfl rfl ?_
  refine WL_store_bx H12 rfl il3 rfl rfl rfl rfl rfl (fun w14 H15 => ?_)
  have H16 : Holds (([] : List Res).flatMap Res.own) w w14 [.bx b9 50 [.int .i64 p0_0, .slice none 0 0, .slice none 0 0], .bx b5 50 [.int .i64 0, .slice none 0 0, .slice none 0 0], .bx b1 79 [.int .i64 p0_0, vp0_1, vp0_2]] G := H15
  refine WL_nil_seq ?_
  refine WP_seq ?_
  refine WP_region ?_
  refine XL_q rfl (qt_fieldAddr uf79 fi79_1 nz77 rfl) rfl rfl ?_
  have hB17 : Bx w14 b1 79 [.int .i64 p0_0, vp0_1, vp0_2] := Holds.bx (H16.pull 2)
  refine XL_load_bx u77 rfl hB17 rfl rfl rfl rfl ?_
  obtain ⟨x18, hx19, h⟩ := bind_some h
  refine WL_call rfl rfl c74 (w_laws_toOrderS w14 ([.bx b9 50 [.int .i64 p0_0, .slice none 0 0, .slice none 0 0], .bx b5 50 [.int .i64 0, .slice none 0 0, .slice none 0 0], .bx b1 79 [.int .i64 p0_0, vp0_1, vp0_2]] ++ G) vp0_1 p0_1 (hp0_1.c.c.c) x18 hx19 H16.ctx) (by rfl) ?_
  rintro _ w20 ⟨v22, rfl, H21⟩; refine ⟨_, rfl, ?_⟩
  have H23 : Holds (([] : List Res).flatMap Res.own) w w20 [.sl 63 (.pair (.int .i64) (.int .i64)) v22 x18, .bx b9 50 [.int .i64 p0_0, .slice none 0 0, .slice none 0 0], .bx b5 50 [.int .i64 0, .slice none 0 0, .slice none 0 0], .bx b1 79 [.int .i64 p0_0, vp0_1, vp0_2]] G := H16.calledN (Rs := []) H21
  refine XL_q rfl (qt_fieldAddr uf50 fi50_1 nz48 rfl) rfl rfl ?_
  have H24 : Holds (([] : List Res).flatMap Res.own) w w20 [.bx b9 50 [.int .i64 p0_0, .slice none 0 0, .slice none 0 0], .sl 63 (.pair (.int .i64) (.int .i64)) v22 x18, .bx b5 50 [.int .i64 0, .slice none 0 0, .slice none 0 0], .bx b1 79 [.int .i64 p0_0, vp0_1, vp0_2]] G := H23.pull 1
  refine WL_store_bx H24 rfl il48 (H24.ctx.sliceCells (Has.c (Has.hd))) (H24.ctx.sliceOne (Has.c (Has.hd))) rfl rfl rfl (fun w25 H26 => ?_)
  have H27 : Holds (([] : List Res).flatMap Res.own) w w25 [.bx b9 50 [.int .i64 p0_0, v22, .slice none 0 0], .sl 63 (.pair (.int .i64) (.int .i64)) v22 x18, .bx b5 50 [.int .i64 0, .slice none 0 0, .slice none 0 0], .bx b1 79 [.int .i64 p0_0, vp0_1, vp0_2]] G := H26
  refine WL_nil_seq ?_
  refine WP_seq ?_
  refine WP_region ?_
  refine XL_q rfl (qt_fieldAddr uf79 fi79_2 nz23 rfl) rfl rfl ?_
  have hB28 : Bx w25 b1 79 [.int .i64 p0_0, vp0_1, vp0_2] := Holds.bx (H27.pull 3)
  refine XL_load_bx u23 rfl hB28 rfl rfl rfl rfl ?_
  obtain ⟨x29, hx30, h⟩ := bind_some h
  refine WL_call rfl rfl c32 (w_laws_toIntS w25 ([.bx b9 50 [.int .i64 p0_0, v22, .slice none 0 0], .sl 63 (.pair (.int .i64) (.int .i64)) v22 x18, .bx b5 50 [.int .i64 0, .slice none 0 0, .slice none 0 0], .bx b1 79 [.int .i64 p0_0, vp0_1, vp0_2]] ++ G) vp0_2 p0_2 (hp0_2.c.c.c.c) x29 hx30 H27.ctx) (by rfl) ?_
  rintro _ w31 ⟨v33, rfl, H32⟩; refine ⟨_, rfl, ?_⟩
  have H34 : Holds (([] : List Res).flatMap Res.own) w w31 [.sl 3 (.int .i64) v33 x29, .bx b9 50 [.int .i64 p0_0, v22, .slice none 0 0], .sl 63 (.pair (.int .i64) (.int .i64)) v22 x18, .bx b5 50 [.int .i64 0, .slice none 0 0, .slice none 0 0], .bx b1 79 [.int .i64 p0_0, vp0_1, vp0_2]] G := H27.calledN (Rs := []) H32
  refine XL_q rfl (qt_fieldAddr uf50 fi50_2 nz23 rfl) rfl rfl ?_
  have H35 : Holds (([] : List Res).flatMap Res.own) w w31 [.bx b9 50 [.int .i64 p0_0, v22, .slice none 0 0], .sl 3 (.int .i64) v33 x29, .sl 63 (.pair (.int .i64) (.int .i64)) v22 x18, .bx b5 50 [.int .i64 0, .slice none 0 0, .slice none 0 0], .bx b1 79 [.int .i64 p0_0, vp0_1, vp0_2]] G := H34.pull 1
  refine WL_store_bx H35 rfl il23 (H35.ctx.sliceCells (Has.c (Has.hd))) (H35.ctx.sliceOne (Has.c (Has.hd))) rfl rfl rfl (fun w36 H37 => ?_)
  have H38 : Holds (([] : List Res).flatMap Res.own) w w36 [.bx b9 50 [.int .i64 p0_0, v22, v33], .sl 3 (.int .i64) v33 x29, .sl 63 (.pair (.int .i64) (.int .i64)) v22 x18, .bx b5 50 [.int .i64 0, .slice none 0 0, .slice none 0 0], .bx b1 79 [.int .i64 p0_0, vp0_1, vp0_2]] G := H37
  refine WL_nil_seq ?_
  refine WP_seq ?_
  refine WP_region ?_
  have hB39 : Bx w36 b9 50 [.int .i64 p0_0, v22, v33] := Holds.bx (H38.pull 0)
  refine XL_load_bxA (cs := [.int .i64 p0_0, v22, v33]) us50 uo50 il50 hB39 rfl rfl rfl ?_
  change XL _ _ _ _ _ ((15, .agg #[.int .i64 p0_0, v22, v33]) :: _) _
  have H40 : Holds (([] : List Res).flatMap Res.own) w w36 [.bx b5 50 [.int .i64 0, .slice none 0 0, .slice none 0 0], .bx b9 50 [.int .i64 p0_0, v22, v33], .sl 3 (.int .i64) v33 x29, .sl 63 (.pair (.int .i64) (.int .i64)) v22 x18, .bx b1 79 [.int .i64 p0_0, vp0_1, vp0_2]] G := H38.pull 3
  refine WL_store_bxA (cs' := [.int .i64 p0_0, v22, v33]) H40 rfl il50 rfl (allOne rfl (allOne (H40.ctx.sliceOne (Has.c (Has.c (Has.c (Has.hd))))) (allOne (H40.ctx.sliceOne (Has.c (Has.c (Has.hd)))) rfl))) rfl rfl rfl (fun w41 H42 => ?_)
  have H43 : Holds (([] : List Res).flatMap Res.own) w w41 [.bx b5 50 [.int .i64 p0_0, v22, v33], .bx b9 50 [.int .i64 p0_0, v22, v33], .sl 3 (.int .i64) v33 x29, .sl 63 (.pair (.int .i64) (.int .i64)) v22 x18, .bx b1 79 [.int .i64 p0_0, vp0_1, vp0_2]] G := H42
  refine WL_nil_seq ?_
  refine WP_ret fun a ha => ?_
  obtain rfl := Option.some.inj h
  have hB44 : Bx w41 b5 50 [.int .i64 p0_0, v22, v33] := Holds.bx (H43.pull 0)
  have H45 : Holds (([] : List Res).flatMap Res.own) w w41 [.sl 63 (.pair (.int .i64) (.int .i64)) v22 x18, .sl 3 (.int .i64) v33 x29] G := ((((H43.cut 0).cut 0).cut 2).pull 1)
  exact retc rfl ha rfl (run_loadVar_bx (cs := [.int .i64 p0_0, v22, v33]) us50 uo50 il50 hB44) ⟨v22, v33, rfl, H45⟩
theorem w_laws_toTableS (w : World) (G : List Res) (vp0 : Value) (p0 : List (Int × (List (Int × Int)) × (List Int))) (hp0 : Has G (.pair (.int .i64) (.pair (.slice (.pair (.int .i64) (.int .i64))) (.slice (.int .i64)))) vp0 p0) (r : (List (Int × (List (Int × Int)) × (List Int)))) (h : laws_toTableSS p0 = some r) (H : Ctx w G) : Calls Try.prog 33 #[vp0] w fun e w' => ∃ (v1 : Value) (csv1 : List Value) (Fv1 : List Nat), e = .returned (v1) ∧ Holds (([] : List Res).flatMap Res.own) w w' [dpR 50 (.pair (.leaf (.int .i64)) (.pair (.sl 63 (.leaf (.pair (.int .i64) (.int .i64)))) (.sl 3 (.leaf (.int .i64))))) v1 csv1 r Fv1] G := by
  have H : Holds (([] : List Res).flatMap Res.own) w w [] G := Holds.startN H
  refine calls_enter (args := [vp0]) (n := 23) Try.func33 rfl rfl rfl ?_
  unfold laws_toTableSS at h
  refine WP_seq ?_
  refine WP_region ?_
  refine XL_q rfl (qt_assign rfl) rfl rfl ?_
  refine WL_nil_seq ?_
  refine WP_seq ?_
  refine WP_region ?_
  refine XL_q rfl (qt_move rfl) rfl rfl ?_
  refine XL_lenH H.ctx (t := (.pair (.int .i64) (.pair (.slice (.pair (.int .i64) (.int .i64))) (.slice (.int .i64))))) (hp0) u24 rfl rfl rfl ?_
  obtain ⟨x1, hx2, h⟩ := bind_some h
  refine WL_makeD (d := (.pair (.leaf (.int .i64)) (.pair (.sl 63 (.leaf (.pair (.int .i64) (.int .i64)))) (.sl 3 (.leaf (.int .i64)))))) H hx2 u30 j50 rfl (DBlt.cast (DBlt.pair (DBlt.int (k := .i64) (n := 0)) (DBlt.pair (DBlt.nil (e := 63) (d := (.leaf (.pair (.int .i64) (.int .i64))))) (DBlt.nil (e := 3) (d := (.leaf (.int .i64)))))) rfl rfl) rfl rfl rfl rfl rfl (fun v3 cs6 F7 w4 H5 => ?_)
  have H8 : Holds (([] : List Res).flatMap Res.own) w w4 [dpR 50 (.pair (.leaf (.int .i64)) (.pair (.sl 63 (.leaf (.pair (.int .i64) (.int .i64)))) (.sl 3 (.leaf (.int .i64))))) v3 cs6 x1 F7] G := H5
  refine XL_q rfl (qt_assign rfl) rfl rfl ?_
  refine WL_nil_seq ?_
  refine WP_seq ?_
  refine WP_seq ?_
  refine WP_region ?_
  refine XL_q rfl (qt_assign rfl) rfl rfl ?_
  refine WL_nil_seq ?_
  refine WP_block ?_
  obtain ⟨o11, ho12, h⟩ := bind_some h
  refine fun a13 ha14 => wp_loop_fix (I := fun s a w2 => match s with | (s9, s10) => ∃ css10 Fs10, Fr a 23 [(0, vp0), (3, v3), (4, .int .i64 s9)] ∧ Holds (([] : List Res).flatMap Res.own) w w2 [dpR 50 (.pair (.leaf (.int .i64)) (.pair (.sl 63 (.leaf (.pair (.int .i64) (.int .i64)))) (.sl 3 (.leaf (.int .i64))))) v3 css10 s10 Fs10] G) (O := fun o e a w2 => match o with | q0 => e = .exit 0 ∧ ∃ csq0 Fq0, Fr a 23 [(3, v3)] ∧ Holds (([] : List Res).flatMap Res.own) w w2 [dpR 50 (.pair (.leaf (.int .i64)) (.pair (.sl 63 (.leaf (.pair (.int .i64) (.int .i64)))) (.sl 3 (.leaf (.int .i64))))) v3 csq0 q0 Fq0] G) ho12 ?_ ?_ ?_
  · exact ⟨cs6, F7, ha14.sub ⟨rfl, rfl, rfl, trivial⟩, H8⟩
  · clear ha14
    intro s o17 a w15 hs16 hI18
    obtain ⟨s9, s10⟩ := s
    obtain ⟨css10, Fs10, ha, H19⟩ := hI18
    refine WP.app ?_ ha
    clear ha
    refine WP_seq ?_
    refine WP_seq ?_
    refine WP_region ?_
    refine XL_q rfl (qt_move rfl) rfl rfl ?_
    refine XL_q rfl (qt_move rfl) rfl rfl ?_
    have V20 : Ctx w15 ([.ro (.pair (.int .i64) (.pair (.slice (.pair (.int .i64) (.int .i64))) (.slice (.int .i64)))) v3 s10] ++ G) := H19.viewG (Vw.dp (NsOk.self NsOk.nil) Vw.refl)
    refine XL_lenH V20 (t := (.pair (.int .i64) (.pair (.slice (.pair (.int .i64) (.int .i64))) (.slice (.int .i64))))) (hp0.c) u24 rfl rfl rfl ?_
    refine XL_q rfl (qt_lss rfl rfl) rfl rfl ?_
    refine WL_nil_seq ?_
    refine WP_cond rfl (fun hc21 => ?_) (fun hc21 => ?_)
    · have hs16 := if_t hc21 hs16
      refine WP_skip_seq ?_
      refine WP_seq ?_
      refine WP_block ?_
      refine WP_region ?_
      refine XL_q rfl (qt_move rfl) rfl rfl ?_
      refine XL_q rfl (qt_move rfl) rfl rfl ?_
      refine XL_q rfl (qt_move rfl) rfl rfl ?_
      refine XL_q rfl (qt_move rfl) rfl rfl ?_
      obtain ⟨x22, hx23, hs16⟩ := bind_some hs16
      refine XL_indexH V20 (hp0.c) hx23 u24 i79 rfl rfl rfl rfl (fun b24 off25 cap26 hv27 => ?_)
      obtain ⟨F28, hat29, hdup30⟩ := H19.atN (hp0.c) hx23 hv27
      refine XL_load_agg (t := (.pair (.int .i64) (.pair (.slice (.pair (.int .i64) (.int .i64))) (.slice (.int .i64))))) us79 uo79 i79 hat29 rfl rfl rfl (fun cs31 hr32 => ?_)
      obtain ⟨c33, c34, F35, F36, rfl, eF39, hr37, hr38⟩ := hr32
      obtain ⟨rfl, _⟩ := hr37
      obtain ⟨c40, c41, F42, F43, rfl, eF46, hr44, hr45⟩ := hr38
      obtain ⟨v47, rfl, hr48⟩ := Rep.sl_inv hr44
      obtain ⟨v49, rfl, hr50⟩ := Rep.sl_inv hr45
      have H51 : Holds (([] : List Res).flatMap Res.own) w w15 [.ro (.pair (.int .i64) (.int .i64)) v47 x22.2.1, .ro (.int .i64) v49 x22.2.2, dpR 50 (.pair (.leaf (.int .i64)) (.pair (.sl 63 (.leaf (.pair (.int .i64) (.int .i64)))) (.sl 3 (.leaf (.int .i64))))) v3 css10 s10 Fs10] G := hdup30 [.ro (.pair (.int .i64) (.int .i64)) v47 x22.2.1, .ro (.int .i64) v49 x22.2.2] ⟨⟨_, _, _, _, rfl, hr48, (fun k h => (fun k h => (fun _ h => h) k (by rw [eF39]; exact List.mem_append_right _ h)) k (by rw [eF46]; exact List.mem_append_left _ h))⟩, ⟨_, _, _, _, rfl, hr50, (fun k h => (fun k h => (fun _ h => h) k (by rw [eF39]; exact List.mem_append_right _ h)) k (by rw [eF46]; exact List.mem_append_right _ h))⟩, trivial⟩
      change XL _ _ _ _ _ ((19, .agg #[.int .i64 x22.1, v47, v49]) :: _) _
      obtain ⟨x52, hx53, hs16⟩ := bind_some hs16
      have V54 : Ctx w15 ([.ro (.pair (.int .i64) (.int .i64)) v47 x22.2.1, .ro (.int .i64) v49 x22.2.2, .ro (.pair (.int .i64) (.pair (.slice (.pair (.int .i64) (.int .i64))) (.slice (.int .i64)))) v3 s10] ++ G) := H51.viewG (Vw.c (Vw.c (Vw.dp (NsOk.self NsOk.nil) Vw.refl)))
      refine WL_call rfl rfl c55 (w_laws_toTable w15 ([.ro (.pair (.int .i64) (.int .i64)) v47 x22.2.1, .ro (.int .i64) v49 x22.2.2, .ro (.pair (.int .i64) (.pair (.slice (.pair (.int .i64) (.int .i64))) (.slice (.int .i64)))) v3 s10] ++ G) x22.1 v47 x22.2.1 (HasRo.has (HasRo.hd)) v49 x22.2.2 (HasRo.has (HasRo.c (HasRo.hd))) x52 hx53 V54) (by rfl) ?_
      rintro _ w55 ⟨v57, v58, rfl, H56⟩; refine ⟨_, rfl, ?_⟩
      have H59 : Holds (([] : List Res).flatMap Res.own) w w55 [.sl 63 (.pair (.int .i64) (.int .i64)) v57 x52.2.1, .sl 3 (.int .i64) v58 x52.2.2, .ro (.pair (.int .i64) (.int .i64)) v47 x22.2.1, .ro (.int .i64) v49 x22.2.2, dpR 50 (.pair (.leaf (.int .i64)) (.pair (.sl 63 (.leaf (.pair (.int .i64) (.int .i64)))) (.sl 3 (.leaf (.int .i64))))) v3 css10 s10 Fs10] G := H51.calledV (Rs := []) H56 (all_cons (Pure.sl rfl) (all_cons (Pure.sl rfl) all_nil))
      obtain ⟨x60, hx61, hs16⟩ := bind_some hs16
      have V66 : Ctx w55 ([.sl 63 (.pair (.int .i64) (.int .i64)) v57 x52.2.1, .sl 3 (.int .i64) v58 x52.2.2, .ro (.pair (.int .i64) (.int .i64)) v47 x22.2.1, .ro (.int .i64) v49 x22.2.2, .ro (.pair (.int .i64) (.pair (.slice (.pair (.int .i64) (.int .i64))) (.slice (.int .i64)))) v3 s10] ++ G) := H59.viewG (Vw.c (Vw.c (Vw.c (Vw.c (Vw.dp (NsOk.self NsOk.nil) Vw.refl)))))
      refine XL_indexH V66 (HasRo.has (HasRo.c (HasRo.c (HasRo.c (HasRo.c (HasRo.hd)))))) hx61 u30 i50 rfl rfl rfl rfl (fun b62 off63 cap64 hv65 => ?_)
      have H67 : Holds (([] : List Res).flatMap Res.own) w w55 [dpR 50 (.pair (.leaf (.int .i64)) (.pair (.sl 63 (.leaf (.pair (.int .i64) (.int .i64)))) (.sl 3 (.leaf (.int .i64))))) v3 css10 s10 Fs10, .sl 63 (.pair (.int .i64) (.int .i64)) v57 x52.2.1, .sl 3 (.int .i64) v58 x52.2.2, .ro (.pair (.int .i64) (.int .i64)) v47 x22.2.1, .ro (.int .i64) v49 x22.2.2] G := H59.pull 4
      have H68 : Holds (([] : List Res).flatMap Res.own) w w55 [.sl 3 (.int .i64) v58 x52.2.2, dpR 50 (.pair (.leaf (.int .i64)) (.pair (.sl 63 (.leaf (.pair (.int .i64) (.int .i64)))) (.sl 3 (.leaf (.int .i64))))) v3 css10 s10 Fs10, .sl 63 (.pair (.int .i64) (.int .i64)) v57 x52.2.1, .ro (.pair (.int .i64) (.int .i64)) v47 x22.2.1, .ro (.int .i64) v49 x22.2.2] G := H67.pull 2
      have H69 : Holds (([] : List Res).flatMap Res.own) w w55 [.sl 63 (.pair (.int .i64) (.int .i64)) v57 x52.2.1, .sl 3 (.int .i64) v58 x52.2.2, dpR 50 (.pair (.leaf (.int .i64)) (.pair (.sl 63 (.leaf (.pair (.int .i64) (.int .i64)))) (.sl 3 (.leaf (.int .i64))))) v3 css10 s10 Fs10, .ro (.pair (.int .i64) (.int .i64)) v47 x22.2.1, .ro (.int .i64) v49 x22.2.2] G := H68.pull 2
      refine WL_storeD (Rs := [.sl 63 (.pair (.int .i64) (.int .i64)) v57 x52.2.1, .sl 3 (.int .i64) v58 x52.2.2]) (fo := 0) (cs' := [.int .i64 x52.1, v57, v58]) H69 hx61 hv65 (Foc.refl) (DBlt.cast (DBlt.pair (DBlt.int (k := .i64) (n := x52.1)) (DBlt.pair (DBlt.sl (e := 63) (t := (.pair (.int .i64) (.int .i64))) (v := v57) (x := x52.2.1) rfl) (DBlt.sl (e := 3) (t := (.int .i64)) (v := v58) (x := x52.2.2) rfl))) rfl rfl) rfl il50 rfl rfl rfl (fun cs70 F71 w72 H73 => ?_)
      have H74 : Holds (([] : List Res).flatMap Res.own) w w72 [dpR 50 (.pair (.leaf (.int .i64)) (.pair (.sl 63 (.leaf (.pair (.int .i64) (.int .i64)))) (.sl 3 (.leaf (.int .i64))))) v3 cs70 (List.set s10 (Int.toNat s9) (x52.1, x52.2.1, x52.2.2)) F71, .ro (.pair (.int .i64) (.int .i64)) v47 x22.2.1, .ro (.int .i64) v49 x22.2.2] G := H73
      refine WL_nil fun a ha => ?_
      refine nrm_block (nrm_seq (WP.app ?_ ha))
      refine WP_region ?_
      refine XL_q rfl (qt_move rfl) rfl rfl ?_
      refine XL_q rfl (qt_add rfl rfl) rfl rfl ?_
      refine XL_q rfl (qt_assign rfl) rfl rfl ?_
      refine WL_nil fun a ha => ?_
      obtain rfl := Option.some.inj hs16
      have H75 : Holds (([] : List Res).flatMap Res.own) w w72 [dpR 50 (.pair (.leaf (.int .i64)) (.pair (.sl 63 (.leaf (.pair (.int .i64) (.int .i64)))) (.sl 3 (.leaf (.int .i64))))) v3 cs70 (List.set s10 (Int.toNat s9) (x52.1, x52.2.1, x52.2.2)) F71] G := ((H74.cut 1).cut 1)
      exact ⟨rfl, cs70, F71, ha.sub ⟨rfl, rfl, rfl, trivial⟩, H75⟩
    · have hs16 := if_f hc21 hs16
      refine WP_exit fun a ha => ?_
      obtain rfl := Option.some.inj hs16
      exact exit_seq (⟨exit_ne, rfl, css10, Fs10, ha.sub ⟨rfl, trivial⟩, H19⟩)
  · intro e a13 w76 hO77
    obtain ⟨p78, rfl⟩ : ∃ z, z = o11 := ⟨o11, rfl⟩
    obtain ⟨rfl, hO80⟩ := hO77
    obtain ⟨csp78, Fp78, ha, H79⟩ := hO80
    refine exit_block_eq (nrm_seq (WP.app ?_ ha))
    refine WP_seq ?_
    refine WP_region ?_
    refine XL_q rfl (qt_move rfl) rfl rfl ?_
    refine XL_q rfl (qt_assign rfl) rfl rfl ?_
    refine WL_nil_seq ?_
    refine WP_ret fun a ha => ?_
    obtain rfl := Option.some.inj h
    exact ret1 rfl ha rfl ⟨v3, csp78, Fp78, rfl, H79⟩
theorem w_laws_toHouse (w : World) (G : List Res) (vp0_0 : Value) (p0_0 : List (Int × (List (Int × Int)) × Int)) (hp0_0 : Has G (.pair (.int .i64) (.pair (.slice (.pair (.int .i64) (.int .i64))) (.int .i64))) vp0_0 p0_0) (vp0_1 : Value) (p0_1 : List Int) (hp0_1 : Has G (.int .i64) vp0_1 p0_1) (vp0_2 : Value) (p0_2 : List Int) (hp0_2 : Has G (.int .i64) vp0_2 p0_2) (p0_3 : Int) (vp0_4 : Value) (p0_4 : List (Int × (List (Int × Int)) × (List Int))) (hp0_4 : Has G (.pair (.int .i64) (.pair (.slice (.pair (.int .i64) (.int .i64))) (.slice (.int .i64)))) vp0_4 p0_4) (r : ((List (Int × (List (Int × Int)) × Int)) × (List Int) × (List Int) × Int × (List (Int × (List (Int × Int)) × (List Int))))) (h : laws_toHouseS p0_0 p0_1 p0_2 p0_3 p0_4 = some r) (H : Ctx w G) : Calls Try.prog 9 #[.agg #[vp0_0, vp0_1, vp0_2, .int .i64 p0_3, vp0_4]] w fun e w' => ∃ (v1 : Value) (csv1 : List Value) (Fv1 : List Nat) (v4 : Value) (v5 : Value) (v6 : Value) (csv6 : List Value) (Fv6 : List Nat), e = .returned (.agg #[v1, v4, v5, .int .i64 r.2.2.2.1, v6]) ∧ Holds (([] : List Res).flatMap Res.own) w w' [dpR 84 (.pair (.leaf (.int .i64)) (.pair (.sl 103 (.leaf (.pair (.int .i64) (.int .i64)))) (.leaf (.int .i64)))) v1 csv1 r.1 Fv1, .sl 3 (.int .i64) v4 r.2.1, .sl 3 (.int .i64) v5 r.2.2.1, dpR 50 (.pair (.leaf (.int .i64)) (.pair (.sl 63 (.leaf (.pair (.int .i64) (.int .i64)))) (.sl 3 (.leaf (.int .i64))))) v6 csv6 r.2.2.2.2 Fv6] G := by
  have H : Holds (([] : List Res).flatMap Res.own) w w [] G := Holds.startN H
  refine calls_enter (args := [.agg #[vp0_0, vp0_1, vp0_2, .int .i64 p0_3, vp0_4]]) (n := 24) Try.func9 rfl rfl rfl ?_
  unfold laws_toHouseS at h
  refine WP_seq ?_
  refine WP_region ?_
  refine WL_box (cs := [vp0_0, vp0_1, vp0_2, .int .i64 p0_3, vp0_4]) H rfl rfl rfl rfl (fun b1 w2 H3 => ?_)
  have H4 : Holds (([] : List Res).flatMap Res.own) w w2 [.bx b1 26 [vp0_0, vp0_1, vp0_2, .int .i64 p0_3, vp0_4]] G := H3
  refine WL_alloc (cs := [.slice none 0 0, .slice none 0 0, .slice none 0 0, .int .i64 0, .slice none 0 0]) H4 z32 rfl rfl rfl (fun b5 w6 H7 => ?_)
  have H8 : Holds (([] : List Res).flatMap Res.own) w w6 [.bx b5 32 [.slice none 0 0, .slice none 0 0, .slice none 0 0, .int .i64 0, .slice none 0 0], .bx b1 26 [vp0_0, vp0_1, vp0_2, .int .i64 p0_3, vp0_4]] G := H7
  refine WL_nil_seq ?_
  refine WP_seq ?_
  refine WP_region ?_
  refine WL_alloc (cs := [.slice none 0 0, .slice none 0 0, .slice none 0 0, .int .i64 0, .slice none 0 0]) H8 z32 rfl rfl rfl (fun b9 w10 H11 => ?_)
  have H12 : Holds (([] : List Res).flatMap Res.own) w w10 [.bx b9 32 [.slice none 0 0, .slice none 0 0, .slice none 0 0, .int .i64 0, .slice none 0 0], .bx b5 32 [.slice none 0 0, .slice none 0 0, .slice none 0 0, .int .i64 0, .slice none 0 0], .bx b1 26 [vp0_0, vp0_1, vp0_2, .int .i64 p0_3, vp0_4]] G := H11
  refine WL_nil_seq ?_
  refine WP_seq ?_
  refine WP_region ?_
  refine XL_q rfl (qt_fieldAddr uf26 fi26_0 nz22 rfl) rfl rfl ?_
  have hB13 : Bx w10 b1 26 [vp0_0, vp0_1, vp0_2, .int .i64 p0_3, vp0_4] := Holds.bx (H12.pull 2)
  refine XL_load_bx u22 rfl hB13 rfl rfl rfl rfl ?_
  obtain ⟨x14, hx15, h⟩ := bind_some h
  refine WL_call rfl rfl c31 (w_laws_toItemS w10 ([.bx b9 32 [.slice none 0 0, .slice none 0 0, .slice none 0 0, .int .i64 0, .slice none 0 0], .bx b5 32 [.slice none 0 0, .slice none 0 0, .slice none 0 0, .int .i64 0, .slice none 0 0], .bx b1 26 [vp0_0, vp0_1, vp0_2, .int .i64 p0_3, vp0_4]] ++ G) vp0_0 p0_0 (hp0_0.c.c.c) x14 hx15 H12.ctx) (by rfl) ?_
  rintro _ w16 ⟨v18, cs19, F20, rfl, H17⟩; refine ⟨_, rfl, ?_⟩
  have H21 : Holds (([] : List Res).flatMap Res.own) w w16 [dpR 84 (.pair (.leaf (.int .i64)) (.pair (.sl 103 (.leaf (.pair (.int .i64) (.int .i64)))) (.leaf (.int .i64)))) v18 cs19 x14 F20, .bx b9 32 [.slice none 0 0, .slice none 0 0, .slice none 0 0, .int .i64 0, .slice none 0 0], .bx b5 32 [.slice none 0 0, .slice none 0 0, .slice none 0 0, .int .i64 0, .slice none 0 0], .bx b1 26 [vp0_0, vp0_1, vp0_2, .int .i64 p0_3, vp0_4]] G := H12.calledN (Rs := []) H17
  refine XL_q rfl (qt_fieldAddr uf32 fi32_0 nz29 rfl) rfl rfl ?_
  have H22 : Holds (([] : List Res).flatMap Res.own) w w16 [.bx b9 32 [.slice none 0 0, .slice none 0 0, .slice none 0 0, .int .i64 0, .slice none 0 0], dpR 84 (.pair (.leaf (.int .i64)) (.pair (.sl 103 (.leaf (.pair (.int .i64) (.int .i64)))) (.leaf (.int .i64)))) v18 cs19 x14 F20, .bx b5 32 [.slice none 0 0, .slice none 0 0, .slice none 0 0, .int .i64 0, .slice none 0 0], .bx b1 26 [vp0_0, vp0_1, vp0_2, .int .i64 p0_3, vp0_4]] G := H21.pull 1
  have V25 : Ctx w16 ([.bx b9 32 [.slice none 0 0, .slice none 0 0, .slice none 0 0, .int .i64 0, .slice none 0 0], .ro (.pair (.int .i64) (.pair (.slice (.pair (.int .i64) (.int .i64))) (.int .i64))) v18 x14, .bx b5 32 [.slice none 0 0, .slice none 0 0, .slice none 0 0, .int .i64 0, .slice none 0 0], .bx b1 26 [vp0_0, vp0_1, vp0_2, .int .i64 p0_3, vp0_4]] ++ G) := H22.viewG (Vw.c (Vw.dp (NsOk.self NsOk.nil) (Vw.c (Vw.c Vw.refl))))
  refine WL_store_bx H22 rfl il29 (V25.sliceCells (HasRo.has (HasRo.c (HasRo.hd)))) (V25.sliceOne (HasRo.has (HasRo.c (HasRo.hd)))) rfl rfl rfl (fun w23 H24 => ?_)
  have H26 : Holds (([] : List Res).flatMap Res.own) w w23 [.bx b9 32 [v18, .slice none 0 0, .slice none 0 0, .int .i64 0, .slice none 0 0], dpR 84 (.pair (.leaf (.int .i64)) (.pair (.sl 103 (.leaf (.pair (.int .i64) (.int .i64)))) (.leaf (.int .i64)))) v18 cs19 x14 F20, .bx b5 32 [.slice none 0 0, .slice none 0 0, .slice none 0 0, .int .i64 0, .slice none 0 0], .bx b1 26 [vp0_0, vp0_1, vp0_2, .int .i64 p0_3, vp0_4]] G := H24
  refine WL_nil_seq ?_
  refine WP_seq ?_
  refine WP_region ?_
  refine XL_q rfl (qt_fieldAddr uf26 fi26_1 nz23 rfl) rfl rfl ?_
  have hB27 : Bx w23 b1 26 [vp0_0, vp0_1, vp0_2, .int .i64 p0_3, vp0_4] := Holds.bx (H26.pull 3)
  refine XL_load_bx u23 rfl hB27 rfl rfl rfl rfl ?_
  obtain ⟨x28, hx29, h⟩ := bind_some h
  have V30 : Ctx w23 ([.bx b9 32 [v18, .slice none 0 0, .slice none 0 0, .int .i64 0, .slice none 0 0], .ro (.pair (.int .i64) (.pair (.slice (.pair (.int .i64) (.int .i64))) (.int .i64))) v18 x14, .bx b5 32 [.slice none 0 0, .slice none 0 0, .slice none 0 0, .int .i64 0, .slice none 0 0], .bx b1 26 [vp0_0, vp0_1, vp0_2, .int .i64 p0_3, vp0_4]] ++ G) := H26.viewG (Vw.c (Vw.dp (NsOk.self NsOk.nil) (Vw.c (Vw.c Vw.refl))))
  refine WL_call rfl rfl c32 (w_laws_toIntS w23 ([.bx b9 32 [v18, .slice none 0 0, .slice none 0 0, .int .i64 0, .slice none 0 0], .ro (.pair (.int .i64) (.pair (.slice (.pair (.int .i64) (.int .i64))) (.int .i64))) v18 x14, .bx b5 32 [.slice none 0 0, .slice none 0 0, .slice none 0 0, .int .i64 0, .slice none 0 0], .bx b1 26 [vp0_0, vp0_1, vp0_2, .int .i64 p0_3, vp0_4]] ++ G) vp0_1 p0_1 (hp0_1.c.c.c.c) x28 hx29 V30) (by rfl) ?_
  rintro _ w31 ⟨v33, rfl, H32⟩; refine ⟨_, rfl, ?_⟩
  have H34 : Holds (([] : List Res).flatMap Res.own) w w31 [.sl 3 (.int .i64) v33 x28, .bx b9 32 [v18, .slice none 0 0, .slice none 0 0, .int .i64 0, .slice none 0 0], dpR 84 (.pair (.leaf (.int .i64)) (.pair (.sl 103 (.leaf (.pair (.int .i64) (.int .i64)))) (.leaf (.int .i64)))) v18 cs19 x14 F20, .bx b5 32 [.slice none 0 0, .slice none 0 0, .slice none 0 0, .int .i64 0, .slice none 0 0], .bx b1 26 [vp0_0, vp0_1, vp0_2, .int .i64 p0_3, vp0_4]] G := H26.calledV (Rs := []) H32 (all_cons (Pure.sl rfl) all_nil)
  refine XL_q rfl (qt_fieldAddr uf32 fi32_1 nz23 rfl) rfl rfl ?_
  have H35 : Holds (([] : List Res).flatMap Res.own) w w31 [.bx b9 32 [v18, .slice none 0 0, .slice none 0 0, .int .i64 0, .slice none 0 0], .sl 3 (.int .i64) v33 x28, dpR 84 (.pair (.leaf (.int .i64)) (.pair (.sl 103 (.leaf (.pair (.int .i64) (.int .i64)))) (.leaf (.int .i64)))) v18 cs19 x14 F20, .bx b5 32 [.slice none 0 0, .slice none 0 0, .slice none 0 0, .int .i64 0, .slice none 0 0], .bx b1 26 [vp0_0, vp0_1, vp0_2, .int .i64 p0_3, vp0_4]] G := H34.pull 1
  have V38 : Ctx w31 ([.bx b9 32 [v18, .slice none 0 0, .slice none 0 0, .int .i64 0, .slice none 0 0], .sl 3 (.int .i64) v33 x28, .ro (.pair (.int .i64) (.pair (.slice (.pair (.int .i64) (.int .i64))) (.int .i64))) v18 x14, .bx b5 32 [.slice none 0 0, .slice none 0 0, .slice none 0 0, .int .i64 0, .slice none 0 0], .bx b1 26 [vp0_0, vp0_1, vp0_2, .int .i64 p0_3, vp0_4]] ++ G) := H35.viewG (Vw.c (Vw.c (Vw.dp (NsOk.self NsOk.nil) (Vw.c (Vw.c Vw.refl)))))
  refine WL_store_bx H35 rfl il23 (V38.sliceCells (Has.c (Has.hd))) (V38.sliceOne (Has.c (Has.hd))) rfl rfl rfl (fun w36 H37 => ?_)
  have H39 : Holds (([] : List Res).flatMap Res.own) w w36 [.bx b9 32 [v18, v33, .slice none 0 0, .int .i64 0, .slice none 0 0], .sl 3 (.int .i64) v33 x28, dpR 84 (.pair (.leaf (.int .i64)) (.pair (.sl 103 (.leaf (.pair (.int .i64) (.int .i64)))) (.leaf (.int .i64)))) v18 cs19 x14 F20, .bx b5 32 [.slice none 0 0, .slice none 0 0, .slice none 0 0, .int .i64 0, .slice none 0 0], .bx b1 26 [vp0_0, vp0_1, vp0_2, .int .i64 p0_3, vp0_4]] G := H37
  refine WL_nil_seq ?_
  refine WP_seq ?_
  refine WP_region ?_
  refine XL_q rfl (qt_fieldAddr uf26 fi26_2 nz23 rfl) rfl rfl ?_
  have hB40 : Bx w36 b1 26 [vp0_0, vp0_1, vp0_2, .int .i64 p0_3, vp0_4] := Holds.bx (H39.pull 4)
  refine XL_load_bx u23 rfl hB40 rfl rfl rfl rfl ?_
  obtain ⟨x41, hx42, h⟩ := bind_some h
  have V43 : Ctx w36 ([.bx b9 32 [v18, v33, .slice none 0 0, .int .i64 0, .slice none 0 0], .sl 3 (.int .i64) v33 x28, .ro (.pair (.int .i64) (.pair (.slice (.pair (.int .i64) (.int .i64))) (.int .i64))) v18 x14, .bx b5 32 [.slice none 0 0, .slice none 0 0, .slice none 0 0, .int .i64 0, .slice none 0 0], .bx b1 26 [vp0_0, vp0_1, vp0_2, .int .i64 p0_3, vp0_4]] ++ G) := H39.viewG (Vw.c (Vw.c (Vw.dp (NsOk.self NsOk.nil) (Vw.c (Vw.c Vw.refl)))))
  refine WL_call rfl rfl c32 (w_laws_toIntS w36 ([.bx b9 32 [v18, v33, .slice none 0 0, .int .i64 0, .slice none 0 0], .sl 3 (.int .i64) v33 x28, .ro (.pair (.int .i64) (.pair (.slice (.pair (.int .i64) (.int .i64))) (.int .i64))) v18 x14, .bx b5 32 [.slice none 0 0, .slice none 0 0, .slice none 0 0, .int .i64 0, .slice none 0 0], .bx b1 26 [vp0_0, vp0_1, vp0_2, .int .i64 p0_3, vp0_4]] ++ G) vp0_2 p0_2 (hp0_2.c.c.c.c.c) x41 hx42 V43) (by rfl) ?_
  rintro _ w44 ⟨v46, rfl, H45⟩; refine ⟨_, rfl, ?_⟩
  have H47 : Holds (([] : List Res).flatMap Res.own) w w44 [.sl 3 (.int .i64) v46 x41, .bx b9 32 [v18, v33, .slice none 0 0, .int .i64 0, .slice none 0 0], .sl 3 (.int .i64) v33 x28, dpR 84 (.pair (.leaf (.int .i64)) (.pair (.sl 103 (.leaf (.pair (.int .i64) (.int .i64)))) (.leaf (.int .i64)))) v18 cs19 x14 F20, .bx b5 32 [.slice none 0 0, .slice none 0 0, .slice none 0 0, .int .i64 0, .slice none 0 0], .bx b1 26 [vp0_0, vp0_1, vp0_2, .int .i64 p0_3, vp0_4]] G := H39.calledV (Rs := []) H45 (all_cons (Pure.sl rfl) all_nil)
  refine XL_q rfl (qt_fieldAddr uf32 fi32_2 nz23 rfl) rfl rfl ?_
  have H48 : Holds (([] : List Res).flatMap Res.own) w w44 [.bx b9 32 [v18, v33, .slice none 0 0, .int .i64 0, .slice none 0 0], .sl 3 (.int .i64) v46 x41, .sl 3 (.int .i64) v33 x28, dpR 84 (.pair (.leaf (.int .i64)) (.pair (.sl 103 (.leaf (.pair (.int .i64) (.int .i64)))) (.leaf (.int .i64)))) v18 cs19 x14 F20, .bx b5 32 [.slice none 0 0, .slice none 0 0, .slice none 0 0, .int .i64 0, .slice none 0 0], .bx b1 26 [vp0_0, vp0_1, vp0_2, .int .i64 p0_3, vp0_4]] G := H47.pull 1
  have V51 : Ctx w44 ([.bx b9 32 [v18, v33, .slice none 0 0, .int .i64 0, .slice none 0 0], .sl 3 (.int .i64) v46 x41, .sl 3 (.int .i64) v33 x28, .ro (.pair (.int .i64) (.pair (.slice (.pair (.int .i64) (.int .i64))) (.int .i64))) v18 x14, .bx b5 32 [.slice none 0 0, .slice none 0 0, .slice none 0 0, .int .i64 0, .slice none 0 0], .bx b1 26 [vp0_0, vp0_1, vp0_2, .int .i64 p0_3, vp0_4]] ++ G) := H48.viewG (Vw.c (Vw.c (Vw.c (Vw.dp (NsOk.self NsOk.nil) (Vw.c (Vw.c Vw.refl))))))
  refine WL_store_bx H48 rfl il23 (V51.sliceCells (Has.c (Has.hd))) (V51.sliceOne (Has.c (Has.hd))) rfl rfl rfl (fun w49 H50 => ?_)
  have H52 : Holds (([] : List Res).flatMap Res.own) w w49 [.bx b9 32 [v18, v33, v46, .int .i64 0, .slice none 0 0], .sl 3 (.int .i64) v46 x41, .sl 3 (.int .i64) v33 x28, dpR 84 (.pair (.leaf (.int .i64)) (.pair (.sl 103 (.leaf (.pair (.int .i64) (.int .i64)))) (.leaf (.int .i64)))) v18 cs19 x14 F20, .bx b5 32 [.slice none 0 0, .slice none 0 0, .slice none 0 0, .int .i64 0, .slice none 0 0], .bx b1 26 [vp0_0, vp0_1, vp0_2, .int .i64 p0_3, vp0_4]] G := H50
  refine WL_nil_seq ?_
  refine WP_seq ?_
  refine WP_region ?_
  refine XL_q rfl (qt_fieldAddr uf26 fi26_3 nz3 rfl) rfl rfl ?_
  have hB53 : Bx w49 b1 26 [vp0_0, vp0_1, vp0_2, .int .i64 p0_3, vp0_4] := Holds.bx (H52.pull 5)
  refine XL_load_bx u3 rfl hB53 rfl rfl rfl rfl ?_
  refine XL_q rfl (qt_fieldAddr uf32 fi32_3 nz3 rfl) rfl rfl ?_
  refine WL_store_bx H52 rfl il3 rfl rfl rfl rfl rfl (fun w54 H55 => ?_)
  have H56 : Holds (([] : List Res).flatMap Res.own) w w54 [.bx b9 32 [v18, v33, v46, .int .i64 p0_3, .slice none 0 0], .sl 3 (.int .i64) v46 x41, .sl 3 (.int .i64) v33 x28, dpR 84 (.pair (.leaf (.int .i64)) (.pair (.sl 103 (.leaf (.pair (.int .i64) (.int .i64)))) (.leaf (.int .i64)))) v18 cs19 x14 F20, .bx b5 32 [.slice none 0 0, .slice none 0 0, .slice none 0 0, .int .i64 0, .slice none 0 0], .bx b1 26 [vp0_0, vp0_1, vp0_2, .int .i64 p0_3, vp0_4]] G := H55
  refine WL_nil_seq ?_
  refine WP_seq ?_
  refine WP_region ?_
  refine XL_q rfl (qt_fieldAddr uf26 fi26_4 nz24 rfl) rfl rfl ?_
  have hB57 : Bx w54 b1 26 [vp0_0, vp0_1, vp0_2, .int .i64 p0_3, vp0_4] := Holds.bx (H56.pull 5)
  refine XL_load_bx u24 rfl hB57 rfl rfl rfl rfl ?_
  obtain ⟨x58, hx59, h⟩ := bind_some h
  have V60 : Ctx w54 ([.bx b9 32 [v18, v33, v46, .int .i64 p0_3, .slice none 0 0], .sl 3 (.int .i64) v46 x41, .sl 3 (.int .i64) v33 x28, .ro (.pair (.int .i64) (.pair (.slice (.pair (.int .i64) (.int .i64))) (.int .i64))) v18 x14, .bx b5 32 [.slice none 0 0, .slice none 0 0, .slice none 0 0, .int .i64 0, .slice none 0 0], .bx b1 26 [vp0_0, vp0_1, vp0_2, .int .i64 p0_3, vp0_4]] ++ G) := H56.viewG (Vw.c (Vw.c (Vw.c (Vw.dp (NsOk.self NsOk.nil) (Vw.c (Vw.c Vw.refl))))))
  refine WL_call rfl rfl c33 (w_laws_toTableS w54 ([.bx b9 32 [v18, v33, v46, .int .i64 p0_3, .slice none 0 0], .sl 3 (.int .i64) v46 x41, .sl 3 (.int .i64) v33 x28, .ro (.pair (.int .i64) (.pair (.slice (.pair (.int .i64) (.int .i64))) (.int .i64))) v18 x14, .bx b5 32 [.slice none 0 0, .slice none 0 0, .slice none 0 0, .int .i64 0, .slice none 0 0], .bx b1 26 [vp0_0, vp0_1, vp0_2, .int .i64 p0_3, vp0_4]] ++ G) vp0_4 p0_4 (hp0_4.c.c.c.c.c.c) x58 hx59 V60) (by rfl) ?_
  rintro _ w61 ⟨v63, cs64, F65, rfl, H62⟩; refine ⟨_, rfl, ?_⟩
  have H66 : Holds (([] : List Res).flatMap Res.own) w w61 [dpR 50 (.pair (.leaf (.int .i64)) (.pair (.sl 63 (.leaf (.pair (.int .i64) (.int .i64)))) (.sl 3 (.leaf (.int .i64))))) v63 cs64 x58 F65, .bx b9 32 [v18, v33, v46, .int .i64 p0_3, .slice none 0 0], .sl 3 (.int .i64) v46 x41, .sl 3 (.int .i64) v33 x28, dpR 84 (.pair (.leaf (.int .i64)) (.pair (.sl 103 (.leaf (.pair (.int .i64) (.int .i64)))) (.leaf (.int .i64)))) v18 cs19 x14 F20, .bx b5 32 [.slice none 0 0, .slice none 0 0, .slice none 0 0, .int .i64 0, .slice none 0 0], .bx b1 26 [vp0_0, vp0_1, vp0_2, .int .i64 p0_3, vp0_4]] G := H56.calledV (Rs := []) H62 (all_cons Pure.dp all_nil)
  refine XL_q rfl (qt_fieldAddr uf32 fi32_4 nz30 rfl) rfl rfl ?_
  have H67 : Holds (([] : List Res).flatMap Res.own) w w61 [.bx b9 32 [v18, v33, v46, .int .i64 p0_3, .slice none 0 0], dpR 50 (.pair (.leaf (.int .i64)) (.pair (.sl 63 (.leaf (.pair (.int .i64) (.int .i64)))) (.sl 3 (.leaf (.int .i64))))) v63 cs64 x58 F65, .sl 3 (.int .i64) v46 x41, .sl 3 (.int .i64) v33 x28, dpR 84 (.pair (.leaf (.int .i64)) (.pair (.sl 103 (.leaf (.pair (.int .i64) (.int .i64)))) (.leaf (.int .i64)))) v18 cs19 x14 F20, .bx b5 32 [.slice none 0 0, .slice none 0 0, .slice none 0 0, .int .i64 0, .slice none 0 0], .bx b1 26 [vp0_0, vp0_1, vp0_2, .int .i64 p0_3, vp0_4]] G := H66.pull 1
  have V70 : Ctx w61 ([.bx b9 32 [v18, v33, v46, .int .i64 p0_3, .slice none 0 0], .ro (.pair (.int .i64) (.pair (.slice (.pair (.int .i64) (.int .i64))) (.slice (.int .i64)))) v63 x58, .sl 3 (.int .i64) v46 x41, .sl 3 (.int .i64) v33 x28, .ro (.pair (.int .i64) (.pair (.slice (.pair (.int .i64) (.int .i64))) (.int .i64))) v18 x14, .bx b5 32 [.slice none 0 0, .slice none 0 0, .slice none 0 0, .int .i64 0, .slice none 0 0], .bx b1 26 [vp0_0, vp0_1, vp0_2, .int .i64 p0_3, vp0_4]] ++ G) := H67.viewG (Vw.c (Vw.dp (NsOk.self NsOk.nil) (Vw.c (Vw.c (Vw.dp (NsOk.self NsOk.nil) (Vw.c (Vw.c Vw.refl)))))))
  refine WL_store_bx H67 rfl il30 (V70.sliceCells (HasRo.has (HasRo.c (HasRo.hd)))) (V70.sliceOne (HasRo.has (HasRo.c (HasRo.hd)))) rfl rfl rfl (fun w68 H69 => ?_)
  have H71 : Holds (([] : List Res).flatMap Res.own) w w68 [.bx b9 32 [v18, v33, v46, .int .i64 p0_3, v63], dpR 50 (.pair (.leaf (.int .i64)) (.pair (.sl 63 (.leaf (.pair (.int .i64) (.int .i64)))) (.sl 3 (.leaf (.int .i64))))) v63 cs64 x58 F65, .sl 3 (.int .i64) v46 x41, .sl 3 (.int .i64) v33 x28, dpR 84 (.pair (.leaf (.int .i64)) (.pair (.sl 103 (.leaf (.pair (.int .i64) (.int .i64)))) (.leaf (.int .i64)))) v18 cs19 x14 F20, .bx b5 32 [.slice none 0 0, .slice none 0 0, .slice none 0 0, .int .i64 0, .slice none 0 0], .bx b1 26 [vp0_0, vp0_1, vp0_2, .int .i64 p0_3, vp0_4]] G := H69
  refine WL_nil_seq ?_
  refine WP_seq ?_
  refine WP_region ?_
  have hB72 : Bx w68 b9 32 [v18, v33, v46, .int .i64 p0_3, v63] := Holds.bx (H71.pull 0)
  refine XL_load_bxA (cs := [v18, v33, v46, .int .i64 p0_3, v63]) us32 uo32 il32 hB72 rfl rfl rfl ?_
  change XL _ _ _ _ _ ((23, .agg #[v18, v33, v46, .int .i64 p0_3, v63]) :: _) _
  have H73 : Holds (([] : List Res).flatMap Res.own) w w68 [.bx b5 32 [.slice none 0 0, .slice none 0 0, .slice none 0 0, .int .i64 0, .slice none 0 0], .bx b9 32 [v18, v33, v46, .int .i64 p0_3, v63], dpR 50 (.pair (.leaf (.int .i64)) (.pair (.sl 63 (.leaf (.pair (.int .i64) (.int .i64)))) (.sl 3 (.leaf (.int .i64))))) v63 cs64 x58 F65, .sl 3 (.int .i64) v46 x41, .sl 3 (.int .i64) v33 x28, dpR 84 (.pair (.leaf (.int .i64)) (.pair (.sl 103 (.leaf (.pair (.int .i64) (.int .i64)))) (.leaf (.int .i64)))) v18 cs19 x14 F20, .bx b1 26 [vp0_0, vp0_1, vp0_2, .int .i64 p0_3, vp0_4]] G := H71.pull 5
  have V76 : Ctx w68 ([.bx b5 32 [.slice none 0 0, .slice none 0 0, .slice none 0 0, .int .i64 0, .slice none 0 0], .bx b9 32 [v18, v33, v46, .int .i64 p0_3, v63], .ro (.pair (.int .i64) (.pair (.slice (.pair (.int .i64) (.int .i64))) (.slice (.int .i64)))) v63 x58, .sl 3 (.int .i64) v46 x41, .sl 3 (.int .i64) v33 x28, .ro (.pair (.int .i64) (.pair (.slice (.pair (.int .i64) (.int .i64))) (.int .i64))) v18 x14, .bx b1 26 [vp0_0, vp0_1, vp0_2, .int .i64 p0_3, vp0_4]] ++ G) := H73.viewG (Vw.c (Vw.c (Vw.dp (NsOk.self NsOk.nil) (Vw.c (Vw.c (Vw.dp (NsOk.self NsOk.nil) (Vw.c Vw.refl)))))))
  refine WL_store_bxA (cs' := [v18, v33, v46, .int .i64 p0_3, v63]) H73 rfl il32 rfl (allOne (V76.sliceOne (HasRo.has (HasRo.c (HasRo.c (HasRo.c (HasRo.c (HasRo.c (HasRo.hd)))))))) (allOne (V76.sliceOne (Has.c (Has.c (Has.c (Has.c (Has.hd)))))) (allOne (V76.sliceOne (Has.c (Has.c (Has.c (Has.hd))))) (allOne rfl (allOne (V76.sliceOne (HasRo.has (HasRo.c (HasRo.c (HasRo.hd))))) rfl))))) rfl rfl rfl (fun w74 H75 => ?_)
  have H77 : Holds (([] : List Res).flatMap Res.own) w w74 [.bx b5 32 [v18, v33, v46, .int .i64 p0_3, v63], .bx b9 32 [v18, v33, v46, .int .i64 p0_3, v63], dpR 50 (.pair (.leaf (.int .i64)) (.pair (.sl 63 (.leaf (.pair (.int .i64) (.int .i64)))) (.sl 3 (.leaf (.int .i64))))) v63 cs64 x58 F65, .sl 3 (.int .i64) v46 x41, .sl 3 (.int .i64) v33 x28, dpR 84 (.pair (.leaf (.int .i64)) (.pair (.sl 103 (.leaf (.pair (.int .i64) (.int .i64)))) (.leaf (.int .i64)))) v18 cs19 x14 F20, .bx b1 26 [vp0_0, vp0_1, vp0_2, .int .i64 p0_3, vp0_4]] G := H75
  refine WL_nil_seq ?_
  refine WP_ret fun a ha => ?_
  obtain rfl := Option.some.inj h
  have hB78 : Bx w74 b5 32 [v18, v33, v46, .int .i64 p0_3, v63] := Holds.bx (H77.pull 0)
  have H79 : Holds (([] : List Res).flatMap Res.own) w w74 [dpR 84 (.pair (.leaf (.int .i64)) (.pair (.sl 103 (.leaf (.pair (.int .i64) (.int .i64)))) (.leaf (.int .i64)))) v18 cs19 x14 F20, .sl 3 (.int .i64) v33 x28, .sl 3 (.int .i64) v46 x41, dpR 50 (.pair (.leaf (.int .i64)) (.pair (.sl 63 (.leaf (.pair (.int .i64) (.int .i64)))) (.sl 3 (.leaf (.int .i64))))) v63 cs64 x58 F65] G := ((((((H77.cut 0).cut 0).cut 4).pull 1).pull 2).pull 3)
  exact retc rfl ha rfl (run_loadVar_bx (cs := [v18, v33, v46, .int .i64 p0_3, v63]) us32 uo32 il32 hB78) ⟨v18, cs19, F20, v33, v46, v63, cs64, F65, rfl, H79⟩
theorem w_spec_l1In (w : World) (G : List Res) (p0 : Int) (p1 : Int) (p2 : Int) (r : Bool) (h : spec_l1InS p0 p1 p2 = some r) (H : Ctx w G) : Calls Try.prog 27 #[.int .i64 p0, .int .i64 p1, .int .i64 p2] w fun e w' => e = .returned (.bool r) ∧ Holds (([] : List Res).flatMap Res.own) w w' [] G := by
  have H : Holds (([] : List Res).flatMap Res.own) w w [] G := Holds.startN H
  refine calls_enter (args := [.int .i64 p0, .int .i64 p1, .int .i64 p2]) (n := 15) Try.func27 rfl rfl rfl ?_
  unfold spec_l1InS at h
  refine WP_seq ?_
  refine WP_region ?_
  refine XL_q rfl (qt_assign rfl) rfl rfl ?_
  refine WL_nil_seq ?_
  refine WP_seq ?_
  refine WP_region ?_
  refine XL_q rfl (qt_move rfl) rfl rfl ?_
  refine XL_q rfl (qt_move rfl) rfl rfl ?_
  refine XL_q rfl (qt_geq rfl rfl) rfl rfl ?_
  refine XL_q rfl (qt_move rfl) rfl rfl ?_
  refine XL_join 4 14 (.bool ((decide (p0 ≥ p1)) && (decide (p0 ≤ p2)))) ?_ (fun md hmd hk => ?_)
  rotate_left
  · obtain ⟨Q, rfl⟩ := Md.seq_of hmd
    rcases btf (decide (p0 ≥ p1)) with hc1 | hc1
    · skip
      refine XL_q (w_take rfl hc1) (qt_move rfl) rfl rfl ?_
      refine XL_q (w_take rfl hc1) (qt_move rfl) rfl rfl ?_
      refine XL_q (w_take rfl hc1) (qt_leq rfl rfl) rfl rfl ?_
      refine XL_q rfl (qt_pickT rfl hc1 rfl) rfl rfl ?_
      exact hk _ (Cov.same (by rw [hc1]; rfl) (Cov.fresh rfl (Cov.fresh rfl (Cov.fresh rfl (Cov.refl)))))
    · skip
      refine XL_skip (w_skip rfl hc1) rfl rfl ?_
      refine XL_skip (w_skip rfl hc1) rfl rfl ?_
      refine XL_skip (w_skip rfl hc1) rfl rfl ?_
      refine XL_q rfl (qt_pickF rfl hc1 rfl) rfl rfl ?_
      exact hk _ (Cov.same (by rw [hc1]; rfl) (Cov.fresh rfl (Cov.fresh rfl (Cov.fresh rfl (Cov.refl)))))
  refine XL_q rfl (qt_assign rfl) rfl rfl ?_
  refine WL_nil_seq ?_
  refine WP_ret fun a ha => ?_
  obtain rfl := Option.some.inj h
  exact ret1 rfl ha rfl ⟨rfl, H⟩
theorem w_spec_l1Item (w : World) (G : List Res) (p0_0 : Int) (vp0_1 : Value) (p0_1 : List (Int × Int)) (hp0_1 : Has G (.pair (.int .i64) (.int .i64)) vp0_1 p0_1) (p0_2 : Int) (p1 : Int) (r : Bool) (h : spec_l1ItemS p0_0 p0_1 p0_2 p1 = some r) (H : Ctx w G) : Calls Try.prog 70 #[.agg #[.int .i64 p0_0, vp0_1, .int .i64 p0_2], .int .i64 p1] w fun e w' => e = .returned (.bool r) ∧ Holds (([] : List Res).flatMap Res.own) w w' [] G := by
  have H : Holds (([] : List Res).flatMap Res.own) w w [] G := Holds.startN H
  refine calls_enter (args := [.agg #[.int .i64 p0_0, vp0_1, .int .i64 p0_2], .int .i64 p1]) (n := 77) Try.func70 rfl rfl rfl ?_
  unfold spec_l1ItemS at h
  refine WP_seq ?_
  refine WP_region ?_
  refine WL_box (cs := [.int .i64 p0_0, vp0_1, .int .i64 p0_2]) H rfl rfl rfl rfl (fun b1 w2 H3 => ?_)
  have H4 : Holds (([] : List Res).flatMap Res.own) w w2 [.bx b1 84 [.int .i64 p0_0, vp0_1, .int .i64 p0_2]] G := H3
  refine XL_q rfl (qt_assign rfl) rfl rfl ?_
  refine WL_nil_seq ?_
  refine WP_seq ?_
  refine WP_seq ?_
  refine WP_region ?_
  refine XL_q rfl (qt_assign rfl) rfl rfl ?_
  refine WL_nil_seq ?_
  refine WP_block ?_
  obtain ⟨o6, ho7, h⟩ := bind_some h
  refine fun a8 ha9 => wp_loop_fix (I := fun s a w2 => match s with | s5 => (Fr a 77 [(1, .int .i64 p1), (2, .pointer (some ⟨b1, 0, none⟩)), (5, .int .i64 s5)] ∧ Holds (([] : List Res).flatMap Res.own) w w2 [.bx b1 84 [.int .i64 p0_0, vp0_1, .int .i64 p0_2]] G)) (O := fun o e a w2 => match o with | .inl _ => e = .exit 0 ∧ (Fr a 77 [(2, .pointer (some ⟨b1, 0, none⟩))] ∧ Holds (([] : List Res).flatMap Res.own) w w2 [.bx b1 84 [.int .i64 p0_0, vp0_1, .int .i64 p0_2]] G) | .inr q0 => e = .ret ∧ (Fr a 77 [(4, .bool q0)] ∧ Holds (([] : List Res).flatMap Res.own) w w2 [] G)) ho7 ?_ ?_ ?_
  · exact ⟨ha9.sub ⟨rfl, rfl, rfl, trivial⟩, H4⟩
  · clear ha9
    intro s o12 a w10 hs11 hI13
    obtain ⟨s5, rfl⟩ : ∃ z, z = s := ⟨s, rfl⟩
    obtain ⟨ha, H14⟩ := hI13
    refine WP.app ?_ ha
    clear ha
    refine WP_seq ?_
    refine WP_seq ?_
    refine WP_region ?_
    refine XL_q rfl (qt_move rfl) rfl rfl ?_
    refine XL_q rfl (qt_fieldAddr uf84 fi84_1 nz82 rfl) rfl rfl ?_
    have hB15 : Bx w10 b1 84 [.int .i64 p0_0, vp0_1, .int .i64 p0_2] := Holds.bx (H14.pull 0)
    refine XL_load_bx u82 rfl hB15 rfl rfl rfl rfl ?_
    refine XL_lenH H14.ctx (t := (.pair (.int .i64) (.int .i64))) (hp0_1.c) u82 rfl rfl rfl ?_
    refine XL_q rfl (qt_lss rfl rfl) rfl rfl ?_
    refine WL_nil_seq ?_
    refine WP_cond rfl (fun hc16 => ?_) (fun hc16 => ?_)
    · have hs11 := if_t hc16 hs11
      refine WP_skip_seq ?_
      refine WP_seq ?_
      refine WP_block ?_
      refine WP_seq ?_
      refine WP_quiet (by kernel_rfl) (by kernel_rfl) ?_
      refine XL_q rfl (qt_fieldAddr uf84 fi84_1 nz82 rfl) rfl rfl ?_
      have hB17 : Bx w10 b1 84 [.int .i64 p0_0, vp0_1, .int .i64 p0_2] := Holds.bx (H14.pull 0)
      refine XL_load_bx u82 rfl hB17 rfl rfl rfl rfl ?_
      refine XL_q rfl (qt_move rfl) rfl rfl ?_
      obtain ⟨x18, hx19, hs11⟩ := bind_some hs11
      refine XL_indexH H14.ctx (hp0_1.c) hx19 u82 i103 rfl rfl rfl rfl (fun b20 off21 cap22 hv23 => ?_)
      refine XL_q rfl (qt_fieldAddr uf103 fi103_0 nz3 rfl) rfl rfl ?_
      obtain ⟨F24, hat25, hdup26⟩ := H14.at (hp0_1.c) hx19 hv23
      obtain ⟨F27, hat28, hin29⟩ := AtP.fst hat25
      refine XL_load_int (k := .i64) u3 rfl hat28 rfl rfl rfl ?_
      refine XL_q rfl (qt_move rfl) rfl rfl ?_
      refine XL_q rfl (qt_sub rfl rfl) rfl rfl ?_
      obtain ⟨x30, hx31, hs11⟩ := bind_some hs11
      refine QL_call rfl rfl c27 (fun w' hb => (w_spec_l1In w' ([.bx b1 84 [.int .i64 p0_0, vp0_1, .int .i64 p0_2]] ++ G) x18.1 0 (IntKind.wrap .i64 (p1 - 1)) x30 hx31 (H14.grow hb).ctx).mono fun e w'' hK => ⟨hK.1, hK.2.bel⟩) (by rfl) ?_
      refine XL_q rfl (qt_not rfl) rfl rfl ?_
      refine XL_q rfl (qt_move rfl) rfl rfl ?_
      obtain ⟨b32, hg33, hs11⟩ := bind_some hs11
      refine XL_join 9 32 (.bool b32) ?_ (fun md hmd hk => ?_)
      rotate_left
      · obtain ⟨K, rfl⟩ := Md.quiet_of hmd
        rcases btf (!x30) with hc34 | hc34
        · skip
          refine XL_skip (w_skip rfl hc34) rfl rfl ?_
          refine XL_skip (w_skip rfl hc34) rfl rfl ?_
          refine XL_skip (w_skip rfl hc34) rfl rfl ?_
          refine XL_skip (w_skip rfl hc34) rfl rfl ?_
          refine XL_skip (w_skip rfl hc34) rfl rfl ?_
          refine XL_skip (w_skip rfl hc34) rfl rfl ?_
          refine XL_skip (w_skip rfl hc34) rfl rfl ?_
          refine XL_skip (w_skip rfl hc34) rfl rfl ?_
          refine XL_q rfl (qt_pickT rfl hc34 rfl) rfl rfl ?_
          exact hk _ (Cov.same (vb (if_t hc34 hg33)) (Cov.fresh rfl (Cov.fresh rfl (Cov.fresh rfl (Cov.fresh rfl (Cov.fresh rfl (Cov.fresh rfl (Cov.fresh rfl (Cov.fresh rfl (Cov.refl))))))))))
        · skip
          have hg33 := if_f hc34 hg33
          refine XL_q (w_take rfl hc34) (qt_fieldAddr uf84 fi84_1 nz82 rfl) rfl rfl ?_
          have hB35 : Bx w10 b1 84 [.int .i64 p0_0, vp0_1, .int .i64 p0_2] := Holds.bx (H14.pull 0)
          refine XL_load_bx u82 rfl hB35 rfl (w_take rfl hc34) rfl rfl ?_
          refine XL_q (w_take rfl hc34) (qt_move rfl) rfl rfl ?_
          obtain ⟨x36, hx37, hg33⟩ := bind_some hg33
          refine XL_indexH H14.ctx (hp0_1.c) hx37 u82 i103 (w_take rfl hc34) rfl rfl rfl (fun b38 off39 cap40 hv41 => ?_)
          refine XL_q (w_take rfl hc34) (qt_fieldAddr uf103 fi103_1 nz3 rfl) rfl rfl ?_
          obtain ⟨F42, hat43, hdup44⟩ := H14.at (hp0_1.c) hx37 hv41
          obtain ⟨F45, hat46, hin47⟩ := AtP.snd hat43
          refine XL_load_int (k := .i64) u3 rfl hat46 (w_take rfl hc34) rfl rfl ?_
          obtain ⟨x48, hx49, hg33⟩ := bind_some hg33
          refine QL_call (w_take rfl hc34) rfl c27 (fun w' hb => (w_spec_l1In w' ([.bx b1 84 [.int .i64 p0_0, vp0_1, .int .i64 p0_2]] ++ G) x36.2 1 6 x48 hx49 (H14.grow hb).ctx).mono fun e w'' hK => ⟨hK.1, hK.2.bel⟩) (by rfl) ?_
          refine XL_q (w_take rfl hc34) (qt_not rfl) rfl rfl ?_
          refine XL_q rfl (qt_pickF rfl hc34 rfl) rfl rfl ?_
          exact hk _ (Cov.same (vb hg33) (Cov.fresh rfl (Cov.fresh rfl (Cov.fresh rfl (Cov.fresh rfl (Cov.fresh rfl (Cov.fresh rfl (Cov.fresh rfl (Cov.fresh rfl (Cov.refl))))))))))
      refine XL_q rfl (qt_move rfl) rfl rfl ?_
      obtain ⟨b50, hg51, hs11⟩ := bind_some hs11
      refine XL_join 19 52 (.bool b50) ?_ (fun md hmd hk => ?_)
      rotate_left
      · obtain ⟨K, rfl⟩ := Md.quiet_of hmd
        rcases btf b32 with hc52 | hc52
        · skip
          refine XL_skip (w_skip rfl hc52) rfl rfl ?_
          refine XL_skip (w_skip rfl hc52) rfl rfl ?_
          refine XL_skip (w_skip rfl hc52) rfl rfl ?_
          refine XL_skip rfl rfl rfl ?_
          refine XL_skip rfl rfl rfl ?_
          refine XL_skip rfl rfl rfl ?_
          refine XL_skip rfl rfl rfl ?_
          refine XL_skip rfl rfl rfl ?_
          refine XL_skip rfl rfl rfl ?_
          refine XL_skip rfl rfl rfl ?_
          refine XL_skip rfl rfl rfl ?_
          refine XL_skip rfl rfl rfl ?_
          refine XL_skip rfl rfl rfl ?_
          refine XL_skip rfl rfl rfl ?_
          refine XL_skip rfl rfl rfl ?_
          refine XL_skip rfl rfl rfl ?_
          refine XL_skip rfl rfl rfl ?_
          refine XL_skip (w_skip rfl hc52) rfl rfl ?_
          refine XL_q rfl (qt_pickT rfl hc52 rfl) rfl rfl ?_
          exact hk _ (Cov.same (vb (if_t hc52 hg51)) (Cov.fresh rfl (Cov.fresh rfl (Cov.fresh rfl (Cov.fresh rfl (Cov.fresh rfl (Cov.fresh rfl (Cov.fresh rfl (Cov.fresh rfl (Cov.fresh rfl (Cov.fresh rfl (Cov.fresh rfl (Cov.fresh rfl (Cov.fresh rfl (Cov.fresh rfl (Cov.fresh rfl (Cov.fresh rfl (Cov.fresh rfl (Cov.fresh rfl (Cov.refl))))))))))))))))))))
        · skip
          have hg51 := if_f hc52 hg51
          refine XL_q (w_take rfl hc52) (qt_move rfl) rfl rfl ?_
          refine XL_q (w_take rfl hc52) (qt_gtr rfl rfl) rfl rfl ?_
          refine XL_q (w_take rfl hc52) (qt_move rfl) rfl rfl ?_
          obtain ⟨b53, hg54, hg51⟩ := bind_some hg51
          refine XL_join 15 51 (.bool b53) ?_ (fun md hmd hk => ?_)
          rotate_left
          · obtain ⟨K, rfl⟩ := Md.quiet_of hmd
            rcases btf (decide (s5 > 0)) with hc55 | hc55
            · skip
              have hg54 := if_t hc55 hg54
              refine XL_q (w_take rfl hc55) (qt_fieldAddr uf84 fi84_1 nz82 rfl) rfl rfl ?_
              have hB56 : Bx w10 b1 84 [.int .i64 p0_0, vp0_1, .int .i64 p0_2] := Holds.bx (H14.pull 0)
              refine XL_load_bx u82 rfl hB56 rfl (w_take rfl hc55) rfl rfl ?_
              refine XL_q (w_take rfl hc55) (qt_move rfl) rfl rfl ?_
              refine XL_q (w_take rfl hc55) (qt_sub rfl rfl) rfl rfl ?_
              obtain ⟨x57, hx58, hg54⟩ := bind_some hg54
              refine XL_indexH H14.ctx (hp0_1.c) hx58 u82 i103 (w_take rfl hc55) rfl rfl rfl (fun b59 off60 cap61 hv62 => ?_)
              refine XL_q (w_take rfl hc55) (qt_fieldAddr uf103 fi103_0 nz3 rfl) rfl rfl ?_
              obtain ⟨F63, hat64, hdup65⟩ := H14.at (hp0_1.c) hx58 hv62
              obtain ⟨F66, hat67, hin68⟩ := AtP.fst hat64
              refine XL_load_int (k := .i64) u3 rfl hat67 (w_take rfl hc55) rfl rfl ?_
              refine XL_q (w_take rfl hc55) (qt_fieldAddr uf84 fi84_1 nz82 rfl) rfl rfl ?_
              have hB69 : Bx w10 b1 84 [.int .i64 p0_0, vp0_1, .int .i64 p0_2] := Holds.bx (H14.pull 0)
              refine XL_load_bx u82 rfl hB69 rfl (w_take rfl hc55) rfl rfl ?_
              refine XL_q (w_take rfl hc55) (qt_move rfl) rfl rfl ?_
              obtain ⟨x70, hx71, hg54⟩ := bind_some hg54
              refine XL_indexH H14.ctx (hp0_1.c) hx71 u82 i103 (w_take rfl hc55) rfl rfl rfl (fun b72 off73 cap74 hv75 => ?_)
              refine XL_q (w_take rfl hc55) (qt_fieldAddr uf103 fi103_0 nz3 rfl) rfl rfl ?_
              obtain ⟨F76, hat77, hdup78⟩ := H14.at (hp0_1.c) hx71 hv75
              obtain ⟨F79, hat80, hin81⟩ := AtP.fst hat77
              refine XL_load_int (k := .i64) u3 rfl hat80 (w_take rfl hc55) rfl rfl ?_
              refine XL_q (w_take rfl hc55) (qt_geq rfl rfl) rfl rfl ?_
              refine XL_q (w_take rfl hc52) (qt_pickT rfl hc55 rfl) rfl rfl ?_
              exact hk _ (Cov.same (vb hg54) (Cov.fresh rfl (Cov.fresh rfl (Cov.fresh rfl (Cov.fresh rfl (Cov.fresh rfl (Cov.fresh rfl (Cov.fresh rfl (Cov.fresh rfl (Cov.fresh rfl (Cov.fresh rfl (Cov.fresh rfl (Cov.fresh rfl (Cov.fresh rfl (Cov.fresh rfl (Cov.refl))))))))))))))))
            · skip
              refine XL_skip (w_skip rfl hc55) rfl rfl ?_
              refine XL_skip (w_skip rfl hc55) rfl rfl ?_
              refine XL_skip (w_skip rfl hc55) rfl rfl ?_
              refine XL_skip (w_skip rfl hc55) rfl rfl ?_
              refine XL_skip (w_skip rfl hc55) rfl rfl ?_
              refine XL_skip (w_skip rfl hc55) rfl rfl ?_
              refine XL_skip (w_skip rfl hc55) rfl rfl ?_
              refine XL_skip (w_skip rfl hc55) rfl rfl ?_
              refine XL_skip (w_skip rfl hc55) rfl rfl ?_
              refine XL_skip (w_skip rfl hc55) rfl rfl ?_
              refine XL_skip (w_skip rfl hc55) rfl rfl ?_
              refine XL_skip (w_skip rfl hc55) rfl rfl ?_
              refine XL_skip (w_skip rfl hc55) rfl rfl ?_
              refine XL_skip (w_skip rfl hc55) rfl rfl ?_
              refine XL_q (w_take rfl hc52) (qt_pickF rfl hc55 rfl) rfl rfl ?_
              exact hk _ (Cov.same (vb (if_f hc55 hg54)) (Cov.fresh rfl (Cov.fresh rfl (Cov.fresh rfl (Cov.fresh rfl (Cov.fresh rfl (Cov.fresh rfl (Cov.fresh rfl (Cov.fresh rfl (Cov.fresh rfl (Cov.fresh rfl (Cov.fresh rfl (Cov.fresh rfl (Cov.fresh rfl (Cov.fresh rfl (Cov.refl))))))))))))))))
          refine XL_q rfl (qt_pickF rfl hc52 rfl) rfl rfl ?_
          exact hk _ (Cov.same (vb hg51) (Cov.fresh rfl (Cov.fresh rfl (Cov.fresh rfl (Cov.fresh rfl (Cov.refl))))))
      refine QL_nil fun a ha w82 hb83 => ?_
      have H84 : Holds (([] : List Res).flatMap Res.own) w w82 [.bx b1 84 [.int .i64 p0_0, vp0_1, .int .i64 p0_2]] G := H14.grow hb83
      refine nrm_seq (WP.app ?_ ha)
      refine WP_cond rfl (fun hc85 => ?_) (fun hc85 => ?_)
      · have hs11 := if_t hc85 hs11
        refine WP_seq ?_
        refine WP_region ?_
        refine XL_q rfl (qt_assign rfl) rfl rfl ?_
        refine WL_nil_seq ?_
        refine WP_ret fun a ha => ?_
        obtain rfl := Option.some.inj hs11
        have H86 : Holds (([] : List Res).flatMap Res.own) w w82 [] G := (H84.cut 0)
        exact ret_block (ret_seq (⟨ret_ne, rfl, ha.sub ⟨rfl, trivial⟩, H86⟩))
      · have hs11 := if_f hc85 hs11
        refine WP_skip fun a ha => ?_
        refine nrm_block (nrm_seq (WP.app ?_ ha))
        refine WP_region ?_
        refine XL_q rfl (qt_move rfl) rfl rfl ?_
        refine XL_q rfl (qt_add rfl rfl) rfl rfl ?_
        refine XL_q rfl (qt_assign rfl) rfl rfl ?_
        refine WL_nil fun a ha => ?_
        obtain rfl := Option.some.inj hs11
        exact ⟨rfl, ha.sub ⟨rfl, rfl, rfl, trivial⟩, H84⟩
    · have hs11 := if_f hc16 hs11
      refine WP_exit fun a ha => ?_
      obtain rfl := Option.some.inj hs11
      exact exit_seq (⟨exit_ne, rfl, ha.sub ⟨rfl, trivial⟩, H14⟩)
  · intro e a8 w87 hO88
    rcases o6 with o6 | o6
    · skip
      obtain ⟨rfl, hO90⟩ := hO88
      obtain ⟨ha, H89⟩ := hO90
      refine exit_block_eq (nrm_seq (WP.app ?_ ha))
      refine WP_seq ?_
      refine WP_still ?_
      refine XL_q rfl (qt_fieldAddr uf84 fi84_0 nz3 rfl) rfl rfl ?_
      have hB91 : Bx w87 b1 84 [.int .i64 p0_0, vp0_1, .int .i64 p0_2] := Holds.bx (H89.pull 0)
      refine XL_load_bx u3 rfl hB91 rfl rfl rfl rfl ?_
      obtain ⟨x92, hx93, h⟩ := bind_some h
      refine QL_call rfl rfl c27 (fun w' hb => (w_spec_l1In w' ([.bx b1 84 [.int .i64 p0_0, vp0_1, .int .i64 p0_2]] ++ G) p0_0 0 6 x92 hx93 (H89.grow hb).ctx).mono fun e w'' hK => ⟨hK.1, hK.2.bel⟩) (by rfl) ?_
      refine XL_q rfl (qt_move rfl) rfl rfl ?_
      refine XL_join 5 61 (.bool (x92 && (decide ((List.length p0_1 : Int) ≤ 3)))) ?_ (fun md hmd hk => ?_)
      rotate_left
      · obtain ⟨K, rfl⟩ := Md.quiet_of hmd
        rcases btf x92 with hc94 | hc94
        · skip
          refine XL_q (w_take rfl hc94) (qt_fieldAddr uf84 fi84_1 nz82 rfl) rfl rfl ?_
          have hB95 : Bx w87 b1 84 [.int .i64 p0_0, vp0_1, .int .i64 p0_2] := Holds.bx (H89.pull 0)
          refine XL_load_bx u82 rfl hB95 rfl (w_take rfl hc94) rfl rfl ?_
          refine XL_lenH H89.ctx (t := (.pair (.int .i64) (.int .i64))) (hp0_1.c) u82 (w_take rfl hc94) rfl rfl ?_
          refine XL_q (w_take rfl hc94) (qt_leq rfl rfl) rfl rfl ?_
          refine XL_q rfl (qt_pickT rfl hc94 rfl) rfl rfl ?_
          exact hk _ (Cov.same (by rw [hc94]; rfl) (Cov.fresh rfl (Cov.fresh rfl (Cov.fresh rfl (Cov.fresh rfl (Cov.refl))))))
        · skip
          refine XL_skip (w_skip rfl hc94) rfl rfl ?_
          refine XL_skip (w_skip rfl hc94) rfl rfl ?_
          refine XL_skip (w_skip rfl hc94) rfl rfl ?_
          refine XL_skip (w_skip rfl hc94) rfl rfl ?_
          refine XL_q rfl (qt_pickF rfl hc94 rfl) rfl rfl ?_
          exact hk _ (Cov.same (by rw [hc94]; rfl) (Cov.fresh rfl (Cov.fresh rfl (Cov.fresh rfl (Cov.fresh rfl (Cov.refl))))))
      refine XL_q rfl (qt_move rfl) rfl rfl ?_
      refine XL_join 9 71 (.bool ((x92 && (decide ((List.length p0_1 : Int) ≤ 3))) && ((decide (p0_0 > 0)) == (decide ((List.length p0_1 : Int) > 0))))) ?_ (fun md hmd hk => ?_)
      rotate_left
      · obtain ⟨K, rfl⟩ := Md.quiet_of hmd
        rcases btf (x92 && (decide ((List.length p0_1 : Int) ≤ 3))) with hc96 | hc96
        · skip
          refine XL_q (w_take rfl hc96) (qt_fieldAddr uf84 fi84_0 nz3 rfl) rfl rfl ?_
          have hB97 : Bx w87 b1 84 [.int .i64 p0_0, vp0_1, .int .i64 p0_2] := Holds.bx (H89.pull 0)
          refine XL_load_bx u3 rfl hB97 rfl (w_take rfl hc96) rfl rfl ?_
          refine XL_q (w_take rfl hc96) (qt_gtr rfl rfl) rfl rfl ?_
          refine XL_q (w_take rfl hc96) (qt_fieldAddr uf84 fi84_1 nz82 rfl) rfl rfl ?_
          have hB98 : Bx w87 b1 84 [.int .i64 p0_0, vp0_1, .int .i64 p0_2] := Holds.bx (H89.pull 0)
          refine XL_load_bx u82 rfl hB98 rfl (w_take rfl hc96) rfl rfl ?_
          refine XL_lenH H89.ctx (t := (.pair (.int .i64) (.int .i64))) (hp0_1.c) u82 (w_take rfl hc96) rfl rfl ?_
          refine XL_q (w_take rfl hc96) (qt_gtr rfl rfl) rfl rfl ?_
          refine XL_q (w_take rfl hc96) (qt_beql u4 rfl rfl) rfl rfl ?_
          refine XL_q rfl (qt_pickT rfl hc96 rfl) rfl rfl ?_
          exact hk _ (Cov.same (by rw [hc96]; rfl) (Cov.fresh rfl (Cov.fresh rfl (Cov.fresh rfl (Cov.fresh rfl (Cov.fresh rfl (Cov.fresh rfl (Cov.fresh rfl (Cov.fresh rfl (Cov.refl))))))))))
        · skip
          refine XL_skip (w_skip rfl hc96) rfl rfl ?_
          refine XL_skip (w_skip rfl hc96) rfl rfl ?_
          refine XL_skip (w_skip rfl hc96) rfl rfl ?_
          refine XL_skip (w_skip rfl hc96) rfl rfl ?_
          refine XL_skip (w_skip rfl hc96) rfl rfl ?_
          refine XL_skip (w_skip rfl hc96) rfl rfl ?_
          refine XL_skip (w_skip rfl hc96) rfl rfl ?_
          refine XL_skip (w_skip rfl hc96) rfl rfl ?_
          refine XL_q rfl (qt_pickF rfl hc96 rfl) rfl rfl ?_
          exact hk _ (Cov.same (by rw [hc96]; rfl) (Cov.fresh rfl (Cov.fresh rfl (Cov.fresh rfl (Cov.fresh rfl (Cov.fresh rfl (Cov.fresh rfl (Cov.fresh rfl (Cov.fresh rfl (Cov.refl))))))))))
      refine XL_q rfl (qt_move rfl) rfl rfl ?_
      obtain ⟨b99, hg100, h⟩ := bind_some h
      refine XL_join 4 76 (.bool b99) ?_ (fun md hmd hk => ?_)
      rotate_left
      · obtain ⟨K, rfl⟩ := Md.quiet_of hmd
        rcases btf ((x92 && (decide ((List.length p0_1 : Int) ≤ 3))) && ((decide (p0_0 > 0)) == (decide ((List.length p0_1 : Int) > 0)))) with hc101 | hc101
        · skip
          have hg100 := if_t hc101 hg100
          refine XL_q (w_take rfl hc101) (qt_fieldAddr uf84 fi84_2 nz3 rfl) rfl rfl ?_
          have hB102 : Bx w87 b1 84 [.int .i64 p0_0, vp0_1, .int .i64 p0_2] := Holds.bx (H89.pull 0)
          refine XL_load_bx u3 rfl hB102 rfl (w_take rfl hc101) rfl rfl ?_
          obtain ⟨x103, hx104, hg100⟩ := bind_some hg100
          refine QL_call (w_take rfl hc101) rfl c27 (fun w' hb => (w_spec_l1In w' ([.bx b1 84 [.int .i64 p0_0, vp0_1, .int .i64 p0_2]] ++ G) p0_2 0 31 x103 hx104 (H89.grow hb).ctx).mono fun e w'' hK => ⟨hK.1, hK.2.bel⟩) (by rfl) ?_
          refine XL_q rfl (qt_pickT rfl hc101 rfl) rfl rfl ?_
          exact hk _ (Cov.same (vb hg100) (Cov.fresh rfl (Cov.fresh rfl (Cov.fresh rfl (Cov.refl)))))
        · skip
          refine XL_skip (w_skip rfl hc101) rfl rfl ?_
          refine XL_skip (w_skip rfl hc101) rfl rfl ?_
          refine XL_skip (w_skip rfl hc101) rfl rfl ?_
          refine XL_q rfl (qt_pickF rfl hc101 rfl) rfl rfl ?_
          exact hk _ (Cov.same (vb (if_f hc101 hg100)) (Cov.fresh rfl (Cov.fresh rfl (Cov.fresh rfl (Cov.refl)))))
      refine XL_q rfl (qt_assign rfl) rfl rfl ?_
      refine QL_nil fun a ha w105 hb106 => ?_
      have H107 : Holds (([] : List Res).flatMap Res.own) w w105 [.bx b1 84 [.int .i64 p0_0, vp0_1, .int .i64 p0_2]] G := H89.grow hb106
      refine nrm_seq (WP.app ?_ ha)
      refine WP_ret fun a ha => ?_
      obtain rfl := Option.some.inj h
      have H108 : Holds (([] : List Res).flatMap Res.own) w w105 [] G := (H107.cut 0)
      exact ret1 rfl ha rfl ⟨rfl, H108⟩
    · skip
      obtain ⟨p109, rfl⟩ : ∃ z, z = o6 := ⟨o6, rfl⟩
      obtain ⟨rfl, hO111⟩ := hO88
      obtain ⟨ha, H110⟩ := hO111
      obtain rfl := Option.some.inj h
      exact ret_block (ret_seq (ret1 rfl ha rfl ⟨rfl, H110⟩))
theorem w_spec_ItemsValid (w : World) (G : List Res) (vp0 : Value) (p0 : List (Int × (List (Int × Int)) × Int)) (hp0 : Has G (.pair (.int .i64) (.pair (.slice (.pair (.int .i64) (.int .i64))) (.int .i64))) vp0 p0) (r : Bool) (h : spec_ItemsValidS p0 = some r) (H : Ctx w G) : Calls Try.prog 50 #[vp0] w fun e w' => e = .returned (.bool r) ∧ Holds (([] : List Res).flatMap Res.own) w w' [] G := by
  have H : Holds (([] : List Res).flatMap Res.own) w w [] G := Holds.startN H
  refine calls_enter (args := [vp0]) (n := 20) Try.func50 rfl rfl rfl ?_
  unfold spec_ItemsValidS at h
  refine WP_seq ?_
  refine WP_region ?_
  refine XL_q rfl (qt_assign rfl) rfl rfl ?_
  refine WL_nil_seq ?_
  refine WP_seq ?_
  refine WP_seq ?_
  refine WP_region ?_
  refine XL_q rfl (qt_assign rfl) rfl rfl ?_
  refine WL_nil_seq ?_
  refine WP_block ?_
  obtain ⟨o2, ho3, h⟩ := bind_some h
  refine fun a4 ha5 => wp_loop_fix (I := fun s a w2 => match s with | s1 => (Fr a 20 [(0, vp0), (3, .int .i64 s1)] ∧ Holds (([] : List Res).flatMap Res.own) w w2 [] G)) (O := fun o e a w2 => match o with | .inl _ => e = .exit 0 ∧ (Fr a 20 [(0, vp0)] ∧ Holds (([] : List Res).flatMap Res.own) w w2 [] G) | .inr q0 => e = .ret ∧ (Fr a 20 [(2, .bool q0)] ∧ Holds (([] : List Res).flatMap Res.own) w w2 [] G)) ho3 ?_ ?_ ?_
  · exact ⟨ha5.sub ⟨rfl, rfl, trivial⟩, H⟩
  · clear ha5
    intro s o8 a w6 hs7 hI9
    obtain ⟨s1, rfl⟩ : ∃ z, z = s := ⟨s, rfl⟩
    obtain ⟨ha, H10⟩ := hI9
    refine WP.app ?_ ha
    clear ha
    refine WP_seq ?_
    refine WP_seq ?_
    refine WP_region ?_
    refine XL_q rfl (qt_move rfl) rfl rfl ?_
    refine XL_q rfl (qt_move rfl) rfl rfl ?_
    refine XL_lenH H10.ctx (t := (.pair (.int .i64) (.pair (.slice (.pair (.int .i64) (.int .i64))) (.int .i64)))) (hp0) u29 rfl rfl rfl ?_
    refine XL_q rfl (qt_lss rfl rfl) rfl rfl ?_
    refine WL_nil_seq ?_
    refine WP_cond rfl (fun hc11 => ?_) (fun hc11 => ?_)
    · have hs7 := if_t hc11 hs7
      refine WP_skip_seq ?_
      refine WP_seq ?_
      refine WP_block ?_
      refine WP_seq ?_
      refine WP_still ?_
      refine XL_q rfl (qt_move rfl) rfl rfl ?_
      refine XL_q rfl (qt_move rfl) rfl rfl ?_
      obtain ⟨x12, hx13, hs7⟩ := bind_some hs7
      refine XL_indexH H10.ctx (hp0) hx13 u29 i84 rfl rfl rfl rfl (fun b14 off15 cap16 hv17 => ?_)
      obtain ⟨F18, hat19, hdup20⟩ := H10.atN (hp0) hx13 hv17
      refine XL_load_agg (t := (.pair (.int .i64) (.pair (.slice (.pair (.int .i64) (.int .i64))) (.int .i64)))) us84 uo84 i84 hat19 rfl rfl rfl (fun cs21 hr22 => ?_)
      obtain ⟨c23, c24, F25, F26, rfl, eF29, hr27, hr28⟩ := hr22
      obtain ⟨rfl, _⟩ := hr27
      obtain ⟨c30, c31, F32, F33, rfl, eF36, hr34, hr35⟩ := hr28
      obtain ⟨v37, rfl, hr38⟩ := Rep.sl_inv hr34
      obtain ⟨rfl, _⟩ := hr35
      have H39 : Holds (([] : List Res).flatMap Res.own) w w6 [.ro (.pair (.int .i64) (.int .i64)) v37 x12.2.1] G := hdup20 [.ro (.pair (.int .i64) (.int .i64)) v37 x12.2.1] ⟨⟨_, _, _, _, rfl, hr38, (fun k h => (fun k h => (fun _ h => h) k (by rw [eF29]; exact List.mem_append_right _ h)) k (by rw [eF36]; exact List.mem_append_left _ h))⟩, trivial⟩
      change XL _ _ _ _ _ ((13, .agg #[.int .i64 x12.1, v37, .int .i64 x12.2.2]) :: _) _
      refine XL_q rfl (qt_move rfl) rfl rfl ?_
      obtain ⟨x40, hx41, hs7⟩ := bind_some hs7
      refine QL_call rfl rfl c70 (fun w' hb => (w_spec_l1Item w' ([.ro (.pair (.int .i64) (.int .i64)) v37 x12.2.1] ++ G) x12.1 v37 x12.2.1 (HasRo.has (HasRo.hd)) x12.2.2 s1 x40 hx41 (H39.grow hb).ctx).mono fun e w'' hK => ⟨hK.1, hK.2.bel⟩) (by rfl) ?_
      refine XL_q rfl (qt_not rfl) rfl rfl ?_
      refine QL_nil fun a ha w42 hb43 => ?_
      have H44 : Holds (([] : List Res).flatMap Res.own) w w42 [.ro (.pair (.int .i64) (.int .i64)) v37 x12.2.1] G := H39.grow hb43
      refine nrm_seq (WP.app ?_ ha)
      refine WP_cond rfl (fun hc45 => ?_) (fun hc45 => ?_)
      · have hs7 := if_t hc45 hs7
        refine WP_seq ?_
        refine WP_region ?_
        refine XL_q rfl (qt_assign rfl) rfl rfl ?_
        refine WL_nil_seq ?_
        refine WP_ret fun a ha => ?_
        obtain rfl := Option.some.inj hs7
        have H46 : Holds (([] : List Res).flatMap Res.own) w w42 [] G := (H44.cut 0)
        exact ret_block (ret_seq (⟨ret_ne, rfl, ha.sub ⟨rfl, trivial⟩, H46⟩))
      · have hs7 := if_f hc45 hs7
        refine WP_skip fun a ha => ?_
        refine nrm_block (nrm_seq (WP.app ?_ ha))
        refine WP_region ?_
        refine XL_q rfl (qt_move rfl) rfl rfl ?_
        refine XL_q rfl (qt_add rfl rfl) rfl rfl ?_
        refine XL_q rfl (qt_assign rfl) rfl rfl ?_
        refine WL_nil fun a ha => ?_
        obtain rfl := Option.some.inj hs7
        have H47 : Holds (([] : List Res).flatMap Res.own) w w42 [] G := (H44.cut 0)
        exact ⟨rfl, ha.sub ⟨rfl, rfl, trivial⟩, H47⟩
    · have hs7 := if_f hc11 hs7
      refine WP_exit fun a ha => ?_
      obtain rfl := Option.some.inj hs7
      exact exit_seq (⟨exit_ne, rfl, ha.sub ⟨rfl, trivial⟩, H10⟩)
  · intro e a4 w48 hO49
    rcases o2 with o2 | o2
    · skip
      obtain ⟨rfl, hO51⟩ := hO49
      obtain ⟨ha, H50⟩ := hO51
      refine exit_block_eq (nrm_seq (WP.app ?_ ha))
      refine WP_seq ?_
      refine WP_region ?_
      refine XL_q rfl (qt_move rfl) rfl rfl ?_
      refine XL_lenH H50.ctx (t := (.pair (.int .i64) (.pair (.slice (.pair (.int .i64) (.int .i64))) (.int .i64)))) (hp0) u29 rfl rfl rfl ?_
      refine XL_q rfl (qt_leq rfl rfl) rfl rfl ?_
      refine XL_q rfl (qt_assign rfl) rfl rfl ?_
      refine WL_nil_seq ?_
      refine WP_ret fun a ha => ?_
      obtain rfl := Option.some.inj h
      exact ret1 rfl ha rfl ⟨rfl, H50⟩
    · skip
      obtain ⟨p52, rfl⟩ : ∃ z, z = o2 := ⟨o2, rfl⟩
      obtain ⟨rfl, hO54⟩ := hO49
      obtain ⟨ha, H53⟩ := hO54
      obtain rfl := Option.some.inj h
      exact ret_block (ret_seq (ret1 rfl ha rfl ⟨rfl, H53⟩))
theorem w_spec_PricesValid (w : World) (G : List Res) (vp0 : Value) (p0 : List (Int × (List (Int × Int)) × Int)) (hp0 : Has G (.pair (.int .i64) (.pair (.slice (.pair (.int .i64) (.int .i64))) (.int .i64))) vp0 p0) (vp1 : Value) (p1 : List Int) (hp1 : Has G (.int .i64) vp1 p1) (r : Bool) (h : spec_PricesValidS p0 p1 = some r) (H : Ctx w G) : Calls Try.prog 25 #[vp0, vp1] w fun e w' => e = .returned (.bool r) ∧ Holds (([] : List Res).flatMap Res.own) w w' [] G := by
  have H : Holds (([] : List Res).flatMap Res.own) w w [] G := Holds.startN H
  refine calls_enter (args := [vp0, vp1]) (n := 27) Try.func25 rfl rfl rfl ?_
  unfold spec_PricesValidS at h
  refine WP_seq ?_
  refine WP_region ?_
  refine XL_q rfl (qt_assign rfl) rfl rfl ?_
  refine WL_nil_seq ?_
  refine WP_seq ?_
  refine WP_seq ?_
  refine WP_region ?_
  refine XL_q rfl (qt_assign rfl) rfl rfl ?_
  refine WL_nil_seq ?_
  refine WP_block ?_
  obtain ⟨o2, ho3, h⟩ := bind_some h
  refine fun a4 ha5 => wp_loop_fix (I := fun s a w2 => match s with | s1 => (Fr a 27 [(0, vp0), (1, vp1), (5, .int .i64 s1)] ∧ Holds (([] : List Res).flatMap Res.own) w w2 [] G)) (O := fun o e a w2 => match o with | .inl _ => e = .exit 0 ∧ (Fr a 27 [(0, vp0), (1, vp1)] ∧ Holds (([] : List Res).flatMap Res.own) w w2 [] G) | .inr q0 => e = .ret ∧ (Fr a 27 [(4, .bool q0)] ∧ Holds (([] : List Res).flatMap Res.own) w w2 [] G)) ho3 ?_ ?_ ?_
  · exact ⟨ha5.sub ⟨rfl, rfl, rfl, trivial⟩, H⟩
  · clear ha5
    intro s o8 a w6 hs7 hI9
    obtain ⟨s1, rfl⟩ : ∃ z, z = s := ⟨s, rfl⟩
    obtain ⟨ha, H10⟩ := hI9
    refine WP.app ?_ ha
    clear ha
    refine WP_seq ?_
    refine WP_seq ?_
    refine WP_region ?_
    refine XL_q rfl (qt_move rfl) rfl rfl ?_
    refine XL_q rfl (qt_move rfl) rfl rfl ?_
    refine XL_lenH H10.ctx (t := (.int .i64)) (hp1) u23 rfl rfl rfl ?_
    refine XL_q rfl (qt_lss rfl rfl) rfl rfl ?_
    refine WL_nil_seq ?_
    refine WP_cond rfl (fun hc11 => ?_) (fun hc11 => ?_)
    · have hs7 := if_t hc11 hs7
      refine WP_skip_seq ?_
      refine WP_seq ?_
      refine WP_block ?_
      refine WP_seq ?_
      refine WP_still ?_
      refine XL_q rfl (qt_move rfl) rfl rfl ?_
      refine XL_q rfl (qt_move rfl) rfl rfl ?_
      obtain ⟨x12, hx13, hs7⟩ := bind_some hs7
      refine XL_indexH H10.ctx (hp1) hx13 u23 i3 rfl rfl rfl rfl (fun b14 off15 cap16 hv17 => ?_)
      obtain ⟨F18, hat19, hdup20⟩ := H10.at (hp1) hx13 hv17
      refine XL_load_int (k := .i64) u3 rfl hat19 rfl rfl rfl ?_
      obtain ⟨x21, hx22, hs7⟩ := bind_some hs7
      refine QL_call rfl rfl c27 (fun w' hb => (w_spec_l1In w' G x12 0 20 x21 hx22 (H10.grow hb).ctx).mono fun e w'' hK => ⟨hK.1, hK.2.bel⟩) (by rfl) ?_
      refine XL_q rfl (qt_not rfl) rfl rfl ?_
      refine QL_nil fun a ha w23 hb24 => ?_
      have H25 : Holds (([] : List Res).flatMap Res.own) w w23 [] G := H10.grow hb24
      refine nrm_seq (WP.app ?_ ha)
      refine WP_cond rfl (fun hc26 => ?_) (fun hc26 => ?_)
      · have hs7 := if_t hc26 hs7
        refine WP_seq ?_
        refine WP_region ?_
        refine XL_q rfl (qt_assign rfl) rfl rfl ?_
        refine WL_nil_seq ?_
        refine WP_ret fun a ha => ?_
        obtain rfl := Option.some.inj hs7
        exact ret_block (ret_seq (⟨ret_ne, rfl, ha.sub ⟨rfl, trivial⟩, H25⟩))
      · have hs7 := if_f hc26 hs7
        refine WP_skip fun a ha => ?_
        refine nrm_block (nrm_seq (WP.app ?_ ha))
        refine WP_region ?_
        refine XL_q rfl (qt_move rfl) rfl rfl ?_
        refine XL_q rfl (qt_add rfl rfl) rfl rfl ?_
        refine XL_q rfl (qt_assign rfl) rfl rfl ?_
        refine WL_nil fun a ha => ?_
        obtain rfl := Option.some.inj hs7
        exact ⟨rfl, ha.sub ⟨rfl, rfl, rfl, trivial⟩, H25⟩
    · have hs7 := if_f hc11 hs7
      refine WP_exit fun a ha => ?_
      obtain rfl := Option.some.inj hs7
      exact exit_seq (⟨exit_ne, rfl, ha.sub ⟨rfl, rfl, trivial⟩, H10⟩)
  · intro e a4 w27 hO28
    rcases o2 with o2 | o2
    · skip
      obtain ⟨rfl, hO30⟩ := hO28
      obtain ⟨ha, H29⟩ := hO30
      refine exit_block_eq (nrm_seq (WP.app ?_ ha))
      refine WP_seq ?_
      refine WP_still ?_
      refine XL_q rfl (qt_move rfl) rfl rfl ?_
      obtain ⟨x31, hx32, h⟩ := bind_some h
      refine QL_call rfl rfl c50 (fun w' hb => (w_spec_ItemsValid w' G vp0 p0 (hp0) x31 hx32 (H29.grow hb).ctx).mono fun e w'' hK => ⟨hK.1, hK.2.bel⟩) (by rfl) ?_
      refine XL_q rfl (qt_move rfl) rfl rfl ?_
      refine XL_join 6 26 (.bool (x31 && ((List.length p1 : Int) == (List.length p0 : Int)))) ?_ (fun md hmd hk => ?_)
      rotate_left
      · obtain ⟨K, rfl⟩ := Md.quiet_of hmd
        rcases btf x31 with hc33 | hc33
        · skip
          refine XL_q (w_take rfl hc33) (qt_move rfl) rfl rfl ?_
          refine XL_lenH H29.ctx (t := (.int .i64)) (hp1) u23 (w_take rfl hc33) rfl rfl ?_
          refine XL_q (w_take rfl hc33) (qt_move rfl) rfl rfl ?_
          refine XL_lenH H29.ctx (t := (.pair (.int .i64) (.pair (.slice (.pair (.int .i64) (.int .i64))) (.int .i64)))) (hp0) u29 (w_take rfl hc33) rfl rfl ?_
          refine XL_q (w_take rfl hc33) (qt_eql rfl rfl) rfl rfl ?_
          refine XL_q rfl (qt_pickT rfl hc33 rfl) rfl rfl ?_
          exact hk _ (Cov.same (by rw [hc33]; rfl) (Cov.fresh rfl (Cov.fresh rfl (Cov.fresh rfl (Cov.fresh rfl (Cov.fresh rfl (Cov.refl)))))))
        · skip
          refine XL_skip (w_skip rfl hc33) rfl rfl ?_
          refine XL_skip (w_skip rfl hc33) rfl rfl ?_
          refine XL_skip (w_skip rfl hc33) rfl rfl ?_
          refine XL_skip (w_skip rfl hc33) rfl rfl ?_
          refine XL_skip (w_skip rfl hc33) rfl rfl ?_
          refine XL_q rfl (qt_pickF rfl hc33 rfl) rfl rfl ?_
          exact hk _ (Cov.same (by rw [hc33]; rfl) (Cov.fresh rfl (Cov.fresh rfl (Cov.fresh rfl (Cov.fresh rfl (Cov.fresh rfl (Cov.refl)))))))
      refine XL_q rfl (qt_assign rfl) rfl rfl ?_
      refine QL_nil fun a ha w34 hb35 => ?_
      have H36 : Holds (([] : List Res).flatMap Res.own) w w34 [] G := H29.grow hb35
      refine nrm_seq (WP.app ?_ ha)
      refine WP_ret fun a ha => ?_
      obtain rfl := Option.some.inj h
      exact ret1 rfl ha rfl ⟨rfl, H36⟩
    · skip
      obtain ⟨p37, rfl⟩ : ∃ z, z = o2 := ⟨o2, rfl⟩
      obtain ⟨rfl, hO39⟩ := hO28
      obtain ⟨ha, H38⟩ := hO39
      obtain rfl := Option.some.inj h
      exact ret_block (ret_seq (ret1 rfl ha rfl ⟨rfl, H38⟩))
theorem w_spec_l1Amounts (w : World) (G : List Res) (vp0 : Value) (p0 : List (Int × (List (Int × Int)) × Int)) (hp0 : Has G (.pair (.int .i64) (.pair (.slice (.pair (.int .i64) (.int .i64))) (.int .i64))) vp0 p0) (vp1 : Value) (p1 : List Int) (hp1 : Has G (.int .i64) vp1 p1) (r : Bool) (h : spec_l1AmountsS p0 p1 = some r) (H : Ctx w G) : Calls Try.prog 26 #[vp0, vp1] w fun e w' => e = .returned (.bool r) ∧ Holds (([] : List Res).flatMap Res.own) w w' [] G := by
  have H : Holds (([] : List Res).flatMap Res.own) w w [] G := Holds.startN H
  refine calls_enter (args := [vp0, vp1]) (n := 23) Try.func26 rfl rfl rfl ?_
  unfold spec_l1AmountsS at h
  refine WP_seq ?_
  refine WP_region ?_
  refine XL_q rfl (qt_assign rfl) rfl rfl ?_
  refine WL_nil_seq ?_
  refine WP_seq ?_
  refine WP_seq ?_
  refine WP_region ?_
  refine XL_q rfl (qt_assign rfl) rfl rfl ?_
  refine WL_nil_seq ?_
  refine WP_block ?_
  obtain ⟨o2, ho3, h⟩ := bind_some h
  refine fun a4 ha5 => wp_loop_fix (I := fun s a w2 => match s with | s1 => (Fr a 23 [(0, vp0), (1, vp1), (5, .int .i64 s1)] ∧ Holds (([] : List Res).flatMap Res.own) w w2 [] G)) (O := fun o e a w2 => match o with | .inl _ => e = .exit 0 ∧ (Fr a 23 [(0, vp0), (1, vp1)] ∧ Holds (([] : List Res).flatMap Res.own) w w2 [] G) | .inr q0 => e = .ret ∧ (Fr a 23 [(4, .bool q0)] ∧ Holds (([] : List Res).flatMap Res.own) w w2 [] G)) ho3 ?_ ?_ ?_
  · exact ⟨ha5.sub ⟨rfl, rfl, rfl, trivial⟩, H⟩
  · clear ha5
    intro s o8 a w6 hs7 hI9
    obtain ⟨s1, rfl⟩ : ∃ z, z = s := ⟨s, rfl⟩
    obtain ⟨ha, H10⟩ := hI9
    refine WP.app ?_ ha
    clear ha
    refine WP_seq ?_
    refine WP_seq ?_
    refine WP_region ?_
    refine XL_q rfl (qt_move rfl) rfl rfl ?_
    refine XL_q rfl (qt_move rfl) rfl rfl ?_
    refine XL_lenH H10.ctx (t := (.int .i64)) (hp1) u23 rfl rfl rfl ?_
    refine XL_q rfl (qt_lss rfl rfl) rfl rfl ?_
    refine WL_nil_seq ?_
    refine WP_cond rfl (fun hc11 => ?_) (fun hc11 => ?_)
    · have hs7 := if_t hc11 hs7
      refine WP_skip_seq ?_
      refine WP_seq ?_
      refine WP_block ?_
      refine WP_seq ?_
      refine WP_still ?_
      refine XL_q rfl (qt_move rfl) rfl rfl ?_
      refine XL_q rfl (qt_move rfl) rfl rfl ?_
      obtain ⟨x12, hx13, hs7⟩ := bind_some hs7
      refine XL_indexH H10.ctx (hp1) hx13 u23 i3 rfl rfl rfl rfl (fun b14 off15 cap16 hv17 => ?_)
      obtain ⟨F18, hat19, hdup20⟩ := H10.at (hp1) hx13 hv17
      refine XL_load_int (k := .i64) u3 rfl hat19 rfl rfl rfl ?_
      obtain ⟨x21, hx22, hs7⟩ := bind_some hs7
      refine QL_call rfl rfl c27 (fun w' hb => (w_spec_l1In w' G x12 0 50 x21 hx22 (H10.grow hb).ctx).mono fun e w'' hK => ⟨hK.1, hK.2.bel⟩) (by rfl) ?_
      refine XL_q rfl (qt_not rfl) rfl rfl ?_
      refine QL_nil fun a ha w23 hb24 => ?_
      have H25 : Holds (([] : List Res).flatMap Res.own) w w23 [] G := H10.grow hb24
      refine nrm_seq (WP.app ?_ ha)
      refine WP_cond rfl (fun hc26 => ?_) (fun hc26 => ?_)
      · have hs7 := if_t hc26 hs7
        refine WP_seq ?_
        refine WP_region ?_
        refine XL_q rfl (qt_assign rfl) rfl rfl ?_
        refine WL_nil_seq ?_
        refine WP_ret fun a ha => ?_
        obtain rfl := Option.some.inj hs7
        exact ret_block (ret_seq (⟨ret_ne, rfl, ha.sub ⟨rfl, trivial⟩, H25⟩))
      · have hs7 := if_f hc26 hs7
        refine WP_skip fun a ha => ?_
        refine nrm_block (nrm_seq (WP.app ?_ ha))
        refine WP_region ?_
        refine XL_q rfl (qt_move rfl) rfl rfl ?_
        refine XL_q rfl (qt_add rfl rfl) rfl rfl ?_
        refine XL_q rfl (qt_assign rfl) rfl rfl ?_
        refine WL_nil fun a ha => ?_
        obtain rfl := Option.some.inj hs7
        exact ⟨rfl, ha.sub ⟨rfl, rfl, rfl, trivial⟩, H25⟩
    · have hs7 := if_f hc11 hs7
      refine WP_exit fun a ha => ?_
      obtain rfl := Option.some.inj hs7
      exact exit_seq (⟨exit_ne, rfl, ha.sub ⟨rfl, rfl, trivial⟩, H10⟩)
  · intro e a4 w27 hO28
    rcases o2 with o2 | o2
    · skip
      obtain ⟨rfl, hO30⟩ := hO28
      obtain ⟨ha, H29⟩ := hO30
      refine exit_block_eq (nrm_seq (WP.app ?_ ha))
      refine WP_seq ?_
      refine WP_region ?_
      refine XL_q rfl (qt_move rfl) rfl rfl ?_
      refine XL_lenH H29.ctx (t := (.int .i64)) (hp1) u23 rfl rfl rfl ?_
      refine XL_q rfl (qt_move rfl) rfl rfl ?_
      refine XL_lenH H29.ctx (t := (.pair (.int .i64) (.pair (.slice (.pair (.int .i64) (.int .i64))) (.int .i64)))) (hp0) u29 rfl rfl rfl ?_
      refine XL_q rfl (qt_eql rfl rfl) rfl rfl ?_
      refine XL_q rfl (qt_assign rfl) rfl rfl ?_
      refine WL_nil_seq ?_
      refine WP_ret fun a ha => ?_
      obtain rfl := Option.some.inj h
      exact ret1 rfl ha rfl ⟨rfl, H29⟩
    · skip
      obtain ⟨p31, rfl⟩ : ∃ z, z = o2 := ⟨o2, rfl⟩
      obtain ⟨rfl, hO33⟩ := hO28
      obtain ⟨ha, H32⟩ := hO33
      obtain rfl := Option.some.inj h
      exact ret_block (ret_seq (ret1 rfl ha rfl ⟨rfl, H32⟩))
theorem w_spec_l4Ready (w : World) (G : List Res) (vp0 : Value) (p0 : List (Int × Int)) (hp0 : Has G (.pair (.int .i64) (.int .i64)) vp0 p0) (p1 : Int) (r : Bool) (h : spec_l4ReadyS p0 p1 = some r) (H : Ctx w G) : Calls Try.prog 51 #[vp0, .int .i64 p1] w fun e w' => e = .returned (.bool r) ∧ Holds (([] : List Res).flatMap Res.own) w w' [] G := by
  have H : Holds (([] : List Res).flatMap Res.own) w w [] G := Holds.startN H
  refine calls_enter (args := [vp0, .int .i64 p1]) (n := 27) Try.func51 rfl rfl rfl ?_
  unfold spec_l4ReadyS at h
  refine WP_seq ?_
  refine WP_region ?_
  refine XL_q rfl (qt_assign rfl) rfl rfl ?_
  refine WL_nil_seq ?_
  refine WP_seq ?_
  refine WP_seq ?_
  refine WP_region ?_
  refine XL_q rfl (qt_assign rfl) rfl rfl ?_
  refine WL_nil_seq ?_
  refine WP_block ?_
  obtain ⟨o2, ho3, h⟩ := bind_some h
  refine fun a4 ha5 => wp_loop_fix (I := fun s a w2 => match s with | s1 => (Fr a 27 [(0, vp0), (1, .int .i64 p1), (5, .int .i64 s1)] ∧ Holds (([] : List Res).flatMap Res.own) w w2 [] G)) (O := fun o e a w2 => match o with | .inl _ => e = .exit 0 ∧ (Fr a 27 [] ∧ Holds (([] : List Res).flatMap Res.own) w w2 [] G) | .inr q0 => e = .ret ∧ (Fr a 27 [(4, .bool q0)] ∧ Holds (([] : List Res).flatMap Res.own) w w2 [] G)) ho3 ?_ ?_ ?_
  · exact ⟨ha5.sub ⟨rfl, rfl, rfl, trivial⟩, H⟩
  · clear ha5
    intro s o8 a w6 hs7 hI9
    obtain ⟨s1, rfl⟩ : ∃ z, z = s := ⟨s, rfl⟩
    obtain ⟨ha, H10⟩ := hI9
    refine WP.app ?_ ha
    clear ha
    refine WP_seq ?_
    refine WP_seq ?_
    refine WP_region ?_
    refine XL_q rfl (qt_move rfl) rfl rfl ?_
    refine XL_q rfl (qt_move rfl) rfl rfl ?_
    refine XL_lenH H10.ctx (t := (.pair (.int .i64) (.int .i64))) (hp0) u48 rfl rfl rfl ?_
    refine XL_q rfl (qt_lss rfl rfl) rfl rfl ?_
    refine WL_nil_seq ?_
    refine WP_cond rfl (fun hc11 => ?_) (fun hc11 => ?_)
    · have hs7 := if_t hc11 hs7
      refine WP_skip_seq ?_
      refine WP_seq ?_
      refine WP_block ?_
      refine WP_seq ?_
      refine WP_region ?_
      refine XL_q rfl (qt_move rfl) rfl rfl ?_
      refine XL_q rfl (qt_move rfl) rfl rfl ?_
      obtain ⟨x12, hx13, hs7⟩ := bind_some hs7
      refine XL_indexH H10.ctx (hp0) hx13 u48 i63 rfl rfl rfl rfl (fun b14 off15 cap16 hv17 => ?_)
      refine XL_q rfl (qt_fieldAddr uf63 fi63_0 nz3 rfl) rfl rfl ?_
      obtain ⟨F18, hat19, hdup20⟩ := H10.at (hp0) hx13 hv17
      obtain ⟨F21, hat22, hin23⟩ := AtP.fst hat19
      refine XL_load_int (k := .i64) u3 rfl hat22 rfl rfl rfl ?_
      refine XL_q rfl (qt_move rfl) rfl rfl ?_
      refine XL_q rfl (qt_lss rfl rfl) rfl rfl ?_
      refine XL_q rfl (qt_move rfl) rfl rfl ?_
      obtain ⟨b24, hg25, hs7⟩ := bind_some hs7
      refine XL_join 7 26 (.bool b24) ?_ (fun md hmd hk => ?_)
      rotate_left
      · obtain ⟨Q, rfl⟩ := Md.seq_of hmd
        rcases btf (decide (x12.1 < p1)) with hc26 | hc26
        · skip
          have hg25 := if_t hc26 hg25
          refine XL_q (w_take rfl hc26) (qt_move rfl) rfl rfl ?_
          refine XL_q (w_take rfl hc26) (qt_move rfl) rfl rfl ?_
          obtain ⟨x27, hx28, hg25⟩ := bind_some hg25
          refine XL_indexH H10.ctx (hp0) hx28 u48 i63 (w_take rfl hc26) rfl rfl rfl (fun b29 off30 cap31 hv32 => ?_)
          refine XL_q (w_take rfl hc26) (qt_fieldAddr uf63 fi63_1 nz3 rfl) rfl rfl ?_
          obtain ⟨F33, hat34, hdup35⟩ := H10.at (hp0) hx28 hv32
          obtain ⟨F36, hat37, hin38⟩ := AtP.snd hat34
          refine XL_load_int (k := .i64) u3 rfl hat37 (w_take rfl hc26) rfl rfl ?_
          refine XL_q (w_take rfl hc26) (qt_lss rfl rfl) rfl rfl ?_
          refine XL_q rfl (qt_pickT rfl hc26 rfl) rfl rfl ?_
          exact hk _ (Cov.same (vb hg25) (Cov.fresh rfl (Cov.fresh rfl (Cov.fresh rfl (Cov.fresh rfl (Cov.fresh rfl (Cov.fresh rfl (Cov.refl))))))))
        · skip
          refine XL_skip (w_skip rfl hc26) rfl rfl ?_
          refine XL_skip (w_skip rfl hc26) rfl rfl ?_
          refine XL_skip (w_skip rfl hc26) rfl rfl ?_
          refine XL_skip (w_skip rfl hc26) rfl rfl ?_
          refine XL_skip (w_skip rfl hc26) rfl rfl ?_
          refine XL_skip (w_skip rfl hc26) rfl rfl ?_
          refine XL_q rfl (qt_pickF rfl hc26 rfl) rfl rfl ?_
          exact hk _ (Cov.same (vb (if_f hc26 hg25)) (Cov.fresh rfl (Cov.fresh rfl (Cov.fresh rfl (Cov.fresh rfl (Cov.fresh rfl (Cov.fresh rfl (Cov.refl))))))))
      refine WL_nil_seq ?_
      refine WP_cond rfl (fun hc39 => ?_) (fun hc39 => ?_)
      · have hs7 := if_t hc39 hs7
        refine WP_seq ?_
        refine WP_region ?_
        refine XL_q rfl (qt_assign rfl) rfl rfl ?_
        refine WL_nil_seq ?_
        refine WP_ret fun a ha => ?_
        obtain rfl := Option.some.inj hs7
        exact ret_block (ret_seq (⟨ret_ne, rfl, ha.sub ⟨rfl, trivial⟩, H10⟩))
      · have hs7 := if_f hc39 hs7
        refine WP_skip fun a ha => ?_
        refine nrm_block (nrm_seq (WP.app ?_ ha))
        refine WP_region ?_
        refine XL_q rfl (qt_move rfl) rfl rfl ?_
        refine XL_q rfl (qt_add rfl rfl) rfl rfl ?_
        refine XL_q rfl (qt_assign rfl) rfl rfl ?_
        refine WL_nil fun a ha => ?_
        obtain rfl := Option.some.inj hs7
        exact ⟨rfl, ha.sub ⟨rfl, rfl, rfl, trivial⟩, H10⟩
    · have hs7 := if_f hc11 hs7
      refine WP_exit fun a ha => ?_
      obtain rfl := Option.some.inj hs7
      exact exit_seq (⟨exit_ne, rfl, ha.sub trivial, H10⟩)
  · intro e a4 w40 hO41
    rcases o2 with o2 | o2
    · skip
      obtain ⟨rfl, hO43⟩ := hO41
      obtain ⟨ha, H42⟩ := hO43
      refine exit_block_eq (nrm_seq (WP.app ?_ ha))
      refine WP_seq ?_
      refine WP_region ?_
      refine XL_q rfl (qt_assign rfl) rfl rfl ?_
      refine WL_nil_seq ?_
      refine WP_ret fun a ha => ?_
      obtain rfl := Option.some.inj h
      exact ret1 rfl ha rfl ⟨rfl, H42⟩
    · skip
      obtain ⟨p44, rfl⟩ : ∃ z, z = o2 := ⟨o2, rfl⟩
      obtain ⟨rfl, hO46⟩ := hO41
      obtain ⟨ha, H45⟩ := hO46
      obtain rfl := Option.some.inj h
      exact ret_block (ret_seq (ret1 rfl ha rfl ⟨rfl, H45⟩))
theorem w_spec_TicketValid (w : World) (G : List Res) (vp0 : Value) (p0 : List (Int × Int)) (hp0 : Has G (.pair (.int .i64) (.int .i64)) vp0 p0) (r : Bool) (h : spec_TicketValidS p0 = some r) (H : Ctx w G) : Calls Try.prog 28 #[vp0] w fun e w' => e = .returned (.bool r) ∧ Holds (([] : List Res).flatMap Res.own) w w' [] G := by
  have H : Holds (([] : List Res).flatMap Res.own) w w [] G := Holds.startN H
  refine calls_enter (args := [vp0]) (n := 38) Try.func28 rfl rfl rfl ?_
  unfold spec_TicketValidS at h
  refine WP_seq ?_
  refine WP_region ?_
  refine XL_q rfl (qt_assign rfl) rfl rfl ?_
  refine WL_nil_seq ?_
  refine WP_seq ?_
  refine WP_seq ?_
  refine WP_region ?_
  refine XL_q rfl (qt_assign rfl) rfl rfl ?_
  refine WL_nil_seq ?_
  refine WP_block ?_
  obtain ⟨o2, ho3, h⟩ := bind_some h
  refine fun a4 ha5 => wp_loop_fix (I := fun s a w2 => match s with | s1 => (Fr a 38 [(0, vp0), (3, .int .i64 s1)] ∧ Holds (([] : List Res).flatMap Res.own) w w2 [] G)) (O := fun o e a w2 => match o with | .inl _ => e = .exit 0 ∧ (Fr a 38 [(0, vp0)] ∧ Holds (([] : List Res).flatMap Res.own) w w2 [] G) | .inr q0 => e = .ret ∧ (Fr a 38 [(2, .bool q0)] ∧ Holds (([] : List Res).flatMap Res.own) w w2 [] G)) ho3 ?_ ?_ ?_
  · exact ⟨ha5.sub ⟨rfl, rfl, trivial⟩, H⟩
  · clear ha5
    intro s o8 a w6 hs7 hI9
    obtain ⟨s1, rfl⟩ : ∃ z, z = s := ⟨s, rfl⟩
    obtain ⟨ha, H10⟩ := hI9
    refine WP.app ?_ ha
    clear ha
    refine WP_seq ?_
    refine WP_seq ?_
    refine WP_region ?_
    refine XL_q rfl (qt_move rfl) rfl rfl ?_
    refine XL_q rfl (qt_move rfl) rfl rfl ?_
    refine XL_lenH H10.ctx (t := (.pair (.int .i64) (.int .i64))) (hp0) u48 rfl rfl rfl ?_
    refine XL_q rfl (qt_lss rfl rfl) rfl rfl ?_
    refine WL_nil_seq ?_
    refine WP_cond rfl (fun hc11 => ?_) (fun hc11 => ?_)
    · have hs7 := if_t hc11 hs7
      refine WP_skip_seq ?_
      refine WP_seq ?_
      refine WP_block ?_
      refine WP_seq ?_
      refine WP_region ?_
      refine XL_q rfl (qt_move rfl) rfl rfl ?_
      refine XL_q rfl (qt_move rfl) rfl rfl ?_
      obtain ⟨x12, hx13, hs7⟩ := bind_some hs7
      refine XL_indexH H10.ctx (hp0) hx13 u48 i63 rfl rfl rfl rfl (fun b14 off15 cap16 hv17 => ?_)
      obtain ⟨F18, hat19, hdup20⟩ := H10.atN (hp0) hx13 hv17
      refine XL_load_agg (t := (.pair (.int .i64) (.int .i64))) us63 uo63 i63 hat19 rfl rfl rfl (fun cs21 hr22 => ?_)
      obtain ⟨c23, c24, F25, F26, rfl, eF29, hr27, hr28⟩ := hr22
      obtain ⟨rfl, _⟩ := hr27
      obtain ⟨rfl, _⟩ := hr28
      change XL _ _ _ _ _ ((14, .agg #[.int .i64 x12.1, .int .i64 x12.2]) :: _) _
      refine WL_alloc (cs := [.int .i64 0, .int .i64 0]) H10 z63 rfl rfl rfl (fun b30 w31 H32 => ?_)
      have H33 : Holds (([] : List Res).flatMap Res.own) w w31 [.bx b30 63 [.int .i64 0, .int .i64 0]] G := H32
      refine WL_store_bxA (cs' := [.int .i64 x12.1, .int .i64 x12.2]) H33 rfl il63 rfl rfl rfl rfl rfl (fun w34 H35 => ?_)
      have H36 : Holds (([] : List Res).flatMap Res.own) w w34 [.bx b30 63 [.int .i64 x12.1, .int .i64 x12.2]] G := H35
      refine WL_nil_seq ?_
      refine WP_seq ?_
      refine WP_seq ?_
      refine WP_still ?_
      refine XL_q rfl (qt_fieldAddr uf63 fi63_0 nz3 rfl) rfl rfl ?_
      have hB37 : Bx w34 b30 63 [.int .i64 x12.1, .int .i64 x12.2] := Holds.bx (H36.pull 0)
      refine XL_load_bx u3 rfl hB37 rfl rfl rfl rfl ?_
      obtain ⟨x38, hx39, hs7⟩ := bind_some hs7
      refine QL_call rfl rfl c27 (fun w' hb => (w_spec_l1In w' ([.bx b30 63 [.int .i64 x12.1, .int .i64 x12.2]] ++ G) x12.1 0 2 x38 hx39 (H36.grow hb).ctx).mono fun e w'' hK => ⟨hK.1, hK.2.bel⟩) (by rfl) ?_
      refine XL_q rfl (qt_not rfl) rfl rfl ?_
      refine XL_q rfl (qt_move rfl) rfl rfl ?_
      obtain ⟨b40, hg41, hs7⟩ := bind_some hs7
      refine XL_join 5 24 (.bool b40) ?_ (fun md hmd hk => ?_)
      rotate_left
      · obtain ⟨K, rfl⟩ := Md.quiet_of hmd
        rcases btf (!x38) with hc42 | hc42
        · skip
          refine XL_skip (w_skip rfl hc42) rfl rfl ?_
          refine XL_skip (w_skip rfl hc42) rfl rfl ?_
          refine XL_skip (w_skip rfl hc42) rfl rfl ?_
          refine XL_skip (w_skip rfl hc42) rfl rfl ?_
          refine XL_q rfl (qt_pickT rfl hc42 rfl) rfl rfl ?_
          exact hk _ (Cov.same (vb (if_t hc42 hg41)) (Cov.fresh rfl (Cov.fresh rfl (Cov.fresh rfl (Cov.fresh rfl (Cov.refl))))))
        · skip
          have hg41 := if_f hc42 hg41
          refine XL_q (w_take rfl hc42) (qt_fieldAddr uf63 fi63_1 nz3 rfl) rfl rfl ?_
          have hB43 : Bx w34 b30 63 [.int .i64 x12.1, .int .i64 x12.2] := Holds.bx (H36.pull 0)
          refine XL_load_bx u3 rfl hB43 rfl (w_take rfl hc42) rfl rfl ?_
          obtain ⟨x44, hx45, hg41⟩ := bind_some hg41
          refine QL_call (w_take rfl hc42) rfl c27 (fun w' hb => (w_spec_l1In w' ([.bx b30 63 [.int .i64 x12.1, .int .i64 x12.2]] ++ G) x12.2 0 4 x44 hx45 (H36.grow hb).ctx).mono fun e w'' hK => ⟨hK.1, hK.2.bel⟩) (by rfl) ?_
          refine XL_q (w_take rfl hc42) (qt_not rfl) rfl rfl ?_
          refine XL_q rfl (qt_pickF rfl hc42 rfl) rfl rfl ?_
          exact hk _ (Cov.same (vb hg41) (Cov.fresh rfl (Cov.fresh rfl (Cov.fresh rfl (Cov.fresh rfl (Cov.refl))))))
      refine QL_nil fun a ha w46 hb47 => ?_
      have H48 : Holds (([] : List Res).flatMap Res.own) w w46 [.bx b30 63 [.int .i64 x12.1, .int .i64 x12.2]] G := H36.grow hb47
      refine nrm_seq (WP.app ?_ ha)
      refine WP_cond rfl (fun hc49 => ?_) (fun hc49 => ?_)
      · have hs7 := if_t hc49 hs7
        refine WP_seq ?_
        refine WP_region ?_
        refine XL_q rfl (qt_assign rfl) rfl rfl ?_
        refine WL_nil_seq ?_
        refine WP_ret fun a ha => ?_
        obtain rfl := Option.some.inj hs7
        have H50 : Holds (([] : List Res).flatMap Res.own) w w46 [] G := (H48.cut 0)
        exact ret_seq (ret_block (ret_seq (⟨ret_ne, rfl, ha.sub ⟨rfl, trivial⟩, H50⟩)))
      · have hs7 := if_f hc49 hs7
        refine WP_skip_seq ?_
        refine WP_seq ?_
        refine WP_still ?_
        refine XL_q rfl (qt_fieldAddr uf63 fi63_1 nz3 rfl) rfl rfl ?_
        have hB51 : Bx w46 b30 63 [.int .i64 x12.1, .int .i64 x12.2] := Holds.bx (H48.pull 0)
        refine XL_load_bx u3 rfl hB51 rfl rfl rfl rfl ?_
        obtain ⟨x52, hx53, hs7⟩ := bind_some hs7
        refine QL_call rfl rfl c27 (fun w' hb => (w_spec_l1In w' ([.bx b30 63 [.int .i64 x12.1, .int .i64 x12.2]] ++ G) x12.2 1 3 x52 hx53 (H48.grow hb).ctx).mono fun e w'' hK => ⟨hK.1, hK.2.bel⟩) (by rfl) ?_
        refine XL_q rfl (qt_move rfl) rfl rfl ?_
        obtain ⟨b54, hg55, hs7⟩ := bind_some hs7
        refine XL_join 6 34 (.bool b54) ?_ (fun md hmd hk => ?_)
        rotate_left
        · obtain ⟨K, rfl⟩ := Md.quiet_of hmd
          rcases btf x52 with hc56 | hc56
          · skip
            have hg55 := if_t hc56 hg55
            refine XL_q (w_take rfl hc56) (qt_move rfl) rfl rfl ?_
            refine XL_q (w_take rfl hc56) (qt_fieldAddr uf63 fi63_0 nz3 rfl) rfl rfl ?_
            have hB57 : Bx w46 b30 63 [.int .i64 x12.1, .int .i64 x12.2] := Holds.bx (H48.pull 0)
            refine XL_load_bx u3 rfl hB57 rfl (w_take rfl hc56) rfl rfl ?_
            obtain ⟨x58, hx59, hg55⟩ := bind_some hg55
            refine QL_call (w_take rfl hc56) rfl c51 (fun w' hb => (w_spec_l4Ready w' ([.bx b30 63 [.int .i64 x12.1, .int .i64 x12.2]] ++ G) vp0 p0 (hp0.c) x12.1 x58 hx59 (H48.grow hb).ctx).mono fun e w'' hK => ⟨hK.1, hK.2.bel⟩) (by rfl) ?_
            refine XL_q (w_take rfl hc56) (qt_not rfl) rfl rfl ?_
            refine XL_q rfl (qt_pickT rfl hc56 rfl) rfl rfl ?_
            exact hk _ (Cov.same (vb hg55) (Cov.fresh rfl (Cov.fresh rfl (Cov.fresh rfl (Cov.fresh rfl (Cov.fresh rfl (Cov.refl)))))))
          · skip
            refine XL_skip (w_skip rfl hc56) rfl rfl ?_
            refine XL_skip (w_skip rfl hc56) rfl rfl ?_
            refine XL_skip (w_skip rfl hc56) rfl rfl ?_
            refine XL_skip (w_skip rfl hc56) rfl rfl ?_
            refine XL_skip (w_skip rfl hc56) rfl rfl ?_
            refine XL_q rfl (qt_pickF rfl hc56 rfl) rfl rfl ?_
            exact hk _ (Cov.same (vb (if_f hc56 hg55)) (Cov.fresh rfl (Cov.fresh rfl (Cov.fresh rfl (Cov.fresh rfl (Cov.fresh rfl (Cov.refl)))))))
        refine QL_nil fun a ha w60 hb61 => ?_
        have H62 : Holds (([] : List Res).flatMap Res.own) w w60 [.bx b30 63 [.int .i64 x12.1, .int .i64 x12.2]] G := H48.grow hb61
        refine nrm_seq (WP.app ?_ ha)
        refine WP_cond rfl (fun hc63 => ?_) (fun hc63 => ?_)
        · have hs7 := if_t hc63 hs7
          refine WP_seq ?_
          refine WP_region ?_
          refine XL_q rfl (qt_assign rfl) rfl rfl ?_
          refine WL_nil_seq ?_
          refine WP_ret fun a ha => ?_
          obtain rfl := Option.some.inj hs7
          have H64 : Holds (([] : List Res).flatMap Res.own) w w60 [] G := (H62.cut 0)
          exact ret_block (ret_seq (⟨ret_ne, rfl, ha.sub ⟨rfl, trivial⟩, H64⟩))
        · have hs7 := if_f hc63 hs7
          refine WP_skip fun a ha => ?_
          refine nrm_block (nrm_seq (WP.app ?_ ha))
          refine WP_region ?_
          refine XL_q rfl (qt_move rfl) rfl rfl ?_
          refine XL_q rfl (qt_add rfl rfl) rfl rfl ?_
          refine XL_q rfl (qt_assign rfl) rfl rfl ?_
          refine WL_nil fun a ha => ?_
          obtain rfl := Option.some.inj hs7
          have H65 : Holds (([] : List Res).flatMap Res.own) w w60 [] G := (H62.cut 0)
          exact ⟨rfl, ha.sub ⟨rfl, rfl, trivial⟩, H65⟩
    · have hs7 := if_f hc11 hs7
      refine WP_exit fun a ha => ?_
      obtain rfl := Option.some.inj hs7
      exact exit_seq (⟨exit_ne, rfl, ha.sub ⟨rfl, trivial⟩, H10⟩)
  · intro e a4 w66 hO67
    rcases o2 with o2 | o2
    · skip
      obtain ⟨rfl, hO69⟩ := hO67
      obtain ⟨ha, H68⟩ := hO69
      refine exit_block_eq (nrm_seq (WP.app ?_ ha))
      refine WP_seq ?_
      refine WP_region ?_
      refine XL_q rfl (qt_move rfl) rfl rfl ?_
      refine XL_lenH H68.ctx (t := (.pair (.int .i64) (.int .i64))) (hp0) u48 rfl rfl rfl ?_
      refine XL_q rfl (qt_leq rfl rfl) rfl rfl ?_
      refine XL_q rfl (qt_assign rfl) rfl rfl ?_
      refine WL_nil_seq ?_
      refine WP_ret fun a ha => ?_
      obtain rfl := Option.some.inj h
      exact ret1 rfl ha rfl ⟨rfl, H68⟩
    · skip
      obtain ⟨p70, rfl⟩ : ∃ z, z = o2 := ⟨o2, rfl⟩
      obtain ⟨rfl, hO72⟩ := hO67
      obtain ⟨ha, H71⟩ := hO72
      obtain rfl := Option.some.inj h
      exact ret_block (ret_seq (ret1 rfl ha rfl ⟨rfl, H71⟩))
theorem w_spec_l1Join (w : World) (G : List Res) (p0 : Int) (p1 : Int) (r : Int) (h : spec_l1JoinS p0 p1 = some r) (H : Ctx w G) : Calls Try.prog 71 #[.int .i64 p0, .int .i64 p1] w fun e w' => e = .returned (.int .i64 r) ∧ Holds (([] : List Res).flatMap Res.own) w w' [] G := by
  have H : Holds (([] : List Res).flatMap Res.own) w w [] G := Holds.startN H
  refine calls_enter (args := [.int .i64 p0, .int .i64 p1]) (n := 30) Try.func71 rfl rfl rfl ?_
  unfold spec_l1JoinS at h
  refine WP_seq ?_
  refine WP_region ?_
  refine XL_q rfl (qt_assign rfl) rfl rfl ?_
  refine WL_nil_seq ?_
  refine WP_seq ?_
  refine WP_region ?_
  refine XL_q rfl (qt_assign rfl) rfl rfl ?_
  refine WL_nil_seq ?_
  refine WP_seq ?_
  refine WP_seq ?_
  refine WP_region ?_
  refine XL_q rfl (qt_assign rfl) rfl rfl ?_
  refine WL_nil_seq ?_
  refine WP_block ?_
  obtain ⟨o3, ho4, h⟩ := bind_some h
  refine fun a5 ha6 => wp_loop_fix (I := fun s a w2 => match s with | (s1, s2) => (Fr a 30 [(0, .int .i64 p0), (1, .int .i64 p1), (5, .int .i64 s1), (6, .int .i64 s2)] ∧ Holds (([] : List Res).flatMap Res.own) w w2 [] G)) (O := fun o e a w2 => match o with | q0 => e = .exit 0 ∧ (Fr a 30 [(5, .int .i64 q0)] ∧ Holds (([] : List Res).flatMap Res.own) w w2 [] G)) ho4 ?_ ?_ ?_
  · exact ⟨ha6.sub ⟨rfl, rfl, rfl, rfl, trivial⟩, H⟩
  · clear ha6
    intro s o9 a w7 hs8 hI10
    obtain ⟨s1, s2⟩ := s
    obtain ⟨ha, H11⟩ := hI10
    refine WP.app ?_ ha
    clear ha
    refine WP_seq ?_
    refine WP_seq ?_
    refine WP_region ?_
    refine XL_q rfl (qt_move rfl) rfl rfl ?_
    refine XL_q rfl (qt_move rfl) rfl rfl ?_
    refine XL_q rfl (qt_move rfl) rfl rfl ?_
    refine XL_q rfl (qt_max rfl rfl) rfl rfl ?_
    refine XL_q rfl (qt_leq rfl rfl) rfl rfl ?_
    refine WL_nil_seq ?_
    refine WP_cond rfl (fun hc12 => ?_) (fun hc12 => ?_)
    · have hs8 := if_t hc12 hs8
      refine WP_skip_seq ?_
      refine WP_seq ?_
      refine WP_block ?_
      refine WP_seq ?_
      refine WP_region ?_
      refine XL_q rfl (qt_move rfl) rfl rfl ?_
      refine XL_q rfl (qt_move rfl) rfl rfl ?_
      obtain ⟨x13, hx14, hs8⟩ := bind_some hs8
      refine XL_q rfl (qt_quoO rfl rfl hx14) rfl rfl ?_
      refine XL_q rfl (qt_rem rfl rfl (by decide)) rfl rfl ?_
      refine XL_q rfl (qt_eql rfl rfl) rfl rfl ?_
      refine XL_q rfl (qt_move rfl) rfl rfl ?_
      obtain ⟨b15, hg16, hs8⟩ := bind_some hs8
      refine XL_join 6 25 (.bool b15) ?_ (fun md hmd hk => ?_)
      rotate_left
      · obtain ⟨Q, rfl⟩ := Md.seq_of hmd
        rcases btf ((Int.tmod x13 2) == 1) with hc17 | hc17
        · skip
          refine XL_skip (w_skip rfl hc17) rfl rfl ?_
          refine XL_skip (w_skip rfl hc17) rfl rfl ?_
          refine XL_skip (w_skip rfl hc17) rfl rfl ?_
          refine XL_skip (w_skip rfl hc17) rfl rfl ?_
          refine XL_skip (w_skip rfl hc17) rfl rfl ?_
          refine XL_q rfl (qt_pickT rfl hc17 rfl) rfl rfl ?_
          exact hk _ (Cov.same (vb (if_t hc17 hg16)) (Cov.fresh rfl (Cov.fresh rfl (Cov.fresh rfl (Cov.fresh rfl (Cov.fresh rfl (Cov.refl)))))))
        · skip
          have hg16 := if_f hc17 hg16
          refine XL_q (w_take rfl hc17) (qt_move rfl) rfl rfl ?_
          refine XL_q (w_take rfl hc17) (qt_move rfl) rfl rfl ?_
          obtain ⟨x18, hx19, hg16⟩ := bind_some hg16
          refine XL_q (w_take rfl hc17) (qt_quoO rfl rfl hx19) rfl rfl ?_
          refine XL_q (w_take rfl hc17) (qt_rem rfl rfl (by decide)) rfl rfl ?_
          refine XL_q (w_take rfl hc17) (qt_eql rfl rfl) rfl rfl ?_
          refine XL_q rfl (qt_pickF rfl hc17 rfl) rfl rfl ?_
          exact hk _ (Cov.same (vb hg16) (Cov.fresh rfl (Cov.fresh rfl (Cov.fresh rfl (Cov.fresh rfl (Cov.fresh rfl (Cov.refl)))))))
      refine WL_nil_seq ?_
      refine WP_cond rfl (fun hc20 => ?_) (fun hc20 => ?_)
      · have hs8 := if_t hc20 hs8
        refine WP_region ?_
        refine XL_q rfl (qt_move rfl) rfl rfl ?_
        refine XL_q rfl (qt_move rfl) rfl rfl ?_
        refine XL_q rfl (qt_add rfl rfl) rfl rfl ?_
        refine XL_q rfl (qt_assign rfl) rfl rfl ?_
        refine WL_nil fun a ha => ?_
        refine nrm_block (nrm_seq (WP.app ?_ ha))
        refine WP_region ?_
        refine XL_q rfl (qt_move rfl) rfl rfl ?_
        refine XL_q rfl (qt_mul rfl rfl) rfl rfl ?_
        refine XL_q rfl (qt_assign rfl) rfl rfl ?_
        refine WL_nil fun a ha => ?_
        obtain rfl := Option.some.inj hs8
        exact ⟨rfl, ha.sub ⟨rfl, rfl, rfl, rfl, trivial⟩, H11⟩
      · have hs8 := if_f hc20 hs8
        refine WP_skip fun a ha => ?_
        refine nrm_block (nrm_seq (WP.app ?_ ha))
        refine WP_region ?_
        refine XL_q rfl (qt_move rfl) rfl rfl ?_
        refine XL_q rfl (qt_mul rfl rfl) rfl rfl ?_
        refine XL_q rfl (qt_assign rfl) rfl rfl ?_
        refine WL_nil fun a ha => ?_
        obtain rfl := Option.some.inj hs8
        exact ⟨rfl, ha.sub ⟨rfl, rfl, rfl, rfl, trivial⟩, H11⟩
    · have hs8 := if_f hc12 hs8
      refine WP_exit fun a ha => ?_
      obtain rfl := Option.some.inj hs8
      exact exit_seq (⟨exit_ne, rfl, ha.sub ⟨rfl, trivial⟩, H11⟩)
  · intro e a5 w21 hO22
    obtain ⟨p23, rfl⟩ : ∃ z, z = o3 := ⟨o3, rfl⟩
    obtain ⟨rfl, hO25⟩ := hO22
    obtain ⟨ha, H24⟩ := hO25
    refine exit_block_eq (nrm_seq (WP.app ?_ ha))
    refine WP_seq ?_
    refine WP_region ?_
    refine XL_q rfl (qt_move rfl) rfl rfl ?_
    refine XL_q rfl (qt_assign rfl) rfl rfl ?_
    refine WL_nil_seq ?_
    refine WP_ret fun a ha => ?_
    obtain rfl := Option.some.inj h
    exact ret1 rfl ha rfl ⟨rfl, H24⟩
theorem w_spec_UsesOf (w : World) (G : List Res) (vp0 : Value) (p0 : List (Int × (List (Int × Int)) × Int)) (hp0 : Has G (.pair (.int .i64) (.pair (.slice (.pair (.int .i64) (.int .i64))) (.int .i64))) vp0 p0) (p1 : Int) (r : Int) (h : spec_UsesOfS p0 p1 = some r) (H : Ctx w G) : Calls Try.prog 72 #[vp0, .int .i64 p1] w fun e w' => e = .returned (.int .i64 r) ∧ Holds (([] : List Res).flatMap Res.own) w w' [] G := by
  have H : Holds (([] : List Res).flatMap Res.own) w w [] G := Holds.startN H
  refine calls_enter (args := [vp0, .int .i64 p1]) (n := 56) Try.func72 rfl rfl rfl ?_
  unfold spec_UsesOfS at h
  refine WP_seq ?_
  refine WP_region ?_
  refine XL_q rfl (qt_assign rfl) rfl rfl ?_
  refine WL_nil_seq ?_
  refine WP_seq ?_
  refine WP_seq ?_
  refine WP_still ?_
  refine XL_q rfl (qt_move rfl) rfl rfl ?_
  obtain ⟨x1, hx2, h⟩ := bind_some h
  refine QL_call rfl rfl c50 (fun w' hb => (w_spec_ItemsValid w' G vp0 p0 (hp0) x1 hx2 (H.grow hb).ctx).mono fun e w'' hK => ⟨hK.1, hK.2.bel⟩) (by rfl) ?_
  refine XL_q rfl (qt_not rfl) rfl rfl ?_
  refine XL_q rfl (qt_move rfl) rfl rfl ?_
  obtain ⟨b3, hg4, h⟩ := bind_some h
  refine XL_join 7 18 (.bool b3) ?_ (fun md hmd hk => ?_)
  rotate_left
  · obtain ⟨K, rfl⟩ := Md.quiet_of hmd
    rcases btf (!x1) with hc5 | hc5
    · skip
      refine XL_skip (w_skip rfl hc5) rfl rfl ?_
      refine XL_skip (w_skip rfl hc5) rfl rfl ?_
      refine XL_skip (w_skip rfl hc5) rfl rfl ?_
      refine XL_skip (w_skip rfl hc5) rfl rfl ?_
      refine XL_skip (w_skip rfl hc5) rfl rfl ?_
      refine XL_skip (w_skip rfl hc5) rfl rfl ?_
      refine XL_q rfl (qt_pickT rfl hc5 rfl) rfl rfl ?_
      exact hk _ (Cov.same (vb (if_t hc5 hg4)) (Cov.fresh rfl (Cov.fresh rfl (Cov.fresh rfl (Cov.fresh rfl (Cov.fresh rfl (Cov.fresh rfl (Cov.refl))))))))
    · skip
      have hg4 := if_f hc5 hg4
      refine XL_q (w_take rfl hc5) (qt_move rfl) rfl rfl ?_
      refine XL_q (w_take rfl hc5) (qt_move rfl) rfl rfl ?_
      refine XL_lenH H.ctx (t := (.pair (.int .i64) (.pair (.slice (.pair (.int .i64) (.int .i64))) (.int .i64)))) (hp0) u29 (w_take rfl hc5) rfl rfl ?_
      refine XL_q (w_take rfl hc5) (qt_sub rfl rfl) rfl rfl ?_
      obtain ⟨x6, hx7, hg4⟩ := bind_some hg4
      refine QL_call (w_take rfl hc5) rfl c27 (fun w' hb => (w_spec_l1In w' G p1 0 (IntKind.wrap .i64 ((List.length p0 : Int) - 1)) x6 hx7 (H.grow hb).ctx).mono fun e w'' hK => ⟨hK.1, hK.2.bel⟩) (by rfl) ?_
      refine XL_q (w_take rfl hc5) (qt_not rfl) rfl rfl ?_
      refine XL_q rfl (qt_pickF rfl hc5 rfl) rfl rfl ?_
      exact hk _ (Cov.same (vb hg4) (Cov.fresh rfl (Cov.fresh rfl (Cov.fresh rfl (Cov.fresh rfl (Cov.fresh rfl (Cov.fresh rfl (Cov.refl))))))))
  refine QL_nil fun a ha w8 hb9 => ?_
  have H10 : Holds (([] : List Res).flatMap Res.own) w w8 [] G := H.grow hb9
  refine nrm_seq (WP.app ?_ ha)
  refine WP_cond rfl (fun hc11 => ?_) (fun hc11 => ?_)
  · have h := if_t hc11 h
    refine WP_seq ?_
    refine WP_region ?_
    refine XL_q rfl (qt_assign rfl) rfl rfl ?_
    refine WL_nil_seq ?_
    refine WP_ret fun a ha => ?_
    obtain rfl := Option.some.inj h
    exact ret_seq (ret1 rfl ha rfl ⟨rfl, H10⟩)
  · have h := if_f hc11 h
    refine WP_skip_seq ?_
    refine WP_seq ?_
    refine WP_region ?_
    refine XL_q rfl (qt_move rfl) rfl rfl ?_
    obtain ⟨x12, hx13, h⟩ := bind_some h
    refine XL_q rfl (qt_shlO rfl rfl hx13) rfl rfl ?_
    refine XL_q rfl (qt_assign rfl) rfl rfl ?_
    refine WL_nil_seq ?_
    refine WP_seq ?_
    refine WP_seq ?_
    refine WP_region ?_
    refine XL_q rfl (qt_move rfl) rfl rfl ?_
    refine XL_q rfl (qt_assign rfl) rfl rfl ?_
    refine WL_nil_seq ?_
    refine WP_block ?_
    obtain ⟨o16, ho17, h⟩ := bind_some h
    refine fun a18 ha19 => wp_loop_fix (I := fun s a w2 => match s with | (s14, s15) => (Fr a 56 [(0, vp0), (5, .int .i64 s14), (6, .int .i64 s15)] ∧ Holds (([] : List Res).flatMap Res.own) w w2 [] G)) (O := fun o e a w2 => match o with | q0 => e = .exit 0 ∧ (Fr a 56 [(5, .int .i64 q0)] ∧ Holds (([] : List Res).flatMap Res.own) w w2 [] G)) ho17 ?_ ?_ ?_
    · exact ⟨ha19.sub ⟨rfl, rfl, rfl, trivial⟩, H10⟩
    · clear ha19
      intro s o22 a w20 hs21 hI23
      obtain ⟨s14, s15⟩ := s
      obtain ⟨ha, H24⟩ := hI23
      refine WP.app ?_ ha
      clear ha
      refine WP_seq ?_
      refine WP_seq ?_
      refine WP_region ?_
      refine XL_q rfl (qt_move rfl) rfl rfl ?_
      refine XL_q rfl (qt_geq rfl rfl) rfl rfl ?_
      refine WL_nil_seq ?_
      refine WP_cond rfl (fun hc25 => ?_) (fun hc25 => ?_)
      · have hs21 := if_t hc25 hs21
        refine WP_skip_seq ?_
        refine WP_seq ?_
        refine WP_block ?_
        refine WP_seq ?_
        refine WP_region ?_
        refine XL_q rfl (qt_assign rfl) rfl rfl ?_
        refine WL_nil_seq ?_
        refine WP_block ?_
        obtain ⟨o28, ho29, hs21⟩ := bind_some hs21
        refine fun a30 ha31 => wp_loop_fix (I := fun s a w2 => match s with | (s26, s27) => (Fr a 56 [(0, vp0), (5, .int .i64 s26), (6, .int .i64 s15), (7, .int .i64 s27)] ∧ Holds (([] : List Res).flatMap Res.own) w w2 [] G)) (O := fun o e a w2 => match o with | q0 => e = .exit 2 ∧ (Fr a 56 [(0, vp0), (5, .int .i64 q0), (6, .int .i64 s15)] ∧ Holds (([] : List Res).flatMap Res.own) w w2 [] G)) ho29 ?_ ?_ ?_
        · exact ⟨ha31.sub ⟨rfl, rfl, rfl, rfl, trivial⟩, H24⟩
        · clear ha31
          intro s o34 a w32 hs33 hI35
          obtain ⟨s26, s27⟩ := s
          obtain ⟨ha, H36⟩ := hI35
          refine WP.app ?_ ha
          clear ha
          refine WP_seq ?_
          refine WP_seq ?_
          refine WP_region ?_
          refine XL_q rfl (qt_move rfl) rfl rfl ?_
          refine XL_q rfl (qt_move rfl) rfl rfl ?_
          refine XL_q rfl (qt_move rfl) rfl rfl ?_
          obtain ⟨x37, hx38, hs33⟩ := bind_some hs33
          refine XL_indexH H36.ctx (hp0) hx38 u29 i84 rfl rfl rfl rfl (fun b39 off40 cap41 hv42 => ?_)
          refine XL_q rfl (qt_fieldAddr uf84 fi84_1 nz82 rfl) rfl rfl ?_
          obtain ⟨F43, hat44, hdup45⟩ := H36.at (hp0) hx38 hv42
          obtain ⟨F46, hat47, hin48⟩ := AtP.snd hat44
          obtain ⟨F49, hat50, hin51⟩ := AtP.fst hat47
          refine XL_load (t := (.slice (.pair (.int .i64) (.int .i64)))) u82 rfl rfl hat50 rfl rfl rfl (fun v52 hr53 => ?_)
          have H54 : Holds (([] : List Res).flatMap Res.own) w w32 [.ro (.pair (.int .i64) (.int .i64)) v52 x37.2.1] G := hdup45 _ _ _ _ hr53 (fun k h => (fun k h => (fun _ h => h) k (hin48 k h)) k (hin51 k h))
          refine XL_lenH H54.ctx (t := (.pair (.int .i64) (.int .i64))) (HasRo.has (HasRo.hd)) u82 rfl rfl rfl ?_
          refine XL_q rfl (qt_lss rfl rfl) rfl rfl ?_
          refine XL_q rfl (qt_move rfl) rfl rfl ?_
          obtain ⟨b55, hg56, hs33⟩ := bind_some hs33
          refine XL_join 6 40 (.bool b55) ?_ (fun md hmd hk => ?_)
          rotate_left
          · obtain ⟨Q, rfl⟩ := Md.seq_of hmd
            rcases btf (decide (s27 < (List.length x37.2.1 : Int))) with hc57 | hc57
            · skip
              have hg56 := if_t hc57 hg56
              refine XL_q (w_take rfl hc57) (qt_move rfl) rfl rfl ?_
              refine XL_q (w_take rfl hc57) (qt_move rfl) rfl rfl ?_
              obtain ⟨x58, hx59, hg56⟩ := bind_some hg56
              refine XL_q (w_take rfl hc57) (qt_shrO rfl rfl hx59) rfl rfl ?_
              refine XL_q (w_take rfl hc57) (qt_rem rfl rfl (by decide)) rfl rfl ?_
              refine XL_q (w_take rfl hc57) (qt_eql rfl rfl) rfl rfl ?_
              refine XL_q rfl (qt_pickT rfl hc57 rfl) rfl rfl ?_
              exact hk _ (Cov.same (vb hg56) (Cov.fresh rfl (Cov.fresh rfl (Cov.fresh rfl (Cov.fresh rfl (Cov.fresh rfl (Cov.refl)))))))
            · skip
              refine XL_skip (w_skip rfl hc57) rfl rfl ?_
              refine XL_skip (w_skip rfl hc57) rfl rfl ?_
              refine XL_skip (w_skip rfl hc57) rfl rfl ?_
              refine XL_skip (w_skip rfl hc57) rfl rfl ?_
              refine XL_skip (w_skip rfl hc57) rfl rfl ?_
              refine XL_q rfl (qt_pickF rfl hc57 rfl) rfl rfl ?_
              exact hk _ (Cov.same (vb (if_f hc57 hg56)) (Cov.fresh rfl (Cov.fresh rfl (Cov.fresh rfl (Cov.fresh rfl (Cov.fresh rfl (Cov.refl)))))))
          refine WL_nil_seq ?_
          refine WP_cond rfl (fun hc60 => ?_) (fun hc60 => ?_)
          · have hs33 := if_t hc60 hs33
            refine WP_skip_seq ?_
            refine WP_seq ?_
            refine WP_block ?_
            refine WP_still ?_
            refine XL_q rfl (qt_move rfl) rfl rfl ?_
            refine XL_q rfl (qt_move rfl) rfl rfl ?_
            refine XL_q rfl (qt_move rfl) rfl rfl ?_
            obtain ⟨x61, hx62, hs33⟩ := bind_some hs33
            refine XL_indexH H54.ctx (hp0.c) hx62 u29 i84 rfl rfl rfl rfl (fun b63 off64 cap65 hv66 => ?_)
            refine XL_q rfl (qt_fieldAddr uf84 fi84_1 nz82 rfl) rfl rfl ?_
            obtain ⟨F67, hat68, hdup69⟩ := H54.at (hp0.c) hx62 hv66
            obtain ⟨F70, hat71, hin72⟩ := AtP.snd hat68
            obtain ⟨F73, hat74, hin75⟩ := AtP.fst hat71
            refine XL_load (t := (.slice (.pair (.int .i64) (.int .i64)))) u82 rfl rfl hat74 rfl rfl rfl (fun v76 hr77 => ?_)
            have H78 : Holds (([] : List Res).flatMap Res.own) w w32 [.ro (.pair (.int .i64) (.int .i64)) v76 x61.2.1, .ro (.pair (.int .i64) (.int .i64)) v52 x37.2.1] G := hdup69 _ _ _ _ hr77 (fun k h => (fun k h => (fun _ h => h) k (hin72 k h)) k (hin75 k h))
            refine XL_q rfl (qt_move rfl) rfl rfl ?_
            obtain ⟨x79, hx80, hs33⟩ := bind_some hs33
            refine XL_indexH H78.ctx (HasRo.has (HasRo.hd)) hx80 u82 i103 rfl rfl rfl rfl (fun b81 off82 cap83 hv84 => ?_)
            refine XL_q rfl (qt_fieldAddr uf103 fi103_0 nz3 rfl) rfl rfl ?_
            obtain ⟨F85, hat86, hdup87⟩ := H78.at (HasRo.has (HasRo.hd)) hx80 hv84
            obtain ⟨F88, hat89, hin90⟩ := AtP.fst hat86
            refine XL_load_int (k := .i64) u3 rfl hat89 rfl rfl rfl ?_
            obtain ⟨x91, hx92, hs33⟩ := bind_some hs33
            refine XL_q rfl (qt_shlO rfl rfl hx92) rfl rfl ?_
            obtain ⟨x93, hx94, hs33⟩ := bind_some hs33
            refine QL_call rfl rfl c71 (fun w' hb => (w_spec_l1Join w' ([.ro (.pair (.int .i64) (.int .i64)) v76 x61.2.1, .ro (.pair (.int .i64) (.int .i64)) v52 x37.2.1] ++ G) s26 x91 x93 hx94 (H78.grow hb).ctx).mono fun e w'' hK => ⟨hK.1, hK.2.bel⟩) (by rfl) ?_
            refine XL_q rfl (qt_assign rfl) rfl rfl ?_
            refine QL_nil fun a ha w95 hb96 => ?_
            have H97 : Holds (([] : List Res).flatMap Res.own) w w95 [.ro (.pair (.int .i64) (.int .i64)) v76 x61.2.1, .ro (.pair (.int .i64) (.int .i64)) v52 x37.2.1] G := H78.grow hb96
            refine nrm_block (nrm_seq (WP.app ?_ ha))
            refine WP_region ?_
            refine XL_q rfl (qt_move rfl) rfl rfl ?_
            refine XL_q rfl (qt_add rfl rfl) rfl rfl ?_
            refine XL_q rfl (qt_assign rfl) rfl rfl ?_
            refine WL_nil fun a ha => ?_
            obtain rfl := Option.some.inj hs33
            have H98 : Holds (([] : List Res).flatMap Res.own) w w95 [] G := ((H97.cut 0).cut 0)
            exact ⟨rfl, ha.sub ⟨rfl, rfl, rfl, rfl, trivial⟩, H98⟩
          · have hs33 := if_f hc60 hs33
            refine WP_exit fun a ha => ?_
            obtain rfl := Option.some.inj hs33
            have H99 : Holds (([] : List Res).flatMap Res.own) w w32 [] G := (H54.cut 0)
            exact exit_seq (⟨exit_ne, rfl, ha.sub ⟨rfl, rfl, rfl, trivial⟩, H99⟩)
        · intro e a30 w100 hO101
          obtain ⟨p102, rfl⟩ : ∃ z, z = o28 := ⟨o28, rfl⟩
          obtain ⟨rfl, hO104⟩ := hO101
          obtain ⟨ha, H103⟩ := hO104
          refine exit_block_eq (nrm_block (nrm_seq (WP.app ?_ ha)))
          refine WP_region ?_
          refine XL_q rfl (qt_move rfl) rfl rfl ?_
          refine XL_q rfl (qt_sub rfl rfl) rfl rfl ?_
          refine XL_q rfl (qt_assign rfl) rfl rfl ?_
          refine WL_nil fun a ha => ?_
          obtain rfl := Option.some.inj hs21
          exact ⟨rfl, ha.sub ⟨rfl, rfl, rfl, trivial⟩, H103⟩
      · have hs21 := if_f hc25 hs21
        refine WP_exit fun a ha => ?_
        obtain rfl := Option.some.inj hs21
        exact exit_seq (⟨exit_ne, rfl, ha.sub ⟨rfl, trivial⟩, H24⟩)
    · intro e a18 w105 hO106
      obtain ⟨p107, rfl⟩ : ∃ z, z = o16 := ⟨o16, rfl⟩
      obtain ⟨rfl, hO109⟩ := hO106
      obtain ⟨ha, H108⟩ := hO109
      refine exit_block_eq (nrm_seq (WP.app ?_ ha))
      refine WP_seq ?_
      refine WP_region ?_
      refine XL_q rfl (qt_move rfl) rfl rfl ?_
      refine XL_q rfl (qt_assign rfl) rfl rfl ?_
      refine WL_nil_seq ?_
      refine WP_ret fun a ha => ?_
      obtain rfl := Option.some.inj h
      exact ret1 rfl ha rfl ⟨rfl, H108⟩
theorem w_spec_MarksOf (w : World) (G : List Res) (vp0 : Value) (p0 : List (Int × (List (Int × Int)) × Int)) (hp0 : Has G (.pair (.int .i64) (.pair (.slice (.pair (.int .i64) (.int .i64))) (.int .i64))) vp0 p0) (p1 : Int) (r : Int) (h : spec_MarksOfS p0 p1 = some r) (H : Ctx w G) : Calls Try.prog 53 #[vp0, .int .i64 p1] w fun e w' => e = .returned (.int .i64 r) ∧ Holds (([] : List Res).flatMap Res.own) w w' [] G := by
  have H : Holds (([] : List Res).flatMap Res.own) w w [] G := Holds.startN H
  refine calls_enter (args := [vp0, .int .i64 p1]) (n := 31) Try.func53 rfl rfl rfl ?_
  unfold spec_MarksOfS at h
  refine WP_seq ?_
  refine WP_region ?_
  refine XL_q rfl (qt_assign rfl) rfl rfl ?_
  refine WL_nil_seq ?_
  refine WP_seq ?_
  refine WP_still ?_
  refine XL_q rfl (qt_move rfl) rfl rfl ?_
  refine XL_q rfl (qt_move rfl) rfl rfl ?_
  obtain ⟨x1, hx2, h⟩ := bind_some h
  refine QL_call rfl rfl c72 (fun w' hb => (w_spec_UsesOf w' G vp0 p0 (hp0) p1 x1 hx2 (H.grow hb).ctx).mono fun e w'' hK => ⟨hK.1, hK.2.bel⟩) (by rfl) ?_
  refine XL_q rfl (qt_assign rfl) rfl rfl ?_
  refine QL_nil fun a ha w3 hb4 => ?_
  have H5 : Holds (([] : List Res).flatMap Res.own) w w3 [] G := H.grow hb4
  refine nrm_seq (WP.app ?_ ha)
  refine WP_seq ?_
  refine WP_seq ?_
  refine WP_region ?_
  refine XL_q rfl (qt_move rfl) rfl rfl ?_
  refine XL_q rfl (qt_lss rfl rfl) rfl rfl ?_
  refine WL_nil_seq ?_
  refine WP_cond rfl (fun hc6 => ?_) (fun hc6 => ?_)
  · have h := if_t hc6 h
    refine WP_seq ?_
    refine WP_region ?_
    refine XL_q rfl (qt_assign rfl) rfl rfl ?_
    refine WL_nil_seq ?_
    refine WP_ret fun a ha => ?_
    obtain rfl := Option.some.inj h
    exact ret_seq (ret1 rfl ha rfl ⟨rfl, H5⟩)
  · have h := if_f hc6 h
    refine WP_skip_seq ?_
    refine WP_seq ?_
    refine WP_region ?_
    refine XL_q rfl (qt_assign rfl) rfl rfl ?_
    refine WL_nil_seq ?_
    refine WP_seq ?_
    refine WP_seq ?_
    refine WP_region ?_
    refine XL_q rfl (qt_assign rfl) rfl rfl ?_
    refine WL_nil_seq ?_
    refine WP_block ?_
    obtain ⟨o9, ho10, h⟩ := bind_some h
    refine fun a11 ha12 => wp_loop_fix (I := fun s a w2 => match s with | (s7, s8) => (Fr a 31 [(0, vp0), (1, .int .i64 p1), (5, .int .i64 x1), (6, .int .i64 s7), (7, .int .i64 s8)] ∧ Holds (([] : List Res).flatMap Res.own) w w2 [] G)) (O := fun o e a w2 => match o with | q0 => e = .exit 0 ∧ (Fr a 31 [(6, .int .i64 q0)] ∧ Holds (([] : List Res).flatMap Res.own) w w2 [] G)) ho10 ?_ ?_ ?_
    · exact ⟨ha12.sub ⟨rfl, rfl, rfl, rfl, rfl, trivial⟩, H5⟩
    · clear ha12
      intro s o15 a w13 hs14 hI16
      obtain ⟨s7, s8⟩ := s
      obtain ⟨ha, H17⟩ := hI16
      refine WP.app ?_ ha
      clear ha
      refine WP_seq ?_
      refine WP_seq ?_
      refine WP_region ?_
      refine XL_q rfl (qt_move rfl) rfl rfl ?_
      refine XL_q rfl (qt_move rfl) rfl rfl ?_
      refine XL_q rfl (qt_leq rfl rfl) rfl rfl ?_
      refine WL_nil_seq ?_
      refine WP_cond rfl (fun hc18 => ?_) (fun hc18 => ?_)
      · have hs14 := if_t hc18 hs14
        refine WP_skip_seq ?_
        refine WP_seq ?_
        refine WP_block ?_
        refine WP_seq ?_
        refine WP_region ?_
        refine XL_q rfl (qt_move rfl) rfl rfl ?_
        refine XL_q rfl (qt_move rfl) rfl rfl ?_
        obtain ⟨x19, hx20, hs14⟩ := bind_some hs14
        refine XL_q rfl (qt_shrO rfl rfl hx20) rfl rfl ?_
        refine XL_q rfl (qt_rem rfl rfl (by decide)) rfl rfl ?_
        refine XL_q rfl (qt_eql rfl rfl) rfl rfl ?_
        refine WL_nil_seq ?_
        refine WP_cond rfl (fun hc21 => ?_) (fun hc21 => ?_)
        · have hs14 := if_t hc21 hs14
          refine WP_still ?_
          refine XL_q rfl (qt_move rfl) rfl rfl ?_
          refine XL_q rfl (qt_move rfl) rfl rfl ?_
          refine XL_q rfl (qt_move rfl) rfl rfl ?_
          obtain ⟨x22, hx23, hs14⟩ := bind_some hs14
          refine XL_indexH H17.ctx (hp0) hx23 u29 i84 rfl rfl rfl rfl (fun b24 off25 cap26 hv27 => ?_)
          refine XL_q rfl (qt_fieldAddr uf84 fi84_2 nz3 rfl) rfl rfl ?_
          obtain ⟨F28, hat29, hdup30⟩ := H17.at (hp0) hx23 hv27
          obtain ⟨F31, hat32, hin33⟩ := AtP.snd hat29
          obtain ⟨F34, hat35, hin36⟩ := AtP.snd hat32
          refine XL_load_int (k := .i64) u3 rfl hat35 rfl rfl rfl ?_
          obtain ⟨x37, hx38, hs14⟩ := bind_some hs14
          refine QL_call rfl rfl c71 (fun w' hb => (w_spec_l1Join w' G s7 x22.2.2 x37 hx38 (H17.grow hb).ctx).mono fun e w'' hK => ⟨hK.1, hK.2.bel⟩) (by rfl) ?_
          refine XL_q rfl (qt_assign rfl) rfl rfl ?_
          refine QL_nil fun a ha w39 hb40 => ?_
          have H41 : Holds (([] : List Res).flatMap Res.own) w w39 [] G := H17.grow hb40
          refine nrm_block (nrm_seq (WP.app ?_ ha))
          refine WP_region ?_
          refine XL_q rfl (qt_move rfl) rfl rfl ?_
          refine XL_q rfl (qt_add rfl rfl) rfl rfl ?_
          refine XL_q rfl (qt_assign rfl) rfl rfl ?_
          refine WL_nil fun a ha => ?_
          obtain rfl := Option.some.inj hs14
          exact ⟨rfl, ha.sub ⟨rfl, rfl, rfl, rfl, rfl, trivial⟩, H41⟩
        · have hs14 := if_f hc21 hs14
          refine WP_skip fun a ha => ?_
          refine nrm_block (nrm_seq (WP.app ?_ ha))
          refine WP_region ?_
          refine XL_q rfl (qt_move rfl) rfl rfl ?_
          refine XL_q rfl (qt_add rfl rfl) rfl rfl ?_
          refine XL_q rfl (qt_assign rfl) rfl rfl ?_
          refine WL_nil fun a ha => ?_
          obtain rfl := Option.some.inj hs14
          exact ⟨rfl, ha.sub ⟨rfl, rfl, rfl, rfl, rfl, trivial⟩, H17⟩
      · have hs14 := if_f hc18 hs14
        refine WP_exit fun a ha => ?_
        obtain rfl := Option.some.inj hs14
        exact exit_seq (⟨exit_ne, rfl, ha.sub ⟨rfl, trivial⟩, H17⟩)
    · intro e a11 w42 hO43
      obtain ⟨p44, rfl⟩ : ∃ z, z = o9 := ⟨o9, rfl⟩
      obtain ⟨rfl, hO46⟩ := hO43
      obtain ⟨ha, H45⟩ := hO46
      refine exit_block_eq (nrm_seq (WP.app ?_ ha))
      refine WP_seq ?_
      refine WP_region ?_
      refine XL_q rfl (qt_move rfl) rfl rfl ?_
      refine XL_q rfl (qt_assign rfl) rfl rfl ?_
      refine WL_nil_seq ?_
      refine WP_ret fun a ha => ?_
      obtain rfl := Option.some.inj h
      exact ret1 rfl ha rfl ⟨rfl, H45⟩
theorem w_spec_l1Meet (w : World) (G : List Res) (p0 : Int) (p1 : Int) (r : Int) (h : spec_l1MeetS p0 p1 = some r) (H : Ctx w G) : Calls Try.prog 52 #[.int .i64 p0, .int .i64 p1] w fun e w' => e = .returned (.int .i64 r) ∧ Holds (([] : List Res).flatMap Res.own) w w' [] G := by
  have H : Holds (([] : List Res).flatMap Res.own) w w [] G := Holds.startN H
  refine calls_enter (args := [.int .i64 p0, .int .i64 p1]) (n := 12) Try.func52 rfl rfl rfl ?_
  unfold spec_l1MeetS at h
  refine WP_seq ?_
  refine WP_region ?_
  refine XL_q rfl (qt_assign rfl) rfl rfl ?_
  refine WL_nil_seq ?_
  refine WP_seq ?_
  refine WP_still ?_
  refine XL_q rfl (qt_move rfl) rfl rfl ?_
  refine XL_q rfl (qt_move rfl) rfl rfl ?_
  refine XL_q rfl (qt_add rfl rfl) rfl rfl ?_
  refine XL_q rfl (qt_move rfl) rfl rfl ?_
  refine XL_q rfl (qt_move rfl) rfl rfl ?_
  obtain ⟨x1, hx2, h⟩ := bind_some h
  refine QL_call rfl rfl c71 (fun w' hb => (w_spec_l1Join w' G p0 p1 x1 hx2 (H.grow hb).ctx).mono fun e w'' hK => ⟨hK.1, hK.2.bel⟩) (by rfl) ?_
  refine XL_q rfl (qt_sub rfl rfl) rfl rfl ?_
  refine XL_q rfl (qt_assign rfl) rfl rfl ?_
  refine QL_nil fun a ha w3 hb4 => ?_
  have H5 : Holds (([] : List Res).flatMap Res.own) w w3 [] G := H.grow hb4
  refine nrm_seq (WP.app ?_ ha)
  refine WP_ret fun a ha => ?_
  obtain rfl := Option.some.inj h
  exact ret1 rfl ha rfl ⟨rfl, H5⟩
theorem w_spec_FreeOf (w : World) (G : List Res) (vp0 : Value) (p0 : List (Int × (List (Int × Int)) × Int)) (hp0 : Has G (.pair (.int .i64) (.pair (.slice (.pair (.int .i64) (.int .i64))) (.int .i64))) vp0 p0) (p1 : Int) (r : (List Int)) (h : spec_FreeOfS p0 p1 = some r) (H : Ctx w G) : Calls Try.prog 29 #[vp0, .int .i64 p1] w fun e w' => ∃ (v1 : Value), e = .returned (v1) ∧ Holds (([] : List Res).flatMap Res.own) w w' [.sl 3 (.int .i64) v1 r] G := by
  have H : Holds (([] : List Res).flatMap Res.own) w w [] G := Holds.startN H
  refine calls_enter (args := [vp0, .int .i64 p1]) (n := 41) Try.func29 rfl rfl rfl ?_
  unfold spec_FreeOfS at h
  refine WP_seq ?_
  refine WP_region ?_
  refine XL_q rfl (qt_assign rfl) rfl rfl ?_
  refine WL_nil_seq ?_
  refine WP_seq ?_
  refine WP_region ?_
  refine WL_buildH (t := (.int .i64)) (args := []) (xs := ([] : List Int)) H (BltL.nil) u23 j3 rfl rfl rfl rfl rfl rfl (fun v1 w2 H3 => ?_)
  have H4 : Holds (([] : List Res).flatMap Res.own) w w2 [.sl 3 (.int .i64) v1 ([])] G := H3
  refine XL_q rfl (qt_assign rfl) rfl rfl ?_
  refine WL_nil_seq ?_
  refine WP_seq ?_
  refine WP_seq ?_
  refine WP_region ?_
  refine XL_q rfl (qt_assign rfl) rfl rfl ?_
  refine WL_nil_seq ?_
  refine WP_block ?_
  obtain ⟨o7, ho8, h⟩ := bind_some h
  refine fun a9 ha10 => wp_loop_fix (I := fun s a w2 => match s with | (s5, s6) => ∃ vs5, Fr a 41 [(0, vp0), (1, .int .i64 p1), (5, vs5), (6, .int .i64 s6)] ∧ Holds (([] : List Res).flatMap Res.own) w w2 [.sl 3 (.int .i64) vs5 s5] G) (O := fun o e a w2 => match o with | q0 => e = .exit 0 ∧ ∃ vq0, Fr a 41 [(5, vq0)] ∧ Holds (([] : List Res).flatMap Res.own) w w2 [.sl 3 (.int .i64) vq0 q0] G) ho8 ?_ ?_ ?_
  · exact ⟨v1, ha10.sub ⟨rfl, rfl, rfl, rfl, trivial⟩, H4⟩
  · clear ha10
    intro s o13 a w11 hs12 hI14
    obtain ⟨s5, s6⟩ := s
    obtain ⟨vs5, ha, H15⟩ := hI14
    refine WP.app ?_ ha
    clear ha
    refine WP_seq ?_
    refine WP_seq ?_
    refine WP_still ?_
    refine XL_q rfl (qt_move rfl) rfl rfl ?_
    refine XL_q rfl (qt_move rfl) rfl rfl ?_
    refine XL_lenH H15.ctx (t := (.pair (.int .i64) (.pair (.slice (.pair (.int .i64) (.int .i64))) (.int .i64)))) (hp0.c) u29 rfl rfl rfl ?_
    refine XL_q rfl (qt_lss rfl rfl) rfl rfl ?_
    refine XL_q rfl (qt_move rfl) rfl rfl ?_
    obtain ⟨b16, hg17, hs12⟩ := bind_some hs12
    refine XL_join 3 15 (.bool b16) ?_ (fun md hmd hk => ?_)
    rotate_left
    · obtain ⟨K, rfl⟩ := Md.quiet_of hmd
      rcases btf (decide (s6 < (List.length p0 : Int))) with hc18 | hc18
      · skip
        have hg17 := if_t hc18 hg17
        refine XL_q (w_take rfl hc18) (qt_move rfl) rfl rfl ?_
        obtain ⟨x19, hx20, hg17⟩ := bind_some hg17
        refine QL_call (w_take rfl hc18) rfl c50 (fun w' hb => (w_spec_ItemsValid w' ([.sl 3 (.int .i64) vs5 s5] ++ G) vp0 p0 (hp0.c) x19 hx20 (H15.grow hb).ctx).mono fun e w'' hK => ⟨hK.1, hK.2.bel⟩) (by rfl) ?_
        refine XL_q rfl (qt_pickT rfl hc18 rfl) rfl rfl ?_
        exact hk _ (Cov.same (vb hg17) (Cov.fresh rfl (Cov.fresh rfl (Cov.refl))))
      · skip
        refine XL_skip (w_skip rfl hc18) rfl rfl ?_
        refine XL_skip (w_skip rfl hc18) rfl rfl ?_
        refine XL_q rfl (qt_pickF rfl hc18 rfl) rfl rfl ?_
        exact hk _ (Cov.same (vb (if_f hc18 hg17)) (Cov.fresh rfl (Cov.fresh rfl (Cov.refl))))
    refine XL_q rfl (qt_move rfl) rfl rfl ?_
    obtain ⟨b21, hg22, hs12⟩ := bind_some hs12
    refine XL_join 3 19 (.bool b21) ?_ (fun md hmd hk => ?_)
    rotate_left
    · obtain ⟨K, rfl⟩ := Md.quiet_of hmd
      rcases btf b16 with hc23 | hc23
      · skip
        have hg22 := if_t hc23 hg22
        refine XL_q (w_take rfl hc23) (qt_move rfl) rfl rfl ?_
        obtain ⟨x24, hx25, hg22⟩ := bind_some hg22
        refine QL_call (w_take rfl hc23) rfl c27 (fun w' hb => (w_spec_l1In w' ([.sl 3 (.int .i64) vs5 s5] ++ G) p1 0 31 x24 hx25 (H15.grow hb).ctx).mono fun e w'' hK => ⟨hK.1, hK.2.bel⟩) (by rfl) ?_
        refine XL_q rfl (qt_pickT rfl hc23 rfl) rfl rfl ?_
        exact hk _ (Cov.same (vb hg22) (Cov.fresh rfl (Cov.fresh rfl (Cov.refl))))
      · skip
        refine XL_skip (w_skip rfl hc23) rfl rfl ?_
        refine XL_skip (w_skip rfl hc23) rfl rfl ?_
        refine XL_q rfl (qt_pickF rfl hc23 rfl) rfl rfl ?_
        exact hk _ (Cov.same (vb (if_f hc23 hg22)) (Cov.fresh rfl (Cov.fresh rfl (Cov.refl))))
    refine QL_nil fun a ha w26 hb27 => ?_
    have H28 : Holds (([] : List Res).flatMap Res.own) w w26 [.sl 3 (.int .i64) vs5 s5] G := H15.grow hb27
    refine nrm_seq (WP.app ?_ ha)
    refine WP_cond rfl (fun hc29 => ?_) (fun hc29 => ?_)
    · have hs12 := if_t hc29 hs12
      refine WP_skip_seq ?_
      refine WP_seq ?_
      refine WP_block ?_
      refine WP_seq ?_
      refine WP_still ?_
      refine XL_q rfl (qt_move rfl) rfl rfl ?_
      refine XL_q rfl (qt_move rfl) rfl rfl ?_
      obtain ⟨x30, hx31, hs12⟩ := bind_some hs12
      refine XL_indexH H28.ctx (hp0.c) hx31 u29 i84 rfl rfl rfl rfl (fun b32 off33 cap34 hv35 => ?_)
      refine XL_q rfl (qt_fieldAddr uf84 fi84_0 nz3 rfl) rfl rfl ?_
      obtain ⟨F36, hat37, hdup38⟩ := H28.at (hp0.c) hx31 hv35
      obtain ⟨F39, hat40, hin41⟩ := AtP.fst hat37
      refine XL_load_int (k := .i64) u3 rfl hat40 rfl rfl rfl ?_
      refine XL_q rfl (qt_gtr rfl rfl) rfl rfl ?_
      refine XL_q rfl (qt_move rfl) rfl rfl ?_
      obtain ⟨b42, hg43, hs12⟩ := bind_some hs12
      refine XL_join 7 35 (.bool b42) ?_ (fun md hmd hk => ?_)
      rotate_left
      · obtain ⟨K, rfl⟩ := Md.quiet_of hmd
        rcases btf (decide (x30.1 > 0)) with hc44 | hc44
        · skip
          have hg43 := if_t hc44 hg43
          refine XL_q (w_take rfl hc44) (qt_move rfl) rfl rfl ?_
          refine XL_q (w_take rfl hc44) (qt_move rfl) rfl rfl ?_
          obtain ⟨x45, hx46, hg43⟩ := bind_some hg43
          refine QL_call (w_take rfl hc44) rfl c53 (fun w' hb => (w_spec_MarksOf w' ([.sl 3 (.int .i64) vs5 s5] ++ G) vp0 p0 (hp0.c) s6 x45 hx46 (H28.grow hb).ctx).mono fun e w'' hK => ⟨hK.1, hK.2.bel⟩) (by rfl) ?_
          refine XL_q (w_take rfl hc44) (qt_move rfl) rfl rfl ?_
          obtain ⟨x47, hx48, hg43⟩ := bind_some hg43
          refine QL_call (w_take rfl hc44) rfl c52 (fun w' hb => (w_spec_l1Meet w' ([.sl 3 (.int .i64) vs5 s5] ++ G) x45 p1 x47 hx48 (H28.grow hb).ctx).mono fun e w'' hK => ⟨hK.1, hK.2.bel⟩) (by rfl) ?_
          refine XL_q (w_take rfl hc44) (qt_eql rfl rfl) rfl rfl ?_
          refine XL_q rfl (qt_pickT rfl hc44 rfl) rfl rfl ?_
          exact hk _ (Cov.same (vb hg43) (Cov.fresh rfl (Cov.fresh rfl (Cov.fresh rfl (Cov.fresh rfl (Cov.fresh rfl (Cov.fresh rfl (Cov.refl))))))))
        · skip
          refine XL_skip (w_skip rfl hc44) rfl rfl ?_
          refine XL_skip (w_skip rfl hc44) rfl rfl ?_
          refine XL_skip (w_skip rfl hc44) rfl rfl ?_
          refine XL_skip (w_skip rfl hc44) rfl rfl ?_
          refine XL_skip (w_skip rfl hc44) rfl rfl ?_
          refine XL_skip (w_skip rfl hc44) rfl rfl ?_
          refine XL_q rfl (qt_pickF rfl hc44 rfl) rfl rfl ?_
          exact hk _ (Cov.same (vb (if_f hc44 hg43)) (Cov.fresh rfl (Cov.fresh rfl (Cov.fresh rfl (Cov.fresh rfl (Cov.fresh rfl (Cov.fresh rfl (Cov.refl))))))))
      refine QL_nil fun a ha w49 hb50 => ?_
      have H51 : Holds (([] : List Res).flatMap Res.own) w w49 [.sl 3 (.int .i64) vs5 s5] G := H28.grow hb50
      refine nrm_seq (WP.app ?_ ha)
      refine WP_cond rfl (fun hc52 => ?_) (fun hc52 => ?_)
      · have hs12 := if_t hc52 hs12
        refine WP_region ?_
        refine XL_q rfl (qt_move rfl) rfl rfl ?_
        refine XL_q rfl (qt_move rfl) rfl rfl ?_
        refine WL_buildH (t := (.int .i64)) (args := [.tmp 37]) (xs := ([s6] : List Int)) H51 (BltL.cons (Blt.int) rfl (BltL.nil)) u23 j3 rfl rfl rfl rfl rfl rfl (fun v53 w54 H55 => ?_)
        have H56 : Holds (([] : List Res).flatMap Res.own) w w54 [.sl 3 (.int .i64) v53 ([s6]), .sl 3 (.int .i64) vs5 s5] G := H55
        have H57 : Holds (([] : List Res).flatMap Res.own) w w54 [.sl 3 (.int .i64) vs5 s5, .sl 3 (.int .i64) v53 ([s6])] G := H56.pull 1
        obtain ⟨x58, hx59, hs12⟩ := bind_some hs12
        refine WL_appendH H57 (Has.c (Has.hd)) hx59 u23 j3 rfl rfl rfl rfl rfl rfl (fun v60 w61 H62 => ?_)
        have H63 : Holds (([] : List Res).flatMap Res.own) w w61 [.sl 3 (.int .i64) v60 x58, .sl 3 (.int .i64) v53 ([s6])] G := H62
        refine XL_q rfl (qt_assign rfl) rfl rfl ?_
        refine WL_nil fun a ha => ?_
        refine nrm_block (nrm_seq (WP.app ?_ ha))
        refine WP_region ?_
        refine XL_q rfl (qt_move rfl) rfl rfl ?_
        refine XL_q rfl (qt_add rfl rfl) rfl rfl ?_
        refine XL_q rfl (qt_assign rfl) rfl rfl ?_
        refine WL_nil fun a ha => ?_
        obtain rfl := Option.some.inj hs12
        have H64 : Holds (([] : List Res).flatMap Res.own) w w61 [.sl 3 (.int .i64) v60 x58] G := (H63.cut 1)
        exact ⟨rfl, v60, ha.sub ⟨rfl, rfl, rfl, rfl, trivial⟩, H64⟩
      · have hs12 := if_f hc52 hs12
        refine WP_skip fun a ha => ?_
        refine nrm_block (nrm_seq (WP.app ?_ ha))
        refine WP_region ?_
        refine XL_q rfl (qt_move rfl) rfl rfl ?_
        refine XL_q rfl (qt_add rfl rfl) rfl rfl ?_
        refine XL_q rfl (qt_assign rfl) rfl rfl ?_
        refine WL_nil fun a ha => ?_
        obtain rfl := Option.some.inj hs12
        exact ⟨rfl, vs5, ha.sub ⟨rfl, rfl, rfl, rfl, trivial⟩, H51⟩
    · have hs12 := if_f hc29 hs12
      refine WP_exit fun a ha => ?_
      obtain rfl := Option.some.inj hs12
      exact exit_seq (⟨exit_ne, rfl, vs5, ha.sub ⟨rfl, trivial⟩, H28⟩)
  · intro e a9 w65 hO66
    obtain ⟨p67, rfl⟩ : ∃ z, z = o7 := ⟨o7, rfl⟩
    obtain ⟨rfl, hO69⟩ := hO66
    obtain ⟨vp67, ha, H68⟩ := hO69
    refine exit_block_eq (nrm_seq (WP.app ?_ ha))
    refine WP_seq ?_
    refine WP_region ?_
    refine XL_q rfl (qt_move rfl) rfl rfl ?_
    refine XL_q rfl (qt_assign rfl) rfl rfl ?_
    refine WL_nil_seq ?_
    refine WP_ret fun a ha => ?_
    obtain rfl := Option.some.inj h
    exact ret1 rfl ha rfl ⟨vp67, rfl, H68⟩
theorem w_spec_l1Has (w : World) (G : List Res) (vp0 : Value) (p0 : List Int) (hp0 : Has G (.int .i64) vp0 p0) (p1 : Int) (r : Bool) (h : spec_l1HasS p0 p1 = some r) (H : Ctx w G) : Calls Try.prog 30 #[vp0, .int .i64 p1] w fun e w' => e = .returned (.bool r) ∧ Holds (([] : List Res).flatMap Res.own) w w' [] G := by
  have H : Holds (([] : List Res).flatMap Res.own) w w [] G := Holds.startN H
  refine calls_enter (args := [vp0, .int .i64 p1]) (n := 18) Try.func30 rfl rfl rfl ?_
  unfold spec_l1HasS at h
  refine WP_seq ?_
  refine WP_region ?_
  refine XL_q rfl (qt_assign rfl) rfl rfl ?_
  refine WL_nil_seq ?_
  refine WP_seq ?_
  refine WP_seq ?_
  refine WP_region ?_
  refine XL_q rfl (qt_assign rfl) rfl rfl ?_
  refine WL_nil_seq ?_
  refine WP_block ?_
  obtain ⟨o2, ho3, h⟩ := bind_some h
  refine fun a4 ha5 => wp_loop_fix (I := fun s a w2 => match s with | s1 => (Fr a 18 [(0, vp0), (1, .int .i64 p1), (5, .int .i64 s1)] ∧ Holds (([] : List Res).flatMap Res.own) w w2 [] G)) (O := fun o e a w2 => match o with | .inl _ => e = .exit 0 ∧ (Fr a 18 [] ∧ Holds (([] : List Res).flatMap Res.own) w w2 [] G) | .inr q0 => e = .ret ∧ (Fr a 18 [(4, .bool q0)] ∧ Holds (([] : List Res).flatMap Res.own) w w2 [] G)) ho3 ?_ ?_ ?_
  · exact ⟨ha5.sub ⟨rfl, rfl, rfl, trivial⟩, H⟩
  · clear ha5
    intro s o8 a w6 hs7 hI9
    obtain ⟨s1, rfl⟩ : ∃ z, z = s := ⟨s, rfl⟩
    obtain ⟨ha, H10⟩ := hI9
    refine WP.app ?_ ha
    clear ha
    refine WP_seq ?_
    refine WP_seq ?_
    refine WP_region ?_
    refine XL_q rfl (qt_move rfl) rfl rfl ?_
    refine XL_q rfl (qt_move rfl) rfl rfl ?_
    refine XL_lenH H10.ctx (t := (.int .i64)) (hp0) u23 rfl rfl rfl ?_
    refine XL_q rfl (qt_lss rfl rfl) rfl rfl ?_
    refine WL_nil_seq ?_
    refine WP_cond rfl (fun hc11 => ?_) (fun hc11 => ?_)
    · have hs7 := if_t hc11 hs7
      refine WP_skip_seq ?_
      refine WP_seq ?_
      refine WP_block ?_
      refine WP_seq ?_
      refine WP_region ?_
      refine XL_q rfl (qt_move rfl) rfl rfl ?_
      refine XL_q rfl (qt_move rfl) rfl rfl ?_
      obtain ⟨x12, hx13, hs7⟩ := bind_some hs7
      refine XL_indexH H10.ctx (hp0) hx13 u23 i3 rfl rfl rfl rfl (fun b14 off15 cap16 hv17 => ?_)
      obtain ⟨F18, hat19, hdup20⟩ := H10.at (hp0) hx13 hv17
      refine XL_load_int (k := .i64) u3 rfl hat19 rfl rfl rfl ?_
      refine XL_q rfl (qt_move rfl) rfl rfl ?_
      refine XL_q rfl (qt_eql rfl rfl) rfl rfl ?_
      refine WL_nil_seq ?_
      refine WP_cond rfl (fun hc21 => ?_) (fun hc21 => ?_)
      · have hs7 := if_t hc21 hs7
        refine WP_seq ?_
        refine WP_region ?_
        refine XL_q rfl (qt_assign rfl) rfl rfl ?_
        refine WL_nil_seq ?_
        refine WP_ret fun a ha => ?_
        obtain rfl := Option.some.inj hs7
        exact ret_block (ret_seq (⟨ret_ne, rfl, ha.sub ⟨rfl, trivial⟩, H10⟩))
      · have hs7 := if_f hc21 hs7
        refine WP_skip fun a ha => ?_
        refine nrm_block (nrm_seq (WP.app ?_ ha))
        refine WP_region ?_
        refine XL_q rfl (qt_move rfl) rfl rfl ?_
        refine XL_q rfl (qt_add rfl rfl) rfl rfl ?_
        refine XL_q rfl (qt_assign rfl) rfl rfl ?_
        refine WL_nil fun a ha => ?_
        obtain rfl := Option.some.inj hs7
        exact ⟨rfl, ha.sub ⟨rfl, rfl, rfl, trivial⟩, H10⟩
    · have hs7 := if_f hc11 hs7
      refine WP_exit fun a ha => ?_
      obtain rfl := Option.some.inj hs7
      exact exit_seq (⟨exit_ne, rfl, ha.sub trivial, H10⟩)
  · intro e a4 w22 hO23
    rcases o2 with o2 | o2
    · skip
      obtain ⟨rfl, hO25⟩ := hO23
      obtain ⟨ha, H24⟩ := hO25
      refine exit_block_eq (nrm_seq (WP.app ?_ ha))
      refine WP_seq ?_
      refine WP_region ?_
      refine XL_q rfl (qt_assign rfl) rfl rfl ?_
      refine WL_nil_seq ?_
      refine WP_ret fun a ha => ?_
      obtain rfl := Option.some.inj h
      exact ret1 rfl ha rfl ⟨rfl, H24⟩
    · skip
      obtain ⟨p26, rfl⟩ : ∃ z, z = o2 := ⟨o2, rfl⟩
      obtain ⟨rfl, hO28⟩ := hO23
      obtain ⟨ha, H27⟩ := hO28
      obtain rfl := Option.some.inj h
      exact ret_block (ret_seq (ret1 rfl ha rfl ⟨rfl, H27⟩))
end Go.Proofs.Ytcjkbcdlpfgbgaa
