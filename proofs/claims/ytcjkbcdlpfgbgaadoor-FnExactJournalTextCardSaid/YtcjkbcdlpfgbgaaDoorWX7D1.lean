/- The walks: each Go function computes its shallow function. Printed by a program. -/
import Derived.Test.YtcjkbcdlpfgbgaaDoorChecked
import Derived.Test.YtcjkbcdlpfgbgaaDoorShX7D
import Derived.Test.YtcjkbcdlpfgbgaaDoorLib
set_option linter.unusedVariables false
set_option maxRecDepth 10000
namespace Go.Proofs.YtcjkbcdlpfgbgaaDoor
open Go Go.RowKit
noncomputable def fd23 : Array Field := match Tryd.prog.underlying 23 with | some (.struct fs) => fs | _ => #[]
theorem uf23 : Tryd.prog.underlying 23 = some (.struct fd23) := by kernel_rfl
noncomputable def fd25 : Array Field := match Tryd.prog.underlying 25 with | some (.struct fs) => fs | _ => #[]
theorem uf25 : Tryd.prog.underlying 25 = some (.struct fd25) := by kernel_rfl
noncomputable def sd23 : TypeDesc := (Tryd.prog.underlying 23).getD .bool
theorem us23 : Tryd.prog.underlying 23 = some sd23 := by kernel_rfl
theorem uo23 : oneB sd23 = false := by kernel_rfl
noncomputable def sd25 : TypeDesc := (Tryd.prog.underlying 25).getD .bool
theorem us25 : Tryd.prog.underlying 25 = some sd25 := by kernel_rfl
theorem uo25 : oneB sd25 = false := by kernel_rfl
noncomputable def sd48 : TypeDesc := (Tryd.prog.underlying 48).getD .bool
theorem us48 : Tryd.prog.underlying 48 = some sd48 := by kernel_rfl
theorem uo48 : oneB sd48 = false := by kernel_rfl
theorem i25 : (Tryd.prog.info? 25).map (·.size) = some (Ty.size (.pair (.int .i64) (.pair (.int .i64) (.pair (.int .i64) (.int .i64))))) := by kernel_rfl
theorem i3 : (Tryd.prog.info? 3).map (·.size) = some (Ty.size (.int .i64)) := by kernel_rfl
theorem i9 : (Tryd.prog.info? 9).map (·.size) = some (Ty.size .str) := by kernel_rfl
theorem il23 : (Tryd.prog.info? 23).map (·.size) = some 4 := by kernel_rfl
theorem il25 : (Tryd.prog.info? 25).map (·.size) = some 4 := by kernel_rfl
theorem il3 : (Tryd.prog.info? 3).map (·.size) = some 1 := by kernel_rfl
theorem il47 : (Tryd.prog.info? 47).map (·.size) = some 3 := by kernel_rfl
theorem il48 : (Tryd.prog.info? 48).map (·.size) = some 6 := by kernel_rfl
theorem il9 : (Tryd.prog.info? 9).map (·.size) = some 1 := by kernel_rfl
theorem j25 : (Tryd.prog.info? 25).map (fun i => (i.zero, i.size, i.bytes)) = some (some (.agg #[.int .i64 0, .int .i64 0, .int .i64 0, .int .i64 0]), Ty.size (.pair (.int .i64) (.pair (.int .i64) (.pair (.int .i64) (.int .i64)))), 32) := by kernel_rfl
theorem j3 : (Tryd.prog.info? 3).map (fun i => (i.zero, i.size, i.bytes)) = some (some (.int .i64 0), Ty.size (.int .i64), 8) := by kernel_rfl
theorem j5 : (Tryd.prog.info? 5).map (fun i => (i.zero, i.size, i.bytes)) = some (some (.int .u8 0), Ty.size (.int .u8), 1) := by kernel_rfl
theorem j9 : (Tryd.prog.info? 9).map (fun i => (i.zero, i.size, i.bytes)) = some (some (strV []), Ty.size .str, 16) := by kernel_rfl
theorem nz3 : (Tryd.prog.info? 3).map (fun i => Nat.beq i.size 0) = some false := by kernel_rfl
theorem u3 : Tryd.prog.underlying 3 = some (.int .i64) := by kernel_rfl
theorem u35 : Tryd.prog.underlying 35 = some (.slice 25) := by kernel_rfl
theorem u4 : Tryd.prog.underlying 4 = some (.bool) := by kernel_rfl
theorem u43 : Tryd.prog.underlying 43 = some (.slice 3) := by kernel_rfl
theorem u47 : Tryd.prog.underlying 47 = some (.array 3 3) := by kernel_rfl
theorem u48 : Tryd.prog.underlying 48 = some (.array 6 9) := by kernel_rfl
theorem u49 : Tryd.prog.underlying 49 = some (.array 6 3) := by kernel_rfl
theorem u5 : Tryd.prog.underlying 5 = some (.int .u8) := by kernel_rfl
theorem u50 : Tryd.prog.underlying 50 = some (.slice 9) := by kernel_rfl
theorem u57 : Tryd.prog.underlying 57 = some (.slice 5) := by kernel_rfl
theorem u9 : Tryd.prog.underlying 9 = some (.string) := by kernel_rfl
theorem z25 : (Tryd.prog.info? 25).map (·.zero) = some (some (.agg #[.int .i64 0, .int .i64 0, .int .i64 0, .int .i64 0])) := by kernel_rfl
theorem z47 : (Tryd.prog.info? 47).map (·.zero) = some (some (.agg #[.int .i64 0, .int .i64 0, .int .i64 0])) := by kernel_rfl
theorem fi23_0 : (fd23[0]?).map (fun f => (f.type, f.offset)) = some (3, 0) := by kernel_rfl
theorem fi23_1 : (fd23[1]?).map (fun f => (f.type, f.offset)) = some (3, 1) := by kernel_rfl
theorem fi23_2 : (fd23[2]?).map (fun f => (f.type, f.offset)) = some (3, 2) := by kernel_rfl
theorem fi23_3 : (fd23[3]?).map (fun f => (f.type, f.offset)) = some (3, 3) := by kernel_rfl
theorem fi25_0 : (fd25[0]?).map (fun f => (f.type, f.offset)) = some (3, 0) := by kernel_rfl
theorem fi25_1 : (fd25[1]?).map (fun f => (f.type, f.offset)) = some (3, 1) := by kernel_rfl
theorem fi25_2 : (fd25[2]?).map (fun f => (f.type, f.offset)) = some (3, 2) := by kernel_rfl
theorem fi25_3 : (fd25[3]?).map (fun f => (f.type, f.offset)) = some (3, 3) := by kernel_rfl
theorem c10 : Callable Tryd.prog 10 := ⟨Tryd.f10, Tryd.func10, by kernel_rfl, by kernel_rfl⟩
theorem c11 : Callable Tryd.prog 11 := ⟨Tryd.f11, Tryd.func11, by kernel_rfl, by kernel_rfl⟩
theorem c12 : Callable Tryd.prog 12 := ⟨Tryd.f12, Tryd.func12, by kernel_rfl, by kernel_rfl⟩
theorem c17 : Callable Tryd.prog 17 := ⟨Tryd.f17, Tryd.func17, by kernel_rfl, by kernel_rfl⟩
theorem c18 : Callable Tryd.prog 18 := ⟨Tryd.f18, Tryd.func18, by kernel_rfl, by kernel_rfl⟩
theorem c19 : Callable Tryd.prog 19 := ⟨Tryd.f19, Tryd.func19, by kernel_rfl, by kernel_rfl⟩
theorem c20 : Callable Tryd.prog 20 := ⟨Tryd.f20, Tryd.func20, by kernel_rfl, by kernel_rfl⟩
theorem c21 : Callable Tryd.prog 21 := ⟨Tryd.f21, Tryd.func21, by kernel_rfl, by kernel_rfl⟩
theorem c22 : Callable Tryd.prog 22 := ⟨Tryd.f22, Tryd.func22, by kernel_rfl, by kernel_rfl⟩
theorem c23 : Callable Tryd.prog 23 := ⟨Tryd.f23, Tryd.func23, by kernel_rfl, by kernel_rfl⟩
theorem c24 : Callable Tryd.prog 24 := ⟨Tryd.f24, Tryd.func24, by kernel_rfl, by kernel_rfl⟩
theorem c25 : Callable Tryd.prog 25 := ⟨Tryd.f25, Tryd.func25, by kernel_rfl, by kernel_rfl⟩
theorem c26 : Callable Tryd.prog 26 := ⟨Tryd.f26, Tryd.func26, by kernel_rfl, by kernel_rfl⟩
theorem c27 : Callable Tryd.prog 27 := ⟨Tryd.f27, Tryd.func27, by kernel_rfl, by kernel_rfl⟩
theorem c28 : Callable Tryd.prog 28 := ⟨Tryd.f28, Tryd.func28, by kernel_rfl, by kernel_rfl⟩
theorem c29 : Callable Tryd.prog 29 := ⟨Tryd.f29, Tryd.func29, by kernel_rfl, by kernel_rfl⟩
theorem c30 : Callable Tryd.prog 30 := ⟨Tryd.f30, Tryd.func30, by kernel_rfl, by kernel_rfl⟩
theorem c31 : Callable Tryd.prog 31 := ⟨Tryd.f31, Tryd.func31, by kernel_rfl, by kernel_rfl⟩
theorem c35 : Callable Tryd.prog 35 := ⟨Tryd.f35, Tryd.func35, by kernel_rfl, by kernel_rfl⟩
theorem c7 : Callable Tryd.prog 7 := ⟨Tryd.f7, Tryd.func7, by kernel_rfl, by kernel_rfl⟩
theorem c8 : Callable Tryd.prog 8 := ⟨Tryd.f8, Tryd.func8, by kernel_rfl, by kernel_rfl⟩
theorem c9 : Callable Tryd.prog 9 := ⟨Tryd.f9, Tryd.func9, by kernel_rfl, by kernel_rfl⟩
theorem w_laws_toHouseDeed (w : World) (G : List Res) (p0_0 : Int) (p0_1 : Int) (p0_2 : Int) (p0_3 : Int) (r : (Int × Int × Int × Int)) (h : laws_toHouseDeedS p0_0 p0_1 p0_2 p0_3 = some r) (H : Ctx w G) : Calls Tryd.prog 8 #[.agg #[.int .i64 p0_0, .int .i64 p0_1, .int .i64 p0_2, .int .i64 p0_3]] w fun e w' => e = .returned (.agg #[.int .i64 r.1, .int .i64 r.2.1, .int .i64 r.2.2.1, .int .i64 r.2.2.2]) ∧ Holds (([] : List Res).flatMap Res.own) w w' [] G := by
  have H : Holds (([] : List Res).flatMap Res.own) w w [] G := Holds.startN H
  refine calls_enter (args := [.agg #[.int .i64 p0_0, .int .i64 p0_1, .int .i64 p0_2, .int .i64 p0_3]]) (n := 17) Tryd.func8 rfl rfl rfl ?_
  unfold laws_toHouseDeedS at h
  refine WP_seq ?_
  refine WP_region ?_
  refine WL_box (cs := [.int .i64 p0_0, .int .i64 p0_1, .int .i64 p0_2, .int .i64 p0_3]) H rfl rfl rfl rfl (fun b1 w2 H3 => ?_)
  have H4 : Holds (([] : List Res).flatMap Res.own) w w2 [.bx b1 23 [.int .i64 p0_0, .int .i64 p0_1, .int .i64 p0_2, .int .i64 p0_3]] G := H3
  refine WL_alloc (cs := [.int .i64 0, .int .i64 0, .int .i64 0, .int .i64 0]) H4 z25 rfl rfl rfl (fun b5 w6 H7 => ?_)
  have H8 : Holds (([] : List Res).flatMap Res.own) w w6 [.bx b5 25 [.int .i64 0, .int .i64 0, .int .i64 0, .int .i64 0], .bx b1 23 [.int .i64 p0_0, .int .i64 p0_1, .int .i64 p0_2, .int .i64 p0_3]] G := H7
  refine WL_nil_seq ?_
  refine WP_seq ?_
  refine WP_region ?_
  refine WL_alloc (cs := [.int .i64 0, .int .i64 0, .int .i64 0, .int .i64 0]) H8 z25 rfl rfl rfl (fun b9 w10 H11 => ?_)
  have H12 : Holds (([] : List Res).flatMap Res.own) w w10 [.bx b9 25 [.int .i64 0, .int .i64 0, .int .i64 0, .int .i64 0], .bx b5 25 [.int .i64 0, .int .i64 0, .int .i64 0, .int .i64 0], .bx b1 23 [.int .i64 p0_0, .int .i64 p0_1, .int .i64 p0_2, .int .i64 p0_3]] G := H11
  refine WL_nil_seq ?_
  refine WP_seq ?_
  refine WP_region ?_
  refine XL_q rfl (qt_fieldAddr uf23 fi23_0 nz3 rfl) rfl rfl ?_
  have hB13 : Bx w10 b1 23 [.int .i64 p0_0, .int .i64 p0_1, .int .i64 p0_2, .int .i64 p0_3] := Holds.bx (H12.pull 2)
  refine XL_load_bx u3 rfl hB13 rfl rfl rfl rfl ?_
  refine XL_q rfl (qt_fieldAddr uf25 fi25_0 nz3 rfl) rfl rfl ?_
  refine WL_store_bx H12 rfl il3 rfl rfl rfl rfl rfl (fun w14 H15 => ?_)
  have H16 : Holds (([] : List Res).flatMap Res.own) w w14 [.bx b9 25 [.int .i64 p0_0, .int .i64 0, .int .i64 0, .int .i64 0], .bx b5 25 [.int .i64 0, .int .i64 0, .int .i64 0, .int .i64 0], .bx b1 23 [.int .i64 p0_0, .int .i64 p0_1, .int .i64 p0_2, .int .i64 p0_3]] G := H15
  refine WL_nil_seq ?_
  refine WP_seq ?_
  refine WP_region ?_
  refine XL_q rfl (qt_fieldAddr uf23 fi23_1 nz3 rfl) rfl rfl ?_
  have hB17 : Bx w14 b1 23 [.int .i64 p0_0, .int .i64 p0_1, .int .i64 p0_2, .int .i64 p0_3] := Holds.bx (H16.pull 2)
  refine XL_load_bx u3 rfl hB17 rfl rfl rfl rfl ?_
  refine XL_q rfl (qt_fieldAddr uf25 fi25_1 nz3 rfl) rfl rfl ?_
  refine WL_store_bx H16 rfl il3 rfl rfl rfl rfl rfl (fun w18 H19 => ?_)
  have H20 : Holds (([] : List Res).flatMap Res.own) w w18 [.bx b9 25 [.int .i64 p0_0, .int .i64 p0_1, .int .i64 0, .int .i64 0], .bx b5 25 [.int .i64 0, .int .i64 0, .int .i64 0, .int .i64 0], .bx b1 23 [.int .i64 p0_0, .int .i64 p0_1, .int .i64 p0_2, .int .i64 p0_3]] G := H19
  refine WL_nil_seq ?_
  refine WP_seq ?_
  refine WP_region ?_
  refine XL_q rfl (qt_fieldAddr uf23 fi23_2 nz3 rfl) rfl rfl ?_
  have hB21 : Bx w18 b1 23 [.int .i64 p0_0, .int .i64 p0_1, .int .i64 p0_2, .int .i64 p0_3] := Holds.bx (H20.pull 2)
  refine XL_load_bx u3 rfl hB21 rfl rfl rfl rfl ?_
  refine XL_q rfl (qt_fieldAddr uf25 fi25_2 nz3 rfl) rfl rfl ?_
  refine WL_store_bx H20 rfl il3 rfl rfl rfl rfl rfl (fun w22 H23 => ?_)
  have H24 : Holds (([] : List Res).flatMap Res.own) w w22 [.bx b9 25 [.int .i64 p0_0, .int .i64 p0_1, .int .i64 p0_2, .int .i64 0], .bx b5 25 [.int .i64 0, .int .i64 0, .int .i64 0, .int .i64 0], .bx b1 23 [.int .i64 p0_0, .int .i64 p0_1, .int .i64 p0_2, .int .i64 p0_3]] G := H23
  refine WL_nil_seq ?_
  refine WP_seq ?_
  refine WP_region ?_
  refine XL_q rfl (qt_fieldAddr uf23 fi23_3 nz3 rfl) rfl rfl ?_
  have hB25 : Bx w22 b1 23 [.int .i64 p0_0, .int .i64 p0_1, .int .i64 p0_2, .int .i64 p0_3] := Holds.bx (H24.pull 2)
  refine XL_load_bx u3 rfl hB25 rfl rfl rfl rfl ?_
  refine XL_q rfl (qt_fieldAddr uf25 fi25_3 nz3 rfl) rfl rfl ?_
  refine WL_store_bx H24 rfl il3 rfl rfl rfl rfl rfl (fun w26 H27 => ?_)
  have H28 : Holds (([] : List Res).flatMap Res.own) w w26 [.bx b9 25 [.int .i64 p0_0, .int .i64 p0_1, .int .i64 p0_2, .int .i64 p0_3], .bx b5 25 [.int .i64 0, .int .i64 0, .int .i64 0, .int .i64 0], .bx b1 23 [.int .i64 p0_0, .int .i64 p0_1, .int .i64 p0_2, .int .i64 p0_3]] G := H27
  refine WL_nil_seq ?_
  refine WP_seq ?_
  refine WP_region ?_
  have hB29 : Bx w26 b9 25 [.int .i64 p0_0, .int .i64 p0_1, .int .i64 p0_2, .int .i64 p0_3] := Holds.bx (H28.pull 0)
  refine XL_load_bxA (cs := [.int .i64 p0_0, .int .i64 p0_1, .int .i64 p0_2, .int .i64 p0_3]) us25 uo25 il25 hB29 rfl rfl rfl ?_
  change XL _ _ _ _ _ ((16, .agg #[.int .i64 p0_0, .int .i64 p0_1, .int .i64 p0_2, .int .i64 p0_3]) :: _) _
  have H30 : Holds (([] : List Res).flatMap Res.own) w w26 [.bx b5 25 [.int .i64 0, .int .i64 0, .int .i64 0, .int .i64 0], .bx b9 25 [.int .i64 p0_0, .int .i64 p0_1, .int .i64 p0_2, .int .i64 p0_3], .bx b1 23 [.int .i64 p0_0, .int .i64 p0_1, .int .i64 p0_2, .int .i64 p0_3]] G := H28.pull 1
  refine WL_store_bxA (cs' := [.int .i64 p0_0, .int .i64 p0_1, .int .i64 p0_2, .int .i64 p0_3]) H30 rfl il25 rfl rfl rfl rfl rfl (fun w31 H32 => ?_)
  have H33 : Holds (([] : List Res).flatMap Res.own) w w31 [.bx b5 25 [.int .i64 p0_0, .int .i64 p0_1, .int .i64 p0_2, .int .i64 p0_3], .bx b9 25 [.int .i64 p0_0, .int .i64 p0_1, .int .i64 p0_2, .int .i64 p0_3], .bx b1 23 [.int .i64 p0_0, .int .i64 p0_1, .int .i64 p0_2, .int .i64 p0_3]] G := H32
  refine WL_nil_seq ?_
  refine WP_ret fun a ha => ?_
  obtain rfl := Option.some.inj h
  have hB34 : Bx w31 b5 25 [.int .i64 p0_0, .int .i64 p0_1, .int .i64 p0_2, .int .i64 p0_3] := Holds.bx (H33.pull 0)
  have H35 : Holds (([] : List Res).flatMap Res.own) w w31 [] G := (((H33.cut 0).cut 0).cut 0)
  exact retc rfl ha rfl (run_loadVar_bx (cs := [.int .i64 p0_0, .int .i64 p0_1, .int .i64 p0_2, .int .i64 p0_3]) us25 uo25 il25 hB34) ⟨rfl, H35⟩
theorem w_spec_l1In (w : World) (G : List Res) (p0 : Int) (p1 : Int) (p2 : Int) (r : Bool) (h : spec_l1InS p0 p1 p2 = some r) (H : Ctx w G) : Calls Tryd.prog 23 #[.int .i64 p0, .int .i64 p1, .int .i64 p2] w fun e w' => e = .returned (.bool r) ∧ Holds (([] : List Res).flatMap Res.own) w w' [] G := by
  have H : Holds (([] : List Res).flatMap Res.own) w w [] G := Holds.startN H
  refine calls_enter (args := [.int .i64 p0, .int .i64 p1, .int .i64 p2]) (n := 15) Tryd.func23 rfl rfl rfl ?_
  unfold spec_l1InS at h
  refine WP_seq ?_
  refine WP_region ?_
  refine XL_q rfl (qt_assign rfl) rfl rfl ?_
  refine WL_nil_seq ?_
  refine WP_seq ?_
  refine WP_region ?_
  refine XL_q rfl (qt_move rfl) rfl rfl ?_
  refine XL_q rfl (qt_move rfl) rfl rfl ?_
  refine XL_q rfl (qt_geq rfl rfl) rfl rfl ?_
  refine XL_q rfl (qt_move rfl) rfl rfl ?_
  refine XL_join 4 14 (.bool ((decide (p0 ≥ p1)) && (decide (p0 ≤ p2)))) ?_ (fun md hmd hk => ?_)
  rotate_left
  · obtain ⟨Q, rfl⟩ := Md.seq_of hmd
    rcases btf (decide (p0 ≥ p1)) with hc1 | hc1
    · skip
      refine XL_q (w_take rfl hc1) (qt_move rfl) rfl rfl ?_
      refine XL_q (w_take rfl hc1) (qt_move rfl) rfl rfl ?_
      refine XL_q (w_take rfl hc1) (qt_leq rfl rfl) rfl rfl ?_
      refine XL_q rfl (qt_pickT rfl hc1 rfl) rfl rfl ?_
      exact hk _ (Cov.same (by rw [hc1]; rfl) (Cov.fresh rfl (Cov.fresh rfl (Cov.fresh rfl (Cov.refl)))))
    · skip
      refine XL_skip (w_skip rfl hc1) rfl rfl ?_
      refine XL_skip (w_skip rfl hc1) rfl rfl ?_
      refine XL_skip (w_skip rfl hc1) rfl rfl ?_
      refine XL_q rfl (qt_pickF rfl hc1 rfl) rfl rfl ?_
      exact hk _ (Cov.same (by rw [hc1]; rfl) (Cov.fresh rfl (Cov.fresh rfl (Cov.fresh rfl (Cov.refl)))))
  refine XL_q rfl (qt_assign rfl) rfl rfl ?_
  refine WL_nil_seq ?_
  refine WP_ret fun a ha => ?_
  obtain rfl := Option.some.inj h
  exact ret1 rfl ha rfl ⟨rfl, H⟩
theorem w_spec_l7Name (w : World) (G : List Res) (p0 : Int) (r : (List UInt8)) (h : spec_l7NameS p0 = some r) (H : Ctx w G) : Calls Tryd.prog 22 #[.int .i64 p0] w fun e w' => e = .returned (strV r) ∧ Holds (([] : List Res).flatMap Res.own) w w' [] G := by
  have H : Holds (([] : List Res).flatMap Res.own) w w [] G := Holds.startN H
  refine calls_enter (args := [.int .i64 p0]) (n := 10) Tryd.func22 rfl rfl rfl ?_
  unfold spec_l7NameS at h
  refine WP_seq ?_
  refine WP_region ?_
  refine XL_q rfl (qt_assign rfl) rfl rfl ?_
  refine WL_nil_seq ?_
  refine WP_seq ?_
  refine WP_seq ?_
  refine WP_still ?_
  refine XL_q rfl (qt_move rfl) rfl rfl ?_
  obtain ⟨x1, hx2, h⟩ := bind_some h
  refine QL_call rfl rfl c23 (fun w' hb => (w_spec_l1In w' G p0 0 5 x1 hx2 (H.grow hb).ctx).mono fun e w'' hK => ⟨hK.1, hK.2.bel⟩) (by rfl) ?_
  refine XL_q rfl (qt_not rfl) rfl rfl ?_
  refine QL_nil fun a ha w3 hb4 => ?_
  have H5 : Holds (([] : List Res).flatMap Res.own) w w3 [] G := H.grow hb4
  refine nrm_seq (WP.app ?_ ha)
  refine WP_cond rfl (fun hc6 => ?_) (fun hc6 => ?_)
  · have h := if_t hc6 h
    refine WP_seq ?_
    refine WP_region ?_
    refine XL_q rfl (qt_assign rfl) rfl rfl ?_
    refine WL_nil_seq ?_
    refine WP_ret fun a ha => ?_
    obtain rfl := Option.some.inj h
    exact ret_seq (ret1 rfl ha rfl ⟨rfl, H5⟩)
  · have h := if_f hc6 h
    refine WP_skip_seq ?_
    refine WP_seq ?_
    refine WP_region ?_
    refine WL_buildH (t := .str) (args := [.const (strV [98, 117, 121]), .const (strV [109, 97, 107, 101]), .const (strV [111, 112, 101, 110]), .const (strV [111, 114, 100, 101, 114]), .const (strV [119, 111, 114, 107]), .const (strV [99, 108, 111, 115, 101])]) (xs := ([([98, 117, 121] : List UInt8), ([109, 97, 107, 101] : List UInt8), ([111, 112, 101, 110] : List UInt8), ([111, 114, 100, 101, 114] : List UInt8), ([119, 111, 114, 107] : List UInt8), ([99, 108, 111, 115, 101] : List UInt8)] : List (List UInt8))) H5 (BltL.cons (Blt.str) rfl (BltL.cons (Blt.str) rfl (BltL.cons (Blt.str) rfl (BltL.cons (Blt.str) rfl (BltL.cons (Blt.str) rfl (BltL.cons (Blt.str) rfl (BltL.nil))))))) u50 j9 rfl rfl rfl rfl rfl rfl (fun v7 w8 H9 => ?_)
    have H10 : Holds (([] : List Res).flatMap Res.own) w w8 [.sl 9 .str v7 ([([98, 117, 121] : List UInt8), ([109, 97, 107, 101] : List UInt8), ([111, 112, 101, 110] : List UInt8), ([111, 114, 100, 101, 114] : List UInt8), ([119, 111, 114, 107] : List UInt8), ([99, 108, 111, 115, 101] : List UInt8)])] G := H9
    refine XL_q rfl (qt_move rfl) rfl rfl ?_
    obtain ⟨x11, hx12, h⟩ := bind_some h
    refine XL_indexH H10.ctx (Has.hd) hx12 u50 i9 rfl rfl rfl rfl (fun b13 off14 cap15 hv16 => ?_)
    obtain ⟨F17, hat18, hdup19⟩ := H10.at (Has.hd) hx12 hv16
    refine XL_load_str u9 rfl hat18 rfl rfl rfl ?_
    refine XL_q rfl (qt_assign rfl) rfl rfl ?_
    refine WL_nil_seq ?_
    refine WP_ret fun a ha => ?_
    obtain rfl := Option.some.inj h
    have H20 : Holds (([] : List Res).flatMap Res.own) w w8 [] G := (H10.cut 0)
    exact ret1 rfl ha rfl ⟨rfl, H20⟩
theorem w_spec_l7Many (w : World) (G : List Res) (p0 : Int) (r : Int) (h : spec_l7ManyS p0 = some r) (H : Ctx w G) : Calls Tryd.prog 24 #[.int .i64 p0] w fun e w' => e = .returned (.int .i64 r) ∧ Holds (([] : List Res).flatMap Res.own) w w' [] G := by
  have H : Holds (([] : List Res).flatMap Res.own) w w [] G := Holds.startN H
  refine calls_enter (args := [.int .i64 p0]) (n := 7) Tryd.func24 rfl rfl rfl ?_
  unfold spec_l7ManyS at h
  refine WP_seq ?_
  refine WP_region ?_
  refine XL_q rfl (qt_assign rfl) rfl rfl ?_
  refine WL_nil_seq ?_
  refine WP_seq ?_
  refine WP_region ?_
  refine WL_buildH (t := (.int .i64)) (args := [.const (.int .i64 2), .const (.int .i64 2), .const (.int .i64 1), .const (.int .i64 3), .const (.int .i64 0), .const (.int .i64 1)]) (xs := ([2, 2, 1, 3, 0, 1] : List Int)) H (BltL.cons (Blt.int) rfl (BltL.cons (Blt.int) rfl (BltL.cons (Blt.int) rfl (BltL.cons (Blt.int) rfl (BltL.cons (Blt.int) rfl (BltL.cons (Blt.int) rfl (BltL.nil))))))) u43 j3 rfl rfl rfl rfl rfl rfl (fun v1 w2 H3 => ?_)
  have H4 : Holds (([] : List Res).flatMap Res.own) w w2 [.sl 3 (.int .i64) v1 ([2, 2, 1, 3, 0, 1])] G := H3
  refine XL_q rfl (qt_move rfl) rfl rfl ?_
  obtain ⟨x5, hx6, h⟩ := bind_some h
  refine XL_indexH H4.ctx (Has.hd) hx6 u43 i3 rfl rfl rfl rfl (fun b7 off8 cap9 hv10 => ?_)
  obtain ⟨F11, hat12, hdup13⟩ := H4.at (Has.hd) hx6 hv10
  refine XL_load_int (k := .i64) u3 rfl hat12 rfl rfl rfl ?_
  refine XL_q rfl (qt_assign rfl) rfl rfl ?_
  refine WL_nil_seq ?_
  refine WP_ret fun a ha => ?_
  obtain rfl := Option.some.inj h
  have H14 : Holds (([] : List Res).flatMap Res.own) w w2 [] G := (H4.cut 0)
  exact ret1 rfl ha rfl ⟨rfl, H14⟩
theorem w_spec_l1NumberF (fuel : Nat) (w : World) (G : List Res) (p0 : Int) (r : (List UInt8)) (h : spec_l1NumberF fuel p0 = some r) (H : Ctx w G) : Calls Tryd.prog 25 #[.int .i64 p0] w fun e w' => e = .returned (strV r) ∧ Holds (([] : List Res).flatMap Res.own) w w' [] G := by
  induction fuel generalizing w G p0 r with
  | zero => rw [spec_l1NumberF] at h; cases h
  | succ fuel ih =>
    have H : Holds (([] : List Res).flatMap Res.own) w w [] G := Holds.startN H
    refine calls_enter (args := [.int .i64 p0]) (n := 34) Tryd.func25 rfl rfl rfl ?_
    rw [spec_l1NumberF] at h
    refine WP_seq ?_
    refine WP_region ?_
    refine XL_q rfl (qt_assign rfl) rfl rfl ?_
    refine WL_nil_seq ?_
    refine WP_seq ?_
    refine WP_seq ?_
    refine WP_region ?_
    refine XL_q rfl (qt_move rfl) rfl rfl ?_
    refine XL_q rfl (qt_lss rfl rfl) rfl rfl ?_
    refine XL_q rfl (qt_move rfl) rfl rfl ?_
    refine XL_join 5 10 (.bool ((decide (p0 < 0)) && (p0 == (IntKind.wrap .i64 (-p0))))) ?_ (fun md hmd hk => ?_)
    rotate_left
    · obtain ⟨Q, rfl⟩ := Md.seq_of hmd
      rcases btf (decide (p0 < 0)) with hc1 | hc1
      · skip
        refine XL_q (w_take rfl hc1) (qt_move rfl) rfl rfl ?_
        refine XL_q (w_take rfl hc1) (qt_move rfl) rfl rfl ?_
        refine XL_q (w_take rfl hc1) (qt_neg rfl) rfl rfl ?_
        refine XL_q (w_take rfl hc1) (qt_eql rfl rfl) rfl rfl ?_
        refine XL_q rfl (qt_pickT rfl hc1 rfl) rfl rfl ?_
        exact hk _ (Cov.same (by rw [hc1]; rfl) (Cov.fresh rfl (Cov.fresh rfl (Cov.fresh rfl (Cov.fresh rfl (Cov.refl))))))
      · skip
        refine XL_skip (w_skip rfl hc1) rfl rfl ?_
        refine XL_skip (w_skip rfl hc1) rfl rfl ?_
        refine XL_skip (w_skip rfl hc1) rfl rfl ?_
        refine XL_skip (w_skip rfl hc1) rfl rfl ?_
        refine XL_q rfl (qt_pickF rfl hc1 rfl) rfl rfl ?_
        exact hk _ (Cov.same (by rw [hc1]; rfl) (Cov.fresh rfl (Cov.fresh rfl (Cov.fresh rfl (Cov.fresh rfl (Cov.refl))))))
    refine WL_nil_seq ?_
    refine WP_cond rfl (fun hc2 => ?_) (fun hc2 => ?_)
    · have h := if_t hc2 h
      refine WP_seq ?_
      refine WP_region ?_
      refine XL_q rfl (qt_assign rfl) rfl rfl ?_
      refine WL_nil_seq ?_
      refine WP_ret fun a ha => ?_
      obtain rfl := Option.some.inj h
      exact ret_seq (ret1 rfl ha rfl ⟨rfl, H⟩)
    · have h := if_f hc2 h
      refine WP_skip_seq ?_
      refine WP_seq ?_
      refine WP_seq ?_
      refine WP_region ?_
      refine XL_q rfl (qt_move rfl) rfl rfl ?_
      refine XL_q rfl (qt_lss rfl rfl) rfl rfl ?_
      refine WL_nil_seq ?_
      refine WP_cond rfl (fun hc3 => ?_) (fun hc3 => ?_)
      · have h := if_t hc3 h
        refine WP_seq ?_
        refine WP_still ?_
        refine XL_q rfl (qt_move rfl) rfl rfl ?_
        refine XL_q rfl (qt_neg rfl) rfl rfl ?_
        obtain ⟨x4, hx5, h⟩ := bind_some h
        refine QL_call rfl rfl c25 (fun w' hb => (ih w' G (IntKind.wrap .i64 (-p0)) x4 hx5 (H.grow hb).ctx).mono fun e w'' hK => ⟨hK.1, hK.2.bel⟩) (by rfl) ?_
        obtain ⟨x6, hx7, h⟩ := bind_some h
        refine XL_q rfl (qt_sadd rfl rfl hx7) rfl rfl ?_
        refine XL_q rfl (qt_assign rfl) rfl rfl ?_
        refine QL_nil fun a ha w8 hb9 => ?_
        have H10 : Holds (([] : List Res).flatMap Res.own) w w8 [] G := H.grow hb9
        refine nrm_seq (WP.app ?_ ha)
        refine WP_ret fun a ha => ?_
        obtain rfl := Option.some.inj h
        exact ret_seq (ret1 rfl ha rfl ⟨rfl, H10⟩)
      · have h := if_f hc3 h
        refine WP_skip_seq ?_
        refine WP_seq ?_
        refine WP_seq ?_
        refine WP_region ?_
        refine XL_q rfl (qt_move rfl) rfl rfl ?_
        refine XL_q rfl (qt_lss rfl rfl) rfl rfl ?_
        refine WL_nil_seq ?_
        refine WP_cond rfl (fun hc11 => ?_) (fun hc11 => ?_)
        · have h := if_t hc11 h
          refine WP_seq ?_
          refine WP_region ?_
          refine XL_q rfl (qt_move rfl) rfl rfl ?_
          refine XL_q rfl (qt_add rfl rfl) rfl rfl ?_
          refine XL_q rfl (qt_int u5 rfl u3) rfl rfl ?_
          refine WL_buildH (t := (.int .u8)) (args := [.tmp 21]) (xs := ([IntKind.wrap .u8 (IntKind.wrap .i64 (48 + p0))] : List Int)) H (BltL.cons (Blt.int) rfl (BltL.nil)) u57 j5 rfl rfl rfl rfl rfl rfl (fun v12 w13 H14 => ?_)
          have H15 : Holds (([] : List Res).flatMap Res.own) w w13 [.sl 5 (.int .u8) v12 ([IntKind.wrap .u8 (IntKind.wrap .i64 (48 + p0))])] G := H14
          refine XL_bytesH H15.ctx (Has.hd) u57 u5 u9 rfl rfl rfl ?_
          refine XL_q rfl (qt_assign rfl) rfl rfl ?_
          refine WL_nil_seq ?_
          refine WP_ret fun a ha => ?_
          obtain rfl := Option.some.inj h
          have H16 : Holds (([] : List Res).flatMap Res.own) w w13 [] G := (H15.cut 0)
          exact ret_seq (ret1 rfl ha rfl ⟨rfl, H16⟩)
        · have h := if_f hc11 h
          refine WP_skip_seq ?_
          refine WP_seq ?_
          obtain ⟨x17, hx18, h⟩ := bind_some h
          obtain ⟨x26, hx27, h⟩ := bind_some h
          refine WP_join (M := fun a w2 => (Fr a 34 [(2, strV x26)] ∧ Holds (([] : List Res).flatMap Res.own) w w2 [] G)) ?_ ?_
          · refine WP_orders (by kernel_rfl) (fun w217 hb218 => ?_)
            have H219 : Holds (([] : List Res).flatMap Res.own) w w217 [] G := H.grow hb218
            refine XB_take (i := 0) rfl (by kernel_rfl) (by kernel_rfl) (by kernel_rfl) rfl (fun _ => qt_move rfl) rfl rfl ?_
            refine XB_take (i := 1) rfl (by kernel_rfl) (by kernel_rfl) (by kernel_rfl) rfl (fun _ => qt_quo rfl rfl (by decide)) rfl rfl ?_
            refine XB_take (i := 3) rfl (by kernel_rfl) (by kernel_rfl) (by kernel_rfl) rfl (fun _ => qt_move rfl) rfl rfl ?_
            refine XB_take (i := 4) rfl (by kernel_rfl) (by kernel_rfl) (by kernel_rfl) rfl (fun _ => qt_rem rfl rfl (by decide)) rfl rfl ?_
            refine XB_take (i := 5) rfl (by kernel_rfl) (by kernel_rfl) (by kernel_rfl) rfl (fun _ => qt_add rfl rfl) rfl rfl ?_
            refine XB_take (i := 6) rfl (by kernel_rfl) (by kernel_rfl) (by kernel_rfl) rfl (fun _ => qt_int u5 rfl u3) rfl rfl ?_
            refine XB_all [2, 7] (by kernel_rfl) (by simp) (allc ?_ (allc ?_ alln))
            · refine XB_do rfl ?_
              refine WL_call rfl rfl c25 (ih w217 G (IntKind.wrap .i64 (Int.tdiv p0 10)) x17 hx18 H219.ctx) (by rfl) ?_
              rintro _ w227 ⟨rfl, H228⟩; refine ⟨_, rfl, ?_⟩
              have H229 : Holds (([] : List Res).flatMap Res.own) w w227 [] G := H219.calledN (Rs := []) H228
              refine WL_nil fun a ha => ⟨rfl, (?_ : XB _ _ _ _ _ _ _ _) a ha⟩
              refine XB_all [7] (by kernel_rfl) (by simp) (allc ?_ alln)
              · refine XB_do rfl ?_
                refine WL_buildH (t := (.int .u8)) (args := [.tmp 30]) (xs := ([IntKind.wrap .u8 (IntKind.wrap .i64 (48 + (Int.tmod p0 10)))] : List Int)) H229 (BltL.cons (Blt.int) rfl (BltL.nil)) u57 j5 rfl rfl rfl rfl rfl rfl (fun v230 w231 H232 => ?_)
                have H233 : Holds (([] : List Res).flatMap Res.own) w w231 [.sl 5 (.int .u8) v230 ([IntKind.wrap .u8 (IntKind.wrap .i64 (48 + (Int.tmod p0 10)))])] G := H232
                refine WL_nil fun a ha => ⟨rfl, (?_ : XB _ _ _ _ _ _ _ _) a ha⟩
                refine XB_all [8] (by kernel_rfl) (by simp) (allc ?_ alln)
                · refine XB_do rfl ?_
                  refine XL_bytesH H233.ctx (Has.hd) u57 u5 u9 rfl rfl rfl ?_
                  refine WL_nil fun a ha => ⟨rfl, (?_ : XB _ _ _ _ _ _ _ _) a ha⟩
                  refine XB_take (i := 9) rfl (by kernel_rfl) (by kernel_rfl) (by kernel_rfl) rfl (fun _ => qt_sadd rfl rfl hx27) rfl rfl ?_
                  refine XB_take (i := 10) rfl (by kernel_rfl) (by kernel_rfl) (by kernel_rfl) rfl (fun _ => qt_assign rfl) rfl rfl ?_
                  refine XB_done (by kernel_rfl) (fun a ha => ?_)
                  have H234 : Holds (([] : List Res).flatMap Res.own) w w231 [] G := (H233.cut 0)
                  exact ⟨ha.sub ⟨rfl, trivial⟩, H234⟩
            · refine XB_do rfl ?_
              refine WL_buildH (t := (.int .u8)) (args := [.tmp 30]) (xs := ([IntKind.wrap .u8 (IntKind.wrap .i64 (48 + (Int.tmod p0 10)))] : List Int)) H219 (BltL.cons (Blt.int) rfl (BltL.nil)) u57 j5 rfl rfl rfl rfl rfl rfl (fun v235 w236 H237 => ?_)
              have H238 : Holds (([] : List Res).flatMap Res.own) w w236 [.sl 5 (.int .u8) v235 ([IntKind.wrap .u8 (IntKind.wrap .i64 (48 + (Int.tmod p0 10)))])] G := H237
              refine WL_nil fun a ha => ⟨rfl, (?_ : XB _ _ _ _ _ _ _ _) a ha⟩
              refine XB_all [2, 8] (by kernel_rfl) (by simp) (allc ?_ (allc ?_ alln))
              · refine XB_do rfl ?_
                refine WL_call rfl rfl c25 (ih w236 ([.sl 5 (.int .u8) v235 ([IntKind.wrap .u8 (IntKind.wrap .i64 (48 + (Int.tmod p0 10)))])] ++ G) (IntKind.wrap .i64 (Int.tdiv p0 10)) x17 hx18 H238.ctx) (by rfl) ?_
                rintro _ w239 ⟨rfl, H240⟩; refine ⟨_, rfl, ?_⟩
                have H241 : Holds (([] : List Res).flatMap Res.own) w w239 [.sl 5 (.int .u8) v235 ([IntKind.wrap .u8 (IntKind.wrap .i64 (48 + (Int.tmod p0 10)))])] G := H238.calledN (Rs := []) H240
                refine WL_nil fun a ha => ⟨rfl, (?_ : XB _ _ _ _ _ _ _ _) a ha⟩
                refine XB_all [8] (by kernel_rfl) (by simp) (allc ?_ alln)
                · refine XB_do rfl ?_
                  refine XL_bytesH H241.ctx (Has.hd) u57 u5 u9 rfl rfl rfl ?_
                  refine WL_nil fun a ha => ⟨rfl, (?_ : XB _ _ _ _ _ _ _ _) a ha⟩
                  refine XB_take (i := 9) rfl (by kernel_rfl) (by kernel_rfl) (by kernel_rfl) rfl (fun _ => qt_sadd rfl rfl hx27) rfl rfl ?_
                  refine XB_take (i := 10) rfl (by kernel_rfl) (by kernel_rfl) (by kernel_rfl) rfl (fun _ => qt_assign rfl) rfl rfl ?_
                  refine XB_done (by kernel_rfl) (fun a ha => ?_)
                  have H242 : Holds (([] : List Res).flatMap Res.own) w w239 [] G := (H241.cut 0)
                  exact ⟨ha.sub ⟨rfl, trivial⟩, H242⟩
              · refine XB_do rfl ?_
                refine XL_bytesH H238.ctx (Has.hd) u57 u5 u9 rfl rfl rfl ?_
                refine WL_nil fun a ha => ⟨rfl, (?_ : XB _ _ _ _ _ _ _ _) a ha⟩
                refine XB_all [2] (by kernel_rfl) (by simp) (allc ?_ alln)
                · refine XB_do rfl ?_
                  refine WL_call rfl rfl c25 (ih w236 ([.sl 5 (.int .u8) v235 ([IntKind.wrap .u8 (IntKind.wrap .i64 (48 + (Int.tmod p0 10)))])] ++ G) (IntKind.wrap .i64 (Int.tdiv p0 10)) x17 hx18 H238.ctx) (by rfl) ?_
                  rintro _ w243 ⟨rfl, H244⟩; refine ⟨_, rfl, ?_⟩
                  have H245 : Holds (([] : List Res).flatMap Res.own) w w243 [.sl 5 (.int .u8) v235 ([IntKind.wrap .u8 (IntKind.wrap .i64 (48 + (Int.tmod p0 10)))])] G := H238.calledN (Rs := []) H244
                  refine WL_nil fun a ha => ⟨rfl, (?_ : XB _ _ _ _ _ _ _ _) a ha⟩
                  refine XB_take (i := 9) rfl (by kernel_rfl) (by kernel_rfl) (by kernel_rfl) rfl (fun _ => qt_sadd rfl rfl hx27) rfl rfl ?_
                  refine XB_take (i := 10) rfl (by kernel_rfl) (by kernel_rfl) (by kernel_rfl) rfl (fun _ => qt_assign rfl) rfl rfl ?_
                  refine XB_done (by kernel_rfl) (fun a ha => ?_)
                  have H246 : Holds (([] : List Res).flatMap Res.own) w w243 [] G := (H245.cut 0)
                  exact ⟨ha.sub ⟨rfl, trivial⟩, H246⟩
          · intro a w247 hI248
            obtain ⟨ha, H249⟩ := hI248
            refine WP.app ?_ ha
            clear ha
            refine WP_ret fun a ha => ?_
            obtain rfl := Option.some.inj h
            exact ret1 rfl ha rfl ⟨rfl, H249⟩
theorem w_spec_l1Number (w : World) (G : List Res) (p0 : Int) (r : (List UInt8)) (h : spec_l1NumberS p0 = some r) (H : Ctx w G) : Calls Tryd.prog 25 #[.int .i64 p0] w fun e w' => e = .returned (strV r) ∧ Holds (([] : List Res).flatMap Res.own) w w' [] G :=
  w_spec_l1NumberF 200 w G p0 r h H
theorem w_spec_DeedText (w : World) (G : List Res) (p0_0 : Int) (p0_1 : Int) (p0_2 : Int) (p0_3 : Int) (r : (List UInt8)) (h : spec_DeedTextS p0_0 p0_1 p0_2 p0_3 = some r) (H : Ctx w G) : Calls Tryd.prog 7 #[.agg #[.int .i64 p0_0, .int .i64 p0_1, .int .i64 p0_2, .int .i64 p0_3]] w fun e w' => e = .returned (strV r) ∧ Holds (([] : List Res).flatMap Res.own) w w' [] G := by
  have H : Holds (([] : List Res).flatMap Res.own) w w [] G := Holds.startN H
  refine calls_enter (args := [.agg #[.int .i64 p0_0, .int .i64 p0_1, .int .i64 p0_2, .int .i64 p0_3]]) (n := 60) Tryd.func7 rfl rfl rfl ?_
  unfold spec_DeedTextS at h
  refine WP_seq ?_
  refine WP_region ?_
  refine WL_box (cs := [.int .i64 p0_0, .int .i64 p0_1, .int .i64 p0_2, .int .i64 p0_3]) H rfl rfl rfl rfl (fun b1 w2 H3 => ?_)
  have H4 : Holds (([] : List Res).flatMap Res.own) w w2 [.bx b1 25 [.int .i64 p0_0, .int .i64 p0_1, .int .i64 p0_2, .int .i64 p0_3]] G := H3
  refine XL_q rfl (qt_assign rfl) rfl rfl ?_
  refine WL_nil_seq ?_
  refine WP_seq ?_
  refine WP_seq ?_
  refine WP_still ?_
  refine XL_q rfl (qt_fieldAddr uf25 fi25_0 nz3 rfl) rfl rfl ?_
  have hB5 : Bx w2 b1 25 [.int .i64 p0_0, .int .i64 p0_1, .int .i64 p0_2, .int .i64 p0_3] := Holds.bx (H4.pull 0)
  refine XL_load_bx u3 rfl hB5 rfl rfl rfl rfl ?_
  obtain ⟨x6, hx7, h⟩ := bind_some h
  refine QL_call rfl rfl c22 (fun w' hb => (w_spec_l7Name w' ([.bx b1 25 [.int .i64 p0_0, .int .i64 p0_1, .int .i64 p0_2, .int .i64 p0_3]] ++ G) p0_0 x6 hx7 (H4.grow hb).ctx).mono fun e w'' hK => ⟨hK.1, hK.2.bel⟩) (by rfl) ?_
  refine XL_q rfl (qt_seql rfl rfl) rfl rfl ?_
  refine QL_nil fun a ha w8 hb9 => ?_
  have H10 : Holds (([] : List Res).flatMap Res.own) w w8 [.bx b1 25 [.int .i64 p0_0, .int .i64 p0_1, .int .i64 p0_2, .int .i64 p0_3]] G := H4.grow hb9
  refine nrm_seq (WP.app ?_ ha)
  refine WP_cond rfl (fun hc11 => ?_) (fun hc11 => ?_)
  · have h := if_t hc11 h
    refine WP_seq ?_
    refine WP_region ?_
    refine XL_q rfl (qt_assign rfl) rfl rfl ?_
    refine WL_nil_seq ?_
    refine WP_ret fun a ha => ?_
    obtain rfl := Option.some.inj h
    have H12 : Holds (([] : List Res).flatMap Res.own) w w8 [] G := (H10.cut 0)
    exact ret_seq (ret1 rfl ha rfl ⟨rfl, H12⟩)
  · have h := if_f hc11 h
    refine WP_skip_seq ?_
    refine WP_seq ?_
    refine WP_still ?_
    refine XL_q rfl (qt_fieldAddr uf25 fi25_0 nz3 rfl) rfl rfl ?_
    have hB13 : Bx w8 b1 25 [.int .i64 p0_0, .int .i64 p0_1, .int .i64 p0_2, .int .i64 p0_3] := Holds.bx (H10.pull 0)
    refine XL_load_bx u3 rfl hB13 rfl rfl rfl rfl ?_
    obtain ⟨x14, hx15, h⟩ := bind_some h
    refine QL_call rfl rfl c22 (fun w' hb => (w_spec_l7Name w' ([.bx b1 25 [.int .i64 p0_0, .int .i64 p0_1, .int .i64 p0_2, .int .i64 p0_3]] ++ G) p0_0 x14 hx15 (H10.grow hb).ctx).mono fun e w'' hK => ⟨hK.1, hK.2.bel⟩) (by rfl) ?_
    refine XL_q rfl (qt_assign rfl) rfl rfl ?_
    refine QL_nil fun a ha w16 hb17 => ?_
    have H18 : Holds (([] : List Res).flatMap Res.own) w w16 [.bx b1 25 [.int .i64 p0_0, .int .i64 p0_1, .int .i64 p0_2, .int .i64 p0_3]] G := H10.grow hb17
    refine nrm_seq (WP.app ?_ ha)
    refine WP_seq ?_
    refine WP_region ?_
    refine XL_q rfl (qt_fieldAddr uf25 fi25_1 nz3 rfl) rfl rfl ?_
    have hB19 : Bx w16 b1 25 [.int .i64 p0_0, .int .i64 p0_1, .int .i64 p0_2, .int .i64 p0_3] := Holds.bx (H18.pull 0)
    refine XL_load_bx u3 rfl hB19 rfl rfl rfl rfl ?_
    refine XL_q rfl (qt_fieldAddr uf25 fi25_2 nz3 rfl) rfl rfl ?_
    have hB20 : Bx w16 b1 25 [.int .i64 p0_0, .int .i64 p0_1, .int .i64 p0_2, .int .i64 p0_3] := Holds.bx (H18.pull 0)
    refine XL_load_bx u3 rfl hB20 rfl rfl rfl rfl ?_
    refine XL_q rfl (qt_fieldAddr uf25 fi25_3 nz3 rfl) rfl rfl ?_
    have hB21 : Bx w16 b1 25 [.int .i64 p0_0, .int .i64 p0_1, .int .i64 p0_2, .int .i64 p0_3] := Holds.bx (H18.pull 0)
    refine XL_load_bx u3 rfl hB21 rfl rfl rfl rfl ?_
    refine WL_buildH (t := (.int .i64)) (args := [.tmp 14, .tmp 16, .tmp 18]) (xs := ([p0_1, p0_2, p0_3] : List Int)) H18 (BltL.cons (Blt.int) rfl (BltL.cons (Blt.int) rfl (BltL.cons (Blt.int) rfl (BltL.nil)))) u43 j3 rfl rfl rfl rfl rfl rfl (fun v22 w23 H24 => ?_)
    have H25 : Holds (([] : List Res).flatMap Res.own) w w23 [.sl 3 (.int .i64) v22 ([p0_1, p0_2, p0_3]), .bx b1 25 [.int .i64 p0_0, .int .i64 p0_1, .int .i64 p0_2, .int .i64 p0_3]] G := H24
    refine XL_q rfl (qt_assign rfl) rfl rfl ?_
    refine WL_nil_seq ?_
    refine WP_seq ?_
    refine WP_seq ?_
    refine WP_region ?_
    refine XL_q rfl (qt_assign rfl) rfl rfl ?_
    refine WL_nil_seq ?_
    refine WP_block ?_
    obtain ⟨o28, ho29, h⟩ := bind_some h
    have H32 : Holds (([] : List Res).flatMap Res.own) w w23 [.bx b1 25 [.int .i64 p0_0, .int .i64 p0_1, .int .i64 p0_2, .int .i64 p0_3], .sl 3 (.int .i64) v22 ([p0_1, p0_2, p0_3])] G := (H25.pull 1)
    refine fun a30 ha31 => wp_loop_fix (I := fun s a w2 => match s with | (s26, s27) => (Fr a 60 [(1, .pointer (some ⟨b1, 0, none⟩)), (3, strV s26), (4, v22), (5, .int .i64 s27)] ∧ Holds (([] : List Res).flatMap Res.own) w w2 [.bx b1 25 [.int .i64 p0_0, .int .i64 p0_1, .int .i64 p0_2, .int .i64 p0_3], .sl 3 (.int .i64) v22 ([p0_1, p0_2, p0_3])] G)) (O := fun o e a w2 => match o with | .inl q0 => e = .exit 0 ∧ (Fr a 60 [(3, strV q0)] ∧ Holds (([] : List Res).flatMap Res.own) w w2 [] G) | .inr q0 => e = .ret ∧ (Fr a 60 [(2, strV q0)] ∧ Holds (([] : List Res).flatMap Res.own) w w2 [] G)) ho29 ?_ ?_ ?_
    · exact ⟨ha31.sub ⟨rfl, rfl, rfl, rfl, trivial⟩, H32⟩
    · clear ha31
      intro s o35 a w33 hs34 hI36
      obtain ⟨s26, s27⟩ := s
      obtain ⟨ha, H37⟩ := hI36
      refine WP.app ?_ ha
      clear ha
      refine WP_seq ?_
      refine WP_seq ?_
      refine WP_region ?_
      refine XL_q rfl (qt_move rfl) rfl rfl ?_
      refine XL_q rfl (qt_move rfl) rfl rfl ?_
      refine XL_lenH H37.ctx (t := (.int .i64)) (Has.c (Has.hd)) u43 rfl rfl rfl ?_
      refine XL_q rfl (qt_lss rfl rfl) rfl rfl ?_
      refine WL_nil_seq ?_
      refine WP_cond rfl (fun hc38 => ?_) (fun hc38 => ?_)
      · have hs34 := if_t hc38 hs34
        refine WP_skip_seq ?_
        refine WP_seq ?_
        refine WP_block ?_
        refine WP_seq ?_
        refine WP_seq ?_
        refine WP_still ?_
        refine XL_q rfl (qt_move rfl) rfl rfl ?_
        refine XL_q rfl (qt_move rfl) rfl rfl ?_
        obtain ⟨x39, hx40, hs34⟩ := bind_some hs34
        refine XL_indexH H37.ctx (Has.c (Has.hd)) hx40 u43 i3 rfl rfl rfl rfl (fun b41 off42 cap43 hv44 => ?_)
        obtain ⟨F45, hat46, hdup47⟩ := H37.at (Has.c (Has.hd)) hx40 hv44
        refine XL_load_int (k := .i64) u3 rfl hat46 rfl rfl rfl ?_
        obtain ⟨x48, hx49, hs34⟩ := bind_some hs34
        refine QL_call rfl rfl c23 (fun w' hb => (w_spec_l1In w' ([.bx b1 25 [.int .i64 p0_0, .int .i64 p0_1, .int .i64 p0_2, .int .i64 p0_3], .sl 3 (.int .i64) v22 ([p0_1, p0_2, p0_3])] ++ G) x39 0 999 x48 hx49 (H37.grow hb).ctx).mono fun e w'' hK => ⟨hK.1, hK.2.bel⟩) (by rfl) ?_
        refine XL_q rfl (qt_not rfl) rfl rfl ?_
        refine XL_q rfl (qt_move rfl) rfl rfl ?_
        obtain ⟨b50, hg51, hs34⟩ := bind_some hs34
        refine XL_join 13 45 (.bool b50) ?_ (fun md hmd hk => ?_)
        rotate_left
        · obtain ⟨K, rfl⟩ := Md.quiet_of hmd
          rcases btf (!x48) with hc52 | hc52
          · skip
            refine XL_skip (w_skip rfl hc52) rfl rfl ?_
            refine XL_skip (w_skip rfl hc52) rfl rfl ?_
            refine XL_skip (w_skip rfl hc52) rfl rfl ?_
            refine XL_skip (w_skip rfl hc52) rfl rfl ?_
            refine XL_skip (w_skip rfl hc52) rfl rfl ?_
            refine XL_skip (w_skip rfl hc52) rfl rfl ?_
            refine XL_skip rfl rfl rfl ?_
            refine XL_skip rfl rfl rfl ?_
            refine XL_skip rfl rfl rfl ?_
            refine XL_skip rfl rfl rfl ?_
            refine XL_skip rfl rfl rfl ?_
            refine XL_skip (w_skip rfl hc52) rfl rfl ?_
            refine XL_q rfl (qt_pickT rfl hc52 rfl) rfl rfl ?_
            exact hk _ (Cov.same (vb (if_t hc52 hg51)) (Cov.fresh rfl (Cov.fresh rfl (Cov.fresh rfl (Cov.fresh rfl (Cov.fresh rfl (Cov.fresh rfl (Cov.fresh rfl (Cov.fresh rfl (Cov.fresh rfl (Cov.fresh rfl (Cov.fresh rfl (Cov.fresh rfl (Cov.refl))))))))))))))
          · skip
            have hg51 := if_f hc52 hg51
            refine XL_q (w_take rfl hc52) (qt_move rfl) rfl rfl ?_
            refine XL_q (w_take rfl hc52) (qt_fieldAddr uf25 fi25_0 nz3 rfl) rfl rfl ?_
            have hB53 : Bx w33 b1 25 [.int .i64 p0_0, .int .i64 p0_1, .int .i64 p0_2, .int .i64 p0_3] := Holds.bx (H37.pull 0)
            refine XL_load_bx u3 rfl hB53 rfl (w_take rfl hc52) rfl rfl ?_
            obtain ⟨x54, hx55, hg51⟩ := bind_some hg51
            refine QL_call (w_take rfl hc52) rfl c24 (fun w' hb => (w_spec_l7Many w' ([.bx b1 25 [.int .i64 p0_0, .int .i64 p0_1, .int .i64 p0_2, .int .i64 p0_3], .sl 3 (.int .i64) v22 ([p0_1, p0_2, p0_3])] ++ G) p0_0 x54 hx55 (H37.grow hb).ctx).mono fun e w'' hK => ⟨hK.1, hK.2.bel⟩) (by rfl) ?_
            refine XL_q (w_take rfl hc52) (qt_geq rfl rfl) rfl rfl ?_
            refine XL_q (w_take rfl hc52) (qt_move rfl) rfl rfl ?_
            obtain ⟨b56, hg57, hg51⟩ := bind_some hg51
            refine XL_join 6 44 (.bool b56) ?_ (fun md hmd hk => ?_)
            rotate_left
            · obtain ⟨K, rfl⟩ := Md.quiet_of hmd
              rcases btf (decide (s27 ≥ x54)) with hc58 | hc58
              · skip
                have hg57 := if_t hc58 hg57
                refine XL_q (w_take rfl hc58) (qt_move rfl) rfl rfl ?_
                refine XL_q (w_take rfl hc58) (qt_move rfl) rfl rfl ?_
                obtain ⟨x59, hx60, hg57⟩ := bind_some hg57
                refine XL_indexH H37.ctx (Has.c (Has.hd)) hx60 u43 i3 (w_take rfl hc58) rfl rfl rfl (fun b61 off62 cap63 hv64 => ?_)
                obtain ⟨F65, hat66, hdup67⟩ := H37.at (Has.c (Has.hd)) hx60 hv64
                refine XL_load_int (k := .i64) u3 rfl hat66 (w_take rfl hc58) rfl rfl ?_
                refine XL_q (w_take rfl hc58) (qt_neq rfl rfl) rfl rfl ?_
                refine XL_q (w_take rfl hc52) (qt_pickT rfl hc58 rfl) rfl rfl ?_
                exact hk _ (Cov.same (vb hg57) (Cov.fresh rfl (Cov.fresh rfl (Cov.fresh rfl (Cov.fresh rfl (Cov.fresh rfl (Cov.refl)))))))
              · skip
                refine XL_skip (w_skip rfl hc58) rfl rfl ?_
                refine XL_skip (w_skip rfl hc58) rfl rfl ?_
                refine XL_skip (w_skip rfl hc58) rfl rfl ?_
                refine XL_skip (w_skip rfl hc58) rfl rfl ?_
                refine XL_skip (w_skip rfl hc58) rfl rfl ?_
                refine XL_q (w_take rfl hc52) (qt_pickF rfl hc58 rfl) rfl rfl ?_
                exact hk _ (Cov.same (vb (if_f hc58 hg57)) (Cov.fresh rfl (Cov.fresh rfl (Cov.fresh rfl (Cov.fresh rfl (Cov.fresh rfl (Cov.refl)))))))
            refine XL_q rfl (qt_pickF rfl hc52 rfl) rfl rfl ?_
            exact hk _ (Cov.same (vb hg51) (Cov.fresh rfl (Cov.fresh rfl (Cov.fresh rfl (Cov.fresh rfl (Cov.fresh rfl (Cov.fresh rfl (Cov.fresh rfl (Cov.refl)))))))))
        refine QL_nil fun a ha w68 hb69 => ?_
        have H70 : Holds (([] : List Res).flatMap Res.own) w w68 [.bx b1 25 [.int .i64 p0_0, .int .i64 p0_1, .int .i64 p0_2, .int .i64 p0_3], .sl 3 (.int .i64) v22 ([p0_1, p0_2, p0_3])] G := H37.grow hb69
        refine nrm_seq (WP.app ?_ ha)
        refine WP_cond rfl (fun hc71 => ?_) (fun hc71 => ?_)
        · have hs34 := if_t hc71 hs34
          refine WP_seq ?_
          refine WP_region ?_
          refine XL_q rfl (qt_assign rfl) rfl rfl ?_
          refine WL_nil_seq ?_
          refine WP_ret fun a ha => ?_
          obtain rfl := Option.some.inj hs34
          have H72 : Holds (([] : List Res).flatMap Res.own) w w68 [] G := ((H70.cut 0).cut 0)
          exact ret_seq (ret_block (ret_seq (⟨ret_ne, rfl, ha.sub ⟨rfl, trivial⟩, H72⟩)))
        · have hs34 := if_f hc71 hs34
          refine WP_skip_seq ?_
          refine WP_seq ?_
          refine WP_still ?_
          refine XL_q rfl (qt_move rfl) rfl rfl ?_
          refine XL_q rfl (qt_fieldAddr uf25 fi25_0 nz3 rfl) rfl rfl ?_
          have hB73 : Bx w68 b1 25 [.int .i64 p0_0, .int .i64 p0_1, .int .i64 p0_2, .int .i64 p0_3] := Holds.bx (H70.pull 0)
          refine XL_load_bx u3 rfl hB73 rfl rfl rfl rfl ?_
          obtain ⟨x74, hx75, hs34⟩ := bind_some hs34
          refine QL_call rfl rfl c24 (fun w' hb => (w_spec_l7Many w' ([.bx b1 25 [.int .i64 p0_0, .int .i64 p0_1, .int .i64 p0_2, .int .i64 p0_3], .sl 3 (.int .i64) v22 ([p0_1, p0_2, p0_3])] ++ G) p0_0 x74 hx75 (H70.grow hb).ctx).mono fun e w'' hK => ⟨hK.1, hK.2.bel⟩) (by rfl) ?_
          refine XL_q rfl (qt_lss rfl rfl) rfl rfl ?_
          refine QL_nil fun a ha w76 hb77 => ?_
          have H78 : Holds (([] : List Res).flatMap Res.own) w w76 [.bx b1 25 [.int .i64 p0_0, .int .i64 p0_1, .int .i64 p0_2, .int .i64 p0_3], .sl 3 (.int .i64) v22 ([p0_1, p0_2, p0_3])] G := H70.grow hb77
          refine nrm_seq (WP.app ?_ ha)
          refine WP_cond rfl (fun hc79 => ?_) (fun hc79 => ?_)
          · have hs34 := if_t hc79 hs34
            refine WP_still ?_
            refine XL_q rfl (qt_move rfl) rfl rfl ?_
            obtain ⟨x80, hx81, hs34⟩ := bind_some hs34
            refine XL_q rfl (qt_sadd rfl rfl hx81) rfl rfl ?_
            refine XL_q rfl (qt_move rfl) rfl rfl ?_
            refine XL_q rfl (qt_move rfl) rfl rfl ?_
            obtain ⟨x82, hx83, hs34⟩ := bind_some hs34
            refine XL_indexH H78.ctx (Has.c (Has.hd)) hx83 u43 i3 rfl rfl rfl rfl (fun b84 off85 cap86 hv87 => ?_)
            obtain ⟨F88, hat89, hdup90⟩ := H78.at (Has.c (Has.hd)) hx83 hv87
            refine XL_load_int (k := .i64) u3 rfl hat89 rfl rfl rfl ?_
            obtain ⟨x91, hx92, hs34⟩ := bind_some hs34
            refine QL_call rfl rfl c25 (fun w' hb => (w_spec_l1Number w' ([.bx b1 25 [.int .i64 p0_0, .int .i64 p0_1, .int .i64 p0_2, .int .i64 p0_3], .sl 3 (.int .i64) v22 ([p0_1, p0_2, p0_3])] ++ G) x82 x91 hx92 (H78.grow hb).ctx).mono fun e w'' hK => ⟨hK.1, hK.2.bel⟩) (by rfl) ?_
            obtain ⟨x93, hx94, hs34⟩ := bind_some hs34
            refine XL_q rfl (qt_sadd rfl rfl hx94) rfl rfl ?_
            refine XL_q rfl (qt_assign rfl) rfl rfl ?_
            refine QL_nil fun a ha w95 hb96 => ?_
            have H97 : Holds (([] : List Res).flatMap Res.own) w w95 [.bx b1 25 [.int .i64 p0_0, .int .i64 p0_1, .int .i64 p0_2, .int .i64 p0_3], .sl 3 (.int .i64) v22 ([p0_1, p0_2, p0_3])] G := H78.grow hb96
            refine nrm_block (nrm_seq (WP.app ?_ ha))
            refine WP_region ?_
            refine XL_q rfl (qt_move rfl) rfl rfl ?_
            refine XL_q rfl (qt_add rfl rfl) rfl rfl ?_
            refine XL_q rfl (qt_assign rfl) rfl rfl ?_
            refine WL_nil fun a ha => ?_
            obtain rfl := Option.some.inj hs34
            have H98 : Holds (([] : List Res).flatMap Res.own) w w95 [.bx b1 25 [.int .i64 p0_0, .int .i64 p0_1, .int .i64 p0_2, .int .i64 p0_3], .sl 3 (.int .i64) v22 ([p0_1, p0_2, p0_3])] G := ((H97.pull 1).pull 1)
            exact ⟨rfl, ha.sub ⟨rfl, rfl, rfl, rfl, trivial⟩, H98⟩
          · have hs34 := if_f hc79 hs34
            refine WP_skip fun a ha => ?_
            refine nrm_block (nrm_seq (WP.app ?_ ha))
            refine WP_region ?_
            refine XL_q rfl (qt_move rfl) rfl rfl ?_
            refine XL_q rfl (qt_add rfl rfl) rfl rfl ?_
            refine XL_q rfl (qt_assign rfl) rfl rfl ?_
            refine WL_nil fun a ha => ?_
            obtain rfl := Option.some.inj hs34
            have H99 : Holds (([] : List Res).flatMap Res.own) w w76 [.bx b1 25 [.int .i64 p0_0, .int .i64 p0_1, .int .i64 p0_2, .int .i64 p0_3], .sl 3 (.int .i64) v22 ([p0_1, p0_2, p0_3])] G := ((H78.pull 1).pull 1)
            exact ⟨rfl, ha.sub ⟨rfl, rfl, rfl, rfl, trivial⟩, H99⟩
      · have hs34 := if_f hc38 hs34
        refine WP_exit fun a ha => ?_
        obtain rfl := Option.some.inj hs34
        have H100 : Holds (([] : List Res).flatMap Res.own) w w33 [] G := ((H37.cut 0).cut 0)
        exact exit_seq (⟨exit_ne, rfl, ha.sub ⟨rfl, trivial⟩, H100⟩)
    · intro e a30 w101 hO102
      rcases o28 with o28 | o28
      · skip
        obtain ⟨p103, rfl⟩ : ∃ z, z = o28 := ⟨o28, rfl⟩
        obtain ⟨rfl, hO105⟩ := hO102
        obtain ⟨ha, H104⟩ := hO105
        refine exit_block_eq (nrm_seq (WP.app ?_ ha))
        refine WP_seq ?_
        refine WP_region ?_
        refine XL_q rfl (qt_move rfl) rfl rfl ?_
        refine XL_q rfl (qt_assign rfl) rfl rfl ?_
        refine WL_nil_seq ?_
        refine WP_ret fun a ha => ?_
        obtain rfl := Option.some.inj h
        exact ret1 rfl ha rfl ⟨rfl, H104⟩
      · skip
        obtain ⟨p106, rfl⟩ : ∃ z, z = o28 := ⟨o28, rfl⟩
        obtain ⟨rfl, hO108⟩ := hO102
        obtain ⟨ha, H107⟩ := hO108
        obtain rfl := Option.some.inj h
        exact ret_block (ret_seq (ret1 rfl ha rfl ⟨rfl, H107⟩))
theorem w_impl_onlyNamed (w : World) (G : List Res) (hGl : Glob G) (p0_0 : Int) (p0_1 : Int) (p0_2 : Int) (p0_3 : Int) (r : Bool) (h : impl_onlyNamedS p0_0 p0_1 p0_2 p0_3 = some r) (H : Ctx w G) : Calls Tryd.prog 26 #[.agg #[.int .i64 p0_0, .int .i64 p0_1, .int .i64 p0_2, .int .i64 p0_3]] w fun e w' => e = .returned (.bool r) ∧ Holds (([] : List Res).flatMap Res.own) w w' [] G := by
  have H : Holds (([] : List Res).flatMap Res.own) w w [] G := Holds.startN H
  refine calls_enter (args := [.agg #[.int .i64 p0_0, .int .i64 p0_1, .int .i64 p0_2, .int .i64 p0_3]]) (n := 34) Tryd.func26 rfl rfl rfl ?_
  unfold impl_onlyNamedS at h
  refine WP_seq ?_
  refine WP_region ?_
  refine WL_box (cs := [.int .i64 p0_0, .int .i64 p0_1, .int .i64 p0_2, .int .i64 p0_3]) H rfl rfl rfl rfl (fun b1 w2 H3 => ?_)
  have H4 : Holds (([] : List Res).flatMap Res.own) w w2 [.bx b1 25 [.int .i64 p0_0, .int .i64 p0_1, .int .i64 p0_2, .int .i64 p0_3]] G := H3
  refine XL_q rfl (qt_assign rfl) rfl rfl ?_
  refine WL_nil_seq ?_
  refine WP_seq ?_
  refine WP_seq ?_
  refine WP_region ?_
  refine XL_q rfl (qt_fieldAddr uf25 fi25_0 nz3 rfl) rfl rfl ?_
  have hB5 : Bx w2 b1 25 [.int .i64 p0_0, .int .i64 p0_1, .int .i64 p0_2, .int .i64 p0_3] := Holds.bx (H4.pull 0)
  refine XL_load_bx u3 rfl hB5 rfl rfl rfl rfl ?_
  refine XL_q rfl (qt_lss rfl rfl) rfl rfl ?_
  refine XL_q rfl (qt_move rfl) rfl rfl ?_
  refine XL_join 4 13 (.bool ((decide (p0_0 < 0)) || (decide (p0_0 > 5)))) ?_ (fun md hmd hk => ?_)
  rotate_left
  · obtain ⟨Q, rfl⟩ := Md.seq_of hmd
    rcases btf (decide (p0_0 < 0)) with hc6 | hc6
    · skip
      refine XL_skip (w_skip rfl hc6) rfl rfl ?_
      refine XL_skip (w_skip rfl hc6) rfl rfl ?_
      refine XL_skip (w_skip rfl hc6) rfl rfl ?_
      refine XL_q rfl (qt_pickT rfl hc6 rfl) rfl rfl ?_
      exact hk _ (Cov.same (by rw [hc6]; rfl) (Cov.fresh rfl (Cov.fresh rfl (Cov.fresh rfl (Cov.refl)))))
    · skip
      refine XL_q (w_take rfl hc6) (qt_fieldAddr uf25 fi25_0 nz3 rfl) rfl rfl ?_
      have hB7 : Bx w2 b1 25 [.int .i64 p0_0, .int .i64 p0_1, .int .i64 p0_2, .int .i64 p0_3] := Holds.bx (H4.pull 0)
      refine XL_load_bx u3 rfl hB7 rfl (w_take rfl hc6) rfl rfl ?_
      refine XL_q (w_take rfl hc6) (qt_gtr rfl rfl) rfl rfl ?_
      refine XL_q rfl (qt_pickF rfl hc6 rfl) rfl rfl ?_
      exact hk _ (Cov.same (by rw [hc6]; rfl) (Cov.fresh rfl (Cov.fresh rfl (Cov.fresh rfl (Cov.refl)))))
  refine WL_nil_seq ?_
  refine WP_cond rfl (fun hc8 => ?_) (fun hc8 => ?_)
  · have h := if_t hc8 h
    refine WP_seq ?_
    refine WP_region ?_
    refine XL_q rfl (qt_assign rfl) rfl rfl ?_
    refine WL_nil_seq ?_
    refine WP_ret fun a ha => ?_
    obtain rfl := Option.some.inj h
    have H9 : Holds (([] : List Res).flatMap Res.own) w w2 [] G := (H4.cut 0)
    exact ret_seq (ret1 rfl ha rfl ⟨rfl, H9⟩)
  · have h := if_f hc8 h
    refine WP_skip_seq ?_
    refine WP_seq ?_
    refine WP_region ?_
    refine XL_q rfl (qt_fieldAddr uf25 fi25_1 nz3 rfl) rfl rfl ?_
    have hB10 : Bx w2 b1 25 [.int .i64 p0_0, .int .i64 p0_1, .int .i64 p0_2, .int .i64 p0_3] := Holds.bx (H4.pull 0)
    refine XL_load_bx u3 rfl hB10 rfl rfl rfl rfl ?_
    refine XL_q rfl (qt_fieldAddr uf25 fi25_2 nz3 rfl) rfl rfl ?_
    have hB11 : Bx w2 b1 25 [.int .i64 p0_0, .int .i64 p0_1, .int .i64 p0_2, .int .i64 p0_3] := Holds.bx (H4.pull 0)
    refine XL_load_bx u3 rfl hB11 rfl rfl rfl rfl ?_
    refine XL_q rfl (qt_fieldAddr uf25 fi25_3 nz3 rfl) rfl rfl ?_
    have hB12 : Bx w2 b1 25 [.int .i64 p0_0, .int .i64 p0_1, .int .i64 p0_2, .int .i64 p0_3] := Holds.bx (H4.pull 0)
    refine XL_load_bx u3 rfl hB12 rfl rfl rfl rfl ?_
    refine XL_q rfl (qt_build (args := [(0, .tmp 15), (1, .tmp 17), (2, .tmp 19)]) (css := [#[.int .i64 p0_1], #[.int .i64 p0_2], #[.int .i64 p0_3]]) (cells := #[.int .i64 p0_1, .int .i64 p0_2, .int .i64 p0_3]) rfl ⟨rfl, rfl, rfl, trivial⟩ (by kernel_rfl)) rfl rfl ?_
    refine WL_alloc (cs := [.int .i64 0, .int .i64 0, .int .i64 0]) H4 z47 rfl rfl rfl (fun b13 w14 H15 => ?_)
    have H16 : Holds (([] : List Res).flatMap Res.own) w w14 [.bx b13 47 [.int .i64 0, .int .i64 0, .int .i64 0], .bx b1 25 [.int .i64 p0_0, .int .i64 p0_1, .int .i64 p0_2, .int .i64 p0_3]] G := H15
    refine WL_store_bxA (cs' := [.int .i64 p0_1, .int .i64 p0_2, .int .i64 p0_3]) H16 rfl il47 rfl rfl rfl rfl rfl (fun w17 H18 => ?_)
    have H19 : Holds (([] : List Res).flatMap Res.own) w w17 [.bx b13 47 [.int .i64 p0_1, .int .i64 p0_2, .int .i64 p0_3], .bx b1 25 [.int .i64 p0_0, .int .i64 p0_1, .int .i64 p0_2, .int .i64 p0_3]] G := H18
    have H20 : Holds (([] : List Res).flatMap Res.own) w w17 [.sl 47 (.int .i64) (.slice (some ⟨b13, 0, none⟩) 3 3) ([p0_1, p0_2, p0_3] : List Int), .bx b1 25 [.int .i64 p0_0, .int .i64 p0_1, .int .i64 p0_2, .int .i64 p0_3]] G := Holds.bx_sl (t := (.int .i64)) (xs := [p0_1, p0_2, p0_3]) H19 (fun _ => ⟨[_], _, [], [], rfl, rfl, ⟨rfl, rfl⟩, ⟨[_], _, [], [], rfl, rfl, ⟨rfl, rfl⟩, ⟨[_], _, [], [], rfl, rfl, ⟨rfl, rfl⟩, ⟨rfl, rfl⟩⟩⟩⟩) rfl rfl
    refine WL_nil_seq ?_
    refine WP_seq ?_
    refine WP_seq ?_
    refine WP_region ?_
    refine XL_q rfl (qt_fieldAddr uf25 fi25_0 nz3 rfl) rfl rfl ?_
    have hB21 : Bx w17 b1 25 [.int .i64 p0_0, .int .i64 p0_1, .int .i64 p0_2, .int .i64 p0_3] := Holds.bx (H20.pull 1)
    refine XL_load_bx u3 rfl hB21 rfl rfl rfl rfl ?_
    obtain ⟨x22, hx23, h⟩ := bind_some h
    refine XL_indexA H20.ctx (hGl.2.c.c.has) rfl hx23 u49 i3 rfl rfl rfl rfl (fun b24 off25 cap26 hv27 => ?_)
    obtain ⟨F28, hat29, hdup30⟩ := H20.at (hGl.2.c.c.has) hx23 hv27
    refine XL_load_int (k := .i64) u3 rfl hat29 rfl rfl rfl ?_
    obtain ⟨x31, hx32, h⟩ := bind_some h
    refine XL_sliceA H20.ctx (Has.hd) rfl hx32 u47 i3 ⟨_, rfl⟩ rfl rfl rfl rfl ?_
    refine XL_lenH H20.ctx (t := (.int .i64)) (Has.sub (Has.hd) hx32) u43 rfl rfl rfl ?_
    refine XL_q rfl (qt_move rfl) rfl rfl ?_
    refine WL_nil_seq ?_
    refine WP_block ?_
    obtain ⟨o34, ho35, h⟩ := bind_some h
    have H38 : Holds (([] : List Res).flatMap Res.own) w w17 [.sl 47 (.int .i64) (.slice (some ⟨b13, 0, none⟩) 3 3) ([p0_1, p0_2, p0_3] : List Int)] G := (H20.cut 1)
    refine fun a36 ha37 => wp_loop_fix (I := fun s a w2 => match s with | s33 => (Fr a 34 [(25, (subV (Ty.size (.int .i64)) (.slice (some ⟨b13, 0, none⟩) 3 3) (Int.toNat x22) (Int.toNat (List.length ([p0_1, p0_2, p0_3] : List Int) : Int)))), (26, .int .i64 (List.length x31 : Int)), (27, .int .i64 s33)] ∧ Holds (([] : List Res).flatMap Res.own) w w2 [.sl 47 (.int .i64) (.slice (some ⟨b13, 0, none⟩) 3 3) ([p0_1, p0_2, p0_3] : List Int)] G)) (O := fun o e a w2 => match o with | .inl _ => e = .exit 0 ∧ (Fr a 34 [] ∧ Holds (([] : List Res).flatMap Res.own) w w2 [] G) | .inr q0 => e = .ret ∧ (Fr a 34 [(2, .bool q0)] ∧ Holds (([] : List Res).flatMap Res.own) w w2 [] G)) ho35 ?_ ?_ ?_
    · exact ⟨ha37.sub ⟨rfl, rfl, rfl, trivial⟩, H38⟩
    · clear ha37
      intro s o41 a w39 hs40 hI42
      obtain ⟨s33, rfl⟩ : ∃ z, z = s := ⟨s, rfl⟩
      obtain ⟨ha, H43⟩ := hI42
      refine WP.app ?_ ha
      clear ha
      refine WP_seq ?_
      refine WP_region ?_
      refine XL_q rfl (qt_lss rfl rfl) rfl rfl ?_
      refine WL_nil_seq ?_
      refine WP_seq ?_
      refine WP_cond rfl (fun hc44 => ?_) (fun hc44 => ?_)
      · have hs40 := if_t hc44 hs40
        refine WP_skip_seq ?_
        refine WP_seq ?_
        refine WP_block ?_
        refine WP_seq ?_
        refine WP_region ?_
        obtain ⟨x45, hx46, hs40⟩ := bind_some hs40
        refine XL_indexH H43.ctx (Has.sub (Has.hd) hx32) hx46 u43 i3 rfl rfl rfl rfl (fun b47 off48 cap49 hv50 => ?_)
        obtain ⟨F51, hat52, hdup53⟩ := H43.at (Has.sub (Has.hd) hx32) hx46 hv50
        refine XL_load_int (k := .i64) u3 rfl hat52 rfl rfl rfl ?_
        refine XL_q rfl (qt_assign rfl) rfl rfl ?_
        refine WL_nil_seq ?_
        refine WP_seq ?_
        refine WP_region ?_
        refine XL_q rfl (qt_move rfl) rfl rfl ?_
        refine XL_q rfl (qt_neq rfl rfl) rfl rfl ?_
        refine WL_nil_seq ?_
        refine WP_cond rfl (fun hc54 => ?_) (fun hc54 => ?_)
        · have hs40 := if_t hc54 hs40
          refine WP_seq ?_
          refine WP_region ?_
          refine XL_q rfl (qt_assign rfl) rfl rfl ?_
          refine WL_nil_seq ?_
          refine WP_ret fun a ha => ?_
          obtain rfl := Option.some.inj hs40
          have H55 : Holds (([] : List Res).flatMap Res.own) w w39 [] G := (H43.cut 0)
          exact ret_block (ret_seq (⟨ret_ne, rfl, ha.sub ⟨rfl, trivial⟩, H55⟩))
        · have hs40 := if_f hc54 hs40
          refine WP_skip fun a ha => ?_
          refine nrm_block (nrm_seq (WP.app ?_ ha))
          refine WP_region ?_
          refine XL_q rfl (qt_add rfl rfl) rfl rfl ?_
          refine XL_q rfl (qt_move rfl) rfl rfl ?_
          refine WL_nil fun a ha => ?_
          obtain rfl := Option.some.inj hs40
          exact ⟨rfl, ha.sub ⟨rfl, rfl, rfl, trivial⟩, H43⟩
      · have hs40 := if_f hc44 hs40
        refine WP_exit fun a ha => ?_
        obtain rfl := Option.some.inj hs40
        have H56 : Holds (([] : List Res).flatMap Res.own) w w39 [] G := (H43.cut 0)
        exact exit_seq (⟨exit_ne, rfl, ha.sub trivial, H56⟩)
    · intro e a36 w57 hO58
      rcases o34 with o34 | o34
      · skip
        obtain ⟨rfl, hO60⟩ := hO58
        obtain ⟨ha, H59⟩ := hO60
        refine exit_block_eq (nrm_seq (WP.app ?_ ha))
        refine WP_seq ?_
        refine WP_region ?_
        refine XL_q rfl (qt_assign rfl) rfl rfl ?_
        refine WL_nil_seq ?_
        refine WP_ret fun a ha => ?_
        obtain rfl := Option.some.inj h
        exact ret1 rfl ha rfl ⟨rfl, H59⟩
      · skip
        obtain ⟨p61, rfl⟩ : ∃ z, z = o34 := ⟨o34, rfl⟩
        obtain ⟨rfl, hO63⟩ := hO58
        obtain ⟨ha, H62⟩ := hO63
        obtain rfl := Option.some.inj h
        exact ret_block (ret_seq (ret1 rfl ha rfl ⟨rfl, H62⟩))
theorem w_impl_DeedText (w : World) (G : List Res) (hGl : Glob G) (hGp : GlobP G) (p0_0 : Int) (p0_1 : Int) (p0_2 : Int) (p0_3 : Int) (r : (List UInt8)) (h : impl_DeedTextS p0_0 p0_1 p0_2 p0_3 = some r) (H : Ctx w G) : Calls Tryd.prog 9 #[.agg #[.int .i64 p0_0, .int .i64 p0_1, .int .i64 p0_2, .int .i64 p0_3]] w fun e w' => e = .returned (strV r) ∧ Holds (([] : List Res).flatMap Res.own) w w' [] G := by
  have H : Holds (([] : List Res).flatMap Res.own) w w [] G := Holds.startN H
  refine calls_enter (args := [.agg #[.int .i64 p0_0, .int .i64 p0_1, .int .i64 p0_2, .int .i64 p0_3]]) (n := 44) Tryd.func9 rfl rfl rfl ?_
  unfold impl_DeedTextS at h
  refine WP_seq ?_
  refine WP_region ?_
  refine WL_box (cs := [.int .i64 p0_0, .int .i64 p0_1, .int .i64 p0_2, .int .i64 p0_3]) H rfl rfl rfl rfl (fun b1 w2 H3 => ?_)
  have H4 : Holds (([] : List Res).flatMap Res.own) w w2 [.bx b1 25 [.int .i64 p0_0, .int .i64 p0_1, .int .i64 p0_2, .int .i64 p0_3]] G := H3
  refine XL_q rfl (qt_assign rfl) rfl rfl ?_
  refine WL_nil_seq ?_
  refine WP_seq ?_
  refine WP_seq ?_
  refine WP_still ?_
  have hB5 : Bx w2 b1 25 [.int .i64 p0_0, .int .i64 p0_1, .int .i64 p0_2, .int .i64 p0_3] := Holds.bx (H4.pull 0)
  refine XL_load_bxA (cs := [.int .i64 p0_0, .int .i64 p0_1, .int .i64 p0_2, .int .i64 p0_3]) us25 uo25 il25 hB5 rfl rfl rfl ?_
  change XL _ _ _ _ _ ((7, .agg #[.int .i64 p0_0, .int .i64 p0_1, .int .i64 p0_2, .int .i64 p0_3]) :: _) _
  obtain ⟨x6, hx7, h⟩ := bind_some h
  refine QL_call rfl rfl c26 (fun w' hb => (w_impl_onlyNamed w' ([.bx b1 25 [.int .i64 p0_0, .int .i64 p0_1, .int .i64 p0_2, .int .i64 p0_3]] ++ G) hGl.c p0_0 p0_1 p0_2 p0_3 x6 hx7 (H4.grow hb).ctx).mono fun e w'' hK => ⟨hK.1, hK.2.bel⟩) (by rfl) ?_
  refine XL_q rfl (qt_not rfl) rfl rfl ?_
  refine QL_nil fun a ha w8 hb9 => ?_
  have H10 : Holds (([] : List Res).flatMap Res.own) w w8 [.bx b1 25 [.int .i64 p0_0, .int .i64 p0_1, .int .i64 p0_2, .int .i64 p0_3]] G := H4.grow hb9
  refine nrm_seq (WP.app ?_ ha)
  refine WP_cond rfl (fun hc11 => ?_) (fun hc11 => ?_)
  · have h := if_t hc11 h
    refine WP_seq ?_
    refine WP_region ?_
    refine XL_q rfl (qt_assign rfl) rfl rfl ?_
    refine WL_nil_seq ?_
    refine WP_ret fun a ha => ?_
    obtain rfl := Option.some.inj h
    have H12 : Holds (([] : List Res).flatMap Res.own) w w8 [] G := (H10.cut 0)
    exact ret_seq (ret1 rfl ha rfl ⟨rfl, H12⟩)
  · have h := if_f hc11 h
    refine WP_skip_seq ?_
    refine WP_seq ?_
    refine WP_region ?_
    refine XL_q rfl (qt_fieldAddr uf25 fi25_1 nz3 rfl) rfl rfl ?_
    have hB13 : Bx w8 b1 25 [.int .i64 p0_0, .int .i64 p0_1, .int .i64 p0_2, .int .i64 p0_3] := Holds.bx (H10.pull 0)
    refine XL_load_bx u3 rfl hB13 rfl rfl rfl rfl ?_
    refine XL_q rfl (qt_fieldAddr uf25 fi25_2 nz3 rfl) rfl rfl ?_
    have hB14 : Bx w8 b1 25 [.int .i64 p0_0, .int .i64 p0_1, .int .i64 p0_2, .int .i64 p0_3] := Holds.bx (H10.pull 0)
    refine XL_load_bx u3 rfl hB14 rfl rfl rfl rfl ?_
    refine XL_q rfl (qt_fieldAddr uf25 fi25_3 nz3 rfl) rfl rfl ?_
    have hB15 : Bx w8 b1 25 [.int .i64 p0_0, .int .i64 p0_1, .int .i64 p0_2, .int .i64 p0_3] := Holds.bx (H10.pull 0)
    refine XL_load_bx u3 rfl hB15 rfl rfl rfl rfl ?_
    refine XL_q rfl (qt_build (args := [(0, .tmp 11), (1, .tmp 13), (2, .tmp 15)]) (css := [#[.int .i64 p0_1], #[.int .i64 p0_2], #[.int .i64 p0_3]]) (cells := #[.int .i64 p0_1, .int .i64 p0_2, .int .i64 p0_3]) rfl ⟨rfl, rfl, rfl, trivial⟩ (by kernel_rfl)) rfl rfl ?_
    refine WL_alloc (cs := [.int .i64 0, .int .i64 0, .int .i64 0]) H10 z47 rfl rfl rfl (fun b16 w17 H18 => ?_)
    have H19 : Holds (([] : List Res).flatMap Res.own) w w17 [.bx b16 47 [.int .i64 0, .int .i64 0, .int .i64 0], .bx b1 25 [.int .i64 p0_0, .int .i64 p0_1, .int .i64 p0_2, .int .i64 p0_3]] G := H18
    refine WL_store_bxA (cs' := [.int .i64 p0_1, .int .i64 p0_2, .int .i64 p0_3]) H19 rfl il47 rfl rfl rfl rfl rfl (fun w20 H21 => ?_)
    have H22 : Holds (([] : List Res).flatMap Res.own) w w20 [.bx b16 47 [.int .i64 p0_1, .int .i64 p0_2, .int .i64 p0_3], .bx b1 25 [.int .i64 p0_0, .int .i64 p0_1, .int .i64 p0_2, .int .i64 p0_3]] G := H21
    have H23 : Holds (([] : List Res).flatMap Res.own) w w20 [.sl 47 (.int .i64) (.slice (some ⟨b16, 0, none⟩) 3 3) ([p0_1, p0_2, p0_3] : List Int), .bx b1 25 [.int .i64 p0_0, .int .i64 p0_1, .int .i64 p0_2, .int .i64 p0_3]] G := Holds.bx_sl (t := (.int .i64)) (xs := [p0_1, p0_2, p0_3]) H22 (fun _ => ⟨[_], _, [], [], rfl, rfl, ⟨rfl, rfl⟩, ⟨[_], _, [], [], rfl, rfl, ⟨rfl, rfl⟩, ⟨[_], _, [], [], rfl, rfl, ⟨rfl, rfl⟩, ⟨rfl, rfl⟩⟩⟩⟩) rfl rfl
    refine WL_nil_seq ?_
    refine WP_seq ?_
    refine WP_region ?_
    refine XL_q rfl (qt_fieldAddr uf25 fi25_0 nz3 rfl) rfl rfl ?_
    have hB24 : Bx w20 b1 25 [.int .i64 p0_0, .int .i64 p0_1, .int .i64 p0_2, .int .i64 p0_3] := Holds.bx (H23.pull 1)
    refine XL_load_bx u3 rfl hB24 rfl rfl rfl rfl ?_
    obtain ⟨x25, hx26, h⟩ := bind_some h
    refine XL_indexA H23.ctx (hGl.1.c.c.has) rfl hx26 u48 i9 rfl rfl rfl rfl (fun b27 off28 cap29 hv30 => ?_)
    obtain ⟨F31, hat32, hdup33⟩ := H23.at (hGl.1.c.c.has) hx26 hv30
    refine XL_load_str u9 rfl hat32 rfl rfl rfl ?_
    refine XL_q rfl (qt_assign rfl) rfl rfl ?_
    refine WL_nil_seq ?_
    refine WP_seq ?_
    refine WP_seq ?_
    refine WP_region ?_
    refine XL_q rfl (qt_fieldAddr uf25 fi25_0 nz3 rfl) rfl rfl ?_
    have hB34 : Bx w20 b1 25 [.int .i64 p0_0, .int .i64 p0_1, .int .i64 p0_2, .int .i64 p0_3] := Holds.bx (H23.pull 1)
    refine XL_load_bx u3 rfl hB34 rfl rfl rfl rfl ?_
    obtain ⟨x35, hx36, h⟩ := bind_some h
    refine XL_indexA H23.ctx (hGl.2.c.c.has) rfl hx36 u49 i3 rfl rfl rfl rfl (fun b37 off38 cap39 hv40 => ?_)
    obtain ⟨F41, hat42, hdup43⟩ := H23.at (hGl.2.c.c.has) hx36 hv40
    refine XL_load_int (k := .i64) u3 rfl hat42 rfl rfl rfl ?_
    obtain ⟨x44, hx45, h⟩ := bind_some h
    refine XL_sliceA H23.ctx (Has.hd) rfl hx45 u47 i3 rfl ⟨_, rfl⟩ rfl rfl rfl ?_
    refine XL_lenH H23.ctx (t := (.int .i64)) (Has.sub (Has.hd) hx45) u43 rfl rfl rfl ?_
    refine XL_q rfl (qt_move rfl) rfl rfl ?_
    refine WL_nil_seq ?_
    refine WP_block ?_
    obtain ⟨o48, ho49, h⟩ := bind_some h
    have H52 : Holds (([] : List Res).flatMap Res.own) w w20 [.sl 47 (.int .i64) (.slice (some ⟨b16, 0, none⟩) 3 3) ([p0_1, p0_2, p0_3] : List Int)] G := (H23.cut 1)
    refine fun a50 ha51 => wp_loop_fix (I := fun s a w2 => match s with | (s46, s47) => (Fr a 44 [(4, strV s46), (25, (subV (Ty.size (.int .i64)) (.slice (some ⟨b16, 0, none⟩) 3 3) (Int.toNat 0) (Int.toNat x35))), (26, .int .i64 (List.length x44 : Int)), (27, .int .i64 s47)] ∧ Holds (([] : List Res).flatMap Res.own) w w2 [.sl 47 (.int .i64) (.slice (some ⟨b16, 0, none⟩) 3 3) ([p0_1, p0_2, p0_3] : List Int)] G)) (O := fun o e a w2 => match o with | .inl q0 => e = .exit 0 ∧ (Fr a 44 [(4, strV q0)] ∧ Holds (([] : List Res).flatMap Res.own) w w2 [] G) | .inr q0 => e = .ret ∧ (Fr a 44 [(2, strV q0)] ∧ Holds (([] : List Res).flatMap Res.own) w w2 [] G)) ho49 ?_ ?_ ?_
    · exact ⟨ha51.sub ⟨rfl, rfl, rfl, rfl, trivial⟩, H52⟩
    · clear ha51
      intro s o55 a w53 hs54 hI56
      obtain ⟨s46, s47⟩ := s
      obtain ⟨ha, H57⟩ := hI56
      refine WP.app ?_ ha
      clear ha
      refine WP_seq ?_
      refine WP_region ?_
      refine XL_q rfl (qt_lss rfl rfl) rfl rfl ?_
      refine WL_nil_seq ?_
      refine WP_seq ?_
      refine WP_cond rfl (fun hc58 => ?_) (fun hc58 => ?_)
      · have hs54 := if_t hc58 hs54
        refine WP_skip_seq ?_
        refine WP_seq ?_
        refine WP_block ?_
        refine WP_seq ?_
        refine WP_region ?_
        obtain ⟨x59, hx60, hs54⟩ := bind_some hs54
        refine XL_indexH H57.ctx (Has.sub (Has.hd) hx45) hx60 u43 i3 rfl rfl rfl rfl (fun b61 off62 cap63 hv64 => ?_)
        obtain ⟨F65, hat66, hdup67⟩ := H57.at (Has.sub (Has.hd) hx45) hx60 hv64
        refine XL_load_int (k := .i64) u3 rfl hat66 rfl rfl rfl ?_
        refine XL_q rfl (qt_assign rfl) rfl rfl ?_
        refine WL_nil_seq ?_
        refine WP_seq ?_
        refine WP_seq ?_
        refine WP_region ?_
        refine XL_q rfl (qt_move rfl) rfl rfl ?_
        refine XL_q rfl (qt_lss rfl rfl) rfl rfl ?_
        refine XL_q rfl (qt_move rfl) rfl rfl ?_
        refine XL_join 3 36 (.bool ((decide (x59 < 0)) || (decide (x59 > 999)))) ?_ (fun md hmd hk => ?_)
        rotate_left
        · obtain ⟨Q, rfl⟩ := Md.seq_of hmd
          rcases btf (decide (x59 < 0)) with hc68 | hc68
          · skip
            refine XL_skip (w_skip rfl hc68) rfl rfl ?_
            refine XL_skip (w_skip rfl hc68) rfl rfl ?_
            refine XL_q rfl (qt_pickT rfl hc68 rfl) rfl rfl ?_
            exact hk _ (Cov.same (by rw [hc68]; rfl) (Cov.fresh rfl (Cov.fresh rfl (Cov.refl))))
          · skip
            refine XL_q (w_take rfl hc68) (qt_move rfl) rfl rfl ?_
            refine XL_q (w_take rfl hc68) (qt_gtr rfl rfl) rfl rfl ?_
            refine XL_q rfl (qt_pickF rfl hc68 rfl) rfl rfl ?_
            exact hk _ (Cov.same (by rw [hc68]; rfl) (Cov.fresh rfl (Cov.fresh rfl (Cov.refl))))
        refine WL_nil_seq ?_
        refine WP_cond rfl (fun hc69 => ?_) (fun hc69 => ?_)
        · have hs54 := if_t hc69 hs54
          refine WP_seq ?_
          refine WP_region ?_
          refine XL_q rfl (qt_assign rfl) rfl rfl ?_
          refine WL_nil_seq ?_
          refine WP_ret fun a ha => ?_
          obtain rfl := Option.some.inj hs54
          have H70 : Holds (([] : List Res).flatMap Res.own) w w53 [] G := (H57.cut 0)
          exact ret_seq (ret_block (ret_seq (⟨ret_ne, rfl, ha.sub ⟨rfl, trivial⟩, H70⟩)))
        · have hs54 := if_f hc69 hs54
          refine WP_skip_seq ?_
          refine WP_still ?_
          refine XL_q rfl (qt_move rfl) rfl rfl ?_
          refine XL_q rfl (qt_move rfl) rfl rfl ?_
          obtain ⟨x71, hx72, hs54⟩ := bind_some hs54
          refine QL_call rfl rfl c27 (fun w' hb => (w_strconv_Itoa w' ([.sl 47 (.int .i64) (.slice (some ⟨b16, 0, none⟩) 3 3) ([p0_1, p0_2, p0_3] : List Int)] ++ G) hGp.c x59 x71 hx72 (H57.grow hb).ctx).mono fun e w'' hK => ⟨hK.1, hK.2.bel⟩) (by rfl) ?_
          obtain ⟨x73, hx74, hs54⟩ := bind_some hs54
          refine XL_q rfl (qt_sadd rfl rfl hx74) rfl rfl ?_
          obtain ⟨x75, hx76, hs54⟩ := bind_some hs54
          refine XL_q rfl (qt_sadd rfl rfl hx76) rfl rfl ?_
          refine XL_q rfl (qt_assign rfl) rfl rfl ?_
          refine QL_nil fun a ha w77 hb78 => ?_
          have H79 : Holds (([] : List Res).flatMap Res.own) w w77 [.sl 47 (.int .i64) (.slice (some ⟨b16, 0, none⟩) 3 3) ([p0_1, p0_2, p0_3] : List Int)] G := H57.grow hb78
          refine nrm_block (nrm_seq (WP.app ?_ ha))
          refine WP_region ?_
          refine XL_q rfl (qt_add rfl rfl) rfl rfl ?_
          refine XL_q rfl (qt_move rfl) rfl rfl ?_
          refine WL_nil fun a ha => ?_
          obtain rfl := Option.some.inj hs54
          exact ⟨rfl, ha.sub ⟨rfl, rfl, rfl, rfl, trivial⟩, H79⟩
      · have hs54 := if_f hc58 hs54
        refine WP_exit fun a ha => ?_
        obtain rfl := Option.some.inj hs54
        have H80 : Holds (([] : List Res).flatMap Res.own) w w53 [] G := (H57.cut 0)
        exact exit_seq (⟨exit_ne, rfl, ha.sub ⟨rfl, trivial⟩, H80⟩)
    · intro e a50 w81 hO82
      rcases o48 with o48 | o48
      · skip
        obtain ⟨p83, rfl⟩ : ∃ z, z = o48 := ⟨o48, rfl⟩
        obtain ⟨rfl, hO85⟩ := hO82
        obtain ⟨ha, H84⟩ := hO85
        refine exit_block_eq (nrm_seq (WP.app ?_ ha))
        refine WP_seq ?_
        refine WP_region ?_
        refine XL_q rfl (qt_move rfl) rfl rfl ?_
        refine XL_q rfl (qt_assign rfl) rfl rfl ?_
        refine WL_nil_seq ?_
        refine WP_ret fun a ha => ?_
        obtain rfl := Option.some.inj h
        exact ret1 rfl ha rfl ⟨rfl, H84⟩
      · skip
        obtain ⟨p86, rfl⟩ : ∃ z, z = o48 := ⟨o48, rfl⟩
        obtain ⟨rfl, hO88⟩ := hO82
        obtain ⟨ha, H87⟩ := hO88
        obtain rfl := Option.some.inj h
        exact ret_block (ret_seq (ret1 rfl ha rfl ⟨rfl, H87⟩))
theorem w_laws_FnExactDeedText (w : World) (G : List Res) (hGl : Glob G) (hGp : GlobP G) (p0_0 : Int) (p0_1 : Int) (p0_2 : Int) (p0_3 : Int) (r : Bool) (h : laws_FnExactDeedTextS p0_0 p0_1 p0_2 p0_3 = some r) (H : Ctx w G) : Calls Tryd.prog 3 #[.agg #[.int .i64 p0_0, .int .i64 p0_1, .int .i64 p0_2, .int .i64 p0_3]] w fun e w' => e = .returned (.bool r) ∧ Holds (([] : List Res).flatMap Res.own) w w' [] G := by
  have H : Holds (([] : List Res).flatMap Res.own) w w [] G := Holds.startN H
  refine calls_enter (args := [.agg #[.int .i64 p0_0, .int .i64 p0_1, .int .i64 p0_2, .int .i64 p0_3]]) (n := 14) Tryd.func3 rfl rfl rfl ?_
  unfold laws_FnExactDeedTextS at h
  refine WP_seq ?_
  refine WP_region ?_
  refine WL_box (cs := [.int .i64 p0_0, .int .i64 p0_1, .int .i64 p0_2, .int .i64 p0_3]) H rfl rfl rfl rfl (fun b1 w2 H3 => ?_)
  have H4 : Holds (([] : List Res).flatMap Res.own) w w2 [.bx b1 23 [.int .i64 p0_0, .int .i64 p0_1, .int .i64 p0_2, .int .i64 p0_3]] G := H3
  refine XL_q rfl (qt_assign rfl) rfl rfl ?_
  refine WL_nil_seq ?_
  refine WP_seq ?_
  refine WP_region ?_
  have hB5 : Bx w2 b1 23 [.int .i64 p0_0, .int .i64 p0_1, .int .i64 p0_2, .int .i64 p0_3] := Holds.bx (H4.pull 0)
  refine XL_load_bxA (cs := [.int .i64 p0_0, .int .i64 p0_1, .int .i64 p0_2, .int .i64 p0_3]) us23 uo23 il23 hB5 rfl rfl rfl ?_
  change XL _ _ _ _ _ ((5, .agg #[.int .i64 p0_0, .int .i64 p0_1, .int .i64 p0_2, .int .i64 p0_3]) :: _) _
  obtain ⟨x6, hx7, h⟩ := bind_some h
  refine WL_call rfl rfl c8 (w_laws_toHouseDeed w2 ([.bx b1 23 [.int .i64 p0_0, .int .i64 p0_1, .int .i64 p0_2, .int .i64 p0_3]] ++ G) p0_0 p0_1 p0_2 p0_3 x6 hx7 H4.ctx) (by rfl) ?_
  rintro _ w8 ⟨rfl, H9⟩; refine ⟨_, rfl, ?_⟩
  have H10 : Holds (([] : List Res).flatMap Res.own) w w8 [.bx b1 23 [.int .i64 p0_0, .int .i64 p0_1, .int .i64 p0_2, .int .i64 p0_3]] G := H4.calledN (Rs := []) H9
  obtain ⟨x11, hx12, h⟩ := bind_some h
  refine WL_call rfl rfl c7 (w_spec_DeedText w8 ([.bx b1 23 [.int .i64 p0_0, .int .i64 p0_1, .int .i64 p0_2, .int .i64 p0_3]] ++ G) x6.1 x6.2.1 x6.2.2.1 x6.2.2.2 x11 hx12 H10.ctx) (by rfl) ?_
  rintro _ w13 ⟨rfl, H14⟩; refine ⟨_, rfl, ?_⟩
  have H15 : Holds (([] : List Res).flatMap Res.own) w w13 [.bx b1 23 [.int .i64 p0_0, .int .i64 p0_1, .int .i64 p0_2, .int .i64 p0_3]] G := H10.calledN (Rs := []) H14
  refine XL_q rfl (qt_assign rfl) rfl rfl ?_
  refine WL_nil_seq ?_
  refine WP_seq ?_
  refine WP_region ?_
  have hB16 : Bx w13 b1 23 [.int .i64 p0_0, .int .i64 p0_1, .int .i64 p0_2, .int .i64 p0_3] := Holds.bx (H15.pull 0)
  refine XL_load_bxA (cs := [.int .i64 p0_0, .int .i64 p0_1, .int .i64 p0_2, .int .i64 p0_3]) us23 uo23 il23 hB16 rfl rfl rfl ?_
  change XL _ _ _ _ _ ((8, .agg #[.int .i64 p0_0, .int .i64 p0_1, .int .i64 p0_2, .int .i64 p0_3]) :: _) _
  obtain ⟨x17, hx18, h⟩ := bind_some h
  refine WL_call rfl rfl c8 (w_laws_toHouseDeed w13 ([.bx b1 23 [.int .i64 p0_0, .int .i64 p0_1, .int .i64 p0_2, .int .i64 p0_3]] ++ G) p0_0 p0_1 p0_2 p0_3 x17 hx18 H15.ctx) (by rfl) ?_
  rintro _ w19 ⟨rfl, H20⟩; refine ⟨_, rfl, ?_⟩
  have H21 : Holds (([] : List Res).flatMap Res.own) w w19 [.bx b1 23 [.int .i64 p0_0, .int .i64 p0_1, .int .i64 p0_2, .int .i64 p0_3]] G := H15.calledN (Rs := []) H20
  obtain ⟨x22, hx23, h⟩ := bind_some h
  refine WL_call rfl rfl c9 (w_impl_DeedText w19 ([.bx b1 23 [.int .i64 p0_0, .int .i64 p0_1, .int .i64 p0_2, .int .i64 p0_3]] ++ G) hGl.c hGp.c x17.1 x17.2.1 x17.2.2.1 x17.2.2.2 x22 hx23 H21.ctx) (by rfl) ?_
  rintro _ w24 ⟨rfl, H25⟩; refine ⟨_, rfl, ?_⟩
  have H26 : Holds (([] : List Res).flatMap Res.own) w w24 [.bx b1 23 [.int .i64 p0_0, .int .i64 p0_1, .int .i64 p0_2, .int .i64 p0_3]] G := H21.calledN (Rs := []) H25
  refine XL_q rfl (qt_assign rfl) rfl rfl ?_
  refine WL_nil_seq ?_
  refine WP_seq ?_
  refine WP_seq ?_
  refine WP_region ?_
  refine XL_q rfl (qt_move rfl) rfl rfl ?_
  refine XL_q rfl (qt_move rfl) rfl rfl ?_
  refine XL_q rfl (qt_sneq rfl rfl) rfl rfl ?_
  refine WL_nil_seq ?_
  refine WP_cond rfl (fun hc27 => ?_) (fun hc27 => ?_)
  · have h := if_t hc27 h
    refine WP_seq ?_
    refine WP_region ?_
    refine XL_q rfl (qt_assign rfl) rfl rfl ?_
    refine WL_nil_seq ?_
    refine WP_ret fun a ha => ?_
    obtain rfl := Option.some.inj h
    have H28 : Holds (([] : List Res).flatMap Res.own) w w24 [] G := (H26.cut 0)
    exact ret_seq (ret1 rfl ha rfl ⟨rfl, H28⟩)
  · have h := if_f hc27 h
    refine WP_skip_seq ?_
    refine WP_seq ?_
    refine WP_region ?_
    refine XL_q rfl (qt_assign rfl) rfl rfl ?_
    refine WL_nil_seq ?_
    refine WP_ret fun a ha => ?_
    obtain rfl := Option.some.inj h
    have H29 : Holds (([] : List Res).flatMap Res.own) w w24 [] G := (H26.cut 0)
    exact ret1 rfl ha rfl ⟨rfl, H29⟩
theorem w_spec_l1Cut (w : World) (G : List Res) (p0 : List UInt8) (p1 : Int) (r : (List (List UInt8))) (h : spec_l1CutS p0 p1 = some r) (H : Ctx w G) : Calls Tryd.prog 28 #[strV p0, .int .u8 p1] w fun e w' => ∃ (v1 : Value), e = .returned (v1) ∧ Holds (([] : List Res).flatMap Res.own) w w' [.sl 9 .str v1 r] G := by
  have H : Holds (([] : List Res).flatMap Res.own) w w [] G := Holds.startN H
  refine calls_enter (args := [strV p0, .int .u8 p1]) (n := 35) Tryd.func28 rfl rfl rfl ?_
  unfold spec_l1CutS at h
  refine WP_seq ?_
  refine WP_region ?_
  refine XL_q rfl (qt_assign rfl) rfl rfl ?_
  refine WL_nil_seq ?_
  refine WP_seq ?_
  refine WP_region ?_
  refine WL_buildH (t := .str) (args := []) (xs := ([] : List (List UInt8))) H (BltL.nil) u50 j9 rfl rfl rfl rfl rfl rfl (fun v1 w2 H3 => ?_)
  have H4 : Holds (([] : List Res).flatMap Res.own) w w2 [.sl 9 .str v1 ([])] G := H3
  refine XL_q rfl (qt_assign rfl) rfl rfl ?_
  refine WL_nil_seq ?_
  refine WP_seq ?_
  refine WP_region ?_
  refine XL_q rfl (qt_assign rfl) rfl rfl ?_
  refine WL_nil_seq ?_
  refine WP_seq ?_
  refine WP_seq ?_
  refine WP_region ?_
  refine XL_q rfl (qt_assign rfl) rfl rfl ?_
  refine WL_nil_seq ?_
  refine WP_block ?_
  obtain ⟨o8, ho9, h⟩ := bind_some h
  refine fun a10 ha11 => wp_loop_fix (I := fun s a w2 => match s with | (s5, s6, s7) => ∃ vs5, Fr a 35 [(0, strV p0), (1, .int .u8 p1), (5, vs5), (6, .int .i64 s6), (7, .int .i64 s7)] ∧ Holds (([] : List Res).flatMap Res.own) w w2 [.sl 9 .str vs5 s5] G) (O := fun o e a w2 => match o with | (q0, q1) => e = .exit 0 ∧ ∃ vq0, Fr a 35 [(0, strV p0), (5, vq0), (6, .int .i64 q1)] ∧ Holds (([] : List Res).flatMap Res.own) w w2 [.sl 9 .str vq0 q0] G) ho9 ?_ ?_ ?_
  · exact ⟨v1, ha11.sub ⟨rfl, rfl, rfl, rfl, rfl, trivial⟩, H4⟩
  · clear ha11
    intro s o14 a w12 hs13 hI15
    obtain ⟨s5, s6, s7⟩ := s
    obtain ⟨vs5, ha, H16⟩ := hI15
    refine WP.app ?_ ha
    clear ha
    refine WP_seq ?_
    refine WP_seq ?_
    refine WP_region ?_
    refine XL_q rfl (qt_move rfl) rfl rfl ?_
    refine XL_q rfl (qt_move rfl) rfl rfl ?_
    refine XL_q rfl (qt_slen u9 rfl) rfl rfl ?_
    refine XL_q rfl (qt_lss rfl rfl) rfl rfl ?_
    refine WL_nil_seq ?_
    refine WP_cond rfl (fun hc17 => ?_) (fun hc17 => ?_)
    · have hs13 := if_t hc17 hs13
      refine WP_skip_seq ?_
      refine WP_seq ?_
      refine WP_block ?_
      refine WP_seq ?_
      refine WP_region ?_
      refine XL_q rfl (qt_move rfl) rfl rfl ?_
      refine XL_q rfl (qt_move rfl) rfl rfl ?_
      obtain ⟨x18, hx19, hs13⟩ := bind_some hs13
      refine XL_q rfl (qt_sidx u9 rfl rfl hx19) rfl rfl ?_
      refine XL_q rfl (qt_move rfl) rfl rfl ?_
      refine XL_q rfl (qt_eql rfl rfl) rfl rfl ?_
      refine WL_nil_seq ?_
      refine WP_cond rfl (fun hc20 => ?_) (fun hc20 => ?_)
      · have hs13 := if_t hc20 hs13
        refine WP_seq ?_
        refine WP_region ?_
        refine XL_q rfl (qt_move rfl) rfl rfl ?_
        refine XL_q rfl (qt_move rfl) rfl rfl ?_
        refine XL_q rfl (qt_move rfl) rfl rfl ?_
        refine XL_q rfl (qt_move rfl) rfl rfl ?_
        obtain ⟨x21, hx22, hs13⟩ := bind_some hs13
        refine XL_q rfl (qt_ssub u9 ⟨_, rfl⟩ ⟨_, rfl⟩ rfl hx22) rfl rfl ?_
        refine WL_buildH (t := .str) (args := [.tmp 24]) (xs := ([x21] : List (List UInt8))) H16 (BltL.cons (Blt.str) rfl (BltL.nil)) u50 j9 rfl rfl rfl rfl rfl rfl (fun v23 w24 H25 => ?_)
        have H26 : Holds (([] : List Res).flatMap Res.own) w w24 [.sl 9 .str v23 ([x21]), .sl 9 .str vs5 s5] G := H25
        have H27 : Holds (([] : List Res).flatMap Res.own) w w24 [.sl 9 .str vs5 s5, .sl 9 .str v23 ([x21])] G := H26.pull 1
        obtain ⟨x28, hx29, hs13⟩ := bind_some hs13
        refine WL_appendH H27 (Has.c (Has.hd)) hx29 u50 j9 rfl rfl rfl rfl rfl rfl (fun v30 w31 H32 => ?_)
        have H33 : Holds (([] : List Res).flatMap Res.own) w w31 [.sl 9 .str v30 x28, .sl 9 .str v23 ([x21])] G := H32
        refine XL_q rfl (qt_assign rfl) rfl rfl ?_
        refine WL_nil_seq ?_
        refine WP_region ?_
        refine XL_q rfl (qt_move rfl) rfl rfl ?_
        refine XL_q rfl (qt_add rfl rfl) rfl rfl ?_
        refine XL_q rfl (qt_assign rfl) rfl rfl ?_
        refine WL_nil fun a ha => ?_
        refine nrm_block (nrm_seq (WP.app ?_ ha))
        refine WP_region ?_
        refine XL_q rfl (qt_move rfl) rfl rfl ?_
        refine XL_q rfl (qt_add rfl rfl) rfl rfl ?_
        refine XL_q rfl (qt_assign rfl) rfl rfl ?_
        refine WL_nil fun a ha => ?_
        obtain rfl := Option.some.inj hs13
        have H34 : Holds (([] : List Res).flatMap Res.own) w w31 [.sl 9 .str v30 x28] G := (H33.cut 1)
        exact ⟨rfl, v30, ha.sub ⟨rfl, rfl, rfl, rfl, rfl, trivial⟩, H34⟩
      · have hs13 := if_f hc20 hs13
        refine WP_skip fun a ha => ?_
        refine nrm_block (nrm_seq (WP.app ?_ ha))
        refine WP_region ?_
        refine XL_q rfl (qt_move rfl) rfl rfl ?_
        refine XL_q rfl (qt_add rfl rfl) rfl rfl ?_
        refine XL_q rfl (qt_assign rfl) rfl rfl ?_
        refine WL_nil fun a ha => ?_
        obtain rfl := Option.some.inj hs13
        exact ⟨rfl, vs5, ha.sub ⟨rfl, rfl, rfl, rfl, rfl, trivial⟩, H16⟩
    · have hs13 := if_f hc17 hs13
      refine WP_exit fun a ha => ?_
      obtain rfl := Option.some.inj hs13
      exact exit_seq (⟨exit_ne, rfl, vs5, ha.sub ⟨rfl, rfl, rfl, trivial⟩, H16⟩)
  · intro e a10 w35 hO36
    obtain ⟨p37, p38⟩ := o8
    obtain ⟨rfl, hO40⟩ := hO36
    obtain ⟨vp37, ha, H39⟩ := hO40
    refine exit_block_eq (nrm_seq (WP.app ?_ ha))
    refine WP_seq ?_
    refine WP_region ?_
    refine XL_q rfl (qt_move rfl) rfl rfl ?_
    refine XL_q rfl (qt_move rfl) rfl rfl ?_
    refine XL_q rfl (qt_move rfl) rfl rfl ?_
    obtain ⟨x41, hx42, h⟩ := bind_some h
    refine XL_q rfl (qt_ssub u9 ⟨_, rfl⟩ rfl rfl hx42) rfl rfl ?_
    refine WL_buildH (t := .str) (args := [.tmp 32]) (xs := ([x41] : List (List UInt8))) H39 (BltL.cons (Blt.str) rfl (BltL.nil)) u50 j9 rfl rfl rfl rfl rfl rfl (fun v43 w44 H45 => ?_)
    have H46 : Holds (([] : List Res).flatMap Res.own) w w44 [.sl 9 .str v43 ([x41]), .sl 9 .str vp37 p37] G := H45
    have H47 : Holds (([] : List Res).flatMap Res.own) w w44 [.sl 9 .str vp37 p37, .sl 9 .str v43 ([x41])] G := H46.pull 1
    obtain ⟨x48, hx49, h⟩ := bind_some h
    refine WL_appendH H47 (Has.c (Has.hd)) hx49 u50 j9 rfl rfl rfl rfl rfl rfl (fun v50 w51 H52 => ?_)
    have H53 : Holds (([] : List Res).flatMap Res.own) w w51 [.sl 9 .str v50 x48, .sl 9 .str v43 ([x41])] G := H52
    refine XL_q rfl (qt_assign rfl) rfl rfl ?_
    refine WL_nil_seq ?_
    refine WP_ret fun a ha => ?_
    obtain rfl := Option.some.inj h
    have H54 : Holds (([] : List Res).flatMap Res.own) w w51 [.sl 9 .str v50 x48] G := (H53.cut 1)
    exact ret1 rfl ha rfl ⟨v50, rfl, H54⟩
theorem w_spec_l1Read (w : World) (G : List Res) (p0 : List UInt8) (r : Int) (h : spec_l1ReadS p0 = some r) (H : Ctx w G) : Calls Tryd.prog 29 #[strV p0] w fun e w' => e = .returned (.int .i64 r) ∧ Holds (([] : List Res).flatMap Res.own) w w' [] G := by
  have H : Holds (([] : List Res).flatMap Res.own) w w [] G := Holds.startN H
  refine calls_enter (args := [strV p0]) (n := 44) Tryd.func29 rfl rfl rfl ?_
  unfold spec_l1ReadS at h
  refine WP_seq ?_
  refine WP_region ?_
  refine XL_q rfl (qt_assign rfl) rfl rfl ?_
  refine WL_nil_seq ?_
  refine WP_seq ?_
  refine WP_seq ?_
  refine WP_still ?_
  refine XL_q rfl (qt_move rfl) rfl rfl ?_
  refine XL_q rfl (qt_slen u9 rfl) rfl rfl ?_
  obtain ⟨x1, hx2, h⟩ := bind_some h
  refine QL_call rfl rfl c23 (fun w' hb => (w_spec_l1In w' G (List.length p0 : Int) 1 5 x1 hx2 (H.grow hb).ctx).mono fun e w'' hK => ⟨hK.1, hK.2.bel⟩) (by rfl) ?_
  refine XL_q rfl (qt_not rfl) rfl rfl ?_
  refine XL_q rfl (qt_move rfl) rfl rfl ?_
  obtain ⟨b3, hg4, h⟩ := bind_some h
  refine XL_join 9 18 (.bool b3) ?_ (fun md hmd hk => ?_)
  rotate_left
  · obtain ⟨K, rfl⟩ := Md.quiet_of hmd
    rcases btf (!x1) with hc5 | hc5
    · skip
      refine XL_skip (w_skip rfl hc5) rfl rfl ?_
      refine XL_skip (w_skip rfl hc5) rfl rfl ?_
      refine XL_skip (w_skip rfl hc5) rfl rfl ?_
      refine XL_skip (w_skip rfl hc5) rfl rfl ?_
      refine XL_skip rfl rfl rfl ?_
      refine XL_skip rfl rfl rfl ?_
      refine XL_skip rfl rfl rfl ?_
      refine XL_skip (w_skip rfl hc5) rfl rfl ?_
      refine XL_q rfl (qt_pickT rfl hc5 rfl) rfl rfl ?_
      exact hk _ (Cov.same (vb (if_t hc5 hg4)) (Cov.fresh rfl (Cov.fresh rfl (Cov.fresh rfl (Cov.fresh rfl (Cov.fresh rfl (Cov.fresh rfl (Cov.fresh rfl (Cov.fresh rfl (Cov.refl))))))))))
    · skip
      have hg4 := if_f hc5 hg4
      refine XL_q (w_take rfl hc5) (qt_move rfl) rfl rfl ?_
      refine XL_q (w_take rfl hc5) (qt_slen u9 rfl) rfl rfl ?_
      refine XL_q (w_take rfl hc5) (qt_gtr rfl rfl) rfl rfl ?_
      refine XL_q (w_take rfl hc5) (qt_move rfl) rfl rfl ?_
      obtain ⟨b6, hg7, hg4⟩ := bind_some hg4
      refine XL_join 4 17 (.bool b6) ?_ (fun md hmd hk => ?_)
      rotate_left
      · obtain ⟨K, rfl⟩ := Md.quiet_of hmd
        rcases btf (decide ((List.length p0 : Int) > 1)) with hc8 | hc8
        · skip
          have hg7 := if_t hc8 hg7
          refine XL_q (w_take rfl hc8) (qt_move rfl) rfl rfl ?_
          obtain ⟨x9, hx10, hg7⟩ := bind_some hg7
          refine XL_q (w_take rfl hc8) (qt_sidx u9 rfl rfl hx10) rfl rfl ?_
          refine XL_q (w_take rfl hc8) (qt_eql rfl rfl) rfl rfl ?_
          refine XL_q (w_take rfl hc5) (qt_pickT rfl hc8 rfl) rfl rfl ?_
          exact hk _ (Cov.same (vb hg7) (Cov.fresh rfl (Cov.fresh rfl (Cov.fresh rfl (Cov.refl)))))
        · skip
          refine XL_skip (w_skip rfl hc8) rfl rfl ?_
          refine XL_skip (w_skip rfl hc8) rfl rfl ?_
          refine XL_skip (w_skip rfl hc8) rfl rfl ?_
          refine XL_q (w_take rfl hc5) (qt_pickF rfl hc8 rfl) rfl rfl ?_
          exact hk _ (Cov.same (vb (if_f hc8 hg7)) (Cov.fresh rfl (Cov.fresh rfl (Cov.fresh rfl (Cov.refl)))))
      refine XL_q rfl (qt_pickF rfl hc5 rfl) rfl rfl ?_
      exact hk _ (Cov.same (vb hg4) (Cov.fresh rfl (Cov.fresh rfl (Cov.fresh rfl (Cov.fresh rfl (Cov.fresh rfl (Cov.refl)))))))
  refine QL_nil fun a ha w11 hb12 => ?_
  have H13 : Holds (([] : List Res).flatMap Res.own) w w11 [] G := H.grow hb12
  refine nrm_seq (WP.app ?_ ha)
  refine WP_cond rfl (fun hc14 => ?_) (fun hc14 => ?_)
  · have h := if_t hc14 h
    refine WP_seq ?_
    refine WP_region ?_
    refine XL_q rfl (qt_assign rfl) rfl rfl ?_
    refine WL_nil_seq ?_
    refine WP_ret fun a ha => ?_
    obtain rfl := Option.some.inj h
    exact ret_seq (ret1 rfl ha rfl ⟨rfl, H13⟩)
  · have h := if_f hc14 h
    refine WP_skip_seq ?_
    refine WP_seq ?_
    refine WP_region ?_
    refine XL_q rfl (qt_assign rfl) rfl rfl ?_
    refine WL_nil_seq ?_
    refine WP_seq ?_
    refine WP_seq ?_
    refine WP_region ?_
    refine XL_q rfl (qt_assign rfl) rfl rfl ?_
    refine WL_nil_seq ?_
    refine WP_block ?_
    obtain ⟨o17, ho18, h⟩ := bind_some h
    refine fun a19 ha20 => wp_loop_fix (I := fun s a w2 => match s with | (s15, s16) => (Fr a 44 [(0, strV p0), (3, .int .i64 s15), (4, .int .i64 s16)] ∧ Holds (([] : List Res).flatMap Res.own) w w2 [] G)) (O := fun o e a w2 => match o with | .inl q0 => e = .exit 0 ∧ (Fr a 44 [(3, .int .i64 q0)] ∧ Holds (([] : List Res).flatMap Res.own) w w2 [] G) | .inr q0 => e = .ret ∧ (Fr a 44 [(2, .int .i64 q0)] ∧ Holds (([] : List Res).flatMap Res.own) w w2 [] G)) ho18 ?_ ?_ ?_
    · exact ⟨ha20.sub ⟨rfl, rfl, rfl, trivial⟩, H13⟩
    · clear ha20
      intro s o23 a w21 hs22 hI24
      obtain ⟨s15, s16⟩ := s
      obtain ⟨ha, H25⟩ := hI24
      refine WP.app ?_ ha
      clear ha
      refine WP_seq ?_
      refine WP_seq ?_
      refine WP_region ?_
      refine XL_q rfl (qt_move rfl) rfl rfl ?_
      refine XL_q rfl (qt_move rfl) rfl rfl ?_
      refine XL_q rfl (qt_slen u9 rfl) rfl rfl ?_
      refine XL_q rfl (qt_lss rfl rfl) rfl rfl ?_
      refine WL_nil_seq ?_
      refine WP_cond rfl (fun hc26 => ?_) (fun hc26 => ?_)
      · have hs22 := if_t hc26 hs22
        refine WP_skip_seq ?_
        refine WP_seq ?_
        refine WP_block ?_
        refine WP_seq ?_
        refine WP_seq ?_
        refine WP_region ?_
        refine XL_q rfl (qt_move rfl) rfl rfl ?_
        refine XL_q rfl (qt_move rfl) rfl rfl ?_
        obtain ⟨x27, hx28, hs22⟩ := bind_some hs22
        refine XL_q rfl (qt_sidx u9 rfl rfl hx28) rfl rfl ?_
        refine XL_q rfl (qt_lss rfl rfl) rfl rfl ?_
        refine XL_q rfl (qt_move rfl) rfl rfl ?_
        obtain ⟨b29, hg30, hs22⟩ := bind_some hs22
        refine XL_join 5 34 (.bool b29) ?_ (fun md hmd hk => ?_)
        rotate_left
        · obtain ⟨Q, rfl⟩ := Md.seq_of hmd
          rcases btf (decide (x27 < 48)) with hc31 | hc31
          · skip
            refine XL_skip (w_skip rfl hc31) rfl rfl ?_
            refine XL_skip (w_skip rfl hc31) rfl rfl ?_
            refine XL_skip (w_skip rfl hc31) rfl rfl ?_
            refine XL_skip (w_skip rfl hc31) rfl rfl ?_
            refine XL_q rfl (qt_pickT rfl hc31 rfl) rfl rfl ?_
            exact hk _ (Cov.same (vb (if_t hc31 hg30)) (Cov.fresh rfl (Cov.fresh rfl (Cov.fresh rfl (Cov.fresh rfl (Cov.refl))))))
          · skip
            have hg30 := if_f hc31 hg30
            refine XL_q (w_take rfl hc31) (qt_move rfl) rfl rfl ?_
            refine XL_q (w_take rfl hc31) (qt_move rfl) rfl rfl ?_
            obtain ⟨x32, hx33, hg30⟩ := bind_some hg30
            refine XL_q (w_take rfl hc31) (qt_sidx u9 rfl rfl hx33) rfl rfl ?_
            refine XL_q (w_take rfl hc31) (qt_gtr rfl rfl) rfl rfl ?_
            refine XL_q rfl (qt_pickF rfl hc31 rfl) rfl rfl ?_
            exact hk _ (Cov.same (vb hg30) (Cov.fresh rfl (Cov.fresh rfl (Cov.fresh rfl (Cov.fresh rfl (Cov.refl))))))
        refine WL_nil_seq ?_
        refine WP_cond rfl (fun hc34 => ?_) (fun hc34 => ?_)
        · have hs22 := if_t hc34 hs22
          refine WP_seq ?_
          refine WP_region ?_
          refine XL_q rfl (qt_assign rfl) rfl rfl ?_
          refine WL_nil_seq ?_
          refine WP_ret fun a ha => ?_
          obtain rfl := Option.some.inj hs22
          exact ret_seq (ret_block (ret_seq (⟨ret_ne, rfl, ha.sub ⟨rfl, trivial⟩, H25⟩)))
        · have hs22 := if_f hc34 hs22
          refine WP_skip_seq ?_
          refine WP_region ?_
          refine XL_q rfl (qt_move rfl) rfl rfl ?_
          refine XL_q rfl (qt_mul rfl rfl) rfl rfl ?_
          refine XL_q rfl (qt_move rfl) rfl rfl ?_
          refine XL_q rfl (qt_move rfl) rfl rfl ?_
          obtain ⟨x35, hx36, hs22⟩ := bind_some hs22
          refine XL_q rfl (qt_sidx u9 rfl rfl hx36) rfl rfl ?_
          refine XL_q rfl (qt_sub rfl rfl) rfl rfl ?_
          refine XL_q rfl (qt_int u3 rfl u5) rfl rfl ?_
          refine XL_q rfl (qt_add rfl rfl) rfl rfl ?_
          refine XL_q rfl (qt_assign rfl) rfl rfl ?_
          refine WL_nil fun a ha => ?_
          refine nrm_block (nrm_seq (WP.app ?_ ha))
          refine WP_region ?_
          refine XL_q rfl (qt_move rfl) rfl rfl ?_
          refine XL_q rfl (qt_add rfl rfl) rfl rfl ?_
          refine XL_q rfl (qt_assign rfl) rfl rfl ?_
          refine WL_nil fun a ha => ?_
          obtain rfl := Option.some.inj hs22
          exact ⟨rfl, ha.sub ⟨rfl, rfl, rfl, trivial⟩, H25⟩
      · have hs22 := if_f hc26 hs22
        refine WP_exit fun a ha => ?_
        obtain rfl := Option.some.inj hs22
        exact exit_seq (⟨exit_ne, rfl, ha.sub ⟨rfl, trivial⟩, H25⟩)
    · intro e a19 w37 hO38
      rcases o17 with o17 | o17
      · skip
        obtain ⟨p39, rfl⟩ : ∃ z, z = o17 := ⟨o17, rfl⟩
        obtain ⟨rfl, hO41⟩ := hO38
        obtain ⟨ha, H40⟩ := hO41
        refine exit_block_eq (nrm_seq (WP.app ?_ ha))
        refine WP_seq ?_
        refine WP_region ?_
        refine XL_q rfl (qt_move rfl) rfl rfl ?_
        refine XL_q rfl (qt_assign rfl) rfl rfl ?_
        refine WL_nil_seq ?_
        refine WP_ret fun a ha => ?_
        obtain rfl := Option.some.inj h
        exact ret1 rfl ha rfl ⟨rfl, H40⟩
      · skip
        obtain ⟨p42, rfl⟩ : ∃ z, z = o17 := ⟨o17, rfl⟩
        obtain ⟨rfl, hO44⟩ := hO38
        obtain ⟨ha, H43⟩ := hO44
        obtain rfl := Option.some.inj h
        exact ret_block (ret_seq (ret1 rfl ha rfl ⟨rfl, H43⟩))
theorem w_spec_ReadDeed (w : World) (G : List Res) (p0 : List UInt8) (r : (Int × Int × Int × Int) × Bool) (h : spec_ReadDeedS p0 = some r) (H : Ctx w G) : Calls Tryd.prog 10 #[strV p0] w fun e w' => e = .returned (.tuple #[.agg #[.int .i64 r.1.1, .int .i64 r.1.2.1, .int .i64 r.1.2.2.1, .int .i64 r.1.2.2.2], .bool r.2]) ∧ Holds (([] : List Res).flatMap Res.own) w w' [] G := by
  have H : Holds (([] : List Res).flatMap Res.own) w w [] G := Holds.startN H
  refine calls_enter (args := [strV p0]) (n := 66) Tryd.func10 rfl rfl rfl ?_
  unfold spec_ReadDeedS at h
  refine WP_seq ?_
  refine WP_region ?_
  refine WL_alloc (cs := [.int .i64 0, .int .i64 0, .int .i64 0, .int .i64 0]) H z25 rfl rfl rfl (fun b1 w2 H3 => ?_)
  have H4 : Holds (([] : List Res).flatMap Res.own) w w2 [.bx b1 25 [.int .i64 0, .int .i64 0, .int .i64 0, .int .i64 0]] G := H3
  refine XL_q rfl (qt_assign rfl) rfl rfl ?_
  refine WL_nil_seq ?_
  refine WP_seq ?_
  refine WP_region ?_
  refine XL_q rfl (qt_move rfl) rfl rfl ?_
  obtain ⟨x5, hx6, h⟩ := bind_some h
  refine WL_call rfl rfl c28 (w_spec_l1Cut w2 ([.bx b1 25 [.int .i64 0, .int .i64 0, .int .i64 0, .int .i64 0]] ++ G) p0 32 x5 hx6 H4.ctx) (by rfl) ?_
  rintro _ w7 ⟨v9, rfl, H8⟩; refine ⟨_, rfl, ?_⟩
  have H10 : Holds (([] : List Res).flatMap Res.own) w w7 [.sl 9 .str v9 x5, .bx b1 25 [.int .i64 0, .int .i64 0, .int .i64 0, .int .i64 0]] G := H4.calledN (Rs := []) H8
  refine XL_q rfl (qt_assign rfl) rfl rfl ?_
  refine WL_nil_seq ?_
  refine WP_seq ?_
  refine WP_region ?_
  refine WL_buildH (t := (.int .i64)) (args := [.const (.int .i64 0), .const (.int .i64 0), .const (.int .i64 0)]) (xs := ([0, 0, 0] : List Int)) H10 (BltL.cons (Blt.int) rfl (BltL.cons (Blt.int) rfl (BltL.cons (Blt.int) rfl (BltL.nil)))) u43 j3 rfl rfl rfl rfl rfl rfl (fun v11 w12 H13 => ?_)
  have H14 : Holds (([] : List Res).flatMap Res.own) w w12 [.sl 3 (.int .i64) v11 ([0, 0, 0]), .sl 9 .str v9 x5, .bx b1 25 [.int .i64 0, .int .i64 0, .int .i64 0, .int .i64 0]] G := H13
  refine XL_q rfl (qt_assign rfl) rfl rfl ?_
  refine WL_nil_seq ?_
  refine WP_seq ?_
  refine WP_region ?_
  refine XL_q rfl (qt_build (args := [(0, .const (.int .i64 (-1)))]) (css := [#[.int .i64 (-1)]]) (cells := #[.int .i64 (-1), .int .i64 0, .int .i64 0, .int .i64 0]) rfl ⟨rfl, trivial⟩ (by kernel_rfl)) rfl rfl ?_
  refine WL_alloc (cs := [.int .i64 0, .int .i64 0, .int .i64 0, .int .i64 0]) H14 z25 rfl rfl rfl (fun b15 w16 H17 => ?_)
  have H18 : Holds (([] : List Res).flatMap Res.own) w w16 [.bx b15 25 [.int .i64 0, .int .i64 0, .int .i64 0, .int .i64 0], .sl 3 (.int .i64) v11 ([0, 0, 0]), .sl 9 .str v9 x5, .bx b1 25 [.int .i64 0, .int .i64 0, .int .i64 0, .int .i64 0]] G := H17
  refine WL_store_bxA (cs' := [.int .i64 (-1), .int .i64 0, .int .i64 0, .int .i64 0]) H18 rfl il25 rfl rfl rfl rfl rfl (fun w19 H20 => ?_)
  have H21 : Holds (([] : List Res).flatMap Res.own) w w19 [.bx b15 25 [.int .i64 (-1), .int .i64 0, .int .i64 0, .int .i64 0], .sl 3 (.int .i64) v11 ([0, 0, 0]), .sl 9 .str v9 x5, .bx b1 25 [.int .i64 0, .int .i64 0, .int .i64 0, .int .i64 0]] G := H20
  refine WL_nil_seq ?_
  refine WP_seq ?_
  refine WP_seq ?_
  refine WP_region ?_
  refine XL_q rfl (qt_assign rfl) rfl rfl ?_
  refine WL_nil_seq ?_
  refine WP_block ?_
  obtain ⟨o24, ho25, h⟩ := bind_some h
  have H28 : Holds (([] : List Res).flatMap Res.own) w w19 [.bx b1 25 [.int .i64 0, .int .i64 0, .int .i64 0, .int .i64 0], .sl 9 .str v9 x5, .sl 3 (.int .i64) v11 ([0, 0, 0]), .bx b15 25 [.int .i64 (-1), .int .i64 0, .int .i64 0, .int .i64 0]] G := (((H21.pull 1).pull 2).pull 3)
  refine fun a26 ha27 => wp_loop_fix (I := fun s a w2 => match s with | (s22, s23) => (Fr a 66 [(0, strV p0), (2, .pointer (some ⟨b1, 0, none⟩)), (4, v9), (5, v11), (6, .pointer (some ⟨b15, 0, none⟩)), (7, .int .i64 s22)] ∧ Holds (([] : List Res).flatMap Res.own) w w2 [.bx b1 25 [.int .i64 0, .int .i64 0, .int .i64 0, .int .i64 0], .sl 9 .str v9 x5, .sl 3 (.int .i64) v11 ([0, 0, 0]), .bx b15 25 [.int .i64 s23, .int .i64 0, .int .i64 0, .int .i64 0]] G)) (O := fun o e a w2 => match o with | q0 => e = .exit 0 ∧ (Fr a 66 [(0, strV p0), (2, .pointer (some ⟨b1, 0, none⟩)), (4, v9), (5, v11), (6, .pointer (some ⟨b15, 0, none⟩))] ∧ Holds (([] : List Res).flatMap Res.own) w w2 [.bx b1 25 [.int .i64 0, .int .i64 0, .int .i64 0, .int .i64 0], .sl 9 .str v9 x5, .sl 3 (.int .i64) v11 ([0, 0, 0]), .bx b15 25 [.int .i64 q0, .int .i64 0, .int .i64 0, .int .i64 0]] G)) ho25 ?_ ?_ ?_
  · exact ⟨ha27.sub ⟨rfl, rfl, rfl, rfl, rfl, rfl, trivial⟩, H28⟩
  · clear ha27
    intro s o31 a w29 hs30 hI32
    obtain ⟨s22, s23⟩ := s
    obtain ⟨ha, H33⟩ := hI32
    refine WP.app ?_ ha
    clear ha
    refine WP_seq ?_
    refine WP_seq ?_
    refine WP_region ?_
    refine XL_q rfl (qt_move rfl) rfl rfl ?_
    refine XL_q rfl (qt_leq rfl rfl) rfl rfl ?_
    refine WL_nil_seq ?_
    refine WP_cond rfl (fun hc34 => ?_) (fun hc34 => ?_)
    · have hs30 := if_t hc34 hs30
      refine WP_skip_seq ?_
      refine WP_seq ?_
      refine WP_block ?_
      refine WP_seq ?_
      refine WP_quiet (by kernel_rfl) (by kernel_rfl) ?_
      refine XL_q rfl (qt_move rfl) rfl rfl ?_
      obtain ⟨x35, hx36, hs30⟩ := bind_some hs30
      refine XL_indexH H33.ctx (Has.c (Has.hd)) hx36 u50 i9 rfl rfl rfl rfl (fun b37 off38 cap39 hv40 => ?_)
      obtain ⟨F41, hat42, hdup43⟩ := H33.at (Has.c (Has.hd)) hx36 hv40
      refine XL_load_str u9 rfl hat42 rfl rfl rfl ?_
      refine XL_q rfl (qt_move rfl) rfl rfl ?_
      obtain ⟨x44, hx45, hs30⟩ := bind_some hs30
      refine QL_call rfl rfl c22 (fun w' hb => (w_spec_l7Name w' ([.bx b1 25 [.int .i64 0, .int .i64 0, .int .i64 0, .int .i64 0], .sl 9 .str v9 x5, .sl 3 (.int .i64) v11 ([0, 0, 0]), .bx b15 25 [.int .i64 s23, .int .i64 0, .int .i64 0, .int .i64 0]] ++ G) s22 x44 hx45 (H33.grow hb).ctx).mono fun e w'' hK => ⟨hK.1, hK.2.bel⟩) (by rfl) ?_
      refine XL_q rfl (qt_seql rfl rfl) rfl rfl ?_
      refine QL_nil fun a ha w46 hb47 => ?_
      have H48 : Holds (([] : List Res).flatMap Res.own) w w46 [.bx b1 25 [.int .i64 0, .int .i64 0, .int .i64 0, .int .i64 0], .sl 9 .str v9 x5, .sl 3 (.int .i64) v11 ([0, 0, 0]), .bx b15 25 [.int .i64 s23, .int .i64 0, .int .i64 0, .int .i64 0]] G := H33.grow hb47
      refine nrm_seq (WP.app ?_ ha)
      refine WP_cond rfl (fun hc49 => ?_) (fun hc49 => ?_)
      · have hs30 := if_t hc49 hs30
        refine WP_region ?_
        refine XL_q rfl (qt_move rfl) rfl rfl ?_
        refine XL_q rfl (qt_fieldAddr uf25 fi25_0 nz3 rfl) rfl rfl ?_
        have H50 : Holds (([] : List Res).flatMap Res.own) w w46 [.bx b15 25 [.int .i64 s23, .int .i64 0, .int .i64 0, .int .i64 0], .bx b1 25 [.int .i64 0, .int .i64 0, .int .i64 0, .int .i64 0], .sl 9 .str v9 x5, .sl 3 (.int .i64) v11 ([0, 0, 0])] G := H48.pull 3
        refine WL_store_bx H50 rfl il3 rfl rfl rfl rfl rfl (fun w51 H52 => ?_)
        have H53 : Holds (([] : List Res).flatMap Res.own) w w51 [.bx b15 25 [.int .i64 s22, .int .i64 0, .int .i64 0, .int .i64 0], .bx b1 25 [.int .i64 0, .int .i64 0, .int .i64 0, .int .i64 0], .sl 9 .str v9 x5, .sl 3 (.int .i64) v11 ([0, 0, 0])] G := H52
        refine WL_nil fun a ha => ?_
        refine nrm_block (nrm_seq (WP.app ?_ ha))
        refine WP_region ?_
        refine XL_q rfl (qt_move rfl) rfl rfl ?_
        refine XL_q rfl (qt_add rfl rfl) rfl rfl ?_
        refine XL_q rfl (qt_assign rfl) rfl rfl ?_
        refine WL_nil fun a ha => ?_
        obtain rfl := Option.some.inj hs30
        have H54 : Holds (([] : List Res).flatMap Res.own) w w51 [.bx b1 25 [.int .i64 0, .int .i64 0, .int .i64 0, .int .i64 0], .sl 9 .str v9 x5, .sl 3 (.int .i64) v11 ([0, 0, 0]), .bx b15 25 [.int .i64 s22, .int .i64 0, .int .i64 0, .int .i64 0]] G := (((H53.pull 3).pull 3).pull 3)
        exact ⟨rfl, ha.sub ⟨rfl, rfl, rfl, rfl, rfl, rfl, trivial⟩, H54⟩
      · have hs30 := if_f hc49 hs30
        refine WP_skip fun a ha => ?_
        refine nrm_block (nrm_seq (WP.app ?_ ha))
        refine WP_region ?_
        refine XL_q rfl (qt_move rfl) rfl rfl ?_
        refine XL_q rfl (qt_add rfl rfl) rfl rfl ?_
        refine XL_q rfl (qt_assign rfl) rfl rfl ?_
        refine WL_nil fun a ha => ?_
        obtain rfl := Option.some.inj hs30
        have H55 : Holds (([] : List Res).flatMap Res.own) w w46 [.bx b1 25 [.int .i64 0, .int .i64 0, .int .i64 0, .int .i64 0], .sl 9 .str v9 x5, .sl 3 (.int .i64) v11 ([0, 0, 0]), .bx b15 25 [.int .i64 s23, .int .i64 0, .int .i64 0, .int .i64 0]] G := ((((H48.pull 3).pull 3).pull 3).pull 3)
        exact ⟨rfl, ha.sub ⟨rfl, rfl, rfl, rfl, rfl, rfl, trivial⟩, H55⟩
    · have hs30 := if_f hc34 hs30
      refine WP_exit fun a ha => ?_
      obtain rfl := Option.some.inj hs30
      have H56 : Holds (([] : List Res).flatMap Res.own) w w29 [.bx b1 25 [.int .i64 0, .int .i64 0, .int .i64 0, .int .i64 0], .sl 9 .str v9 x5, .sl 3 (.int .i64) v11 ([0, 0, 0]), .bx b15 25 [.int .i64 s23, .int .i64 0, .int .i64 0, .int .i64 0]] G := ((((H33.pull 3).pull 3).pull 3).pull 3)
      exact exit_seq (⟨exit_ne, rfl, ha.sub ⟨rfl, rfl, rfl, rfl, rfl, trivial⟩, H56⟩)
  · intro e a26 w57 hO58
    obtain ⟨p59, rfl⟩ : ∃ z, z = o24 := ⟨o24, rfl⟩
    obtain ⟨rfl, hO61⟩ := hO58
    obtain ⟨ha, H60⟩ := hO61
    refine exit_block_eq (nrm_seq (WP.app ?_ ha))
    refine WP_seq ?_
    refine WP_seq ?_
    refine WP_region ?_
    refine XL_q rfl (qt_assign rfl) rfl rfl ?_
    refine WL_nil_seq ?_
    refine WP_block ?_
    obtain ⟨o64, ho65, h⟩ := bind_some h
    have H68 : Holds (([] : List Res).flatMap Res.own) w w57 [.bx b1 25 [.int .i64 0, .int .i64 0, .int .i64 0, .int .i64 0], .sl 9 .str v9 x5, .sl 3 (.int .i64) v11 ([0, 0, 0]), .bx b15 25 [.int .i64 p59, .int .i64 0, .int .i64 0, .int .i64 0]] G := ((((H60.pull 3).pull 3).pull 3).pull 3)
    refine fun a66 ha67 => wp_loop_fix (I := fun s a w2 => match s with | (s62, s63) => (Fr a 66 [(0, strV p0), (2, .pointer (some ⟨b1, 0, none⟩)), (4, v9), (5, v11), (6, .pointer (some ⟨b15, 0, none⟩)), (8, .int .i64 s62)] ∧ Holds (([] : List Res).flatMap Res.own) w w2 [.bx b1 25 [.int .i64 0, .int .i64 0, .int .i64 0, .int .i64 0], .sl 9 .str v9 x5, .sl 3 (.int .i64) v11 s63, .bx b15 25 [.int .i64 p59, .int .i64 0, .int .i64 0, .int .i64 0]] G)) (O := fun o e a w2 => match o with | q0 => e = .exit 2 ∧ (Fr a 66 [(0, strV p0), (2, .pointer (some ⟨b1, 0, none⟩)), (5, v11), (6, .pointer (some ⟨b15, 0, none⟩))] ∧ Holds (([] : List Res).flatMap Res.own) w w2 [.bx b1 25 [.int .i64 0, .int .i64 0, .int .i64 0, .int .i64 0], .sl 3 (.int .i64) v11 q0, .bx b15 25 [.int .i64 p59, .int .i64 0, .int .i64 0, .int .i64 0]] G)) ho65 ?_ ?_ ?_
    · exact ⟨ha67.sub ⟨rfl, rfl, rfl, rfl, rfl, rfl, trivial⟩, H68⟩
    · clear ha67
      intro s o71 a w69 hs70 hI72
      obtain ⟨s62, s63⟩ := s
      obtain ⟨ha, H73⟩ := hI72
      refine WP.app ?_ ha
      clear ha
      refine WP_seq ?_
      refine WP_seq ?_
      refine WP_region ?_
      refine XL_q rfl (qt_move rfl) rfl rfl ?_
      refine XL_q rfl (qt_move rfl) rfl rfl ?_
      refine XL_lenH H73.ctx (t := .str) (Has.c (Has.hd)) u50 rfl rfl rfl ?_
      refine XL_q rfl (qt_lss rfl rfl) rfl rfl ?_
      refine XL_q rfl (qt_move rfl) rfl rfl ?_
      refine XL_join 3 32 (.bool ((decide (s62 < (List.length x5 : Int))) && (decide (s62 ≤ 3)))) ?_ (fun md hmd hk => ?_)
      rotate_left
      · obtain ⟨Q, rfl⟩ := Md.seq_of hmd
        rcases btf (decide (s62 < (List.length x5 : Int))) with hc74 | hc74
        · skip
          refine XL_q (w_take rfl hc74) (qt_move rfl) rfl rfl ?_
          refine XL_q (w_take rfl hc74) (qt_leq rfl rfl) rfl rfl ?_
          refine XL_q rfl (qt_pickT rfl hc74 rfl) rfl rfl ?_
          exact hk _ (Cov.same (by rw [hc74]; rfl) (Cov.fresh rfl (Cov.fresh rfl (Cov.refl))))
        · skip
          refine XL_skip (w_skip rfl hc74) rfl rfl ?_
          refine XL_skip (w_skip rfl hc74) rfl rfl ?_
          refine XL_q rfl (qt_pickF rfl hc74 rfl) rfl rfl ?_
          exact hk _ (Cov.same (by rw [hc74]; rfl) (Cov.fresh rfl (Cov.fresh rfl (Cov.refl))))
      refine WL_nil_seq ?_
      refine WP_cond rfl (fun hc75 => ?_) (fun hc75 => ?_)
      · have hs70 := if_t hc75 hs70
        refine WP_skip_seq ?_
        refine WP_seq ?_
        refine WP_block ?_
        refine WP_region ?_
        refine XL_q rfl (qt_move rfl) rfl rfl ?_
        refine XL_q rfl (qt_move rfl) rfl rfl ?_
        refine XL_q rfl (qt_sub rfl rfl) rfl rfl ?_
        refine XL_q rfl (qt_move rfl) rfl rfl ?_
        refine XL_q rfl (qt_move rfl) rfl rfl ?_
        obtain ⟨x76, hx77, hs70⟩ := bind_some hs70
        refine XL_indexH H73.ctx (Has.c (Has.hd)) hx77 u50 i9 rfl rfl rfl rfl (fun b78 off79 cap80 hv81 => ?_)
        obtain ⟨F82, hat83, hdup84⟩ := H73.at (Has.c (Has.hd)) hx77 hv81
        refine XL_load_str u9 rfl hat83 rfl rfl rfl ?_
        obtain ⟨x85, hx86, hs70⟩ := bind_some hs70
        refine WL_call rfl rfl c29 (w_spec_l1Read w69 ([.bx b1 25 [.int .i64 0, .int .i64 0, .int .i64 0, .int .i64 0], .sl 9 .str v9 x5, .sl 3 (.int .i64) v11 s63, .bx b15 25 [.int .i64 p59, .int .i64 0, .int .i64 0, .int .i64 0]] ++ G) x76 x85 hx86 H73.ctx) (by rfl) ?_
        rintro _ w87 ⟨rfl, H88⟩; refine ⟨_, rfl, ?_⟩
        have H89 : Holds (([] : List Res).flatMap Res.own) w w87 [.bx b1 25 [.int .i64 0, .int .i64 0, .int .i64 0, .int .i64 0], .sl 9 .str v9 x5, .sl 3 (.int .i64) v11 s63, .bx b15 25 [.int .i64 p59, .int .i64 0, .int .i64 0, .int .i64 0]] G := H73.calledN (Rs := []) H88
        obtain ⟨x90, hx91, hs70⟩ := bind_some hs70
        refine XL_indexH H89.ctx (Has.c (Has.c (Has.hd))) hx91 u43 i3 rfl rfl rfl rfl (fun b92 off93 cap94 hv95 => ?_)
        have H96 : Holds (([] : List Res).flatMap Res.own) w w87 [.sl 3 (.int .i64) v11 s63, .bx b1 25 [.int .i64 0, .int .i64 0, .int .i64 0, .int .i64 0], .sl 9 .str v9 x5, .bx b15 25 [.int .i64 p59, .int .i64 0, .int .i64 0, .int .i64 0]] G := H89.pull 2
        refine WL_storeH (fo := 0) (cs' := [.int .i64 x85]) H96 hx91 hv95 (Upd.whole (Blt.int)) rfl il3 rfl rfl rfl rfl (fun w97 H98 => ?_)
        have H99 : Holds (([] : List Res).flatMap Res.own) w w97 [.sl 3 (.int .i64) v11 (List.set s63 (Int.toNat (IntKind.wrap .i64 (s62 - 1))) x85), .bx b1 25 [.int .i64 0, .int .i64 0, .int .i64 0, .int .i64 0], .sl 9 .str v9 x5, .bx b15 25 [.int .i64 p59, .int .i64 0, .int .i64 0, .int .i64 0]] G := H98
        refine WL_nil fun a ha => ?_
        refine nrm_block (nrm_seq (WP.app ?_ ha))
        refine WP_region ?_
        refine XL_q rfl (qt_move rfl) rfl rfl ?_
        refine XL_q rfl (qt_add rfl rfl) rfl rfl ?_
        refine XL_q rfl (qt_assign rfl) rfl rfl ?_
        refine WL_nil fun a ha => ?_
        obtain rfl := Option.some.inj hs70
        have H100 : Holds (([] : List Res).flatMap Res.own) w w97 [.bx b1 25 [.int .i64 0, .int .i64 0, .int .i64 0, .int .i64 0], .sl 9 .str v9 x5, .sl 3 (.int .i64) v11 (List.set s63 (Int.toNat (IntKind.wrap .i64 (s62 - 1))) x85), .bx b15 25 [.int .i64 p59, .int .i64 0, .int .i64 0, .int .i64 0]] G := ((((H99.pull 3).pull 1).pull 3).pull 3)
        exact ⟨rfl, ha.sub ⟨rfl, rfl, rfl, rfl, rfl, rfl, trivial⟩, H100⟩
      · have hs70 := if_f hc75 hs70
        refine WP_exit fun a ha => ?_
        obtain rfl := Option.some.inj hs70
        have H101 : Holds (([] : List Res).flatMap Res.own) w w69 [.bx b1 25 [.int .i64 0, .int .i64 0, .int .i64 0, .int .i64 0], .sl 3 (.int .i64) v11 s63, .bx b15 25 [.int .i64 p59, .int .i64 0, .int .i64 0, .int .i64 0]] G := ((((H73.cut 1).pull 2).pull 2).pull 2)
        exact exit_seq (⟨exit_ne, rfl, ha.sub ⟨rfl, rfl, rfl, rfl, trivial⟩, H101⟩)
    · intro e a66 w102 hO103
      obtain ⟨p104, rfl⟩ : ∃ z, z = o64 := ⟨o64, rfl⟩
      obtain ⟨rfl, hO106⟩ := hO103
      obtain ⟨ha, H105⟩ := hO106
      refine exit_block_eq (nrm_seq (WP.app ?_ ha))
      refine WP_seq ?_
      refine WP_region ?_
      refine XL_q rfl (qt_move rfl) rfl rfl ?_
      obtain ⟨x107, hx108, h⟩ := bind_some h
      refine XL_indexH H105.ctx (Has.c (Has.hd)) hx108 u43 i3 rfl rfl rfl rfl (fun b109 off110 cap111 hv112 => ?_)
      obtain ⟨F113, hat114, hdup115⟩ := H105.at (Has.c (Has.hd)) hx108 hv112
      refine XL_load_int (k := .i64) u3 rfl hat114 rfl rfl rfl ?_
      refine XL_q rfl (qt_fieldAddr uf25 fi25_1 nz3 rfl) rfl rfl ?_
      have H116 : Holds (([] : List Res).flatMap Res.own) w w102 [.bx b15 25 [.int .i64 p59, .int .i64 0, .int .i64 0, .int .i64 0], .bx b1 25 [.int .i64 0, .int .i64 0, .int .i64 0, .int .i64 0], .sl 3 (.int .i64) v11 p104] G := H105.pull 2
      refine WL_store_bx H116 rfl il3 rfl rfl rfl rfl rfl (fun w117 H118 => ?_)
      have H119 : Holds (([] : List Res).flatMap Res.own) w w117 [.bx b15 25 [.int .i64 p59, .int .i64 x107, .int .i64 0, .int .i64 0], .bx b1 25 [.int .i64 0, .int .i64 0, .int .i64 0, .int .i64 0], .sl 3 (.int .i64) v11 p104] G := H118
      refine WL_nil_seq ?_
      refine WP_seq ?_
      refine WP_region ?_
      refine XL_q rfl (qt_move rfl) rfl rfl ?_
      obtain ⟨x120, hx121, h⟩ := bind_some h
      refine XL_indexH H119.ctx (Has.c (Has.c (Has.hd))) hx121 u43 i3 rfl rfl rfl rfl (fun b122 off123 cap124 hv125 => ?_)
      obtain ⟨F126, hat127, hdup128⟩ := H119.at (Has.c (Has.c (Has.hd))) hx121 hv125
      refine XL_load_int (k := .i64) u3 rfl hat127 rfl rfl rfl ?_
      refine XL_q rfl (qt_fieldAddr uf25 fi25_2 nz3 rfl) rfl rfl ?_
      refine WL_store_bx H119 rfl il3 rfl rfl rfl rfl rfl (fun w129 H130 => ?_)
      have H131 : Holds (([] : List Res).flatMap Res.own) w w129 [.bx b15 25 [.int .i64 p59, .int .i64 x107, .int .i64 x120, .int .i64 0], .bx b1 25 [.int .i64 0, .int .i64 0, .int .i64 0, .int .i64 0], .sl 3 (.int .i64) v11 p104] G := H130
      refine WL_nil_seq ?_
      refine WP_seq ?_
      refine WP_region ?_
      refine XL_q rfl (qt_move rfl) rfl rfl ?_
      obtain ⟨x132, hx133, h⟩ := bind_some h
      refine XL_indexH H131.ctx (Has.c (Has.c (Has.hd))) hx133 u43 i3 rfl rfl rfl rfl (fun b134 off135 cap136 hv137 => ?_)
      obtain ⟨F138, hat139, hdup140⟩ := H131.at (Has.c (Has.c (Has.hd))) hx133 hv137
      refine XL_load_int (k := .i64) u3 rfl hat139 rfl rfl rfl ?_
      refine XL_q rfl (qt_fieldAddr uf25 fi25_3 nz3 rfl) rfl rfl ?_
      refine WL_store_bx H131 rfl il3 rfl rfl rfl rfl rfl (fun w141 H142 => ?_)
      have H143 : Holds (([] : List Res).flatMap Res.own) w w141 [.bx b15 25 [.int .i64 p59, .int .i64 x107, .int .i64 x120, .int .i64 x132], .bx b1 25 [.int .i64 0, .int .i64 0, .int .i64 0, .int .i64 0], .sl 3 (.int .i64) v11 p104] G := H142
      refine WL_nil_seq ?_
      refine WP_seq ?_
      refine WP_seq ?_
      refine WP_still ?_
      refine XL_q rfl (qt_move rfl) rfl rfl ?_
      refine XL_q rfl (qt_seql rfl rfl) rfl rfl ?_
      refine XL_q rfl (qt_move rfl) rfl rfl ?_
      obtain ⟨b144, hg145, h⟩ := bind_some h
      refine XL_join 5 63 (.bool b144) ?_ (fun md hmd hk => ?_)
      rotate_left
      · obtain ⟨K, rfl⟩ := Md.quiet_of hmd
        rcases btf (p0 == ([] : List UInt8)) with hc146 | hc146
        · skip
          refine XL_skip (w_skip rfl hc146) rfl rfl ?_
          refine XL_skip (w_skip rfl hc146) rfl rfl ?_
          refine XL_skip (w_skip rfl hc146) rfl rfl ?_
          refine XL_skip (w_skip rfl hc146) rfl rfl ?_
          refine XL_q rfl (qt_pickT rfl hc146 rfl) rfl rfl ?_
          exact hk _ (Cov.same (vb (if_t hc146 hg145)) (Cov.fresh rfl (Cov.fresh rfl (Cov.fresh rfl (Cov.fresh rfl (Cov.refl))))))
        · skip
          have hg145 := if_f hc146 hg145
          have hB147 : Bx w141 b15 25 [.int .i64 p59, .int .i64 x107, .int .i64 x120, .int .i64 x132] := Holds.bx (H143.pull 0)
          refine XL_load_bxA (cs := [.int .i64 p59, .int .i64 x107, .int .i64 x120, .int .i64 x132]) us25 uo25 il25 hB147 (w_take rfl hc146) rfl rfl ?_
          change XL _ _ _ _ _ ((59, .agg #[.int .i64 p59, .int .i64 x107, .int .i64 x120, .int .i64 x132]) :: _) _
          obtain ⟨x148, hx149, hg145⟩ := bind_some hg145
          refine QL_call (w_take rfl hc146) rfl c7 (fun w' hb => (w_spec_DeedText w' ([.bx b15 25 [.int .i64 p59, .int .i64 x107, .int .i64 x120, .int .i64 x132], .bx b1 25 [.int .i64 0, .int .i64 0, .int .i64 0, .int .i64 0], .sl 3 (.int .i64) v11 p104] ++ G) p59 x107 x120 x132 x148 hx149 (H143.grow hb).ctx).mono fun e w'' hK => ⟨hK.1, hK.2.bel⟩) (by rfl) ?_
          refine XL_q (w_take rfl hc146) (qt_move rfl) rfl rfl ?_
          refine XL_q (w_take rfl hc146) (qt_sneq rfl rfl) rfl rfl ?_
          refine XL_q rfl (qt_pickF rfl hc146 rfl) rfl rfl ?_
          exact hk _ (Cov.same (vb hg145) (Cov.fresh rfl (Cov.fresh rfl (Cov.fresh rfl (Cov.fresh rfl (Cov.refl))))))
      refine QL_nil fun a ha w150 hb151 => ?_
      have H152 : Holds (([] : List Res).flatMap Res.own) w w150 [.bx b15 25 [.int .i64 p59, .int .i64 x107, .int .i64 x120, .int .i64 x132], .bx b1 25 [.int .i64 0, .int .i64 0, .int .i64 0, .int .i64 0], .sl 3 (.int .i64) v11 p104] G := H143.grow hb151
      refine nrm_seq (WP.app ?_ ha)
      refine WP_cond rfl (fun hc153 => ?_) (fun hc153 => ?_)
      · have h := if_t hc153 h
        refine WP_seq ?_
        refine WP_region ?_
        refine XL_q rfl (qt_build (args := []) (css := []) (cells := #[.int .i64 0, .int .i64 0, .int .i64 0, .int .i64 0]) rfl trivial (by kernel_rfl)) rfl rfl ?_
        have H154 : Holds (([] : List Res).flatMap Res.own) w w150 [.bx b1 25 [.int .i64 0, .int .i64 0, .int .i64 0, .int .i64 0], .bx b15 25 [.int .i64 p59, .int .i64 x107, .int .i64 x120, .int .i64 x132], .sl 3 (.int .i64) v11 p104] G := H152.pull 1
        refine WL_store_bxA (cs' := [.int .i64 0, .int .i64 0, .int .i64 0, .int .i64 0]) H154 rfl il25 rfl rfl rfl rfl rfl (fun w155 H156 => ?_)
        have H157 : Holds (([] : List Res).flatMap Res.own) w w155 [.bx b1 25 [.int .i64 0, .int .i64 0, .int .i64 0, .int .i64 0], .bx b15 25 [.int .i64 p59, .int .i64 x107, .int .i64 x120, .int .i64 x132], .sl 3 (.int .i64) v11 p104] G := H156
        refine XL_q rfl (qt_assign rfl) rfl rfl ?_
        refine WL_nil_seq ?_
        refine WP_ret fun a ha => ?_
        obtain rfl := Option.some.inj h
        have hB158 : Bx w155 b1 25 [.int .i64 0, .int .i64 0, .int .i64 0, .int .i64 0] := Holds.bx (H157.pull 0)
        have H159 : Holds (([] : List Res).flatMap Res.own) w w155 [] G := (((H157.cut 0).cut 0).cut 0)
        exact ret_seq (retct rfl ha rfl rfl (run_loadVar_bx (cs := [.int .i64 0, .int .i64 0, .int .i64 0, .int .i64 0]) us25 uo25 il25 hB158) ⟨rfl, H159⟩)
      · have h := if_f hc153 h
        refine WP_skip_seq ?_
        refine WP_seq ?_
        refine WP_region ?_
        have hB160 : Bx w150 b15 25 [.int .i64 p59, .int .i64 x107, .int .i64 x120, .int .i64 x132] := Holds.bx (H152.pull 0)
        refine XL_load_bxA (cs := [.int .i64 p59, .int .i64 x107, .int .i64 x120, .int .i64 x132]) us25 uo25 il25 hB160 rfl rfl rfl ?_
        change XL _ _ _ _ _ ((65, .agg #[.int .i64 p59, .int .i64 x107, .int .i64 x120, .int .i64 x132]) :: _) _
        have H161 : Holds (([] : List Res).flatMap Res.own) w w150 [.bx b1 25 [.int .i64 0, .int .i64 0, .int .i64 0, .int .i64 0], .bx b15 25 [.int .i64 p59, .int .i64 x107, .int .i64 x120, .int .i64 x132], .sl 3 (.int .i64) v11 p104] G := H152.pull 1
        refine WL_store_bxA (cs' := [.int .i64 p59, .int .i64 x107, .int .i64 x120, .int .i64 x132]) H161 rfl il25 rfl rfl rfl rfl rfl (fun w162 H163 => ?_)
        have H164 : Holds (([] : List Res).flatMap Res.own) w w162 [.bx b1 25 [.int .i64 p59, .int .i64 x107, .int .i64 x120, .int .i64 x132], .bx b15 25 [.int .i64 p59, .int .i64 x107, .int .i64 x120, .int .i64 x132], .sl 3 (.int .i64) v11 p104] G := H163
        refine XL_q rfl (qt_assign rfl) rfl rfl ?_
        refine WL_nil_seq ?_
        refine WP_ret fun a ha => ?_
        obtain rfl := Option.some.inj h
        have hB165 : Bx w162 b1 25 [.int .i64 p59, .int .i64 x107, .int .i64 x120, .int .i64 x132] := Holds.bx (H164.pull 0)
        have H166 : Holds (([] : List Res).flatMap Res.own) w w162 [] G := (((H164.cut 0).cut 0).cut 0)
        exact retct rfl ha rfl rfl (run_loadVar_bx (cs := [.int .i64 p59, .int .i64 x107, .int .i64 x120, .int .i64 x132]) us25 uo25 il25 hB165) ⟨rfl, H166⟩
theorem w_impl_readNumber (w : World) (G : List Res) (p0 : List UInt8) (p1 : Int) (r : Int × Bool) (h : impl_readNumberS p0 p1 = some r) (H : Ctx w G) : Calls Tryd.prog 31 #[strV p0, .int .i64 p1] w fun e w' => e = .returned (.tuple #[.int .i64 r.1, .bool r.2]) ∧ Holds (([] : List Res).flatMap Res.own) w w' [] G := by
  have H : Holds (([] : List Res).flatMap Res.own) w w [] G := Holds.startN H
  refine calls_enter (args := [strV p0, .int .i64 p1]) (n := 52) Tryd.func31 rfl rfl rfl ?_
  unfold impl_readNumberS at h
  refine WP_seq ?_
  refine WP_region ?_
  refine XL_q rfl (qt_assign rfl) rfl rfl ?_
  refine XL_q rfl (qt_assign rfl) rfl rfl ?_
  refine WL_nil_seq ?_
  refine WP_seq ?_
  refine WP_seq ?_
  refine WP_region ?_
  refine XL_q rfl (qt_move rfl) rfl rfl ?_
  refine XL_q rfl (qt_slen u9 rfl) rfl rfl ?_
  refine XL_q rfl (qt_lss rfl rfl) rfl rfl ?_
  refine XL_q rfl (qt_move rfl) rfl rfl ?_
  refine XL_join 5 16 (.bool ((decide ((List.length p0 : Int) < 1)) || (decide ((List.length p0 : Int) > p1)))) ?_ (fun md hmd hk => ?_)
  rotate_left
  · obtain ⟨Q, rfl⟩ := Md.seq_of hmd
    rcases btf (decide ((List.length p0 : Int) < 1)) with hc1 | hc1
    · skip
      refine XL_skip (w_skip rfl hc1) rfl rfl ?_
      refine XL_skip (w_skip rfl hc1) rfl rfl ?_
      refine XL_skip (w_skip rfl hc1) rfl rfl ?_
      refine XL_skip (w_skip rfl hc1) rfl rfl ?_
      refine XL_q rfl (qt_pickT rfl hc1 rfl) rfl rfl ?_
      exact hk _ (Cov.same (by rw [hc1]; rfl) (Cov.fresh rfl (Cov.fresh rfl (Cov.fresh rfl (Cov.fresh rfl (Cov.refl))))))
    · skip
      refine XL_q (w_take rfl hc1) (qt_move rfl) rfl rfl ?_
      refine XL_q (w_take rfl hc1) (qt_slen u9 rfl) rfl rfl ?_
      refine XL_q (w_take rfl hc1) (qt_move rfl) rfl rfl ?_
      refine XL_q (w_take rfl hc1) (qt_gtr rfl rfl) rfl rfl ?_
      refine XL_q rfl (qt_pickF rfl hc1 rfl) rfl rfl ?_
      exact hk _ (Cov.same (by rw [hc1]; rfl) (Cov.fresh rfl (Cov.fresh rfl (Cov.fresh rfl (Cov.fresh rfl (Cov.refl))))))
  refine XL_q rfl (qt_move rfl) rfl rfl ?_
  obtain ⟨b2, hg3, h⟩ := bind_some h
  refine XL_join 9 26 (.bool b2) ?_ (fun md hmd hk => ?_)
  rotate_left
  · obtain ⟨Q, rfl⟩ := Md.seq_of hmd
    rcases btf ((decide ((List.length p0 : Int) < 1)) || (decide ((List.length p0 : Int) > p1))) with hc4 | hc4
    · skip
      refine XL_skip (w_skip rfl hc4) rfl rfl ?_
      refine XL_skip (w_skip rfl hc4) rfl rfl ?_
      refine XL_skip (w_skip rfl hc4) rfl rfl ?_
      refine XL_skip (w_skip rfl hc4) rfl rfl ?_
      refine XL_skip rfl rfl rfl ?_
      refine XL_skip rfl rfl rfl ?_
      refine XL_skip rfl rfl rfl ?_
      refine XL_skip (w_skip rfl hc4) rfl rfl ?_
      refine XL_q rfl (qt_pickT rfl hc4 rfl) rfl rfl ?_
      exact hk _ (Cov.same (vb (if_t hc4 hg3)) (Cov.fresh rfl (Cov.fresh rfl (Cov.fresh rfl (Cov.fresh rfl (Cov.fresh rfl (Cov.fresh rfl (Cov.fresh rfl (Cov.fresh rfl (Cov.refl))))))))))
    · skip
      have hg3 := if_f hc4 hg3
      refine XL_q (w_take rfl hc4) (qt_move rfl) rfl rfl ?_
      refine XL_q (w_take rfl hc4) (qt_slen u9 rfl) rfl rfl ?_
      refine XL_q (w_take rfl hc4) (qt_gtr rfl rfl) rfl rfl ?_
      refine XL_q (w_take rfl hc4) (qt_move rfl) rfl rfl ?_
      obtain ⟨b5, hg6, hg3⟩ := bind_some hg3
      refine XL_join 4 25 (.bool b5) ?_ (fun md hmd hk => ?_)
      rotate_left
      · obtain ⟨Q, rfl⟩ := Md.seq_of hmd
        rcases btf (decide ((List.length p0 : Int) > 1)) with hc7 | hc7
        · skip
          have hg6 := if_t hc7 hg6
          refine XL_q (w_take rfl hc7) (qt_move rfl) rfl rfl ?_
          obtain ⟨x8, hx9, hg6⟩ := bind_some hg6
          refine XL_q (w_take rfl hc7) (qt_sidx u9 rfl rfl hx9) rfl rfl ?_
          refine XL_q (w_take rfl hc7) (qt_eql rfl rfl) rfl rfl ?_
          refine XL_q (w_take rfl hc4) (qt_pickT rfl hc7 rfl) rfl rfl ?_
          exact hk _ (Cov.same (vb hg6) (Cov.fresh rfl (Cov.fresh rfl (Cov.fresh rfl (Cov.refl)))))
        · skip
          refine XL_skip (w_skip rfl hc7) rfl rfl ?_
          refine XL_skip (w_skip rfl hc7) rfl rfl ?_
          refine XL_skip (w_skip rfl hc7) rfl rfl ?_
          refine XL_q (w_take rfl hc4) (qt_pickF rfl hc7 rfl) rfl rfl ?_
          exact hk _ (Cov.same (vb (if_f hc7 hg6)) (Cov.fresh rfl (Cov.fresh rfl (Cov.fresh rfl (Cov.refl)))))
      refine XL_q rfl (qt_pickF rfl hc4 rfl) rfl rfl ?_
      exact hk _ (Cov.same (vb hg3) (Cov.fresh rfl (Cov.fresh rfl (Cov.fresh rfl (Cov.fresh rfl (Cov.fresh rfl (Cov.refl)))))))
  refine WL_nil_seq ?_
  refine WP_cond rfl (fun hc10 => ?_) (fun hc10 => ?_)
  · have h := if_t hc10 h
    refine WP_seq ?_
    refine WP_region ?_
    refine XL_q rfl (qt_assign rfl) rfl rfl ?_
    refine XL_q rfl (qt_assign rfl) rfl rfl ?_
    refine WL_nil_seq ?_
    refine WP_ret fun a ha => ?_
    obtain rfl := Option.some.inj h
    exact ret_seq (ret2 rfl ha rfl rfl ⟨rfl, H⟩)
  · have h := if_f hc10 h
    refine WP_skip_seq ?_
    refine WP_seq ?_
    refine WP_region ?_
    refine XL_q rfl (qt_assign rfl) rfl rfl ?_
    refine WL_nil_seq ?_
    refine WP_seq ?_
    refine WP_seq ?_
    refine WP_region ?_
    refine XL_q rfl (qt_assign rfl) rfl rfl ?_
    refine WL_nil_seq ?_
    refine WP_block ?_
    obtain ⟨o13, ho14, h⟩ := bind_some h
    refine fun a15 ha16 => wp_loop_fix (I := fun s a w2 => match s with | (s11, s12) => (Fr a 52 [(0, strV p0), (6, .int .i64 s11), (7, .int .i64 s12)] ∧ Holds (([] : List Res).flatMap Res.own) w w2 [] G)) (O := fun o e a w2 => match o with | .inl q0 => e = .exit 0 ∧ (Fr a 52 [(6, .int .i64 q0)] ∧ Holds (([] : List Res).flatMap Res.own) w w2 [] G) | .inr (q0, q1) => e = .ret ∧ (Fr a 52 [(4, .int .i64 q0), (5, .bool q1)] ∧ Holds (([] : List Res).flatMap Res.own) w w2 [] G)) ho14 ?_ ?_ ?_
    · exact ⟨ha16.sub ⟨rfl, rfl, rfl, trivial⟩, H⟩
    · clear ha16
      intro s o19 a w17 hs18 hI20
      obtain ⟨s11, s12⟩ := s
      obtain ⟨ha, H21⟩ := hI20
      refine WP.app ?_ ha
      clear ha
      refine WP_seq ?_
      refine WP_seq ?_
      refine WP_region ?_
      refine XL_q rfl (qt_move rfl) rfl rfl ?_
      refine XL_q rfl (qt_move rfl) rfl rfl ?_
      refine XL_q rfl (qt_slen u9 rfl) rfl rfl ?_
      refine XL_q rfl (qt_lss rfl rfl) rfl rfl ?_
      refine WL_nil_seq ?_
      refine WP_cond rfl (fun hc22 => ?_) (fun hc22 => ?_)
      · have hs18 := if_t hc22 hs18
        refine WP_skip_seq ?_
        refine WP_seq ?_
        refine WP_block ?_
        refine WP_seq ?_
        refine WP_seq ?_
        refine WP_region ?_
        refine XL_q rfl (qt_move rfl) rfl rfl ?_
        refine XL_q rfl (qt_move rfl) rfl rfl ?_
        obtain ⟨x23, hx24, hs18⟩ := bind_some hs18
        refine XL_q rfl (qt_sidx u9 rfl rfl hx24) rfl rfl ?_
        refine XL_q rfl (qt_lss rfl rfl) rfl rfl ?_
        refine XL_q rfl (qt_move rfl) rfl rfl ?_
        obtain ⟨b25, hg26, hs18⟩ := bind_some hs18
        refine XL_join 5 42 (.bool b25) ?_ (fun md hmd hk => ?_)
        rotate_left
        · obtain ⟨Q, rfl⟩ := Md.seq_of hmd
          rcases btf (decide (x23 < 48)) with hc27 | hc27
          · skip
            refine XL_skip (w_skip rfl hc27) rfl rfl ?_
            refine XL_skip (w_skip rfl hc27) rfl rfl ?_
            refine XL_skip (w_skip rfl hc27) rfl rfl ?_
            refine XL_skip (w_skip rfl hc27) rfl rfl ?_
            refine XL_q rfl (qt_pickT rfl hc27 rfl) rfl rfl ?_
            exact hk _ (Cov.same (vb (if_t hc27 hg26)) (Cov.fresh rfl (Cov.fresh rfl (Cov.fresh rfl (Cov.fresh rfl (Cov.refl))))))
          · skip
            have hg26 := if_f hc27 hg26
            refine XL_q (w_take rfl hc27) (qt_move rfl) rfl rfl ?_
            refine XL_q (w_take rfl hc27) (qt_move rfl) rfl rfl ?_
            obtain ⟨x28, hx29, hg26⟩ := bind_some hg26
            refine XL_q (w_take rfl hc27) (qt_sidx u9 rfl rfl hx29) rfl rfl ?_
            refine XL_q (w_take rfl hc27) (qt_gtr rfl rfl) rfl rfl ?_
            refine XL_q rfl (qt_pickF rfl hc27 rfl) rfl rfl ?_
            exact hk _ (Cov.same (vb hg26) (Cov.fresh rfl (Cov.fresh rfl (Cov.fresh rfl (Cov.fresh rfl (Cov.refl))))))
        refine WL_nil_seq ?_
        refine WP_cond rfl (fun hc30 => ?_) (fun hc30 => ?_)
        · have hs18 := if_t hc30 hs18
          refine WP_seq ?_
          refine WP_region ?_
          refine XL_q rfl (qt_assign rfl) rfl rfl ?_
          refine XL_q rfl (qt_assign rfl) rfl rfl ?_
          refine WL_nil_seq ?_
          refine WP_ret fun a ha => ?_
          obtain rfl := Option.some.inj hs18
          exact ret_seq (ret_block (ret_seq (⟨ret_ne, rfl, ha.sub ⟨rfl, rfl, trivial⟩, H21⟩)))
        · have hs18 := if_f hc30 hs18
          refine WP_skip_seq ?_
          refine WP_region ?_
          refine XL_q rfl (qt_move rfl) rfl rfl ?_
          refine XL_q rfl (qt_mul rfl rfl) rfl rfl ?_
          refine XL_q rfl (qt_move rfl) rfl rfl ?_
          refine XL_q rfl (qt_move rfl) rfl rfl ?_
          obtain ⟨x31, hx32, hs18⟩ := bind_some hs18
          refine XL_q rfl (qt_sidx u9 rfl rfl hx32) rfl rfl ?_
          refine XL_q rfl (qt_sub rfl rfl) rfl rfl ?_
          refine XL_q rfl (qt_int u3 rfl u5) rfl rfl ?_
          refine XL_q rfl (qt_add rfl rfl) rfl rfl ?_
          refine XL_q rfl (qt_assign rfl) rfl rfl ?_
          refine WL_nil fun a ha => ?_
          refine nrm_block (nrm_seq (WP.app ?_ ha))
          refine WP_region ?_
          refine XL_q rfl (qt_move rfl) rfl rfl ?_
          refine XL_q rfl (qt_add rfl rfl) rfl rfl ?_
          refine XL_q rfl (qt_assign rfl) rfl rfl ?_
          refine WL_nil fun a ha => ?_
          obtain rfl := Option.some.inj hs18
          exact ⟨rfl, ha.sub ⟨rfl, rfl, rfl, trivial⟩, H21⟩
      · have hs18 := if_f hc22 hs18
        refine WP_exit fun a ha => ?_
        obtain rfl := Option.some.inj hs18
        exact exit_seq (⟨exit_ne, rfl, ha.sub ⟨rfl, trivial⟩, H21⟩)
    · intro e a15 w33 hO34
      rcases o13 with o13 | o13
      · skip
        obtain ⟨p35, rfl⟩ : ∃ z, z = o13 := ⟨o13, rfl⟩
        obtain ⟨rfl, hO37⟩ := hO34
        obtain ⟨ha, H36⟩ := hO37
        refine exit_block_eq (nrm_seq (WP.app ?_ ha))
        refine WP_seq ?_
        refine WP_region ?_
        refine XL_q rfl (qt_move rfl) rfl rfl ?_
        refine XL_q rfl (qt_assign rfl) rfl rfl ?_
        refine XL_q rfl (qt_assign rfl) rfl rfl ?_
        refine WL_nil_seq ?_
        refine WP_ret fun a ha => ?_
        obtain rfl := Option.some.inj h
        exact ret2 rfl ha rfl rfl ⟨rfl, H36⟩
      · skip
        obtain ⟨p38, p39⟩ := o13
        obtain ⟨rfl, hO41⟩ := hO34
        obtain ⟨ha, H40⟩ := hO41
        obtain rfl := Option.some.inj h
        exact ret_block (ret_seq (ret2 rfl ha rfl rfl ⟨rfl, H40⟩))
theorem w_impl_ReadDeed (w : World) (G : List Res) (hGl : Glob G) (hGm : GlobM G) (p0 : List UInt8) (r : (Int × Int × Int × Int) × Bool) (h : impl_ReadDeedS p0 = some r) (H : Ctx w G) : Calls Tryd.prog 11 #[strV p0] w fun e w' => e = .returned (.tuple #[.agg #[.int .i64 r.1.1, .int .i64 r.1.2.1, .int .i64 r.1.2.2.1, .int .i64 r.1.2.2.2], .bool r.2]) ∧ Holds (([] : List Res).flatMap Res.own) w w' [] G := by
  have H : Holds (([] : List Res).flatMap Res.own) w w [] G := Holds.startN H
  refine calls_enter (args := [strV p0]) (n := 63) Tryd.func11 rfl rfl rfl ?_
  unfold impl_ReadDeedS at h
  refine WP_seq ?_
  refine WP_region ?_
  refine WL_alloc (cs := [.int .i64 0, .int .i64 0, .int .i64 0, .int .i64 0]) H z25 rfl rfl rfl (fun b1 w2 H3 => ?_)
  have H4 : Holds (([] : List Res).flatMap Res.own) w w2 [.bx b1 25 [.int .i64 0, .int .i64 0, .int .i64 0, .int .i64 0]] G := H3
  refine XL_q rfl (qt_assign rfl) rfl rfl ?_
  refine WL_nil_seq ?_
  refine WP_seq ?_
  refine WP_region ?_
  refine XL_q rfl (qt_move rfl) rfl rfl ?_
  obtain ⟨x5, hx6, h⟩ := bind_some h
  refine WL_call rfl rfl c30 (w_strings_Split w2 ([.bx b1 25 [.int .i64 0, .int .i64 0, .int .i64 0, .int .i64 0]] ++ G) hGm.c p0 ([32] : List UInt8) x5 hx6 H4.ctx) (by rfl) ?_
  rintro _ w7 ⟨v9, rfl, H8⟩; refine ⟨_, rfl, ?_⟩
  have H10 : Holds (([] : List Res).flatMap Res.own) w w7 [.sl 9 .str v9 x5, .bx b1 25 [.int .i64 0, .int .i64 0, .int .i64 0, .int .i64 0]] G := H4.calledN (Rs := []) H8
  refine XL_q rfl (qt_assign rfl) rfl rfl ?_
  refine WL_nil_seq ?_
  refine WP_seq ?_
  refine WP_seq ?_
  refine WP_region ?_
  refine XL_loadArrS H10.ctx (hGl.1.c.c.has) us48 uo48 il48 rfl rfl rfl ?_
  refine XL_q rfl (qt_move rfl) rfl rfl ?_
  refine WL_nil_seq ?_
  refine WP_block ?_
  obtain ⟨o16, ho17, h⟩ := bind_some h
  have H20 : Holds (([] : List Res).flatMap Res.own) w w7 [.bx b1 25 [.int .i64 0, .int .i64 0, .int .i64 0, .int .i64 0], .sl 9 .str v9 x5] G := (H10.pull 1)
  refine fun a18 ha19 => wp_loop_fix (I := fun s a w2 => match s with | (s11, s12, s13, s14, s15) => (Fr a 63 [(2, .pointer (some ⟨b1, 0, none⟩)), (4, v9), (14, .agg (List.map strV deedNames).toArray), (15, .int .i64 s11)] ∧ Holds (([] : List Res).flatMap Res.own) w w2 [.bx b1 25 [.int .i64 s12, .int .i64 s13, .int .i64 s14, .int .i64 s15], .sl 9 .str v9 x5] G)) (O := fun o e a w2 => match o with | .inl (q0, q1, q2, q3) => e = .exit 0 ∧ (Fr a 63 [(2, .pointer (some ⟨b1, 0, none⟩))] ∧ Holds (([] : List Res).flatMap Res.own) w w2 [.bx b1 25 [.int .i64 q0, .int .i64 q1, .int .i64 q2, .int .i64 q3]] G) | .inr (q0, q1, q2, q3, q4) => e = .ret ∧ (Fr a 63 [(2, .pointer (some ⟨b1, 0, none⟩)), (3, .bool q0)] ∧ Holds (([] : List Res).flatMap Res.own) w w2 [.bx b1 25 [.int .i64 q1, .int .i64 q2, .int .i64 q3, .int .i64 q4]] G)) ho17 ?_ ?_ ?_
  · exact ⟨ha19.sub ⟨rfl, rfl, rfl, rfl, trivial⟩, H20⟩
  · clear ha19
    intro s o23 a w21 hs22 hI24
    obtain ⟨s11, s12, s13, s14, s15⟩ := s
    obtain ⟨ha, H25⟩ := hI24
    refine WP.app ?_ ha
    clear ha
    refine WP_seq ?_
    refine WP_region ?_
    refine XL_q rfl (qt_lss rfl rfl) rfl rfl ?_
    refine WL_nil_seq ?_
    refine WP_seq ?_
    refine WP_cond rfl (fun hc26 => ?_) (fun hc26 => ?_)
    · have hs22 := if_t hc26 hs22
      refine WP_skip_seq ?_
      refine WP_seq ?_
      refine WP_block ?_
      refine WP_seq ?_
      refine WP_region ?_
      refine XL_q rfl (qt_move rfl) rfl rfl ?_
      obtain ⟨x27, hx28, hs22⟩ := bind_some hs22
      refine XL_q rfl (qt_idxS (xs := deedNames) u48 u9 il9 rfl rfl rfl hx28) rfl rfl ?_
      refine XL_q rfl (qt_assign rfl) rfl rfl ?_
      refine XL_q rfl (qt_assign rfl) rfl rfl ?_
      refine WL_nil_seq ?_
      refine WP_seq ?_
      refine WP_seq ?_
      refine WP_region ?_
      refine XL_q rfl (qt_move rfl) rfl rfl ?_
      obtain ⟨x29, hx30, hs22⟩ := bind_some hs22
      refine XL_indexH H25.ctx (Has.c (Has.hd)) hx30 u50 i9 rfl rfl rfl rfl (fun b31 off32 cap33 hv34 => ?_)
      obtain ⟨F35, hat36, hdup37⟩ := H25.at (Has.c (Has.hd)) hx30 hv34
      refine XL_load_str u9 rfl hat36 rfl rfl rfl ?_
      refine XL_q rfl (qt_move rfl) rfl rfl ?_
      refine XL_q rfl (qt_sneq rfl rfl) rfl rfl ?_
      refine XL_q rfl (qt_move rfl) rfl rfl ?_
      obtain ⟨b38, hg39, hs22⟩ := bind_some hs22
      refine XL_join 8 32 (.bool b38) ?_ (fun md hmd hk => ?_)
      rotate_left
      · obtain ⟨Q, rfl⟩ := Md.seq_of hmd
        rcases btf (x29 != x27) with hc40 | hc40
        · skip
          refine XL_skip (w_skip rfl hc40) rfl rfl ?_
          refine XL_skip (w_skip rfl hc40) rfl rfl ?_
          refine XL_skip (w_skip rfl hc40) rfl rfl ?_
          refine XL_skip (w_skip rfl hc40) rfl rfl ?_
          refine XL_skip (w_skip rfl hc40) rfl rfl ?_
          refine XL_skip (w_skip rfl hc40) rfl rfl ?_
          refine XL_skip (w_skip rfl hc40) rfl rfl ?_
          refine XL_q rfl (qt_pickT rfl hc40 rfl) rfl rfl ?_
          exact hk _ (Cov.same (vb (if_t hc40 hg39)) (Cov.fresh rfl (Cov.fresh rfl (Cov.fresh rfl (Cov.fresh rfl (Cov.fresh rfl (Cov.fresh rfl (Cov.fresh rfl (Cov.refl)))))))))
        · skip
          have hg39 := if_f hc40 hg39
          refine XL_q (w_take rfl hc40) (qt_move rfl) rfl rfl ?_
          refine XL_lenH H25.ctx (t := .str) (Has.c (Has.hd)) u50 (w_take rfl hc40) rfl rfl ?_
          refine XL_q (w_take rfl hc40) (qt_move rfl) rfl rfl ?_
          obtain ⟨x41, hx42, hg39⟩ := bind_some hg39
          refine XL_indexA H25.ctx (hGl.2.c.c.has) rfl hx42 u49 i3 (w_take rfl hc40) rfl rfl rfl (fun b43 off44 cap45 hv46 => ?_)
          obtain ⟨F47, hat48, hdup49⟩ := H25.at (hGl.2.c.c.has) hx42 hv46
          refine XL_load_int (k := .i64) u3 rfl hat48 (w_take rfl hc40) rfl rfl ?_
          refine XL_q (w_take rfl hc40) (qt_add rfl rfl) rfl rfl ?_
          refine XL_q (w_take rfl hc40) (qt_neq rfl rfl) rfl rfl ?_
          refine XL_q rfl (qt_pickF rfl hc40 rfl) rfl rfl ?_
          exact hk _ (Cov.same (vb hg39) (Cov.fresh rfl (Cov.fresh rfl (Cov.fresh rfl (Cov.fresh rfl (Cov.fresh rfl (Cov.fresh rfl (Cov.fresh rfl (Cov.refl)))))))))
      refine WL_nil_seq ?_
      refine WP_cond rfl (fun hc50 => ?_) (fun hc50 => ?_)
      · have hs22 := if_t hc50 hs22
        refine WP_exit fun a ha => ?_
        refine exit_seq (exit_block_eq (nrm_seq (WP.app ?_ ha)))
        refine WP_region ?_
        refine XL_q rfl (qt_add rfl rfl) rfl rfl ?_
        refine XL_q rfl (qt_move rfl) rfl rfl ?_
        refine WL_nil fun a ha => ?_
        obtain rfl := Option.some.inj hs22
        have H51 : Holds (([] : List Res).flatMap Res.own) w w21 [.bx b1 25 [.int .i64 s12, .int .i64 s13, .int .i64 s14, .int .i64 s15], .sl 9 .str v9 x5] G := ((H25.pull 1).pull 1)
        exact ⟨rfl, ha.sub ⟨rfl, rfl, rfl, rfl, trivial⟩, H51⟩
      · have hs22 := if_f hc50 hs22
        refine WP_skip_seq ?_
        refine WP_seq ?_
        refine WP_region ?_
        refine WL_alloc (cs := [.int .i64 0, .int .i64 0, .int .i64 0]) H25 z47 rfl rfl rfl (fun b52 w53 H54 => ?_)
        have H55 : Holds (([] : List Res).flatMap Res.own) w w53 [.bx b52 47 [.int .i64 0, .int .i64 0, .int .i64 0], .bx b1 25 [.int .i64 s12, .int .i64 s13, .int .i64 s14, .int .i64 s15], .sl 9 .str v9 x5] G := H54
        have H56 : Holds (([] : List Res).flatMap Res.own) w w53 [.sl 47 (.int .i64) (.slice (some ⟨b52, 0, none⟩) 3 3) ([0, 0, 0] : List Int), .bx b1 25 [.int .i64 s12, .int .i64 s13, .int .i64 s14, .int .i64 s15], .sl 9 .str v9 x5] G := Holds.bx_sl (t := (.int .i64)) (xs := [0, 0, 0]) H55 (fun _ => ⟨[_], _, [], [], rfl, rfl, ⟨rfl, rfl⟩, ⟨[_], _, [], [], rfl, rfl, ⟨rfl, rfl⟩, ⟨[_], _, [], [], rfl, rfl, ⟨rfl, rfl⟩, ⟨rfl, rfl⟩⟩⟩⟩) rfl rfl
        refine WL_nil_seq ?_
        refine WP_seq ?_
        refine WP_seq ?_
        refine WP_region ?_
        refine XL_q rfl (qt_move rfl) rfl rfl ?_
        obtain ⟨x57, hx58, hs22⟩ := bind_some hs22
        refine XL_sliceH H56.ctx (Has.c (Has.c (Has.hd))) hx58 u50 i9 ⟨_, rfl⟩ rfl rfl rfl rfl ?_
        refine XL_lenH H56.ctx (t := .str) (Has.sub (Has.c (Has.c (Has.hd))) hx58) u50 rfl rfl rfl ?_
        refine XL_q rfl (qt_move rfl) rfl rfl ?_
        refine WL_nil_seq ?_
        refine WP_block ?_
        obtain ⟨o65, ho66, hs22⟩ := bind_some hs22
        have H69 : Holds (([] : List Res).flatMap Res.own) w w53 [.bx b1 25 [.int .i64 s12, .int .i64 s13, .int .i64 s14, .int .i64 s15], .sl 47 (.int .i64) (.slice (some ⟨b52, 0, none⟩) 3 3) ([0, 0, 0] : List Int), .sl 9 .str v9 x5] G := (((H56.pull 2).pull 1).pull 2)
        refine fun a67 ha68 => wp_loop_fix (I := fun s a w2 => match s with | (s59, s60, s61, s62, s63, s64) => (Fr a 63 [(2, .pointer (some ⟨b1, 0, none⟩)), (5, .int .i64 s11), (7, .pointer (some ⟨b52, 0, none⟩)), (34, (subV (Ty.size .str) v9 (Int.toNat 1) (Int.toNat (List.length x5 : Int)))), (35, .int .i64 (List.length x57 : Int)), (36, .int .i64 s59)] ∧ Holds (([] : List Res).flatMap Res.own) w w2 [.bx b1 25 [.int .i64 s60, .int .i64 s61, .int .i64 s62, .int .i64 s63], .sl 47 (.int .i64) (.slice (some ⟨b52, 0, none⟩) 3 3) s64, .sl 9 .str v9 x5] G)) (O := fun o e a w2 => match o with | .inl (q0, q1, q2, q3, q4) => e = .exit 2 ∧ (Fr a 63 [(2, .pointer (some ⟨b1, 0, none⟩)), (5, .int .i64 s11), (7, .pointer (some ⟨b52, 0, none⟩))] ∧ Holds (([] : List Res).flatMap Res.own) w w2 [.bx b1 25 [.int .i64 q0, .int .i64 q1, .int .i64 q2, .int .i64 q3], .sl 47 (.int .i64) (.slice (some ⟨b52, 0, none⟩) 3 3) q4] G) | .inr (q0, q1, q2, q3, q4, q5) => e = .ret ∧ (Fr a 63 [(2, .pointer (some ⟨b1, 0, none⟩)), (3, .bool q0)] ∧ Holds (([] : List Res).flatMap Res.own) w w2 [.bx b1 25 [.int .i64 q1, .int .i64 q2, .int .i64 q3, .int .i64 q4]] G)) ho66 ?_ ?_ ?_
        · exact ⟨ha68.sub ⟨rfl, rfl, rfl, rfl, rfl, rfl, trivial⟩, H69⟩
        · clear ha68
          intro s o72 a w70 hs71 hI73
          obtain ⟨s59, s60, s61, s62, s63, s64⟩ := s
          obtain ⟨ha, H74⟩ := hI73
          refine WP.app ?_ ha
          clear ha
          refine WP_seq ?_
          refine WP_region ?_
          refine XL_q rfl (qt_lss rfl rfl) rfl rfl ?_
          refine WL_nil_seq ?_
          refine WP_seq ?_
          refine WP_cond rfl (fun hc75 => ?_) (fun hc75 => ?_)
          · have hs71 := if_t hc75 hs71
            refine WP_skip_seq ?_
            refine WP_seq ?_
            refine WP_block ?_
            refine WP_seq ?_
            refine WP_region ?_
            refine XL_q rfl (qt_move rfl) rfl rfl ?_
            obtain ⟨x76, hx77, hs71⟩ := bind_some hs71
            refine XL_indexH H74.ctx (Has.sub (Has.c (Has.c (Has.hd))) hx58) hx77 u50 i9 rfl rfl rfl rfl (fun b78 off79 cap80 hv81 => ?_)
            obtain ⟨F82, hat83, hdup84⟩ := H74.at (Has.sub (Has.c (Has.c (Has.hd))) hx58) hx77 hv81
            refine XL_load_str u9 rfl hat83 rfl rfl rfl ?_
            refine XL_q rfl (qt_assign rfl) rfl rfl ?_
            refine XL_q rfl (qt_assign rfl) rfl rfl ?_
            refine WL_nil_seq ?_
            refine WP_seq ?_
            refine WP_region ?_
            refine XL_q rfl (qt_move rfl) rfl rfl ?_
            obtain ⟨x85, hx86, hs71⟩ := bind_some hs71
            refine WL_call rfl rfl c31 (w_impl_readNumber w70 ([.bx b1 25 [.int .i64 s60, .int .i64 s61, .int .i64 s62, .int .i64 s63], .sl 47 (.int .i64) (.slice (some ⟨b52, 0, none⟩) 3 3) s64, .sl 9 .str v9 x5] ++ G) x76 3 x85 hx86 H74.ctx) (by rfl) ?_
            rintro _ w87 ⟨rfl, H88⟩; refine ⟨_, rfl, ?_⟩
            have H89 : Holds (([] : List Res).flatMap Res.own) w w87 [.bx b1 25 [.int .i64 s60, .int .i64 s61, .int .i64 s62, .int .i64 s63], .sl 47 (.int .i64) (.slice (some ⟨b52, 0, none⟩) 3 3) s64, .sl 9 .str v9 x5] G := H74.calledN (Rs := []) H88
            refine XL_q rfl (qt_move rfl) rfl rfl ?_
            refine XL_q rfl (qt_extract rfl rfl) rfl rfl ?_
            refine XL_q rfl (qt_extract rfl rfl) rfl rfl ?_
            refine XL_q rfl (qt_assign rfl) rfl rfl ?_
            refine XL_q rfl (qt_assign rfl) rfl rfl ?_
            refine WL_nil_seq ?_
            refine WP_seq ?_
            refine WP_seq ?_
            refine WP_region ?_
            refine XL_q rfl (qt_move rfl) rfl rfl ?_
            refine XL_q rfl (qt_not rfl) rfl rfl ?_
            refine WL_nil_seq ?_
            refine WP_cond rfl (fun hc90 => ?_) (fun hc90 => ?_)
            · have hs71 := if_t hc90 hs71
              refine WP_seq ?_
              refine WP_region ?_
              refine XL_q rfl (qt_build (args := []) (css := []) (cells := #[.int .i64 0, .int .i64 0, .int .i64 0, .int .i64 0]) rfl trivial (by kernel_rfl)) rfl rfl ?_
              refine WL_store_bxA (cs' := [.int .i64 0, .int .i64 0, .int .i64 0, .int .i64 0]) H89 rfl il25 rfl rfl rfl rfl rfl (fun w91 H92 => ?_)
              have H93 : Holds (([] : List Res).flatMap Res.own) w w91 [.bx b1 25 [.int .i64 0, .int .i64 0, .int .i64 0, .int .i64 0], .sl 47 (.int .i64) (.slice (some ⟨b52, 0, none⟩) 3 3) s64, .sl 9 .str v9 x5] G := H92
              refine XL_q rfl (qt_assign rfl) rfl rfl ?_
              refine WL_nil_seq ?_
              refine WP_ret fun a ha => ?_
              obtain rfl := Option.some.inj hs71
              have H94 : Holds (([] : List Res).flatMap Res.own) w w91 [.bx b1 25 [.int .i64 0, .int .i64 0, .int .i64 0, .int .i64 0]] G := ((H93.cut 1).cut 1)
              exact ret_seq (ret_block (ret_seq (⟨ret_ne, rfl, ha.sub ⟨rfl, rfl, trivial⟩, H94⟩)))
            · have hs71 := if_f hc90 hs71
              refine WP_skip_seq ?_
              refine WP_region ?_
              refine XL_q rfl (qt_move rfl) rfl rfl ?_
              refine XL_q rfl (qt_move rfl) rfl rfl ?_
              obtain ⟨x95, hx96, hs71⟩ := bind_some hs71
              refine XL_indexA H89.ctx (Has.c (Has.hd)) rfl hx96 u47 i3 rfl rfl rfl rfl (fun b97 off98 cap99 hv100 => ?_)
              have H101 : Holds (([] : List Res).flatMap Res.own) w w87 [.sl 47 (.int .i64) (.slice (some ⟨b52, 0, none⟩) 3 3) s64, .bx b1 25 [.int .i64 s60, .int .i64 s61, .int .i64 s62, .int .i64 s63], .sl 9 .str v9 x5] G := H89.pull 1
              refine WL_storeH (fo := 0) (cs' := [.int .i64 x85.1]) H101 hx96 hv100 (Upd.whole (Blt.int)) rfl il3 rfl rfl rfl rfl (fun w102 H103 => ?_)
              have H104 : Holds (([] : List Res).flatMap Res.own) w w102 [.sl 47 (.int .i64) (.slice (some ⟨b52, 0, none⟩) 3 3) (List.set s64 (Int.toNat s59) x85.1), .bx b1 25 [.int .i64 s60, .int .i64 s61, .int .i64 s62, .int .i64 s63], .sl 9 .str v9 x5] G := H103
              refine WL_nil fun a ha => ?_
              refine nrm_block (nrm_seq (WP.app ?_ ha))
              refine WP_region ?_
              refine XL_q rfl (qt_add rfl rfl) rfl rfl ?_
              refine XL_q rfl (qt_move rfl) rfl rfl ?_
              refine WL_nil fun a ha => ?_
              obtain rfl := Option.some.inj hs71
              have H105 : Holds (([] : List Res).flatMap Res.own) w w102 [.bx b1 25 [.int .i64 s60, .int .i64 s61, .int .i64 s62, .int .i64 s63], .sl 47 (.int .i64) (.slice (some ⟨b52, 0, none⟩) 3 3) (List.set s64 (Int.toNat s59) x85.1), .sl 9 .str v9 x5] G := (((H104.pull 2).pull 1).pull 2)
              exact ⟨rfl, ha.sub ⟨rfl, rfl, rfl, rfl, rfl, rfl, trivial⟩, H105⟩
          · have hs71 := if_f hc75 hs71
            refine WP_exit fun a ha => ?_
            obtain rfl := Option.some.inj hs71
            have H106 : Holds (([] : List Res).flatMap Res.own) w w70 [.bx b1 25 [.int .i64 s60, .int .i64 s61, .int .i64 s62, .int .i64 s63], .sl 47 (.int .i64) (.slice (some ⟨b52, 0, none⟩) 3 3) s64] G := (((H74.cut 2).pull 1).pull 1)
            exact exit_seq (⟨exit_ne, rfl, ha.sub ⟨rfl, rfl, rfl, trivial⟩, H106⟩)
        · intro e a67 w107 hO108
          rcases o65 with o65 | o65
          · skip
            obtain ⟨p109, p110, p111, p112, p113⟩ := o65
            obtain ⟨rfl, hO115⟩ := hO108
            obtain ⟨ha, H114⟩ := hO115
            refine exit_block_eq (nrm_seq (WP.app ?_ ha))
            refine WP_seq ?_
            refine WP_region ?_
            refine XL_q rfl (qt_move rfl) rfl rfl ?_
            obtain ⟨x116, hx117, hs22⟩ := bind_some hs22
            refine XL_indexA H114.ctx (Has.c (Has.hd)) rfl hx117 u47 i3 rfl rfl rfl rfl (fun b118 off119 cap120 hv121 => ?_)
            obtain ⟨F122, hat123, hdup124⟩ := H114.at (Has.c (Has.hd)) hx117 hv121
            refine XL_load_int (k := .i64) u3 rfl hat123 rfl rfl rfl ?_
            obtain ⟨x125, hx126, hs22⟩ := bind_some hs22
            refine XL_indexA H114.ctx (Has.c (Has.hd)) rfl hx126 u47 i3 rfl rfl rfl rfl (fun b127 off128 cap129 hv130 => ?_)
            obtain ⟨F131, hat132, hdup133⟩ := H114.at (Has.c (Has.hd)) hx126 hv130
            refine XL_load_int (k := .i64) u3 rfl hat132 rfl rfl rfl ?_
            obtain ⟨x134, hx135, hs22⟩ := bind_some hs22
            refine XL_indexA H114.ctx (Has.c (Has.hd)) rfl hx135 u47 i3 rfl rfl rfl rfl (fun b136 off137 cap138 hv139 => ?_)
            obtain ⟨F140, hat141, hdup142⟩ := H114.at (Has.c (Has.hd)) hx135 hv139
            refine XL_load_int (k := .i64) u3 rfl hat141 rfl rfl rfl ?_
            refine XL_q rfl (qt_build (args := [(0, .tmp 53), (1, .tmp 55), (2, .tmp 57), (3, .tmp 59)]) (css := [#[.int .i64 s11], #[.int .i64 x116], #[.int .i64 x125], #[.int .i64 x134]]) (cells := #[.int .i64 s11, .int .i64 x116, .int .i64 x125, .int .i64 x134]) rfl ⟨rfl, rfl, rfl, rfl, trivial⟩ (by kernel_rfl)) rfl rfl ?_
            refine WL_store_bxA (cs' := [.int .i64 s11, .int .i64 x116, .int .i64 x125, .int .i64 x134]) H114 rfl il25 rfl rfl rfl rfl rfl (fun w143 H144 => ?_)
            have H145 : Holds (([] : List Res).flatMap Res.own) w w143 [.bx b1 25 [.int .i64 s11, .int .i64 x116, .int .i64 x125, .int .i64 x134], .sl 47 (.int .i64) (.slice (some ⟨b52, 0, none⟩) 3 3) p113] G := H144
            refine XL_q rfl (qt_assign rfl) rfl rfl ?_
            refine WL_nil_seq ?_
            refine WP_ret fun a ha => ?_
            obtain rfl := Option.some.inj hs22
            have H146 : Holds (([] : List Res).flatMap Res.own) w w143 [.bx b1 25 [.int .i64 s11, .int .i64 x116, .int .i64 x125, .int .i64 x134]] G := (H145.cut 1)
            exact ret_block (ret_seq (⟨ret_ne, rfl, ha.sub ⟨rfl, rfl, trivial⟩, H146⟩))
          · skip
            obtain ⟨p147, p148, p149, p150, p151, p152⟩ := o65
            obtain ⟨rfl, hO154⟩ := hO108
            obtain ⟨ha, H153⟩ := hO154
            obtain rfl := Option.some.inj hs22
            exact ret_block (ret_seq (ret_block (ret_seq (⟨ret_ne, rfl, ha.sub ⟨rfl, rfl, trivial⟩, H153⟩))))
    · have hs22 := if_f hc26 hs22
      refine WP_exit fun a ha => ?_
      obtain rfl := Option.some.inj hs22
      have H155 : Holds (([] : List Res).flatMap Res.own) w w21 [.bx b1 25 [.int .i64 s12, .int .i64 s13, .int .i64 s14, .int .i64 s15]] G := (H25.cut 1)
      exact exit_seq (⟨exit_ne, rfl, ha.sub ⟨rfl, trivial⟩, H155⟩)
  · intro e a18 w156 hO157
    rcases o16 with o16 | o16
    · skip
      obtain ⟨p158, p159, p160, p161⟩ := o16
      obtain ⟨rfl, hO163⟩ := hO157
      obtain ⟨ha, H162⟩ := hO163
      refine exit_block_eq (nrm_seq (WP.app ?_ ha))
      refine WP_seq ?_
      refine WP_region ?_
      refine XL_q rfl (qt_build (args := []) (css := []) (cells := #[.int .i64 0, .int .i64 0, .int .i64 0, .int .i64 0]) rfl trivial (by kernel_rfl)) rfl rfl ?_
      refine WL_store_bxA (cs' := [.int .i64 0, .int .i64 0, .int .i64 0, .int .i64 0]) H162 rfl il25 rfl rfl rfl rfl rfl (fun w164 H165 => ?_)
      have H166 : Holds (([] : List Res).flatMap Res.own) w w164 [.bx b1 25 [.int .i64 0, .int .i64 0, .int .i64 0, .int .i64 0]] G := H165
      refine XL_q rfl (qt_assign rfl) rfl rfl ?_
      refine WL_nil_seq ?_
      refine WP_ret fun a ha => ?_
      obtain rfl := Option.some.inj h
      have hB167 : Bx w164 b1 25 [.int .i64 0, .int .i64 0, .int .i64 0, .int .i64 0] := Holds.bx (H166.pull 0)
      have H168 : Holds (([] : List Res).flatMap Res.own) w w164 [] G := (H166.cut 0)
      exact retct rfl ha rfl rfl (run_loadVar_bx (cs := [.int .i64 0, .int .i64 0, .int .i64 0, .int .i64 0]) us25 uo25 il25 hB167) ⟨rfl, H168⟩
    · skip
      obtain ⟨p169, p170, p171, p172, p173⟩ := o16
      obtain ⟨rfl, hO175⟩ := hO157
      obtain ⟨ha, H174⟩ := hO175
      obtain rfl := Option.some.inj h
      have hB176 : Bx w156 b1 25 [.int .i64 p170, .int .i64 p171, .int .i64 p172, .int .i64 p173] := Holds.bx (H174.pull 0)
      have H177 : Holds (([] : List Res).flatMap Res.own) w w156 [] G := (H174.cut 0)
      exact ret_block (ret_seq (retct rfl ha rfl rfl (run_loadVar_bx (cs := [.int .i64 p170, .int .i64 p171, .int .i64 p172, .int .i64 p173]) us25 uo25 il25 hB176) ⟨rfl, H177⟩))
theorem w_laws_eqHouseDeed (w : World) (G : List Res) (p0_0 : Int) (p0_1 : Int) (p0_2 : Int) (p0_3 : Int) (p1_0 : Int) (p1_1 : Int) (p1_2 : Int) (p1_3 : Int) (r : Bool) (h : laws_eqHouseDeedS p0_0 p0_1 p0_2 p0_3 p1_0 p1_1 p1_2 p1_3 = some r) (H : Ctx w G) : Calls Tryd.prog 12 #[.agg #[.int .i64 p0_0, .int .i64 p0_1, .int .i64 p0_2, .int .i64 p0_3], .agg #[.int .i64 p1_0, .int .i64 p1_1, .int .i64 p1_2, .int .i64 p1_3]] w fun e w' => e = .returned (.bool r) ∧ Holds (([] : List Res).flatMap Res.own) w w' [] G := by
  have H : Holds (([] : List Res).flatMap Res.own) w w [] G := Holds.startN H
  refine calls_enter (args := [.agg #[.int .i64 p0_0, .int .i64 p0_1, .int .i64 p0_2, .int .i64 p0_3], .agg #[.int .i64 p1_0, .int .i64 p1_1, .int .i64 p1_2, .int .i64 p1_3]]) (n := 25) Tryd.func12 rfl rfl rfl ?_
  unfold laws_eqHouseDeedS at h
  refine WP_seq ?_
  refine WP_region ?_
  refine WL_box (cs := [.int .i64 p0_0, .int .i64 p0_1, .int .i64 p0_2, .int .i64 p0_3]) H rfl rfl rfl rfl (fun b1 w2 H3 => ?_)
  have H4 : Holds (([] : List Res).flatMap Res.own) w w2 [.bx b1 25 [.int .i64 p0_0, .int .i64 p0_1, .int .i64 p0_2, .int .i64 p0_3]] G := H3
  refine WL_box (cs := [.int .i64 p1_0, .int .i64 p1_1, .int .i64 p1_2, .int .i64 p1_3]) H4 rfl rfl rfl rfl (fun b5 w6 H7 => ?_)
  have H8 : Holds (([] : List Res).flatMap Res.own) w w6 [.bx b5 25 [.int .i64 p1_0, .int .i64 p1_1, .int .i64 p1_2, .int .i64 p1_3], .bx b1 25 [.int .i64 p0_0, .int .i64 p0_1, .int .i64 p0_2, .int .i64 p0_3]] G := H7
  refine XL_q rfl (qt_assign rfl) rfl rfl ?_
  refine WL_nil_seq ?_
  refine WP_seq ?_
  refine WP_seq ?_
  refine WP_region ?_
  refine XL_q rfl (qt_fieldAddr uf25 fi25_0 nz3 rfl) rfl rfl ?_
  have hB9 : Bx w6 b1 25 [.int .i64 p0_0, .int .i64 p0_1, .int .i64 p0_2, .int .i64 p0_3] := Holds.bx (H8.pull 1)
  refine XL_load_bx u3 rfl hB9 rfl rfl rfl rfl ?_
  refine XL_q rfl (qt_fieldAddr uf25 fi25_0 nz3 rfl) rfl rfl ?_
  have hB10 : Bx w6 b5 25 [.int .i64 p1_0, .int .i64 p1_1, .int .i64 p1_2, .int .i64 p1_3] := Holds.bx (H8.pull 0)
  refine XL_load_bx u3 rfl hB10 rfl rfl rfl rfl ?_
  refine XL_q rfl (qt_neq rfl rfl) rfl rfl ?_
  refine WL_nil_seq ?_
  refine WP_cond rfl (fun hc11 => ?_) (fun hc11 => ?_)
  · have h := if_t hc11 h
    refine WP_seq ?_
    refine WP_region ?_
    refine XL_q rfl (qt_assign rfl) rfl rfl ?_
    refine WL_nil_seq ?_
    refine WP_ret fun a ha => ?_
    obtain rfl := Option.some.inj h
    have H12 : Holds (([] : List Res).flatMap Res.own) w w6 [] G := ((H8.cut 0).cut 0)
    exact ret_seq (ret1 rfl ha rfl ⟨rfl, H12⟩)
  · have h := if_f hc11 h
    refine WP_skip_seq ?_
    refine WP_seq ?_
    refine WP_seq ?_
    refine WP_region ?_
    refine XL_q rfl (qt_fieldAddr uf25 fi25_1 nz3 rfl) rfl rfl ?_
    have hB13 : Bx w6 b1 25 [.int .i64 p0_0, .int .i64 p0_1, .int .i64 p0_2, .int .i64 p0_3] := Holds.bx (H8.pull 1)
    refine XL_load_bx u3 rfl hB13 rfl rfl rfl rfl ?_
    refine XL_q rfl (qt_fieldAddr uf25 fi25_1 nz3 rfl) rfl rfl ?_
    have hB14 : Bx w6 b5 25 [.int .i64 p1_0, .int .i64 p1_1, .int .i64 p1_2, .int .i64 p1_3] := Holds.bx (H8.pull 0)
    refine XL_load_bx u3 rfl hB14 rfl rfl rfl rfl ?_
    refine XL_q rfl (qt_neq rfl rfl) rfl rfl ?_
    refine WL_nil_seq ?_
    refine WP_cond rfl (fun hc15 => ?_) (fun hc15 => ?_)
    · have h := if_t hc15 h
      refine WP_seq ?_
      refine WP_region ?_
      refine XL_q rfl (qt_assign rfl) rfl rfl ?_
      refine WL_nil_seq ?_
      refine WP_ret fun a ha => ?_
      obtain rfl := Option.some.inj h
      have H16 : Holds (([] : List Res).flatMap Res.own) w w6 [] G := ((H8.cut 0).cut 0)
      exact ret_seq (ret1 rfl ha rfl ⟨rfl, H16⟩)
    · have h := if_f hc15 h
      refine WP_skip_seq ?_
      refine WP_seq ?_
      refine WP_seq ?_
      refine WP_region ?_
      refine XL_q rfl (qt_fieldAddr uf25 fi25_2 nz3 rfl) rfl rfl ?_
      have hB17 : Bx w6 b1 25 [.int .i64 p0_0, .int .i64 p0_1, .int .i64 p0_2, .int .i64 p0_3] := Holds.bx (H8.pull 1)
      refine XL_load_bx u3 rfl hB17 rfl rfl rfl rfl ?_
      refine XL_q rfl (qt_fieldAddr uf25 fi25_2 nz3 rfl) rfl rfl ?_
      have hB18 : Bx w6 b5 25 [.int .i64 p1_0, .int .i64 p1_1, .int .i64 p1_2, .int .i64 p1_3] := Holds.bx (H8.pull 0)
      refine XL_load_bx u3 rfl hB18 rfl rfl rfl rfl ?_
      refine XL_q rfl (qt_neq rfl rfl) rfl rfl ?_
      refine WL_nil_seq ?_
      refine WP_cond rfl (fun hc19 => ?_) (fun hc19 => ?_)
      · have h := if_t hc19 h
        refine WP_seq ?_
        refine WP_region ?_
        refine XL_q rfl (qt_assign rfl) rfl rfl ?_
        refine WL_nil_seq ?_
        refine WP_ret fun a ha => ?_
        obtain rfl := Option.some.inj h
        have H20 : Holds (([] : List Res).flatMap Res.own) w w6 [] G := ((H8.cut 0).cut 0)
        exact ret_seq (ret1 rfl ha rfl ⟨rfl, H20⟩)
      · have h := if_f hc19 h
        refine WP_skip_seq ?_
        refine WP_seq ?_
        refine WP_seq ?_
        refine WP_region ?_
        refine XL_q rfl (qt_fieldAddr uf25 fi25_3 nz3 rfl) rfl rfl ?_
        have hB21 : Bx w6 b1 25 [.int .i64 p0_0, .int .i64 p0_1, .int .i64 p0_2, .int .i64 p0_3] := Holds.bx (H8.pull 1)
        refine XL_load_bx u3 rfl hB21 rfl rfl rfl rfl ?_
        refine XL_q rfl (qt_fieldAddr uf25 fi25_3 nz3 rfl) rfl rfl ?_
        have hB22 : Bx w6 b5 25 [.int .i64 p1_0, .int .i64 p1_1, .int .i64 p1_2, .int .i64 p1_3] := Holds.bx (H8.pull 0)
        refine XL_load_bx u3 rfl hB22 rfl rfl rfl rfl ?_
        refine XL_q rfl (qt_neq rfl rfl) rfl rfl ?_
        refine WL_nil_seq ?_
        refine WP_cond rfl (fun hc23 => ?_) (fun hc23 => ?_)
        · have h := if_t hc23 h
          refine WP_seq ?_
          refine WP_region ?_
          refine XL_q rfl (qt_assign rfl) rfl rfl ?_
          refine WL_nil_seq ?_
          refine WP_ret fun a ha => ?_
          obtain rfl := Option.some.inj h
          have H24 : Holds (([] : List Res).flatMap Res.own) w w6 [] G := ((H8.cut 0).cut 0)
          exact ret_seq (ret1 rfl ha rfl ⟨rfl, H24⟩)
        · have h := if_f hc23 h
          refine WP_skip_seq ?_
          refine WP_seq ?_
          refine WP_region ?_
          refine XL_q rfl (qt_assign rfl) rfl rfl ?_
          refine WL_nil_seq ?_
          refine WP_ret fun a ha => ?_
          obtain rfl := Option.some.inj h
          have H25 : Holds (([] : List Res).flatMap Res.own) w w6 [] G := ((H8.cut 0).cut 0)
          exact ret1 rfl ha rfl ⟨rfl, H25⟩
theorem w_laws_FnExactReadDeed (w : World) (G : List Res) (hGl : Glob G) (hGm : GlobM G) (p0 : List UInt8) (r : Bool) (h : laws_FnExactReadDeedS p0 = some r) (H : Ctx w G) : Calls Tryd.prog 4 #[strV p0] w fun e w' => e = .returned (.bool r) ∧ Holds (([] : List Res).flatMap Res.own) w w' [] G := by
  have H : Holds (([] : List Res).flatMap Res.own) w w [] G := Holds.startN H
  refine calls_enter (args := [strV p0]) (n := 29) Tryd.func4 rfl rfl rfl ?_
  unfold laws_FnExactReadDeedS at h
  refine WP_seq ?_
  refine WP_region ?_
  refine XL_q rfl (qt_assign rfl) rfl rfl ?_
  refine WL_nil_seq ?_
  refine WP_seq ?_
  refine WP_seq ?_
  refine WP_region ?_
  refine XL_q rfl (qt_move rfl) rfl rfl ?_
  refine XL_q rfl (qt_slen u9 rfl) rfl rfl ?_
  refine XL_q rfl (qt_gtr rfl rfl) rfl rfl ?_
  refine WL_nil_seq ?_
  refine WP_cond rfl (fun hc1 => ?_) (fun hc1 => ?_)
  · have h := if_t hc1 h
    refine WP_seq ?_
    refine WP_region ?_
    refine XL_q rfl (qt_assign rfl) rfl rfl ?_
    refine WL_nil_seq ?_
    refine WP_ret fun a ha => ?_
    obtain rfl := Option.some.inj h
    exact ret_seq (ret1 rfl ha rfl ⟨rfl, H⟩)
  · have h := if_f hc1 h
    refine WP_skip_seq ?_
    refine WP_seq ?_
    refine WP_region ?_
    refine XL_q rfl (qt_move rfl) rfl rfl ?_
    obtain ⟨x2, hx3, h⟩ := bind_some h
    refine WL_call rfl rfl c10 (w_spec_ReadDeed w G p0 x2 hx3 H.ctx) (by rfl) ?_
    rintro _ w4 ⟨rfl, H5⟩; refine ⟨_, rfl, ?_⟩
    have H6 : Holds (([] : List Res).flatMap Res.own) w w4 [] G := H.calledN (Rs := []) H5
    refine XL_q rfl (qt_move rfl) rfl rfl ?_
    refine XL_q rfl (qt_extract rfl rfl) rfl rfl ?_
    refine XL_q rfl (qt_extract rfl rfl) rfl rfl ?_
    refine WL_alloc (cs := [.int .i64 0, .int .i64 0, .int .i64 0, .int .i64 0]) H6 z25 rfl rfl rfl (fun b7 w8 H9 => ?_)
    have H10 : Holds (([] : List Res).flatMap Res.own) w w8 [.bx b7 25 [.int .i64 0, .int .i64 0, .int .i64 0, .int .i64 0]] G := H9
    refine WL_store_bxA (cs' := [.int .i64 x2.1.1, .int .i64 x2.1.2.1, .int .i64 x2.1.2.2.1, .int .i64 x2.1.2.2.2]) H10 rfl il25 rfl rfl rfl rfl rfl (fun w11 H12 => ?_)
    have H13 : Holds (([] : List Res).flatMap Res.own) w w11 [.bx b7 25 [.int .i64 x2.1.1, .int .i64 x2.1.2.1, .int .i64 x2.1.2.2.1, .int .i64 x2.1.2.2.2]] G := H12
    refine XL_q rfl (qt_assign rfl) rfl rfl ?_
    refine WL_nil_seq ?_
    refine WP_seq ?_
    refine WP_region ?_
    refine XL_q rfl (qt_move rfl) rfl rfl ?_
    obtain ⟨x14, hx15, h⟩ := bind_some h
    refine WL_call rfl rfl c11 (w_impl_ReadDeed w11 ([.bx b7 25 [.int .i64 x2.1.1, .int .i64 x2.1.2.1, .int .i64 x2.1.2.2.1, .int .i64 x2.1.2.2.2]] ++ G) hGl.c hGm.c p0 x14 hx15 H13.ctx) (by rfl) ?_
    rintro _ w16 ⟨rfl, H17⟩; refine ⟨_, rfl, ?_⟩
    have H18 : Holds (([] : List Res).flatMap Res.own) w w16 [.bx b7 25 [.int .i64 x2.1.1, .int .i64 x2.1.2.1, .int .i64 x2.1.2.2.1, .int .i64 x2.1.2.2.2]] G := H13.calledN (Rs := []) H17
    refine XL_q rfl (qt_move rfl) rfl rfl ?_
    refine XL_q rfl (qt_extract rfl rfl) rfl rfl ?_
    refine XL_q rfl (qt_extract rfl rfl) rfl rfl ?_
    refine WL_alloc (cs := [.int .i64 0, .int .i64 0, .int .i64 0, .int .i64 0]) H18 z25 rfl rfl rfl (fun b19 w20 H21 => ?_)
    have H22 : Holds (([] : List Res).flatMap Res.own) w w20 [.bx b19 25 [.int .i64 0, .int .i64 0, .int .i64 0, .int .i64 0], .bx b7 25 [.int .i64 x2.1.1, .int .i64 x2.1.2.1, .int .i64 x2.1.2.2.1, .int .i64 x2.1.2.2.2]] G := H21
    refine WL_store_bxA (cs' := [.int .i64 x14.1.1, .int .i64 x14.1.2.1, .int .i64 x14.1.2.2.1, .int .i64 x14.1.2.2.2]) H22 rfl il25 rfl rfl rfl rfl rfl (fun w23 H24 => ?_)
    have H25 : Holds (([] : List Res).flatMap Res.own) w w23 [.bx b19 25 [.int .i64 x14.1.1, .int .i64 x14.1.2.1, .int .i64 x14.1.2.2.1, .int .i64 x14.1.2.2.2], .bx b7 25 [.int .i64 x2.1.1, .int .i64 x2.1.2.1, .int .i64 x2.1.2.2.1, .int .i64 x2.1.2.2.2]] G := H24
    refine XL_q rfl (qt_assign rfl) rfl rfl ?_
    refine WL_nil_seq ?_
    refine WP_seq ?_
    refine WP_seq ?_
    refine WP_still ?_
    have hB26 : Bx w23 b19 25 [.int .i64 x14.1.1, .int .i64 x14.1.2.1, .int .i64 x14.1.2.2.1, .int .i64 x14.1.2.2.2] := Holds.bx (H25.pull 0)
    refine XL_load_bxA (cs := [.int .i64 x14.1.1, .int .i64 x14.1.2.1, .int .i64 x14.1.2.2.1, .int .i64 x14.1.2.2.2]) us25 uo25 il25 hB26 rfl rfl rfl ?_
    change XL _ _ _ _ _ ((20, .agg #[.int .i64 x14.1.1, .int .i64 x14.1.2.1, .int .i64 x14.1.2.2.1, .int .i64 x14.1.2.2.2]) :: _) _
    have hB27 : Bx w23 b7 25 [.int .i64 x2.1.1, .int .i64 x2.1.2.1, .int .i64 x2.1.2.2.1, .int .i64 x2.1.2.2.2] := Holds.bx (H25.pull 1)
    refine XL_load_bxA (cs := [.int .i64 x2.1.1, .int .i64 x2.1.2.1, .int .i64 x2.1.2.2.1, .int .i64 x2.1.2.2.2]) us25 uo25 il25 hB27 rfl rfl rfl ?_
    change XL _ _ _ _ _ ((21, .agg #[.int .i64 x2.1.1, .int .i64 x2.1.2.1, .int .i64 x2.1.2.2.1, .int .i64 x2.1.2.2.2]) :: _) _
    obtain ⟨x28, hx29, h⟩ := bind_some h
    refine QL_call rfl rfl c12 (fun w' hb => (w_laws_eqHouseDeed w' ([.bx b19 25 [.int .i64 x14.1.1, .int .i64 x14.1.2.1, .int .i64 x14.1.2.2.1, .int .i64 x14.1.2.2.2], .bx b7 25 [.int .i64 x2.1.1, .int .i64 x2.1.2.1, .int .i64 x2.1.2.2.1, .int .i64 x2.1.2.2.2]] ++ G) x14.1.1 x14.1.2.1 x14.1.2.2.1 x14.1.2.2.2 x2.1.1 x2.1.2.1 x2.1.2.2.1 x2.1.2.2.2 x28 hx29 (H25.grow hb).ctx).mono fun e w'' hK => ⟨hK.1, hK.2.bel⟩) (by rfl) ?_
    refine XL_q rfl (qt_not rfl) rfl rfl ?_
    refine XL_q rfl (qt_move rfl) rfl rfl ?_
    refine XL_join 4 28 (.bool ((!x28) || (!(x14.2 == x2.2)))) ?_ (fun md hmd hk => ?_)
    rotate_left
    · obtain ⟨K, rfl⟩ := Md.quiet_of hmd
      rcases btf (!x28) with hc30 | hc30
      · skip
        refine XL_skip (w_skip rfl hc30) rfl rfl ?_
        refine XL_skip (w_skip rfl hc30) rfl rfl ?_
        refine XL_skip (w_skip rfl hc30) rfl rfl ?_
        refine XL_q rfl (qt_pickT rfl hc30 rfl) rfl rfl ?_
        exact hk _ (Cov.same (by rw [hc30]; rfl) (Cov.fresh rfl (Cov.fresh rfl (Cov.fresh rfl (Cov.refl)))))
      · skip
        refine XL_q (w_take rfl hc30) (qt_move rfl) rfl rfl ?_
        refine XL_q (w_take rfl hc30) (qt_move rfl) rfl rfl ?_
        refine XL_q (w_take rfl hc30) (qt_bneq u4 rfl rfl) rfl rfl ?_
        refine XL_q rfl (qt_pickF rfl hc30 rfl) rfl rfl ?_
        exact hk _ (Cov.same (by rw [hc30]; rfl) (Cov.fresh rfl (Cov.fresh rfl (Cov.fresh rfl (Cov.refl)))))
    refine QL_nil fun a ha w31 hb32 => ?_
    have H33 : Holds (([] : List Res).flatMap Res.own) w w31 [.bx b19 25 [.int .i64 x14.1.1, .int .i64 x14.1.2.1, .int .i64 x14.1.2.2.1, .int .i64 x14.1.2.2.2], .bx b7 25 [.int .i64 x2.1.1, .int .i64 x2.1.2.1, .int .i64 x2.1.2.2.1, .int .i64 x2.1.2.2.2]] G := H25.grow hb32
    refine nrm_seq (WP.app ?_ ha)
    refine WP_cond rfl (fun hc34 => ?_) (fun hc34 => ?_)
    · have h := if_t hc34 h
      refine WP_seq ?_
      refine WP_region ?_
      refine XL_q rfl (qt_assign rfl) rfl rfl ?_
      refine WL_nil_seq ?_
      refine WP_ret fun a ha => ?_
      obtain rfl := Option.some.inj h
      have H35 : Holds (([] : List Res).flatMap Res.own) w w31 [] G := ((H33.cut 0).cut 0)
      exact ret_seq (ret1 rfl ha rfl ⟨rfl, H35⟩)
    · have h := if_f hc34 h
      refine WP_skip_seq ?_
      refine WP_seq ?_
      refine WP_region ?_
      refine XL_q rfl (qt_assign rfl) rfl rfl ?_
      refine WL_nil_seq ?_
      refine WP_ret fun a ha => ?_
      obtain rfl := Option.some.inj h
      have H36 : Holds (([] : List Res).flatMap Res.own) w w31 [] G := ((H33.cut 0).cut 0)
      exact ret1 rfl ha rfl ⟨rfl, H36⟩
theorem w_spec_ReadJournal (w : World) (G : List Res) (p0 : List UInt8) (r : (List (Int × Int × Int × Int)) × Int) (h : spec_ReadJournalS p0 = some r) (H : Ctx w G) : Calls Tryd.prog 18 #[strV p0] w fun e w' => ∃ (v1 : Value), e = .returned (.tuple #[v1, .int .i64 r.2]) ∧ Holds (([] : List Res).flatMap Res.own) w w' [.sl 25 (.pair (.int .i64) (.pair (.int .i64) (.pair (.int .i64) (.int .i64)))) v1 r.1] G := by
  have H : Holds (([] : List Res).flatMap Res.own) w w [] G := Holds.startN H
  refine calls_enter (args := [strV p0]) (n := 40) Tryd.func18 rfl rfl rfl ?_
  unfold spec_ReadJournalS at h
  refine WP_seq ?_
  refine WP_region ?_
  refine XL_q rfl (qt_assign rfl) rfl rfl ?_
  refine XL_q rfl (qt_assign rfl) rfl rfl ?_
  refine WL_nil_seq ?_
  refine WP_seq ?_
  refine WP_region ?_
  refine WL_buildH (t := (.pair (.int .i64) (.pair (.int .i64) (.pair (.int .i64) (.int .i64))))) (args := []) (xs := ([] : List (Int × Int × Int × Int))) H (BltL.nil) u35 j25 rfl rfl rfl rfl rfl rfl (fun v1 w2 H3 => ?_)
  have H4 : Holds (([] : List Res).flatMap Res.own) w w2 [.sl 25 (.pair (.int .i64) (.pair (.int .i64) (.pair (.int .i64) (.int .i64)))) v1 ([])] G := H3
  refine XL_q rfl (qt_assign rfl) rfl rfl ?_
  refine WL_nil_seq ?_
  refine WP_seq ?_
  refine WP_region ?_
  refine XL_q rfl (qt_assign rfl) rfl rfl ?_
  refine WL_nil_seq ?_
  refine WP_seq ?_
  refine WP_seq ?_
  refine WP_region ?_
  refine XL_q rfl (qt_assign rfl) rfl rfl ?_
  refine WL_nil_seq ?_
  refine WP_block ?_
  obtain ⟨o8, ho9, h⟩ := bind_some h
  refine fun a10 ha11 => wp_loop_fix (I := fun s a w2 => match s with | (s5, s6, s7) => ∃ vs5, Fr a 40 [(0, strV p0), (4, vs5), (5, .int .i64 s6), (6, .int .i64 s7)] ∧ Holds (([] : List Res).flatMap Res.own) w w2 [.sl 25 (.pair (.int .i64) (.pair (.int .i64) (.pair (.int .i64) (.int .i64)))) vs5 s5] G) (O := fun o e a w2 => match o with | .inl (q0, q1) => e = .exit 0 ∧ ∃ vq0, Fr a 40 [(4, vq0), (5, .int .i64 q1)] ∧ Holds (([] : List Res).flatMap Res.own) w w2 [.sl 25 (.pair (.int .i64) (.pair (.int .i64) (.pair (.int .i64) (.int .i64)))) vq0 q0] G | .inr (q0, q1) => e = .ret ∧ ∃ vq0, Fr a 40 [(2, vq0), (3, .int .i64 q1)] ∧ Holds (([] : List Res).flatMap Res.own) w w2 [.sl 25 (.pair (.int .i64) (.pair (.int .i64) (.pair (.int .i64) (.int .i64)))) vq0 q0] G) ho9 ?_ ?_ ?_
  · exact ⟨v1, ha11.sub ⟨rfl, rfl, rfl, rfl, trivial⟩, H4⟩
  · clear ha11
    intro s o14 a w12 hs13 hI15
    obtain ⟨s5, s6, s7⟩ := s
    obtain ⟨vs5, ha, H16⟩ := hI15
    refine WP.app ?_ ha
    clear ha
    refine WP_seq ?_
    refine WP_seq ?_
    refine WP_region ?_
    refine XL_q rfl (qt_move rfl) rfl rfl ?_
    refine XL_q rfl (qt_move rfl) rfl rfl ?_
    refine XL_q rfl (qt_slen u9 rfl) rfl rfl ?_
    refine XL_q rfl (qt_lss rfl rfl) rfl rfl ?_
    refine WL_nil_seq ?_
    refine WP_cond rfl (fun hc17 => ?_) (fun hc17 => ?_)
    · have hs13 := if_t hc17 hs13
      refine WP_skip_seq ?_
      refine WP_seq ?_
      refine WP_block ?_
      refine WP_seq ?_
      refine WP_region ?_
      refine XL_q rfl (qt_move rfl) rfl rfl ?_
      refine XL_q rfl (qt_move rfl) rfl rfl ?_
      obtain ⟨x18, hx19, hs13⟩ := bind_some hs13
      refine XL_q rfl (qt_sidx u9 rfl rfl hx19) rfl rfl ?_
      refine XL_q rfl (qt_eql rfl rfl) rfl rfl ?_
      refine WL_nil_seq ?_
      refine WP_cond rfl (fun hc20 => ?_) (fun hc20 => ?_)
      · have hs13 := if_t hc20 hs13
        refine WP_seq ?_
        refine WP_region ?_
        refine XL_q rfl (qt_move rfl) rfl rfl ?_
        refine XL_q rfl (qt_move rfl) rfl rfl ?_
        refine XL_q rfl (qt_move rfl) rfl rfl ?_
        obtain ⟨x21, hx22, hs13⟩ := bind_some hs13
        refine XL_q rfl (qt_ssub u9 ⟨_, rfl⟩ ⟨_, rfl⟩ rfl hx22) rfl rfl ?_
        obtain ⟨x23, hx24, hs13⟩ := bind_some hs13
        refine WL_call rfl rfl c10 (w_spec_ReadDeed w12 ([.sl 25 (.pair (.int .i64) (.pair (.int .i64) (.pair (.int .i64) (.int .i64)))) vs5 s5] ++ G) x21 x23 hx24 H16.ctx) (by rfl) ?_
        rintro _ w25 ⟨rfl, H26⟩; refine ⟨_, rfl, ?_⟩
        have H27 : Holds (([] : List Res).flatMap Res.own) w w25 [.sl 25 (.pair (.int .i64) (.pair (.int .i64) (.pair (.int .i64) (.int .i64)))) vs5 s5] G := H16.calledN (Rs := []) H26
        refine XL_q rfl (qt_move rfl) rfl rfl ?_
        refine XL_q rfl (qt_extract rfl rfl) rfl rfl ?_
        refine XL_q rfl (qt_extract rfl rfl) rfl rfl ?_
        refine WL_alloc (cs := [.int .i64 0, .int .i64 0, .int .i64 0, .int .i64 0]) H27 z25 rfl rfl rfl (fun b28 w29 H30 => ?_)
        have H31 : Holds (([] : List Res).flatMap Res.own) w w29 [.bx b28 25 [.int .i64 0, .int .i64 0, .int .i64 0, .int .i64 0], .sl 25 (.pair (.int .i64) (.pair (.int .i64) (.pair (.int .i64) (.int .i64)))) vs5 s5] G := H30
        refine WL_store_bxA (cs' := [.int .i64 x23.1.1, .int .i64 x23.1.2.1, .int .i64 x23.1.2.2.1, .int .i64 x23.1.2.2.2]) H31 rfl il25 rfl rfl rfl rfl rfl (fun w32 H33 => ?_)
        have H34 : Holds (([] : List Res).flatMap Res.own) w w32 [.bx b28 25 [.int .i64 x23.1.1, .int .i64 x23.1.2.1, .int .i64 x23.1.2.2.1, .int .i64 x23.1.2.2.2], .sl 25 (.pair (.int .i64) (.pair (.int .i64) (.pair (.int .i64) (.int .i64)))) vs5 s5] G := H33
        refine XL_q rfl (qt_assign rfl) rfl rfl ?_
        refine WL_nil_seq ?_
        refine WP_seq ?_
        refine WP_seq ?_
        refine WP_region ?_
        refine XL_q rfl (qt_move rfl) rfl rfl ?_
        refine XL_q rfl (qt_not rfl) rfl rfl ?_
        refine WL_nil_seq ?_
        refine WP_cond rfl (fun hc35 => ?_) (fun hc35 => ?_)
        · have hs13 := if_t hc35 hs13
          refine WP_seq ?_
          refine WP_region ?_
          refine XL_q rfl (qt_move rfl) rfl rfl ?_
          refine XL_q rfl (qt_move rfl) rfl rfl ?_
          refine XL_q rfl (qt_assign rfl) rfl rfl ?_
          refine XL_q rfl (qt_assign rfl) rfl rfl ?_
          refine WL_nil_seq ?_
          refine WP_ret fun a ha => ?_
          obtain rfl := Option.some.inj hs13
          have H36 : Holds (([] : List Res).flatMap Res.own) w w32 [.sl 25 (.pair (.int .i64) (.pair (.int .i64) (.pair (.int .i64) (.int .i64)))) vs5 s5] G := (H34.cut 0)
          exact ret_seq (ret_block (ret_seq (⟨ret_ne, rfl, vs5, ha.sub ⟨rfl, rfl, trivial⟩, H36⟩)))
        · have hs13 := if_f hc35 hs13
          refine WP_skip_seq ?_
          refine WP_seq ?_
          refine WP_region ?_
          refine XL_q rfl (qt_move rfl) rfl rfl ?_
          have hB37 : Bx w32 b28 25 [.int .i64 x23.1.1, .int .i64 x23.1.2.1, .int .i64 x23.1.2.2.1, .int .i64 x23.1.2.2.2] := Holds.bx (H34.pull 0)
          refine XL_load_bxA (cs := [.int .i64 x23.1.1, .int .i64 x23.1.2.1, .int .i64 x23.1.2.2.1, .int .i64 x23.1.2.2.2]) us25 uo25 il25 hB37 rfl rfl rfl ?_
          change XL _ _ _ _ _ ((33, .agg #[.int .i64 x23.1.1, .int .i64 x23.1.2.1, .int .i64 x23.1.2.2.1, .int .i64 x23.1.2.2.2]) :: _) _
          refine WL_buildH (t := (.pair (.int .i64) (.pair (.int .i64) (.pair (.int .i64) (.int .i64))))) (args := [.tmp 33]) (xs := ([(x23.1.1, x23.1.2.1, x23.1.2.2.1, x23.1.2.2.2)] : List (Int × Int × Int × Int))) H34 (BltL.cons (Blt.pair (Blt.int) (Blt.pair (Blt.int) (Blt.pair (Blt.int) (Blt.int)))) rfl (BltL.nil)) u35 j25 rfl rfl rfl rfl rfl rfl (fun v38 w39 H40 => ?_)
          have H41 : Holds (([] : List Res).flatMap Res.own) w w39 [.sl 25 (.pair (.int .i64) (.pair (.int .i64) (.pair (.int .i64) (.int .i64)))) v38 ([(x23.1.1, x23.1.2.1, x23.1.2.2.1, x23.1.2.2.2)]), .bx b28 25 [.int .i64 x23.1.1, .int .i64 x23.1.2.1, .int .i64 x23.1.2.2.1, .int .i64 x23.1.2.2.2], .sl 25 (.pair (.int .i64) (.pair (.int .i64) (.pair (.int .i64) (.int .i64)))) vs5 s5] G := H40
          have H42 : Holds (([] : List Res).flatMap Res.own) w w39 [.sl 25 (.pair (.int .i64) (.pair (.int .i64) (.pair (.int .i64) (.int .i64)))) vs5 s5, .sl 25 (.pair (.int .i64) (.pair (.int .i64) (.pair (.int .i64) (.int .i64)))) v38 ([(x23.1.1, x23.1.2.1, x23.1.2.2.1, x23.1.2.2.2)]), .bx b28 25 [.int .i64 x23.1.1, .int .i64 x23.1.2.1, .int .i64 x23.1.2.2.1, .int .i64 x23.1.2.2.2]] G := H41.pull 2
          obtain ⟨x43, hx44, hs13⟩ := bind_some hs13
          refine WL_appendH H42 (Has.c (Has.hd)) hx44 u35 j25 rfl rfl rfl rfl rfl rfl (fun v45 w46 H47 => ?_)
          have H48 : Holds (([] : List Res).flatMap Res.own) w w46 [.sl 25 (.pair (.int .i64) (.pair (.int .i64) (.pair (.int .i64) (.int .i64)))) v45 x43, .sl 25 (.pair (.int .i64) (.pair (.int .i64) (.pair (.int .i64) (.int .i64)))) v38 ([(x23.1.1, x23.1.2.1, x23.1.2.2.1, x23.1.2.2.2)]), .bx b28 25 [.int .i64 x23.1.1, .int .i64 x23.1.2.1, .int .i64 x23.1.2.2.1, .int .i64 x23.1.2.2.2]] G := H47
          refine XL_q rfl (qt_assign rfl) rfl rfl ?_
          refine WL_nil_seq ?_
          refine WP_region ?_
          refine XL_q rfl (qt_move rfl) rfl rfl ?_
          refine XL_q rfl (qt_add rfl rfl) rfl rfl ?_
          refine XL_q rfl (qt_assign rfl) rfl rfl ?_
          refine WL_nil fun a ha => ?_
          refine nrm_block (nrm_seq (WP.app ?_ ha))
          refine WP_region ?_
          refine XL_q rfl (qt_move rfl) rfl rfl ?_
          refine XL_q rfl (qt_add rfl rfl) rfl rfl ?_
          refine XL_q rfl (qt_assign rfl) rfl rfl ?_
          refine WL_nil fun a ha => ?_
          obtain rfl := Option.some.inj hs13
          have H49 : Holds (([] : List Res).flatMap Res.own) w w46 [.sl 25 (.pair (.int .i64) (.pair (.int .i64) (.pair (.int .i64) (.int .i64)))) v45 x43] G := ((H48.cut 1).cut 1)
          exact ⟨rfl, v45, ha.sub ⟨rfl, rfl, rfl, rfl, trivial⟩, H49⟩
      · have hs13 := if_f hc20 hs13
        refine WP_skip fun a ha => ?_
        refine nrm_block (nrm_seq (WP.app ?_ ha))
        refine WP_region ?_
        refine XL_q rfl (qt_move rfl) rfl rfl ?_
        refine XL_q rfl (qt_add rfl rfl) rfl rfl ?_
        refine XL_q rfl (qt_assign rfl) rfl rfl ?_
        refine WL_nil fun a ha => ?_
        obtain rfl := Option.some.inj hs13
        exact ⟨rfl, vs5, ha.sub ⟨rfl, rfl, rfl, rfl, trivial⟩, H16⟩
    · have hs13 := if_f hc17 hs13
      refine WP_exit fun a ha => ?_
      obtain rfl := Option.some.inj hs13
      exact exit_seq (⟨exit_ne, rfl, vs5, ha.sub ⟨rfl, rfl, trivial⟩, H16⟩)
  · intro e a10 w50 hO51
    rcases o8 with o8 | o8
    · skip
      obtain ⟨p52, p53⟩ := o8
      obtain ⟨rfl, hO55⟩ := hO51
      obtain ⟨vp52, ha, H54⟩ := hO55
      refine exit_block_eq (nrm_seq (WP.app ?_ ha))
      refine WP_seq ?_
      refine WP_region ?_
      refine XL_q rfl (qt_move rfl) rfl rfl ?_
      refine XL_q rfl (qt_move rfl) rfl rfl ?_
      refine XL_q rfl (qt_assign rfl) rfl rfl ?_
      refine XL_q rfl (qt_assign rfl) rfl rfl ?_
      refine WL_nil_seq ?_
      refine WP_ret fun a ha => ?_
      obtain rfl := Option.some.inj h
      exact ret2 rfl ha rfl rfl ⟨vp52, rfl, H54⟩
    · skip
      obtain ⟨p56, p57⟩ := o8
      obtain ⟨rfl, hO59⟩ := hO51
      obtain ⟨vp56, ha, H58⟩ := hO59
      obtain rfl := Option.some.inj h
      exact ret_block (ret_seq (ret2 rfl ha rfl rfl ⟨vp56, rfl, H58⟩))
theorem w_impl_ReadJournal (w : World) (G : List Res) (hGl : Glob G) (hGm : GlobM G) (p0 : List UInt8) (r : (List (Int × Int × Int × Int)) × Int) (h : impl_ReadJournalS p0 = some r) (H : Ctx w G) : Calls Tryd.prog 19 #[strV p0] w fun e w' => ∃ (v1 : Value), e = .returned (.tuple #[v1, .int .i64 r.2]) ∧ Holds (([] : List Res).flatMap Res.own) w w' [.sl 25 (.pair (.int .i64) (.pair (.int .i64) (.pair (.int .i64) (.int .i64)))) v1 r.1] G := by
  have H : Holds (([] : List Res).flatMap Res.own) w w [] G := Holds.startN H
  refine calls_enter (args := [strV p0]) (n := 41) Tryd.func19 rfl rfl rfl ?_
  unfold impl_ReadJournalS at h
  refine WP_seq ?_
  refine WP_region ?_
  refine XL_q rfl (qt_assign rfl) rfl rfl ?_
  refine XL_q rfl (qt_assign rfl) rfl rfl ?_
  refine WL_nil_seq ?_
  refine WP_seq ?_
  refine WP_region ?_
  refine XL_q rfl (qt_assign rfl) rfl rfl ?_
  refine WL_nil_seq ?_
  refine WP_seq ?_
  refine WP_region ?_
  refine XL_q rfl (qt_assign rfl) rfl rfl ?_
  refine WL_nil_seq ?_
  refine WP_block ?_
  have H3 : Holds (([] : List Res).flatMap Res.own) w w [.sl 25 (.pair (.int .i64) (.pair (.int .i64) (.pair (.int .i64) (.int .i64)))) (.slice none 0 0) ([])] G := H.nilSl
  obtain ⟨o4, ho5, h⟩ := bind_some h
  refine fun a6 ha7 => wp_loop_fix (I := fun s a w2 => match s with | (s1, s2) => ∃ vs1, Fr a 41 [(0, strV p0), (4, vs1), (5, .int .i64 s2)] ∧ Holds (([] : List Res).flatMap Res.own) w w2 [.sl 25 (.pair (.int .i64) (.pair (.int .i64) (.pair (.int .i64) (.int .i64)))) vs1 s1] G) (O := fun o e a w2 => match o with | (q0, q1) => e = .ret ∧ ∃ vq0, Fr a 41 [(2, vq0), (3, .int .i64 q1)] ∧ Holds (([] : List Res).flatMap Res.own) w w2 [.sl 25 (.pair (.int .i64) (.pair (.int .i64) (.pair (.int .i64) (.int .i64)))) vq0 q0] G) ho5 ?_ ?_ ?_
  · exact ⟨(.slice none 0 0), ha7.sub ⟨rfl, rfl, rfl, trivial⟩, H3⟩
  · clear ha7
    intro s o10 a w8 hs9 hI11
    obtain ⟨s1, s2⟩ := s
    obtain ⟨vs1, ha, H12⟩ := hI11
    refine WP.app ?_ ha
    clear ha
    refine WP_block ?_
    refine WP_seq ?_
    refine WP_region ?_
    refine XL_q rfl (qt_move rfl) rfl rfl ?_
    refine XL_q rfl (qt_move rfl) rfl rfl ?_
    obtain ⟨x13, hx14, hs9⟩ := bind_some hs9
    refine XL_q rfl (qt_ssub u9 ⟨_, rfl⟩ rfl rfl hx14) rfl rfl ?_
    obtain ⟨x15, hx16, hs9⟩ := bind_some hs9
    refine WL_call rfl rfl c35 (w_strings_Cut w8 ([.sl 25 (.pair (.int .i64) (.pair (.int .i64) (.pair (.int .i64) (.int .i64)))) vs1 s1] ++ G) hGm.c x13 ([10] : List UInt8) x15 hx16 H12.ctx) (by rfl) ?_
    rintro _ w17 ⟨rfl, H18⟩; refine ⟨_, rfl, ?_⟩
    have H19 : Holds (([] : List Res).flatMap Res.own) w w17 [.sl 25 (.pair (.int .i64) (.pair (.int .i64) (.pair (.int .i64) (.int .i64)))) vs1 s1] G := H12.calledN (Rs := []) H18
    refine XL_q rfl (qt_move rfl) rfl rfl ?_
    refine XL_q rfl (qt_extract rfl rfl) rfl rfl ?_
    refine XL_q rfl (qt_extract rfl rfl) rfl rfl ?_
    refine XL_q rfl (qt_extract rfl rfl) rfl rfl ?_
    refine XL_q rfl (qt_assign rfl) rfl rfl ?_
    refine XL_q rfl (qt_assign rfl) rfl rfl ?_
    refine XL_q rfl (qt_assign rfl) rfl rfl ?_
    refine WL_nil_seq ?_
    refine WP_seq ?_
    refine WP_seq ?_
    refine WP_region ?_
    refine XL_q rfl (qt_move rfl) rfl rfl ?_
    refine XL_q rfl (qt_not rfl) rfl rfl ?_
    refine WL_nil_seq ?_
    refine WP_cond rfl (fun hc20 => ?_) (fun hc20 => ?_)
    · have hs9 := if_t hc20 hs9
      refine WP_seq ?_
      refine WP_region ?_
      refine XL_q rfl (qt_move rfl) rfl rfl ?_
      refine XL_q rfl (qt_move rfl) rfl rfl ?_
      refine XL_q rfl (qt_assign rfl) rfl rfl ?_
      refine XL_q rfl (qt_assign rfl) rfl rfl ?_
      refine WL_nil_seq ?_
      refine WP_ret fun a ha => ?_
      obtain rfl := Option.some.inj hs9
      exact ret_seq (ret_block (⟨ret_ne, rfl, vs1, ha.sub ⟨rfl, rfl, trivial⟩, H19⟩))
    · have hs9 := if_f hc20 hs9
      refine WP_skip_seq ?_
      refine WP_seq ?_
      refine WP_region ?_
      refine XL_q rfl (qt_move rfl) rfl rfl ?_
      obtain ⟨x21, hx22, hs9⟩ := bind_some hs9
      refine WL_call rfl rfl c11 (w_impl_ReadDeed w17 ([.sl 25 (.pair (.int .i64) (.pair (.int .i64) (.pair (.int .i64) (.int .i64)))) vs1 s1] ++ G) hGl.c hGm.c x15.1 x21 hx22 H19.ctx) (by rfl) ?_
      rintro _ w23 ⟨rfl, H24⟩; refine ⟨_, rfl, ?_⟩
      have H25 : Holds (([] : List Res).flatMap Res.own) w w23 [.sl 25 (.pair (.int .i64) (.pair (.int .i64) (.pair (.int .i64) (.int .i64)))) vs1 s1] G := H19.calledN (Rs := []) H24
      refine XL_q rfl (qt_move rfl) rfl rfl ?_
      refine XL_q rfl (qt_extract rfl rfl) rfl rfl ?_
      refine XL_q rfl (qt_extract rfl rfl) rfl rfl ?_
      refine WL_alloc (cs := [.int .i64 0, .int .i64 0, .int .i64 0, .int .i64 0]) H25 z25 rfl rfl rfl (fun b26 w27 H28 => ?_)
      have H29 : Holds (([] : List Res).flatMap Res.own) w w27 [.bx b26 25 [.int .i64 0, .int .i64 0, .int .i64 0, .int .i64 0], .sl 25 (.pair (.int .i64) (.pair (.int .i64) (.pair (.int .i64) (.int .i64)))) vs1 s1] G := H28
      refine WL_store_bxA (cs' := [.int .i64 x21.1.1, .int .i64 x21.1.2.1, .int .i64 x21.1.2.2.1, .int .i64 x21.1.2.2.2]) H29 rfl il25 rfl rfl rfl rfl rfl (fun w30 H31 => ?_)
      have H32 : Holds (([] : List Res).flatMap Res.own) w w30 [.bx b26 25 [.int .i64 x21.1.1, .int .i64 x21.1.2.1, .int .i64 x21.1.2.2.1, .int .i64 x21.1.2.2.2], .sl 25 (.pair (.int .i64) (.pair (.int .i64) (.pair (.int .i64) (.int .i64)))) vs1 s1] G := H31
      refine XL_q rfl (qt_assign rfl) rfl rfl ?_
      refine WL_nil_seq ?_
      refine WP_seq ?_
      refine WP_seq ?_
      refine WP_region ?_
      refine XL_q rfl (qt_move rfl) rfl rfl ?_
      refine XL_q rfl (qt_not rfl) rfl rfl ?_
      refine WL_nil_seq ?_
      refine WP_cond rfl (fun hc33 => ?_) (fun hc33 => ?_)
      · have hs9 := if_t hc33 hs9
        refine WP_seq ?_
        refine WP_region ?_
        refine XL_q rfl (qt_move rfl) rfl rfl ?_
        refine XL_q rfl (qt_move rfl) rfl rfl ?_
        refine XL_q rfl (qt_assign rfl) rfl rfl ?_
        refine XL_q rfl (qt_assign rfl) rfl rfl ?_
        refine WL_nil_seq ?_
        refine WP_ret fun a ha => ?_
        obtain rfl := Option.some.inj hs9
        have H34 : Holds (([] : List Res).flatMap Res.own) w w30 [.sl 25 (.pair (.int .i64) (.pair (.int .i64) (.pair (.int .i64) (.int .i64)))) vs1 s1] G := (H32.cut 0)
        exact ret_seq (ret_block (⟨ret_ne, rfl, vs1, ha.sub ⟨rfl, rfl, trivial⟩, H34⟩))
      · have hs9 := if_f hc33 hs9
        refine WP_skip_seq ?_
        refine WP_seq ?_
        refine WP_region ?_
        refine XL_q rfl (qt_move rfl) rfl rfl ?_
        have hB35 : Bx w30 b26 25 [.int .i64 x21.1.1, .int .i64 x21.1.2.1, .int .i64 x21.1.2.2.1, .int .i64 x21.1.2.2.2] := Holds.bx (H32.pull 0)
        refine XL_load_bxA (cs := [.int .i64 x21.1.1, .int .i64 x21.1.2.1, .int .i64 x21.1.2.2.1, .int .i64 x21.1.2.2.2]) us25 uo25 il25 hB35 rfl rfl rfl ?_
        change XL _ _ _ _ _ ((33, .agg #[.int .i64 x21.1.1, .int .i64 x21.1.2.1, .int .i64 x21.1.2.2.1, .int .i64 x21.1.2.2.2]) :: _) _
        refine WL_buildH (t := (.pair (.int .i64) (.pair (.int .i64) (.pair (.int .i64) (.int .i64))))) (args := [.tmp 33]) (xs := ([(x21.1.1, x21.1.2.1, x21.1.2.2.1, x21.1.2.2.2)] : List (Int × Int × Int × Int))) H32 (BltL.cons (Blt.pair (Blt.int) (Blt.pair (Blt.int) (Blt.pair (Blt.int) (Blt.int)))) rfl (BltL.nil)) u35 j25 rfl rfl rfl rfl rfl rfl (fun v36 w37 H38 => ?_)
        have H39 : Holds (([] : List Res).flatMap Res.own) w w37 [.sl 25 (.pair (.int .i64) (.pair (.int .i64) (.pair (.int .i64) (.int .i64)))) v36 ([(x21.1.1, x21.1.2.1, x21.1.2.2.1, x21.1.2.2.2)]), .bx b26 25 [.int .i64 x21.1.1, .int .i64 x21.1.2.1, .int .i64 x21.1.2.2.1, .int .i64 x21.1.2.2.2], .sl 25 (.pair (.int .i64) (.pair (.int .i64) (.pair (.int .i64) (.int .i64)))) vs1 s1] G := H38
        have H40 : Holds (([] : List Res).flatMap Res.own) w w37 [.sl 25 (.pair (.int .i64) (.pair (.int .i64) (.pair (.int .i64) (.int .i64)))) vs1 s1, .sl 25 (.pair (.int .i64) (.pair (.int .i64) (.pair (.int .i64) (.int .i64)))) v36 ([(x21.1.1, x21.1.2.1, x21.1.2.2.1, x21.1.2.2.2)]), .bx b26 25 [.int .i64 x21.1.1, .int .i64 x21.1.2.1, .int .i64 x21.1.2.2.1, .int .i64 x21.1.2.2.2]] G := H39.pull 2
        obtain ⟨x41, hx42, hs9⟩ := bind_some hs9
        refine WL_appendH H40 (Has.c (Has.hd)) hx42 u35 j25 rfl rfl rfl rfl rfl rfl (fun v43 w44 H45 => ?_)
        have H46 : Holds (([] : List Res).flatMap Res.own) w w44 [.sl 25 (.pair (.int .i64) (.pair (.int .i64) (.pair (.int .i64) (.int .i64)))) v43 x41, .sl 25 (.pair (.int .i64) (.pair (.int .i64) (.pair (.int .i64) (.int .i64)))) v36 ([(x21.1.1, x21.1.2.1, x21.1.2.2.1, x21.1.2.2.2)]), .bx b26 25 [.int .i64 x21.1.1, .int .i64 x21.1.2.1, .int .i64 x21.1.2.2.1, .int .i64 x21.1.2.2.2]] G := H45
        refine XL_q rfl (qt_assign rfl) rfl rfl ?_
        refine WL_nil_seq ?_
        refine WP_region ?_
        refine XL_q rfl (qt_move rfl) rfl rfl ?_
        refine XL_q rfl (qt_move rfl) rfl rfl ?_
        refine XL_q rfl (qt_slen u9 rfl) rfl rfl ?_
        refine XL_q rfl (qt_add rfl rfl) rfl rfl ?_
        refine XL_q rfl (qt_add rfl rfl) rfl rfl ?_
        refine XL_q rfl (qt_assign rfl) rfl rfl ?_
        refine WL_nil fun a ha => ?_
        obtain rfl := Option.some.inj hs9
        have H47 : Holds (([] : List Res).flatMap Res.own) w w44 [.sl 25 (.pair (.int .i64) (.pair (.int .i64) (.pair (.int .i64) (.int .i64)))) v43 x41] G := ((H46.cut 1).cut 1)
        exact nrm_block (⟨rfl, v43, ha.sub ⟨rfl, rfl, rfl, trivial⟩, H47⟩)
  · intro e a6 w48 hO49
    obtain ⟨p50, p51⟩ := o4
    obtain ⟨rfl, hO53⟩ := hO49
    obtain ⟨vp50, ha, H52⟩ := hO53
    obtain rfl := Option.some.inj h
    exact ret_block (ret2 rfl ha rfl rfl ⟨vp50, rfl, H52⟩)
theorem w_laws_eqHouseDeedS (w : World) (G : List Res) (vp0 : Value) (p0 : List (Int × Int × Int × Int)) (hp0 : Has G (.pair (.int .i64) (.pair (.int .i64) (.pair (.int .i64) (.int .i64)))) vp0 p0) (vp1 : Value) (p1 : List (Int × Int × Int × Int)) (hp1 : Has G (.pair (.int .i64) (.pair (.int .i64) (.pair (.int .i64) (.int .i64)))) vp1 p1) (r : Bool) (h : laws_eqHouseDeedSS p0 p1 = some r) (H : Ctx w G) : Calls Tryd.prog 17 #[vp0, vp1] w fun e w' => e = .returned (.bool r) ∧ Holds (([] : List Res).flatMap Res.own) w w' [] G := by
  have H : Holds (([] : List Res).flatMap Res.own) w w [] G := Holds.startN H
  refine calls_enter (args := [vp0, vp1]) (n := 27) Tryd.func17 rfl rfl rfl ?_
  unfold laws_eqHouseDeedSS at h
  refine WP_seq ?_
  refine WP_region ?_
  refine XL_q rfl (qt_assign rfl) rfl rfl ?_
  refine WL_nil_seq ?_
  refine WP_seq ?_
  refine WP_seq ?_
  refine WP_region ?_
  refine XL_q rfl (qt_move rfl) rfl rfl ?_
  refine XL_lenH H.ctx (t := (.pair (.int .i64) (.pair (.int .i64) (.pair (.int .i64) (.int .i64))))) (hp0) u35 rfl rfl rfl ?_
  refine XL_q rfl (qt_move rfl) rfl rfl ?_
  refine XL_lenH H.ctx (t := (.pair (.int .i64) (.pair (.int .i64) (.pair (.int .i64) (.int .i64))))) (hp1) u35 rfl rfl rfl ?_
  refine XL_q rfl (qt_neq rfl rfl) rfl rfl ?_
  refine WL_nil_seq ?_
  refine WP_cond rfl (fun hc1 => ?_) (fun hc1 => ?_)
  · have h := if_t hc1 h
    refine WP_seq ?_
    refine WP_region ?_
    refine XL_q rfl (qt_assign rfl) rfl rfl ?_
    refine WL_nil_seq ?_
    refine WP_ret fun a ha => ?_
    obtain rfl := Option.some.inj h
    exact ret_seq (ret1 rfl ha rfl ⟨rfl, H⟩)
  · have h := if_f hc1 h
    refine WP_skip_seq ?_
    refine WP_seq ?_
    refine WP_seq ?_
    refine WP_region ?_
    refine XL_q rfl (qt_assign rfl) rfl rfl ?_
    refine WL_nil_seq ?_
    refine WP_block ?_
    obtain ⟨o3, ho4, h⟩ := bind_some h
    refine fun a5 ha6 => wp_loop_fix (I := fun s a w2 => match s with | s2 => (Fr a 27 [(0, vp0), (1, vp1), (5, .int .i64 s2)] ∧ Holds (([] : List Res).flatMap Res.own) w w2 [] G)) (O := fun o e a w2 => match o with | .inl _ => e = .exit 0 ∧ (Fr a 27 [] ∧ Holds (([] : List Res).flatMap Res.own) w w2 [] G) | .inr q0 => e = .ret ∧ (Fr a 27 [(4, .bool q0)] ∧ Holds (([] : List Res).flatMap Res.own) w w2 [] G)) ho4 ?_ ?_ ?_
    · exact ⟨ha6.sub ⟨rfl, rfl, rfl, trivial⟩, H⟩
    · clear ha6
      intro s o9 a w7 hs8 hI10
      obtain ⟨s2, rfl⟩ : ∃ z, z = s := ⟨s, rfl⟩
      obtain ⟨ha, H11⟩ := hI10
      refine WP.app ?_ ha
      clear ha
      refine WP_seq ?_
      refine WP_seq ?_
      refine WP_region ?_
      refine XL_q rfl (qt_move rfl) rfl rfl ?_
      refine XL_q rfl (qt_move rfl) rfl rfl ?_
      refine XL_lenH H11.ctx (t := (.pair (.int .i64) (.pair (.int .i64) (.pair (.int .i64) (.int .i64))))) (hp0) u35 rfl rfl rfl ?_
      refine XL_q rfl (qt_lss rfl rfl) rfl rfl ?_
      refine WL_nil_seq ?_
      refine WP_cond rfl (fun hc12 => ?_) (fun hc12 => ?_)
      · have hs8 := if_t hc12 hs8
        refine WP_skip_seq ?_
        refine WP_seq ?_
        refine WP_block ?_
        refine WP_seq ?_
        refine WP_quiet (by kernel_rfl) (by kernel_rfl) ?_
        refine XL_q rfl (qt_move rfl) rfl rfl ?_
        refine XL_q rfl (qt_move rfl) rfl rfl ?_
        obtain ⟨x13, hx14, hs8⟩ := bind_some hs8
        refine XL_indexH H11.ctx (hp0) hx14 u35 i25 rfl rfl rfl rfl (fun b15 off16 cap17 hv18 => ?_)
        obtain ⟨F19, hat20, hdup21⟩ := H11.atN (hp0) hx14 hv18
        refine XL_load_agg (t := (.pair (.int .i64) (.pair (.int .i64) (.pair (.int .i64) (.int .i64))))) us25 uo25 i25 hat20 rfl rfl rfl (fun cs22 hr23 => ?_)
        obtain ⟨c24, c25, F26, F27, rfl, eF30, hr28, hr29⟩ := hr23
        obtain ⟨rfl, _⟩ := hr28
        obtain ⟨c31, c32, F33, F34, rfl, eF37, hr35, hr36⟩ := hr29
        obtain ⟨rfl, _⟩ := hr35
        obtain ⟨c38, c39, F40, F41, rfl, eF44, hr42, hr43⟩ := hr36
        obtain ⟨rfl, _⟩ := hr42
        obtain ⟨rfl, _⟩ := hr43
        change XL _ _ _ _ _ ((20, .agg #[.int .i64 x13.1, .int .i64 x13.2.1, .int .i64 x13.2.2.1, .int .i64 x13.2.2.2]) :: _) _
        refine XL_q rfl (qt_move rfl) rfl rfl ?_
        refine XL_q rfl (qt_move rfl) rfl rfl ?_
        obtain ⟨x45, hx46, hs8⟩ := bind_some hs8
        refine XL_indexH H11.ctx (hp1) hx46 u35 i25 rfl rfl rfl rfl (fun b47 off48 cap49 hv50 => ?_)
        obtain ⟨F51, hat52, hdup53⟩ := H11.atN (hp1) hx46 hv50
        refine XL_load_agg (t := (.pair (.int .i64) (.pair (.int .i64) (.pair (.int .i64) (.int .i64))))) us25 uo25 i25 hat52 rfl rfl rfl (fun cs54 hr55 => ?_)
        obtain ⟨c56, c57, F58, F59, rfl, eF62, hr60, hr61⟩ := hr55
        obtain ⟨rfl, _⟩ := hr60
        obtain ⟨c63, c64, F65, F66, rfl, eF69, hr67, hr68⟩ := hr61
        obtain ⟨rfl, _⟩ := hr67
        obtain ⟨c70, c71, F72, F73, rfl, eF76, hr74, hr75⟩ := hr68
        obtain ⟨rfl, _⟩ := hr74
        obtain ⟨rfl, _⟩ := hr75
        change XL _ _ _ _ _ ((24, .agg #[.int .i64 x45.1, .int .i64 x45.2.1, .int .i64 x45.2.2.1, .int .i64 x45.2.2.2]) :: _) _
        obtain ⟨x77, hx78, hs8⟩ := bind_some hs8
        refine QL_call rfl rfl c12 (fun w' hb => (w_laws_eqHouseDeed w' G x13.1 x13.2.1 x13.2.2.1 x13.2.2.2 x45.1 x45.2.1 x45.2.2.1 x45.2.2.2 x77 hx78 (H11.grow hb).ctx).mono fun e w'' hK => ⟨hK.1, hK.2.bel⟩) (by rfl) ?_
        refine XL_q rfl (qt_not rfl) rfl rfl ?_
        refine QL_nil fun a ha w79 hb80 => ?_
        have H81 : Holds (([] : List Res).flatMap Res.own) w w79 [] G := H11.grow hb80
        refine nrm_seq (WP.app ?_ ha)
        refine WP_cond rfl (fun hc82 => ?_) (fun hc82 => ?_)
        · have hs8 := if_t hc82 hs8
          refine WP_seq ?_
          refine WP_region ?_
          refine XL_q rfl (qt_assign rfl) rfl rfl ?_
          refine WL_nil_seq ?_
          refine WP_ret fun a ha => ?_
          obtain rfl := Option.some.inj hs8
          exact ret_block (ret_seq (⟨ret_ne, rfl, ha.sub ⟨rfl, trivial⟩, H81⟩))
        · have hs8 := if_f hc82 hs8
          refine WP_skip fun a ha => ?_
          refine nrm_block (nrm_seq (WP.app ?_ ha))
          refine WP_region ?_
          refine XL_q rfl (qt_move rfl) rfl rfl ?_
          refine XL_q rfl (qt_add rfl rfl) rfl rfl ?_
          refine XL_q rfl (qt_assign rfl) rfl rfl ?_
          refine WL_nil fun a ha => ?_
          obtain rfl := Option.some.inj hs8
          exact ⟨rfl, ha.sub ⟨rfl, rfl, rfl, trivial⟩, H81⟩
      · have hs8 := if_f hc12 hs8
        refine WP_exit fun a ha => ?_
        obtain rfl := Option.some.inj hs8
        exact exit_seq (⟨exit_ne, rfl, ha.sub trivial, H11⟩)
    · intro e a5 w83 hO84
      rcases o3 with o3 | o3
      · skip
        obtain ⟨rfl, hO86⟩ := hO84
        obtain ⟨ha, H85⟩ := hO86
        refine exit_block_eq (nrm_seq (WP.app ?_ ha))
        refine WP_seq ?_
        refine WP_region ?_
        refine XL_q rfl (qt_assign rfl) rfl rfl ?_
        refine WL_nil_seq ?_
        refine WP_ret fun a ha => ?_
        obtain rfl := Option.some.inj h
        exact ret1 rfl ha rfl ⟨rfl, H85⟩
      · skip
        obtain ⟨p87, rfl⟩ : ∃ z, z = o3 := ⟨o3, rfl⟩
        obtain ⟨rfl, hO89⟩ := hO84
        obtain ⟨ha, H88⟩ := hO89
        obtain rfl := Option.some.inj h
        exact ret_block (ret_seq (ret1 rfl ha rfl ⟨rfl, H88⟩))
theorem w_laws_markHouseDeedS (w : World) (G : List Res) (vp0 : Value) (p0 : List (Int × Int × Int × Int)) (p1 : Int) (r : (List (Int × Int × Int × Int)) × Int) (h : laws_markHouseDeedSS p0 p1 = some r) (H : Ctx w ([.sl 25 (.pair (.int .i64) (.pair (.int .i64) (.pair (.int .i64) (.int .i64)))) vp0 p0] ++ G)) : Calls Tryd.prog 20 #[vp0, .int .i64 p1] w fun e w' => e = .returned (.int .i64 r.2) ∧ Holds (([.sl 25 (.pair (.int .i64) (.pair (.int .i64) (.pair (.int .i64) (.int .i64)))) vp0 p0] : List Res).flatMap Res.own) w w' [.sl 25 (.pair (.int .i64) (.pair (.int .i64) (.pair (.int .i64) (.int .i64)))) vp0 r.1] G := by
  have H : Holds (([.sl 25 (.pair (.int .i64) (.pair (.int .i64) (.pair (.int .i64) (.int .i64)))) vp0 p0] : List Res).flatMap Res.own) w w [.sl 25 (.pair (.int .i64) (.pair (.int .i64) (.pair (.int .i64) (.int .i64)))) vp0 p0] G := Holds.startN H
  refine calls_enter (args := [vp0, .int .i64 p1]) (n := 41) Tryd.func20 rfl rfl rfl ?_
  unfold laws_markHouseDeedSS at h
  refine WP_seq ?_
  refine WP_region ?_
  refine XL_q rfl (qt_assign rfl) rfl rfl ?_
  refine WL_nil_seq ?_
  refine WP_seq ?_
  refine WP_seq ?_
  refine WP_region ?_
  refine XL_q rfl (qt_assign rfl) rfl rfl ?_
  refine WL_nil_seq ?_
  refine WP_block ?_
  obtain ⟨o4, ho5, h⟩ := bind_some h
  refine fun a6 ha7 => wp_loop_fix (I := fun s a w2 => match s with | (s1, s2, s3) => (Fr a 41 [(0, vp0), (1, .int .i64 s1), (5, .int .i64 s2)] ∧ Holds (([.sl 25 (.pair (.int .i64) (.pair (.int .i64) (.pair (.int .i64) (.int .i64)))) vp0 p0] : List Res).flatMap Res.own) w w2 [.sl 25 (.pair (.int .i64) (.pair (.int .i64) (.pair (.int .i64) (.int .i64)))) vp0 s3] G)) (O := fun o e a w2 => match o with | (q0, q1) => e = .exit 0 ∧ (Fr a 41 [(0, vp0), (1, .int .i64 q0)] ∧ Holds (([.sl 25 (.pair (.int .i64) (.pair (.int .i64) (.pair (.int .i64) (.int .i64)))) vp0 p0] : List Res).flatMap Res.own) w w2 [.sl 25 (.pair (.int .i64) (.pair (.int .i64) (.pair (.int .i64) (.int .i64)))) vp0 q1] G)) ho5 ?_ ?_ ?_
  · exact ⟨ha7.sub ⟨rfl, rfl, rfl, trivial⟩, H⟩
  · clear ha7
    intro s o10 a w8 hs9 hI11
    obtain ⟨s1, s2, s3⟩ := s
    obtain ⟨ha, H12⟩ := hI11
    refine WP.app ?_ ha
    clear ha
    refine WP_seq ?_
    refine WP_seq ?_
    refine WP_region ?_
    refine XL_q rfl (qt_move rfl) rfl rfl ?_
    refine XL_q rfl (qt_move rfl) rfl rfl ?_
    refine XL_lenH H12.ctx (t := (.pair (.int .i64) (.pair (.int .i64) (.pair (.int .i64) (.int .i64))))) (Has.hd) u35 rfl rfl rfl ?_
    refine XL_q rfl (qt_lss rfl rfl) rfl rfl ?_
    refine WL_nil_seq ?_
    refine WP_cond rfl (fun hc13 => ?_) (fun hc13 => ?_)
    · have hs9 := if_t hc13 hs9
      refine WP_skip_seq ?_
      refine WP_seq ?_
      refine WP_block ?_
      refine WP_seq ?_
      refine WP_region ?_
      refine XL_q rfl (qt_move rfl) rfl rfl ?_
      refine XL_q rfl (qt_move rfl) rfl rfl ?_
      refine XL_q rfl (qt_move rfl) rfl rfl ?_
      obtain ⟨x14, hx15, hs9⟩ := bind_some hs9
      refine XL_indexH H12.ctx (Has.hd) hx15 u35 i25 rfl rfl rfl rfl (fun b16 off17 cap18 hv19 => ?_)
      refine XL_q rfl (qt_fieldAddr uf25 fi25_0 nz3 rfl) rfl rfl ?_
      refine WL_storeH (fo := 0) (cs' := [.int .i64 s1]) H12 hx15 hv19 (Upd.fst (Upd.whole (Blt.int)) rfl) rfl il3 rfl rfl rfl rfl (fun w20 H21 => ?_)
      have H22 : Holds (([.sl 25 (.pair (.int .i64) (.pair (.int .i64) (.pair (.int .i64) (.int .i64)))) vp0 p0] : List Res).flatMap Res.own) w w20 [.sl 25 (.pair (.int .i64) (.pair (.int .i64) (.pair (.int .i64) (.int .i64)))) vp0 (List.set s3 (Int.toNat s2) (s1, x14.2))] G := H21
      refine WL_nil_seq ?_
      refine WP_seq ?_
      refine WP_region ?_
      refine XL_q rfl (qt_move rfl) rfl rfl ?_
      refine XL_q rfl (qt_add rfl rfl) rfl rfl ?_
      refine XL_q rfl (qt_assign rfl) rfl rfl ?_
      refine WL_nil_seq ?_
      refine WP_seq ?_
      refine WP_region ?_
      refine XL_q rfl (qt_move rfl) rfl rfl ?_
      refine XL_q rfl (qt_move rfl) rfl rfl ?_
      refine XL_q rfl (qt_move rfl) rfl rfl ?_
      obtain ⟨x23, hx24, hs9⟩ := bind_some hs9
      refine XL_indexH H22.ctx (Has.hd) hx24 u35 i25 rfl rfl rfl rfl (fun b25 off26 cap27 hv28 => ?_)
      refine XL_q rfl (qt_fieldAddr uf25 fi25_1 nz3 rfl) rfl rfl ?_
      refine WL_storeH (fo := 1) (cs' := [.int .i64 (IntKind.wrap .i64 (s1 + 1))]) H22 hx24 hv28 (Upd.snd (Upd.fst (Upd.whole (Blt.int)) rfl)) rfl il3 rfl rfl rfl rfl (fun w29 H30 => ?_)
      have H31 : Holds (([.sl 25 (.pair (.int .i64) (.pair (.int .i64) (.pair (.int .i64) (.int .i64)))) vp0 p0] : List Res).flatMap Res.own) w w29 [.sl 25 (.pair (.int .i64) (.pair (.int .i64) (.pair (.int .i64) (.int .i64)))) vp0 (List.set (List.set s3 (Int.toNat s2) (s1, x14.2)) (Int.toNat s2) (x23.1, (IntKind.wrap .i64 (s1 + 1), x23.2.2)))] G := H30
      refine WL_nil_seq ?_
      refine WP_seq ?_
      refine WP_region ?_
      refine XL_q rfl (qt_move rfl) rfl rfl ?_
      refine XL_q rfl (qt_add rfl rfl) rfl rfl ?_
      refine XL_q rfl (qt_assign rfl) rfl rfl ?_
      refine WL_nil_seq ?_
      refine WP_seq ?_
      refine WP_region ?_
      refine XL_q rfl (qt_move rfl) rfl rfl ?_
      refine XL_q rfl (qt_move rfl) rfl rfl ?_
      refine XL_q rfl (qt_move rfl) rfl rfl ?_
      obtain ⟨x32, hx33, hs9⟩ := bind_some hs9
      refine XL_indexH H31.ctx (Has.hd) hx33 u35 i25 rfl rfl rfl rfl (fun b34 off35 cap36 hv37 => ?_)
      refine XL_q rfl (qt_fieldAddr uf25 fi25_2 nz3 rfl) rfl rfl ?_
      refine WL_storeH (fo := 2) (cs' := [.int .i64 (IntKind.wrap .i64 ((IntKind.wrap .i64 (s1 + 1)) + 1))]) H31 hx33 hv37 (Upd.snd (Upd.snd (Upd.fst (Upd.whole (Blt.int)) rfl))) rfl il3 rfl rfl rfl rfl (fun w38 H39 => ?_)
      have H40 : Holds (([.sl 25 (.pair (.int .i64) (.pair (.int .i64) (.pair (.int .i64) (.int .i64)))) vp0 p0] : List Res).flatMap Res.own) w w38 [.sl 25 (.pair (.int .i64) (.pair (.int .i64) (.pair (.int .i64) (.int .i64)))) vp0 (List.set (List.set (List.set s3 (Int.toNat s2) (s1, x14.2)) (Int.toNat s2) (x23.1, (IntKind.wrap .i64 (s1 + 1), x23.2.2))) (Int.toNat s2) (x32.1, (x32.2.1, (IntKind.wrap .i64 ((IntKind.wrap .i64 (s1 + 1)) + 1), x32.2.2.2))))] G := H39
      refine WL_nil_seq ?_
      refine WP_seq ?_
      refine WP_region ?_
      refine XL_q rfl (qt_move rfl) rfl rfl ?_
      refine XL_q rfl (qt_add rfl rfl) rfl rfl ?_
      refine XL_q rfl (qt_assign rfl) rfl rfl ?_
      refine WL_nil_seq ?_
      refine WP_seq ?_
      refine WP_region ?_
      refine XL_q rfl (qt_move rfl) rfl rfl ?_
      refine XL_q rfl (qt_move rfl) rfl rfl ?_
      refine XL_q rfl (qt_move rfl) rfl rfl ?_
      obtain ⟨x41, hx42, hs9⟩ := bind_some hs9
      refine XL_indexH H40.ctx (Has.hd) hx42 u35 i25 rfl rfl rfl rfl (fun b43 off44 cap45 hv46 => ?_)
      refine XL_q rfl (qt_fieldAddr uf25 fi25_3 nz3 rfl) rfl rfl ?_
      refine WL_storeH (fo := 3) (cs' := [.int .i64 (IntKind.wrap .i64 ((IntKind.wrap .i64 ((IntKind.wrap .i64 (s1 + 1)) + 1)) + 1))]) H40 hx42 hv46 (Upd.snd (Upd.snd (Upd.snd (Upd.whole (Blt.int))))) rfl il3 rfl rfl rfl rfl (fun w47 H48 => ?_)
      have H49 : Holds (([.sl 25 (.pair (.int .i64) (.pair (.int .i64) (.pair (.int .i64) (.int .i64)))) vp0 p0] : List Res).flatMap Res.own) w w47 [.sl 25 (.pair (.int .i64) (.pair (.int .i64) (.pair (.int .i64) (.int .i64)))) vp0 (List.set (List.set (List.set (List.set s3 (Int.toNat s2) (s1, x14.2)) (Int.toNat s2) (x23.1, (IntKind.wrap .i64 (s1 + 1), x23.2.2))) (Int.toNat s2) (x32.1, (x32.2.1, (IntKind.wrap .i64 ((IntKind.wrap .i64 (s1 + 1)) + 1), x32.2.2.2)))) (Int.toNat s2) (x41.1, (x41.2.1, (x41.2.2.1, IntKind.wrap .i64 ((IntKind.wrap .i64 ((IntKind.wrap .i64 (s1 + 1)) + 1)) + 1)))))] G := H48
      refine WL_nil_seq ?_
      refine WP_region ?_
      refine XL_q rfl (qt_move rfl) rfl rfl ?_
      refine XL_q rfl (qt_add rfl rfl) rfl rfl ?_
      refine XL_q rfl (qt_assign rfl) rfl rfl ?_
      refine WL_nil fun a ha => ?_
      refine nrm_block (nrm_seq (WP.app ?_ ha))
      refine WP_region ?_
      refine XL_q rfl (qt_move rfl) rfl rfl ?_
      refine XL_q rfl (qt_add rfl rfl) rfl rfl ?_
      refine XL_q rfl (qt_assign rfl) rfl rfl ?_
      refine WL_nil fun a ha => ?_
      obtain rfl := Option.some.inj hs9
      exact ⟨rfl, ha.sub ⟨rfl, rfl, rfl, trivial⟩, H49⟩
    · have hs9 := if_f hc13 hs9
      refine WP_exit fun a ha => ?_
      obtain rfl := Option.some.inj hs9
      exact exit_seq (⟨exit_ne, rfl, ha.sub ⟨rfl, rfl, trivial⟩, H12⟩)
  · intro e a6 w50 hO51
    obtain ⟨p52, p53⟩ := o4
    obtain ⟨rfl, hO55⟩ := hO51
    obtain ⟨ha, H54⟩ := hO55
    refine exit_block_eq (nrm_seq (WP.app ?_ ha))
    refine WP_seq ?_
    refine WP_region ?_
    refine XL_q rfl (qt_move rfl) rfl rfl ?_
    refine XL_q rfl (qt_assign rfl) rfl rfl ?_
    refine WL_nil_seq ?_
    refine WP_ret fun a ha => ?_
    obtain rfl := Option.some.inj h
    exact ret1 rfl ha rfl ⟨rfl, H54⟩
theorem w_laws_heldHouseDeedS (w : World) (G : List Res) (vp0 : Value) (p0 : List (Int × Int × Int × Int)) (hp0 : Has G (.pair (.int .i64) (.pair (.int .i64) (.pair (.int .i64) (.int .i64)))) vp0 p0) (p1 : Int) (r : Int) (h : laws_heldHouseDeedSS p0 p1 = some r) (H : Ctx w G) : Calls Tryd.prog 21 #[vp0, .int .i64 p1] w fun e w' => e = .returned (.int .i64 r) ∧ Holds (([] : List Res).flatMap Res.own) w w' [] G := by
  have H : Holds (([] : List Res).flatMap Res.own) w w [] G := Holds.startN H
  refine calls_enter (args := [vp0, .int .i64 p1]) (n := 49) Tryd.func21 rfl rfl rfl ?_
  unfold laws_heldHouseDeedSS at h
  refine WP_seq ?_
  refine WP_region ?_
  refine XL_q rfl (qt_assign rfl) rfl rfl ?_
  refine WL_nil_seq ?_
  refine WP_seq ?_
  refine WP_seq ?_
  refine WP_region ?_
  refine XL_q rfl (qt_assign rfl) rfl rfl ?_
  refine WL_nil_seq ?_
  refine WP_block ?_
  obtain ⟨o3, ho4, h⟩ := bind_some h
  refine fun a5 ha6 => wp_loop_fix (I := fun s a w2 => match s with | (s1, s2) => (Fr a 49 [(0, vp0), (1, .int .i64 s1), (5, .int .i64 s2)] ∧ Holds (([] : List Res).flatMap Res.own) w w2 [] G)) (O := fun o e a w2 => match o with | .inl q0 => e = .exit 0 ∧ (Fr a 49 [(1, .int .i64 q0)] ∧ Holds (([] : List Res).flatMap Res.own) w w2 [] G) | .inr q0 => e = .ret ∧ (Fr a 49 [(4, .int .i64 q0)] ∧ Holds (([] : List Res).flatMap Res.own) w w2 [] G)) ho4 ?_ ?_ ?_
  · exact ⟨ha6.sub ⟨rfl, rfl, rfl, trivial⟩, H⟩
  · clear ha6
    intro s o9 a w7 hs8 hI10
    obtain ⟨s1, s2⟩ := s
    obtain ⟨ha, H11⟩ := hI10
    refine WP.app ?_ ha
    clear ha
    refine WP_seq ?_
    refine WP_seq ?_
    refine WP_region ?_
    refine XL_q rfl (qt_move rfl) rfl rfl ?_
    refine XL_q rfl (qt_move rfl) rfl rfl ?_
    refine XL_lenH H11.ctx (t := (.pair (.int .i64) (.pair (.int .i64) (.pair (.int .i64) (.int .i64))))) (hp0) u35 rfl rfl rfl ?_
    refine XL_q rfl (qt_lss rfl rfl) rfl rfl ?_
    refine WL_nil_seq ?_
    refine WP_cond rfl (fun hc12 => ?_) (fun hc12 => ?_)
    · have hs8 := if_t hc12 hs8
      refine WP_skip_seq ?_
      refine WP_seq ?_
      refine WP_block ?_
      refine WP_seq ?_
      refine WP_seq ?_
      refine WP_region ?_
      refine XL_q rfl (qt_move rfl) rfl rfl ?_
      refine XL_q rfl (qt_move rfl) rfl rfl ?_
      obtain ⟨x13, hx14, hs8⟩ := bind_some hs8
      refine XL_indexH H11.ctx (hp0) hx14 u35 i25 rfl rfl rfl rfl (fun b15 off16 cap17 hv18 => ?_)
      refine XL_q rfl (qt_fieldAddr uf25 fi25_0 nz3 rfl) rfl rfl ?_
      obtain ⟨F19, hat20, hdup21⟩ := H11.at (hp0) hx14 hv18
      obtain ⟨F22, hat23, hin24⟩ := AtP.fst hat20
      refine XL_load_int (k := .i64) u3 rfl hat23 rfl rfl rfl ?_
      refine XL_q rfl (qt_move rfl) rfl rfl ?_
      refine XL_q rfl (qt_neq rfl rfl) rfl rfl ?_
      refine WL_nil_seq ?_
      refine WP_cond rfl (fun hc25 => ?_) (fun hc25 => ?_)
      · have hs8 := if_t hc25 hs8
        refine WP_seq ?_
        refine WP_region ?_
        refine XL_q rfl (qt_assign rfl) rfl rfl ?_
        refine WL_nil_seq ?_
        refine WP_ret fun a ha => ?_
        obtain rfl := Option.some.inj hs8
        exact ret_seq (ret_block (ret_seq (⟨ret_ne, rfl, ha.sub ⟨rfl, trivial⟩, H11⟩)))
      · have hs8 := if_f hc25 hs8
        refine WP_skip_seq ?_
        refine WP_seq ?_
        refine WP_region ?_
        refine XL_q rfl (qt_move rfl) rfl rfl ?_
        refine XL_q rfl (qt_add rfl rfl) rfl rfl ?_
        refine XL_q rfl (qt_assign rfl) rfl rfl ?_
        refine WL_nil_seq ?_
        refine WP_seq ?_
        refine WP_seq ?_
        refine WP_region ?_
        refine XL_q rfl (qt_move rfl) rfl rfl ?_
        refine XL_q rfl (qt_move rfl) rfl rfl ?_
        obtain ⟨x26, hx27, hs8⟩ := bind_some hs8
        refine XL_indexH H11.ctx (hp0) hx27 u35 i25 rfl rfl rfl rfl (fun b28 off29 cap30 hv31 => ?_)
        refine XL_q rfl (qt_fieldAddr uf25 fi25_1 nz3 rfl) rfl rfl ?_
        obtain ⟨F32, hat33, hdup34⟩ := H11.at (hp0) hx27 hv31
        obtain ⟨F35, hat36, hin37⟩ := AtP.snd hat33
        obtain ⟨F38, hat39, hin40⟩ := AtP.fst hat36
        refine XL_load_int (k := .i64) u3 rfl hat39 rfl rfl rfl ?_
        refine XL_q rfl (qt_move rfl) rfl rfl ?_
        refine XL_q rfl (qt_neq rfl rfl) rfl rfl ?_
        refine WL_nil_seq ?_
        refine WP_cond rfl (fun hc41 => ?_) (fun hc41 => ?_)
        · have hs8 := if_t hc41 hs8
          refine WP_seq ?_
          refine WP_region ?_
          refine XL_q rfl (qt_assign rfl) rfl rfl ?_
          refine WL_nil_seq ?_
          refine WP_ret fun a ha => ?_
          obtain rfl := Option.some.inj hs8
          exact ret_seq (ret_block (ret_seq (⟨ret_ne, rfl, ha.sub ⟨rfl, trivial⟩, H11⟩)))
        · have hs8 := if_f hc41 hs8
          refine WP_skip_seq ?_
          refine WP_seq ?_
          refine WP_region ?_
          refine XL_q rfl (qt_move rfl) rfl rfl ?_
          refine XL_q rfl (qt_add rfl rfl) rfl rfl ?_
          refine XL_q rfl (qt_assign rfl) rfl rfl ?_
          refine WL_nil_seq ?_
          refine WP_seq ?_
          refine WP_seq ?_
          refine WP_region ?_
          refine XL_q rfl (qt_move rfl) rfl rfl ?_
          refine XL_q rfl (qt_move rfl) rfl rfl ?_
          obtain ⟨x42, hx43, hs8⟩ := bind_some hs8
          refine XL_indexH H11.ctx (hp0) hx43 u35 i25 rfl rfl rfl rfl (fun b44 off45 cap46 hv47 => ?_)
          refine XL_q rfl (qt_fieldAddr uf25 fi25_2 nz3 rfl) rfl rfl ?_
          obtain ⟨F48, hat49, hdup50⟩ := H11.at (hp0) hx43 hv47
          obtain ⟨F51, hat52, hin53⟩ := AtP.snd hat49
          obtain ⟨F54, hat55, hin56⟩ := AtP.snd hat52
          obtain ⟨F57, hat58, hin59⟩ := AtP.fst hat55
          refine XL_load_int (k := .i64) u3 rfl hat58 rfl rfl rfl ?_
          refine XL_q rfl (qt_move rfl) rfl rfl ?_
          refine XL_q rfl (qt_neq rfl rfl) rfl rfl ?_
          refine WL_nil_seq ?_
          refine WP_cond rfl (fun hc60 => ?_) (fun hc60 => ?_)
          · have hs8 := if_t hc60 hs8
            refine WP_seq ?_
            refine WP_region ?_
            refine XL_q rfl (qt_assign rfl) rfl rfl ?_
            refine WL_nil_seq ?_
            refine WP_ret fun a ha => ?_
            obtain rfl := Option.some.inj hs8
            exact ret_seq (ret_block (ret_seq (⟨ret_ne, rfl, ha.sub ⟨rfl, trivial⟩, H11⟩)))
          · have hs8 := if_f hc60 hs8
            refine WP_skip_seq ?_
            refine WP_seq ?_
            refine WP_region ?_
            refine XL_q rfl (qt_move rfl) rfl rfl ?_
            refine XL_q rfl (qt_add rfl rfl) rfl rfl ?_
            refine XL_q rfl (qt_assign rfl) rfl rfl ?_
            refine WL_nil_seq ?_
            refine WP_seq ?_
            refine WP_seq ?_
            refine WP_region ?_
            refine XL_q rfl (qt_move rfl) rfl rfl ?_
            refine XL_q rfl (qt_move rfl) rfl rfl ?_
            obtain ⟨x61, hx62, hs8⟩ := bind_some hs8
            refine XL_indexH H11.ctx (hp0) hx62 u35 i25 rfl rfl rfl rfl (fun b63 off64 cap65 hv66 => ?_)
            refine XL_q rfl (qt_fieldAddr uf25 fi25_3 nz3 rfl) rfl rfl ?_
            obtain ⟨F67, hat68, hdup69⟩ := H11.at (hp0) hx62 hv66
            obtain ⟨F70, hat71, hin72⟩ := AtP.snd hat68
            obtain ⟨F73, hat74, hin75⟩ := AtP.snd hat71
            obtain ⟨F76, hat77, hin78⟩ := AtP.snd hat74
            refine XL_load_int (k := .i64) u3 rfl hat77 rfl rfl rfl ?_
            refine XL_q rfl (qt_move rfl) rfl rfl ?_
            refine XL_q rfl (qt_neq rfl rfl) rfl rfl ?_
            refine WL_nil_seq ?_
            refine WP_cond rfl (fun hc79 => ?_) (fun hc79 => ?_)
            · have hs8 := if_t hc79 hs8
              refine WP_seq ?_
              refine WP_region ?_
              refine XL_q rfl (qt_assign rfl) rfl rfl ?_
              refine WL_nil_seq ?_
              refine WP_ret fun a ha => ?_
              obtain rfl := Option.some.inj hs8
              exact ret_seq (ret_block (ret_seq (⟨ret_ne, rfl, ha.sub ⟨rfl, trivial⟩, H11⟩)))
            · have hs8 := if_f hc79 hs8
              refine WP_skip_seq ?_
              refine WP_region ?_
              refine XL_q rfl (qt_move rfl) rfl rfl ?_
              refine XL_q rfl (qt_add rfl rfl) rfl rfl ?_
              refine XL_q rfl (qt_assign rfl) rfl rfl ?_
              refine WL_nil fun a ha => ?_
              refine nrm_block (nrm_seq (WP.app ?_ ha))
              refine WP_region ?_
              refine XL_q rfl (qt_move rfl) rfl rfl ?_
              refine XL_q rfl (qt_add rfl rfl) rfl rfl ?_
              refine XL_q rfl (qt_assign rfl) rfl rfl ?_
              refine WL_nil fun a ha => ?_
              obtain rfl := Option.some.inj hs8
              exact ⟨rfl, ha.sub ⟨rfl, rfl, rfl, trivial⟩, H11⟩
    · have hs8 := if_f hc12 hs8
      refine WP_exit fun a ha => ?_
      obtain rfl := Option.some.inj hs8
      exact exit_seq (⟨exit_ne, rfl, ha.sub ⟨rfl, trivial⟩, H11⟩)
  · intro e a5 w80 hO81
    rcases o3 with o3 | o3
    · skip
      obtain ⟨p82, rfl⟩ : ∃ z, z = o3 := ⟨o3, rfl⟩
      obtain ⟨rfl, hO84⟩ := hO81
      obtain ⟨ha, H83⟩ := hO84
      refine exit_block_eq (nrm_seq (WP.app ?_ ha))
      refine WP_seq ?_
      refine WP_region ?_
      refine XL_q rfl (qt_move rfl) rfl rfl ?_
      refine XL_q rfl (qt_assign rfl) rfl rfl ?_
      refine WL_nil_seq ?_
      refine WP_ret fun a ha => ?_
      obtain rfl := Option.some.inj h
      exact ret1 rfl ha rfl ⟨rfl, H83⟩
    · skip
      obtain ⟨p85, rfl⟩ : ∃ z, z = o3 := ⟨o3, rfl⟩
      obtain ⟨rfl, hO87⟩ := hO81
      obtain ⟨ha, H86⟩ := hO87
      obtain rfl := Option.some.inj h
      exact ret_block (ret_seq (ret1 rfl ha rfl ⟨rfl, H86⟩))
theorem w_laws_FnExactReadJournal (w : World) (G : List Res) (hGl : Glob G) (hGm : GlobM G) (p0 : List UInt8) (r : Bool) (h : laws_FnExactReadJournalS p0 = some r) (H : Ctx w G) : Calls Tryd.prog 6 #[strV p0] w fun e w' => e = .returned (.bool r) ∧ Holds (([] : List Res).flatMap Res.own) w w' [] G := by
  have H : Holds (([] : List Res).flatMap Res.own) w w [] G := Holds.startN H
  refine calls_enter (args := [strV p0]) (n := 66) Tryd.func6 rfl rfl rfl ?_
  unfold laws_FnExactReadJournalS at h
  refine WP_seq ?_
  refine WP_region ?_
  refine XL_q rfl (qt_assign rfl) rfl rfl ?_
  refine WL_nil_seq ?_
  refine WP_seq ?_
  refine WP_seq ?_
  refine WP_region ?_
  refine XL_q rfl (qt_move rfl) rfl rfl ?_
  refine XL_q rfl (qt_slen u9 rfl) rfl rfl ?_
  refine XL_q rfl (qt_gtr rfl rfl) rfl rfl ?_
  refine WL_nil_seq ?_
  refine WP_cond rfl (fun hc1 => ?_) (fun hc1 => ?_)
  · have h := if_t hc1 h
    refine WP_seq ?_
    refine WP_region ?_
    refine XL_q rfl (qt_assign rfl) rfl rfl ?_
    refine WL_nil_seq ?_
    refine WP_ret fun a ha => ?_
    obtain rfl := Option.some.inj h
    exact ret_seq (ret1 rfl ha rfl ⟨rfl, H⟩)
  · have h := if_f hc1 h
    refine WP_skip_seq ?_
    refine WP_seq ?_
    refine WP_region ?_
    refine XL_q rfl (qt_move rfl) rfl rfl ?_
    obtain ⟨x2, hx3, h⟩ := bind_some h
    refine WL_call rfl rfl c18 (w_spec_ReadJournal w G p0 x2 hx3 H.ctx) (by rfl) ?_
    rintro _ w4 ⟨v6, rfl, H5⟩; refine ⟨_, rfl, ?_⟩
    have H7 : Holds (([] : List Res).flatMap Res.own) w w4 [.sl 25 (.pair (.int .i64) (.pair (.int .i64) (.pair (.int .i64) (.int .i64)))) v6 x2.1] G := H.calledN (Rs := []) H5
    refine XL_q rfl (qt_move rfl) rfl rfl ?_
    refine XL_q rfl (qt_extract rfl rfl) rfl rfl ?_
    refine XL_q rfl (qt_extract rfl rfl) rfl rfl ?_
    refine XL_q rfl (qt_assign rfl) rfl rfl ?_
    refine XL_q rfl (qt_assign rfl) rfl rfl ?_
    refine WL_nil_seq ?_
    refine WP_seq ?_
    refine WP_region ?_
    refine XL_q rfl (qt_move rfl) rfl rfl ?_
    obtain ⟨x8, hx9, h⟩ := bind_some h
    refine WL_call rfl rfl c19 (w_impl_ReadJournal w4 ([.sl 25 (.pair (.int .i64) (.pair (.int .i64) (.pair (.int .i64) (.int .i64)))) v6 x2.1] ++ G) hGl.c hGm.c p0 x8 hx9 H7.ctx) (by rfl) ?_
    rintro _ w10 ⟨v12, rfl, H11⟩; refine ⟨_, rfl, ?_⟩
    have H13 : Holds (([] : List Res).flatMap Res.own) w w10 [.sl 25 (.pair (.int .i64) (.pair (.int .i64) (.pair (.int .i64) (.int .i64)))) v12 x8.1, .sl 25 (.pair (.int .i64) (.pair (.int .i64) (.pair (.int .i64) (.int .i64)))) v6 x2.1] G := H7.calledN (Rs := []) H11
    refine XL_q rfl (qt_move rfl) rfl rfl ?_
    refine XL_q rfl (qt_extract rfl rfl) rfl rfl ?_
    refine XL_q rfl (qt_extract rfl rfl) rfl rfl ?_
    refine XL_q rfl (qt_assign rfl) rfl rfl ?_
    refine XL_q rfl (qt_assign rfl) rfl rfl ?_
    refine WL_nil_seq ?_
    refine WP_seq ?_
    refine WP_seq ?_
    refine WP_still ?_
    refine XL_q rfl (qt_move rfl) rfl rfl ?_
    refine XL_q rfl (qt_move rfl) rfl rfl ?_
    obtain ⟨x14, hx15, h⟩ := bind_some h
    refine QL_call rfl rfl c17 (fun w' hb => (w_laws_eqHouseDeedS w' ([.sl 25 (.pair (.int .i64) (.pair (.int .i64) (.pair (.int .i64) (.int .i64)))) v12 x8.1, .sl 25 (.pair (.int .i64) (.pair (.int .i64) (.pair (.int .i64) (.int .i64)))) v6 x2.1] ++ G) v12 x8.1 (Has.hd) v6 x2.1 (Has.c (Has.hd)) x14 hx15 (H13.grow hb).ctx).mono fun e w'' hK => ⟨hK.1, hK.2.bel⟩) (by rfl) ?_
    refine XL_q rfl (qt_not rfl) rfl rfl ?_
    refine XL_q rfl (qt_move rfl) rfl rfl ?_
    refine XL_join 4 32 (.bool ((!x14) || (x8.2 != x2.2))) ?_ (fun md hmd hk => ?_)
    rotate_left
    · obtain ⟨K, rfl⟩ := Md.quiet_of hmd
      rcases btf (!x14) with hc16 | hc16
      · skip
        refine XL_skip (w_skip rfl hc16) rfl rfl ?_
        refine XL_skip (w_skip rfl hc16) rfl rfl ?_
        refine XL_skip (w_skip rfl hc16) rfl rfl ?_
        refine XL_q rfl (qt_pickT rfl hc16 rfl) rfl rfl ?_
        exact hk _ (Cov.same (by rw [hc16]; rfl) (Cov.fresh rfl (Cov.fresh rfl (Cov.fresh rfl (Cov.refl)))))
      · skip
        refine XL_q (w_take rfl hc16) (qt_move rfl) rfl rfl ?_
        refine XL_q (w_take rfl hc16) (qt_move rfl) rfl rfl ?_
        refine XL_q (w_take rfl hc16) (qt_neq rfl rfl) rfl rfl ?_
        refine XL_q rfl (qt_pickF rfl hc16 rfl) rfl rfl ?_
        exact hk _ (Cov.same (by rw [hc16]; rfl) (Cov.fresh rfl (Cov.fresh rfl (Cov.fresh rfl (Cov.refl)))))
    refine QL_nil fun a ha w17 hb18 => ?_
    have H19 : Holds (([] : List Res).flatMap Res.own) w w17 [.sl 25 (.pair (.int .i64) (.pair (.int .i64) (.pair (.int .i64) (.int .i64)))) v12 x8.1, .sl 25 (.pair (.int .i64) (.pair (.int .i64) (.pair (.int .i64) (.int .i64)))) v6 x2.1] G := H13.grow hb18
    refine nrm_seq (WP.app ?_ ha)
    refine WP_cond rfl (fun hc20 => ?_) (fun hc20 => ?_)
    · have h := if_t hc20 h
      refine WP_seq ?_
      refine WP_region ?_
      refine XL_q rfl (qt_assign rfl) rfl rfl ?_
      refine WL_nil_seq ?_
      refine WP_ret fun a ha => ?_
      obtain rfl := Option.some.inj h
      have H21 : Holds (([] : List Res).flatMap Res.own) w w17 [] G := ((H19.cut 0).cut 0)
      exact ret_seq (ret1 rfl ha rfl ⟨rfl, H21⟩)
    · have h := if_f hc20 h
      refine WP_skip_seq ?_
      refine WP_seq ?_
      refine WP_region ?_
      refine XL_q rfl (qt_assign rfl) rfl rfl ?_
      refine WL_nil_seq ?_
      refine WP_seq ?_
      refine WP_region ?_
      refine XL_q rfl (qt_move rfl) rfl rfl ?_
      refine XL_q rfl (qt_move rfl) rfl rfl ?_
      obtain ⟨x22, hx23, h⟩ := bind_some h
      refine WL_call rfl rfl c20 (w_laws_markHouseDeedS w17 ([.sl 25 (.pair (.int .i64) (.pair (.int .i64) (.pair (.int .i64) (.int .i64)))) v6 x2.1] ++ G) v12 x8.1 1 x22 hx23 H19.ctx) (by rfl) ?_
      rintro _ w24 ⟨rfl, H25⟩; refine ⟨_, rfl, ?_⟩
      have H26 : Holds (([] : List Res).flatMap Res.own) w w24 [.sl 25 (.pair (.int .i64) (.pair (.int .i64) (.pair (.int .i64) (.int .i64)))) v12 x22.1, .sl 25 (.pair (.int .i64) (.pair (.int .i64) (.pair (.int .i64) (.int .i64)))) v6 x2.1] G := H19.calledN (Rs := [_]) H25
      refine XL_q rfl (qt_assign rfl) rfl rfl ?_
      refine WL_nil_seq ?_
      refine WP_seq ?_
      refine WP_region ?_
      refine XL_q rfl (qt_assign rfl) rfl rfl ?_
      refine WL_nil_seq ?_
      refine WP_seq ?_
      refine WP_still ?_
      refine XL_q rfl (qt_move rfl) rfl rfl ?_
      refine XL_q rfl (qt_move rfl) rfl rfl ?_
      obtain ⟨x27, hx28, h⟩ := bind_some h
      refine QL_call rfl rfl c21 (fun w' hb => (w_laws_heldHouseDeedS w' ([.sl 25 (.pair (.int .i64) (.pair (.int .i64) (.pair (.int .i64) (.int .i64)))) v12 x22.1, .sl 25 (.pair (.int .i64) (.pair (.int .i64) (.pair (.int .i64) (.int .i64)))) v6 x2.1] ++ G) v12 x22.1 (Has.hd) 1 x27 hx28 (H26.grow hb).ctx).mono fun e w'' hK => ⟨hK.1, hK.2.bel⟩) (by rfl) ?_
      refine XL_q rfl (qt_assign rfl) rfl rfl ?_
      refine QL_nil fun a ha w29 hb30 => ?_
      have H31 : Holds (([] : List Res).flatMap Res.own) w w29 [.sl 25 (.pair (.int .i64) (.pair (.int .i64) (.pair (.int .i64) (.int .i64)))) v12 x22.1, .sl 25 (.pair (.int .i64) (.pair (.int .i64) (.pair (.int .i64) (.int .i64)))) v6 x2.1] G := H26.grow hb30
      refine nrm_seq (WP.app ?_ ha)
      refine WP_seq ?_
      refine WP_seq ?_
      refine WP_region ?_
      refine XL_q rfl (qt_move rfl) rfl rfl ?_
      refine XL_q rfl (qt_lss rfl rfl) rfl rfl ?_
      refine WL_nil_seq ?_
      refine WP_cond rfl (fun hc32 => ?_) (fun hc32 => ?_)
      · have h := if_t hc32 h
        refine WP_seq ?_
        refine WP_region ?_
        refine XL_q rfl (qt_assign rfl) rfl rfl ?_
        refine WL_nil_seq ?_
        refine WP_ret fun a ha => ?_
        obtain rfl := Option.some.inj h
        have H33 : Holds (([] : List Res).flatMap Res.own) w w29 [] G := ((H31.cut 0).cut 0)
        exact ret_seq (ret1 rfl ha rfl ⟨rfl, H33⟩)
      · have h := if_f hc32 h
        refine WP_skip_seq ?_
        refine WP_seq ?_
        refine WP_seq ?_
        refine WP_region ?_
        refine XL_q rfl (qt_move rfl) rfl rfl ?_
        refine XL_q rfl (qt_move rfl) rfl rfl ?_
        refine XL_q rfl (qt_neq rfl rfl) rfl rfl ?_
        refine WL_nil_seq ?_
        refine WP_cond rfl (fun hc34 => ?_) (fun hc34 => ?_)
        · have h := if_t hc34 h
          refine WP_seq ?_
          refine WP_region ?_
          refine XL_q rfl (qt_assign rfl) rfl rfl ?_
          refine WL_nil_seq ?_
          refine WP_ret fun a ha => ?_
          obtain rfl := Option.some.inj h
          have H35 : Holds (([] : List Res).flatMap Res.own) w w29 [] G := ((H31.cut 0).cut 0)
          exact ret_seq (ret1 rfl ha rfl ⟨rfl, H35⟩)
        · have h := if_f hc34 h
          refine WP_skip_seq ?_
          refine WP_seq ?_
          refine WP_region ?_
          refine XL_q rfl (qt_move rfl) rfl rfl ?_
          obtain ⟨x36, hx37, h⟩ := bind_some h
          refine WL_call rfl rfl c19 (w_impl_ReadJournal w29 ([.sl 25 (.pair (.int .i64) (.pair (.int .i64) (.pair (.int .i64) (.int .i64)))) v12 x22.1, .sl 25 (.pair (.int .i64) (.pair (.int .i64) (.pair (.int .i64) (.int .i64)))) v6 x2.1] ++ G) hGl.c.c hGm.c.c p0 x36 hx37 H31.ctx) (by rfl) ?_
          rintro _ w38 ⟨v40, rfl, H39⟩; refine ⟨_, rfl, ?_⟩
          have H41 : Holds (([] : List Res).flatMap Res.own) w w38 [.sl 25 (.pair (.int .i64) (.pair (.int .i64) (.pair (.int .i64) (.int .i64)))) v40 x36.1, .sl 25 (.pair (.int .i64) (.pair (.int .i64) (.pair (.int .i64) (.int .i64)))) v12 x22.1, .sl 25 (.pair (.int .i64) (.pair (.int .i64) (.pair (.int .i64) (.int .i64)))) v6 x2.1] G := H31.calledN (Rs := []) H39
          refine XL_q rfl (qt_move rfl) rfl rfl ?_
          refine XL_q rfl (qt_extract rfl rfl) rfl rfl ?_
          refine XL_q rfl (qt_extract rfl rfl) rfl rfl ?_
          refine XL_q rfl (qt_assign rfl) rfl rfl ?_
          refine XL_q rfl (qt_assign rfl) rfl rfl ?_
          refine WL_nil_seq ?_
          refine WP_seq ?_
          refine WP_seq ?_
          refine WP_still ?_
          refine XL_q rfl (qt_move rfl) rfl rfl ?_
          refine XL_q rfl (qt_move rfl) rfl rfl ?_
          obtain ⟨x42, hx43, h⟩ := bind_some h
          refine QL_call rfl rfl c17 (fun w' hb => (w_laws_eqHouseDeedS w' ([.sl 25 (.pair (.int .i64) (.pair (.int .i64) (.pair (.int .i64) (.int .i64)))) v40 x36.1, .sl 25 (.pair (.int .i64) (.pair (.int .i64) (.pair (.int .i64) (.int .i64)))) v12 x22.1, .sl 25 (.pair (.int .i64) (.pair (.int .i64) (.pair (.int .i64) (.int .i64)))) v6 x2.1] ++ G) v40 x36.1 (Has.hd) v6 x2.1 (Has.c (Has.c (Has.hd))) x42 hx43 (H41.grow hb).ctx).mono fun e w'' hK => ⟨hK.1, hK.2.bel⟩) (by rfl) ?_
          refine XL_q rfl (qt_not rfl) rfl rfl ?_
          refine XL_q rfl (qt_move rfl) rfl rfl ?_
          refine XL_join 4 57 (.bool ((!x42) || (x36.2 != x2.2))) ?_ (fun md hmd hk => ?_)
          rotate_left
          · obtain ⟨K, rfl⟩ := Md.quiet_of hmd
            rcases btf (!x42) with hc44 | hc44
            · skip
              refine XL_skip (w_skip rfl hc44) rfl rfl ?_
              refine XL_skip (w_skip rfl hc44) rfl rfl ?_
              refine XL_skip (w_skip rfl hc44) rfl rfl ?_
              refine XL_q rfl (qt_pickT rfl hc44 rfl) rfl rfl ?_
              exact hk _ (Cov.same (by rw [hc44]; rfl) (Cov.fresh rfl (Cov.fresh rfl (Cov.fresh rfl (Cov.refl)))))
            · skip
              refine XL_q (w_take rfl hc44) (qt_move rfl) rfl rfl ?_
              refine XL_q (w_take rfl hc44) (qt_move rfl) rfl rfl ?_
              refine XL_q (w_take rfl hc44) (qt_neq rfl rfl) rfl rfl ?_
              refine XL_q rfl (qt_pickF rfl hc44 rfl) rfl rfl ?_
              exact hk _ (Cov.same (by rw [hc44]; rfl) (Cov.fresh rfl (Cov.fresh rfl (Cov.fresh rfl (Cov.refl)))))
          refine QL_nil fun a ha w45 hb46 => ?_
          have H47 : Holds (([] : List Res).flatMap Res.own) w w45 [.sl 25 (.pair (.int .i64) (.pair (.int .i64) (.pair (.int .i64) (.int .i64)))) v40 x36.1, .sl 25 (.pair (.int .i64) (.pair (.int .i64) (.pair (.int .i64) (.int .i64)))) v12 x22.1, .sl 25 (.pair (.int .i64) (.pair (.int .i64) (.pair (.int .i64) (.int .i64)))) v6 x2.1] G := H41.grow hb46
          refine nrm_seq (WP.app ?_ ha)
          refine WP_cond rfl (fun hc48 => ?_) (fun hc48 => ?_)
          · have h := if_t hc48 h
            refine WP_seq ?_
            refine WP_region ?_
            refine XL_q rfl (qt_assign rfl) rfl rfl ?_
            refine WL_nil_seq ?_
            refine WP_ret fun a ha => ?_
            obtain rfl := Option.some.inj h
            have H49 : Holds (([] : List Res).flatMap Res.own) w w45 [] G := (((H47.cut 0).cut 0).cut 0)
            exact ret_seq (ret1 rfl ha rfl ⟨rfl, H49⟩)
          · have h := if_f hc48 h
            refine WP_skip_seq ?_
            refine WP_seq ?_
            refine WP_region ?_
            refine XL_q rfl (qt_assign rfl) rfl rfl ?_
            refine WL_nil_seq ?_
            refine WP_seq ?_
            refine WP_still ?_
            refine XL_q rfl (qt_move rfl) rfl rfl ?_
            refine XL_q rfl (qt_move rfl) rfl rfl ?_
            obtain ⟨x50, hx51, h⟩ := bind_some h
            refine QL_call rfl rfl c21 (fun w' hb => (w_laws_heldHouseDeedS w' ([.sl 25 (.pair (.int .i64) (.pair (.int .i64) (.pair (.int .i64) (.int .i64)))) v40 x36.1, .sl 25 (.pair (.int .i64) (.pair (.int .i64) (.pair (.int .i64) (.int .i64)))) v12 x22.1, .sl 25 (.pair (.int .i64) (.pair (.int .i64) (.pair (.int .i64) (.int .i64)))) v6 x2.1] ++ G) v12 x22.1 (Has.c (Has.hd)) 1 x50 hx51 (H47.grow hb).ctx).mono fun e w'' hK => ⟨hK.1, hK.2.bel⟩) (by rfl) ?_
            refine XL_q rfl (qt_assign rfl) rfl rfl ?_
            refine QL_nil fun a ha w52 hb53 => ?_
            have H54 : Holds (([] : List Res).flatMap Res.own) w w52 [.sl 25 (.pair (.int .i64) (.pair (.int .i64) (.pair (.int .i64) (.int .i64)))) v40 x36.1, .sl 25 (.pair (.int .i64) (.pair (.int .i64) (.pair (.int .i64) (.int .i64)))) v12 x22.1, .sl 25 (.pair (.int .i64) (.pair (.int .i64) (.pair (.int .i64) (.int .i64)))) v6 x2.1] G := H47.grow hb53
            refine nrm_seq (WP.app ?_ ha)
            refine WP_seq ?_
            refine WP_seq ?_
            refine WP_region ?_
            refine XL_q rfl (qt_move rfl) rfl rfl ?_
            refine XL_q rfl (qt_lss rfl rfl) rfl rfl ?_
            refine WL_nil_seq ?_
            refine WP_cond rfl (fun hc55 => ?_) (fun hc55 => ?_)
            · have h := if_t hc55 h
              refine WP_seq ?_
              refine WP_region ?_
              refine XL_q rfl (qt_assign rfl) rfl rfl ?_
              refine WL_nil_seq ?_
              refine WP_ret fun a ha => ?_
              obtain rfl := Option.some.inj h
              have H56 : Holds (([] : List Res).flatMap Res.own) w w52 [] G := (((H54.cut 0).cut 0).cut 0)
              exact ret_seq (ret1 rfl ha rfl ⟨rfl, H56⟩)
            · have h := if_f hc55 h
              refine WP_skip_seq ?_
              refine WP_seq ?_
              refine WP_seq ?_
              refine WP_region ?_
              refine XL_q rfl (qt_move rfl) rfl rfl ?_
              refine XL_q rfl (qt_move rfl) rfl rfl ?_
              refine XL_q rfl (qt_neq rfl rfl) rfl rfl ?_
              refine WL_nil_seq ?_
              refine WP_cond rfl (fun hc57 => ?_) (fun hc57 => ?_)
              · have h := if_t hc57 h
                refine WP_seq ?_
                refine WP_region ?_
                refine XL_q rfl (qt_assign rfl) rfl rfl ?_
                refine WL_nil_seq ?_
                refine WP_ret fun a ha => ?_
                obtain rfl := Option.some.inj h
                have H58 : Holds (([] : List Res).flatMap Res.own) w w52 [] G := (((H54.cut 0).cut 0).cut 0)
                exact ret_seq (ret1 rfl ha rfl ⟨rfl, H58⟩)
              · have h := if_f hc57 h
                refine WP_skip_seq ?_
                refine WP_seq ?_
                refine WP_region ?_
                refine XL_q rfl (qt_assign rfl) rfl rfl ?_
                refine WL_nil_seq ?_
                refine WP_ret fun a ha => ?_
                obtain rfl := Option.some.inj h
                have H59 : Holds (([] : List Res).flatMap Res.own) w w52 [] G := (((H54.cut 0).cut 0).cut 0)
                exact ret1 rfl ha rfl ⟨rfl, H59⟩
end Go.Proofs.YtcjkbcdlpfgbgaaDoor
