/- The walks: each Go function computes its shallow function. Printed by a program. -/
import Derived.Test.YthofjabphcheeaaDoorWS7T4
set_option linter.unusedVariables false
set_option maxRecDepth 10000
namespace Go.Proofs.YthofjabphcheeaaDoor
open Go Go.RowKit
theorem w_spec_l7Buy (w : World) (G : List Res) (A0 : Value) (B0 : LI) (A1 : Value) (B1 : List Int) (A2 : Value) (B2 : List Int) (B3 : Int) (A4 : Value) (B4 : LT) (p1 : Int) (p2 : Int) (r : (LI × (List Int) × (List Int) × Int × LT) × Bool) (h : spec_l7BuyS B0 B1 B2 B3 B4 p1 p2 = some r) (H : Ctx w ([.sl 70 ty7 A0 B0, .sl 3 tI A1 B1, .sl 3 tI A2 B2, .sl 33 ty8 A4 B4] ++ G)) : Calls Tryd.prog 82 #[.agg #[A0, A1, A2, iV B3, A4], iV p1, iV p2] w fun e w' => ∃ (v1 : Value) (v2 : Value) (v3 : Value) (v4 : Value), e = .returned (.tuple #[.agg #[v1, v2, v3, iV r.1.2.2.2.1, v4], .bool r.2]) ∧ Holds (([.sl 70 ty7 A0 B0, .sl 3 tI A1 B1, .sl 3 tI A2 B2, .sl 33 ty8 A4 B4] : List Res).flatMap Res.own) w w' [.sl 70 ty7 v1 r.1.1, .sl 3 tI v2 r.1.2.1, .sl 3 tI v3 r.1.2.2.1, .sl 33 ty8 v4 r.1.2.2.2.2] G := by
 have H : Holds (([.sl 70 ty7 A0 B0, .sl 3 tI A1 B1, .sl 3 tI A2 B2, .sl 33 ty8 A4 B4] : List Res).flatMap Res.own) w w [.sl 70 ty7 A0 B0, .sl 3 tI A1 B1, .sl 3 tI A2 B2, .sl 33 ty8 A4 B4] G := zb H
 refine zg (args := [.agg #[A0, A1, A2, iV B3, A4], iV p1, iV p2]) (n := 75) Tryd.func82 q q q ?_
 unfold spec_l7BuyS at h
 refine C <| Z ?_
 refine WL_box (cs := [A0, A1, A2, iV B3, A4]) H q q q q (fun b1 w2 H3 => ?_)
 refine zq (cs := [nS, nS, nS, iV 0, nS]) H3 z27 q q q (fun b5 w6 H7 => ?_)
 refine qA q q q <| B <| C <| C <| WP_quiet (by kernel_rfl) (by kernel_rfl) <| qM q q q <| qF uf27 fi27_0 nz23 q q q ?_
 have hB9 := R H7.p1
 refine l u23 q hB9 q q q q <| za H7.ctx (t := ty7) hS2 u23 q q q <| A q (qt_sub q q) q q ?_
 obtain ⟨x10, hx11, h⟩ := D h
 refine QC q q c38 (fun w' hb => w_spec_l1In w' _ p1 0 (IntKind.wrap .i64 ((List.length B0 : Int) - 1)) x10 hx11 (H7.grow hb).ctx) (by rfl) <| A q (qt_not q) q q <| qM q q q ?_
 obtain ⟨b12, hg13, h⟩ := D h
 refine zh 8 23 (.bool b12) ?_ (fun md hmd hk => ?_)
 rotate_left
 ·obtain ⟨K, rfl⟩ := zr hmd
  rcases btf (!x10) with hc14 | hc14
  ·skip
   refine qS q hc14 q q <| qS q hc14 q q <| qS q hc14 q q <| qS q hc14 q q <| qS q hc14 q q <| qS q hc14 q q <| qS q hc14 q q <| A q (ze q hc14 q) q q ?_
   exact hk _ (p (vb (if_t hc14 hg13)) (cfn 7 q (u)))
  skip
  have hg13 := if_f hc14 hg13
  refine qF uf27 fi27_0 nz23 (J q hc14) q q ?_
  have hB15 := R H7.p1
  refine l u23 q hB15 q (J q hc14) q q <| qM (J q hc14) q q ?_
  obtain ⟨x16, hx17, hg13⟩ := D hg13
  refine b H7.ctx hS2 hx17 u23 i70 (J q hc14) q q q (fun b18 off19 cap20 hv21 => ?_)
  refine qF uf70 fi70_0 nz3 (J q hc14) q q ?_
  obtain ⟨F22, hat23, hdup24⟩ := H7.at hS2 hx17 hv21
  obtain ⟨F25, hat26, hin27⟩ := AtP.fst hat23
  refine zt (k := .i64) u3 q hat26 (J q hc14) q q <| A (J q hc14) (qt_gtr q q) q q <| A q (zf q hc14 q) q q ?_
  exact hk _ (p (vb hg13) (cfn 7 q (u)))
 refine qM q q q ?_
 obtain ⟨b28, hg29, h⟩ := D h
 refine zh 4 28 (.bool b28) ?_ (fun md hmd hk => ?_)
 rotate_left
 ·obtain ⟨K, rfl⟩ := zr hmd
  rcases btf b12 with hc30 | hc30
  ·skip
   refine qS q hc30 q q <| qS q hc30 q q <| qS q hc30 q q <| A q (ze q hc30 q) q q ?_
   exact hk _ (p (vb (if_t hc30 hg29)) (cfn 3 q (u)))
  skip
  have hg29 := if_f hc30 hg29
  refine qM (J q hc30) q q ?_
  obtain ⟨x31, hx32, hg29⟩ := D hg29
  refine QC (J q hc30) q c38 (fun w' hb => w_spec_l1In w' _ p2 1 50 x31 hx32 (H7.grow hb).ctx) (by rfl) <| A (J q hc30) (qt_not q) q q <| A q (zf q hc30 q) q q ?_
  exact hk _ (p (vb hg29) (cfn 3 q (u)))
 refine qM q q q ?_
 obtain ⟨b33, hg34, h⟩ := D h
 refine zh 9 38 (.bool b33) ?_ (fun md hmd hk => ?_)
 rotate_left
 ·obtain ⟨K, rfl⟩ := zr hmd
  rcases btf b28 with hc35 | hc35
  ·skip
   refine qS q hc35 q q <| qS q hc35 q q <| qS q hc35 q q <| qS q hc35 q q <| qS q hc35 q q <| qS q hc35 q q <| qS q hc35 q q <| qS q hc35 q q <| A q (ze q hc35 q) q q ?_
   exact hk _ (p (vb (if_t hc35 hg34)) (cfn 8 q (u)))
  skip
  have hg34 := if_f hc35 hg34
  refine qF uf27 fi27_2 nz24 (J q hc35) q q ?_
  have hB36 := R H7.p1
  refine l u24 q hB36 q (J q hc35) q q <| qM (J q hc35) q q ?_
  obtain ⟨x37, hx38, hg34⟩ := D hg34
  refine b H7.ctx hS4 hx38 u24 i3 (J q hc35) q q q (fun b39 off40 cap41 hv42 => ?_)
  obtain ⟨F43, hat44, hdup45⟩ := H7.at hS4 hx38 hv42
  refine zt (k := .i64) u3 q hat44 (J q hc35) q q <| qM (J q hc35) q q <| A (J q hc35) (qt_add q q) q q <| A (J q hc35) (qt_gtr q q) q q <| A q (zf q hc35 q) q q ?_
  exact hk _ (p (vb hg34) (cfn 8 q (u)))
 refine qM q q q ?_
 obtain ⟨b46, hg47, h⟩ := D h
 refine zh 11 50 (.bool b46) ?_ (fun md hmd hk => ?_)
 rotate_left
 ·obtain ⟨K, rfl⟩ := zr hmd
  rcases btf b33 with hc48 | hc48
  ·skip
   refine qS q hc48 q q <| qS q hc48 q q <| qS q hc48 q q <| qS q hc48 q q <| qS q hc48 q q <| qS q hc48 q q <| qS q hc48 q q <| qS q hc48 q q <| qS q hc48 q q <| qS q hc48 q q ?_
   refine A q (ze q hc48 q) q q ?_
   exact hk _ (p (vb (if_t hc48 hg47)) (cfn 10 q (u)))
  skip
  have hg47 := if_f hc48 hg47
  refine qM (J q hc48) q q <| qF uf27 fi27_1 nz24 (J q hc48) q q ?_
  have hB49 := R H7.p1
  refine l u24 q hB49 q (J q hc48) q q <| qM (J q hc48) q q ?_
  obtain ⟨x50, hx51, hg47⟩ := D hg47
  refine b H7.ctx hS3 hx51 u24 i3 (J q hc48) q q q (fun b52 off53 cap54 hv55 => ?_)
  obtain ⟨F56, hat57, hdup58⟩ := H7.at hS3 hx51 hv55
  refine zt (k := .i64) u3 q hat57 (J q hc48) q q <| A (J q hc48) (qt_mul q q) q q <| qF uf27 fi27_3 nz3 (J q hc48) q q ?_
  have hB59 := R H7.p1
  refine l u3 q hB59 q (J q hc48) q q <| A (J q hc48) (qt_gtr q q) q q <| A q (zf q hc48 q) q q ?_
  exact hk _ (p (vb hg47) (cfn 10 q (u)))
 refine QL_nil fun a ha w60 hb61 => ?_
 have H62 := H7.grow hb61
 refine X (S ?_ ha)
 refine Y q (fun hc63 => ?_) (fun hc63 => ?_)
 ·have h := if_t hc63 h
  refine C <| Z ?_
  have hB64 := R H62.p1
  refine zm (cs := [A0, A1, A2, iV B3, A4]) us27 uo27 il27 hB64 q q q ?_
  change XL _ _ _ _ _ ((51, .agg #[A0, A1, A2, iV B3, A4]) :: _) _
  refine zl (cs' := [A0, A1, A2, iV B3, A4]) H62 q il27 q (T (H62.ctx.sliceOne hS2) (T (H62.ctx.sliceOne hS3) (T (H62.ctx.sliceOne hS4) (T q (T (H62.ctx.sliceOne hS5) q))))) q q q (fun w65 H66 => ?_)
  refine qA q q q <| B <| W fun a ha => ?_
  obtain rfl := L h
  have hB68 := R H66.p0
  have H69 := H66.q0.q0.p3.p3.p3.p3
  exact m (retct q ha q q (run_loadVar_bx (cs := [A0, A1, A2, iV B3, A4]) us27 uo27 il27 hB68) ⟨A0, A1, A2, A4, q, H69⟩)
 have h := if_f hc63 h
 refine y <| C ?_
 refine WP_tail 10 (by kernel_rfl) (by kernel_rfl) (fun w70 hb71 => ?_)
 have H72 := H62.grow hb71
 refine qF uf27 fi27_2 nz24 q q q ?_
 have hB73 := R H72.p1
 refine l u24 q hB73 q q q q <| qM q q q <| qF uf27 fi27_2 nz24 q q q ?_
 have hB74 := R H72.p1
 refine l u24 q hB74 q q q q <| qM q q q ?_
 obtain ⟨x75, hx76, h⟩ := D h
 refine b H72.ctx hS4 hx76 u24 i3 q q q q (fun b77 off78 cap79 hv80 => ?_)
 obtain ⟨F81, hat82, hdup83⟩ := H72.at hS4 hx76 hv80
 refine zt (k := .i64) u3 q hat82 q q q <| qM q q q <| A q (qt_add q q) q q <| SL_nil ?_
 obtain ⟨x84, hx85, h⟩ := D h
 refine b H72.ctx hS4 hx85 u24 i3 q q q q (fun b86 off87 cap88 hv89 => ?_)
 have H90 := H72.p4
 refine WL_storeH (fo := 0) (cs' := [iV (IntKind.wrap .i64 (x75 + p2))]) H90 hx85 hv89 (Upd.whole (Blt.int)) q il3 q q q q (fun w91 H92 => ?_)
 refine B <| C ?_
 refine WP_tail 9 (by kernel_rfl) (by kernel_rfl) (fun w94 hb95 => ?_)
 have H96 := H92.grow hb95
 refine qF uf27 fi27_3 nz3 q q q ?_
 have hB97 := R H96.p2
 refine l u3 q hB97 q q q q <| qM q q q <| qF uf27 fi27_1 nz24 q q q ?_
 have hB98 := R H96.p2
 refine l u24 q hB98 q q q q <| qM q q q ?_
 obtain ⟨x99, hx100, h⟩ := D h
 refine b H96.ctx hS4 hx100 u24 i3 q q q q (fun b101 off102 cap103 hv104 => ?_)
 obtain ⟨F105, hat106, hdup107⟩ := H96.at hS4 hx100 hv104
 refine zt (k := .i64) u3 q hat106 q q q <| A q (qt_mul q q) q q <| SL_nil <| A q (qt_sub q q) q q <| qF uf27 fi27_3 nz3 q q q ?_
 have H108 := H96.p2
 refine WL_store_bx H108 q il3 q q q q q (fun w109 H110 => ?_)
 refine B <| C <| Z ?_
 have hB112 := R H110.p0
 refine zm (cs := [A0, A1, A2, iV (IntKind.wrap .i64 (B3 - (IntKind.wrap .i64 (p2 * x99)))), A4]) us27 uo27 il27 hB112 q q q ?_
 change XL _ _ _ _ _ ((74, .agg #[A0, A1, A2, iV (IntKind.wrap .i64 (B3 - (IntKind.wrap .i64 (p2 * x99)))), A4]) :: _) _
 have H113 := H110.p2
 refine zl (cs' := [A0, A1, A2, iV (IntKind.wrap .i64 (B3 - (IntKind.wrap .i64 (p2 * x99)))), A4]) H113 q il27 q (T (H113.ctx.sliceOne hS3) (T (H113.ctx.sliceOne hS4) (T (H113.ctx.sliceOne hS2) (T q (T (H113.ctx.sliceOne hS5) q))))) q q q (fun w114 H115 => ?_)
 refine qA q q q <| B <| W fun a ha => ?_
 obtain rfl := L h
 have hB117 := R H115.p0
 have H118 := H115.q0.q0.p3.p1.p3.p3
 exact retct q ha q q (run_loadVar_bx (cs := [A0, A1, A2, iV (IntKind.wrap .i64 (B3 - (IntKind.wrap .i64 (p2 * x99)))), A4]) us27 uo27 il27 hB117) ⟨A0, A1, A2, A4, q, H118⟩
theorem w_spec_MakeRun (w : World) (G : List Res) (vp0 : Value) (p0 : LI) (hp0 : Has G ty7 vp0 p0) (vp1 : Value) (p1 : List Int) (hp1 : Has G tI vp1 p1) (A2_0 : Value) (p2_0 : List Int) (hp2_0 : Has G tI A2_0 p2_0) (A2_1 : Value) (p2_1 : List Int) (hp2_1 : Has G tI A2_1 p2_1) (r : (List Int) × Bool) (h : spec_MakeRunS p0 p1 p2_0 p2_1 = some r) (H : Ctx w G) : Calls Tryd.prog 99 #[vp0, vp1, .agg #[A2_0, A2_1]] w fun e w' => ∃ (v1 : Value), e = .returned (.tuple #[v1, .bool r.2]) ∧ Holds M0 w w' [.sl 3 tI v1 r.1] G := by
 have H : Holds M0 w w [] G := zb H
 refine zg (args := [vp0, vp1, .agg #[A2_0, A2_1]]) (n := 111) Tryd.func99 q q q ?_
 unfold spec_MakeRunS at h
 refine C <| Z ?_
 refine WL_box (cs := [A2_0, A2_1]) H q q q q (fun b1 w2 H3 => ?_)
 refine qA q q q <| qA q q q <| B <| C <| C <| zk <| qM q q q ?_
 obtain ⟨x5, hx6, h⟩ := D h
 refine QC q q c70 (fun w' hb => w_spec_ItemsValid w' _ vp0 p0 (hp0.c) x5 hx6 (H3.grow hb).ctx) (by rfl) <| A q (qt_not q) q q <| qM q q q ?_
 obtain ⟨b7, hg8, h⟩ := D h
 refine zh 5 20 (.bool b7) ?_ (fun md hmd hk => ?_)
 rotate_left
 ·obtain ⟨K, rfl⟩ := zr hmd
  rcases btf (!x5) with hc9 | hc9
  ·skip
   refine qS q hc9 q q <| qS q hc9 q q <| qS q hc9 q q <| qS q hc9 q q <| A q (ze q hc9 q) q q ?_
   exact hk _ (p (vb (if_t hc9 hg8)) (cfn 4 q (u)))
  skip
  have hg8 := if_f hc9 hg8
  refine qM (J q hc9) q q <| qM (J q hc9) q q ?_
  obtain ⟨x10, hx11, hg8⟩ := D hg8
  refine QC (J q hc9) q c37 (fun w' hb => w_spec_l1Amounts w' _ vp0 p0 (hp0.c) vp1 p1 (hp1.c) x10 hx11 (H3.grow hb).ctx) (by rfl) <| A (J q hc9) (qt_not q) q q <| A q (zf q hc9 q) q q ?_
  exact hk _ (p (vb hg8) (cfn 4 q (u)))
 refine qM q q q ?_
 refine zh 7 28 (.bool (b7 || ((List.length p2_0 : Int) != (List.length p0 : Int)))) ?_ (fun md hmd hk => ?_)
 rotate_left
 ·obtain ⟨K, rfl⟩ := zr hmd
  rcases btf b7 with hc12 | hc12
  ·skip
   refine qS q hc12 q q <| qS q hc12 q q <| qS q hc12 q q <| qS q hc12 q q <| qS q hc12 q q <| qS q hc12 q q <| A q (ze q hc12 q) q q ?_
   exact hk _ (p (by rw [hc12]; rfl) (cfn 6 q (u)))
  skip
  refine qF uf128 fi128_0 nz24 (J q hc12) q q ?_
  have hB13 := R H3.p0
  refine l u24 q hB13 q (J q hc12) q q <| za H3.ctx (t := tI) (hp2_0.c) u24 (J q hc12) q q <| qM (J q hc12) q q <| za H3.ctx (t := ty7) (hp0.c) u23 (J q hc12) q q <| A (J q hc12) (qt_neq q q) q q <| A q (zf q hc12 q) q q ?_
  exact hk _ (p (by rw [hc12]; rfl) (cfn 6 q (u)))
 refine QL_nil fun a ha w14 hb15 => ?_
 have H16 := H3.grow hb15
 refine X (S ?_ ha)
 refine Y q (fun hc17 => ?_) (fun hc17 => ?_)
 ·have h := if_t hc17 h
  refine C <| Z ?_
  refine zs (t := tI) (args := []) (xs := ([] : List Int)) H16 (BltL.nil) u24 j3 q q q q q q (fun v18 w19 H20 => ?_)
  refine qA q q q <| qA q q q <| B <| W fun a ha => ?_
  obtain rfl := L h
  have H22 := H20.q1
  exact m (ret2 q ha q q ⟨v18, q, H22⟩)
 have h := if_f hc17 h
 refine y <| C <| Z ?_
 refine zs (t := tI) (args := []) (xs := ([] : List Int)) H16 (BltL.nil) u24 j3 q q q q q q (fun v23 w24 H25 => ?_)
 refine qM q q q ?_
 obtain ⟨x27, hx28, h⟩ := D h
 refine zw H25 (hp1.c.c) hx28 u24 j3 q q q q q q (fun v29 w30 H31 => ?_)
 refine qA q q q <| B <| C <| rR <| qA q q q <| B <| g ?_
 obtain ⟨o35, ho36, h⟩ := D h
 have H39 := H31.p1
 refine fun a37 ha38 => zp (I := fun s a w2 => match s with | (s33, s34) => (Fr a 111 [(0, vp0), (5, pB b1), (8, v29), (9, iV s33)] ∧ Holds M0 w w2 [.bx b1 128 [A2_0, A2_1], .sl 3 tI v29 s34] G)) (O := fun o e a w2 => match o with | .inl q0 => e = .exit 0 ∧ (Fr a 111 [(8, v29)] ∧ Holds M0 w w2 [.sl 3 tI v29 q0] G) | .inr (q0, q1, q2) => e = .ret ∧ ∃ vq0, Fr a 111 [(6, vq0), (7, .bool q1)] ∧ Holds M0 w w2 [.sl 3 tI vq0 q0] G) ho36 ?_ ?_ ?_
 ·exact ⟨ha38.sub ⟨q, q, q, q, trivial⟩, H39⟩
 ·clear ha38
  intro s o42 a w40 hs41 hI43
  obtain ⟨s33, s34⟩ := s
  obtain ⟨ha, H44⟩ := hI43
  refine S ?_ ha
  clear ha
  refine C <| rR <| qM q q q <| qM q q q <| za H44.ctx (t := ty7) (hp0.c.c) u23 q q q <| A q (qt_lss q q) q q <| B ?_
  refine Y q (fun hc45 => ?_) (fun hc45 => ?_)
  ·have hs41 := if_t hc45 hs41
   refine y <| C <| g <| C <| C <| zk <| qF uf128 fi128_0 nz24 q q q ?_
   have hB46 := R H44.p0
   refine l u24 q hB46 q q q q <| qM q q q ?_
   obtain ⟨x47, hx48, hs41⟩ := D hs41
   refine b H44.ctx (hp2_0.c.c) hx48 u24 i3 q q q q (fun b49 off50 cap51 hv52 => ?_)
   obtain ⟨F53, hat54, hdup55⟩ := H44.at (hp2_0.c.c) hx48 hv52
   refine zt (k := .i64) u3 q hat54 q q q ?_
   obtain ⟨x56, hx57, hs41⟩ := D hs41
   refine QC q q c38 (fun w' hb => w_spec_l1In w' _ x47 0 9999999 x56 hx57 (H44.grow hb).ctx) (by rfl) <| A q (qt_not q) q q <| QL_nil fun a ha w58 hb59 => ?_
   have H60 := H44.grow hb59
   refine X (S ?_ ha)
   refine Y q (fun hc61 => ?_) (fun hc61 => ?_)
   ·have hs41 := if_t hc61 hs41
    refine C <| Z ?_
    refine zs (t := tI) (args := []) (xs := ([] : List Int)) H60 (BltL.nil) u24 j3 q q q q q q (fun v62 w63 H64 => ?_)
    refine qA q q q <| qA q q q <| B <| W fun a ha => ?_
    obtain rfl := L hs41
    have H66 := H64.q1.q1
    exact m (zj (m (⟨ret_ne, q, v62, ha.sub ⟨q, q, trivial⟩, H66⟩)))
   have hs41 := if_f hc61 hs41
   refine y <| C <| rR <| qA q q q <| B <| g ?_
   obtain ⟨o69, ho70, hs41⟩ := D hs41
   have H73 := H60.p1.p1
   refine fun a71 ha72 => zp (I := fun s a w2 => match s with | (s67, s68) => (Fr a 111 [(0, vp0), (5, pB b1), (8, v29), (9, iV s33), (10, iV s67)] ∧ Holds M0 w w2 [.bx b1 128 [A2_0, A2_1], .sl 3 tI v29 s68] G)) (O := fun o e a w2 => match o with | .inl q0 => e = .exit 2 ∧ (Fr a 111 [(0, vp0), (5, pB b1), (8, v29), (9, iV s33)] ∧ Holds M0 w w2 [.bx b1 128 [A2_0, A2_1], .sl 3 tI v29 q0] G) | .inr (q0, q1, q2) => e = .ret ∧ ∃ vq0, Fr a 111 [(6, vq0), (7, .bool q1)] ∧ Holds M0 w w2 [.sl 3 tI vq0 q0] G) ho70 ?_ ?_ ?_
   ·exact ⟨ha72.sub ⟨q, q, q, q, q, trivial⟩, H73⟩
   ·clear ha72
    intro s o76 a w74 hs75 hI77
    obtain ⟨s67, s68⟩ := s
    obtain ⟨ha, H78⟩ := hI77
    refine S ?_ ha
    clear ha
    refine C <| rR <| qM q q q <| qM q q q <| qM q q q ?_
    obtain ⟨x79, hx80, hs75⟩ := D hs75
    refine b H78.ctx (hp0.c.c) hx80 u23 i70 q q q q (fun b81 off82 cap83 hv84 => ?_)
    refine qF uf70 fi70_1 nz68 q q q ?_
    obtain ⟨F85, hat86, hdup87⟩ := H78.at (hp0.c.c) hx80 hv84
    obtain ⟨F88, hat89, hin90⟩ := AtP.snd hat86
    obtain ⟨F91, hat92, hin93⟩ := AtP.fst hat89
    refine XL_load (t := ty2) u68 q q hat92 q q q (fun v94 hr95 => ?_)
    have H96 : Holds _ w w74 [.ro ty1 v94 x79.2.1, .bx b1 128 [A2_0, A2_1], .sl 3 tI v29 s68] G := hdup87 _ _ _ _ hr95 (fun k h => (fun k h => (fun _ h => h) k (hin90 k h)) k (hin93 k h))
    refine za H96.ctx (t := ty1) hR0 u68 q q q <| A q (qt_lss q q) q q <| B ?_
    refine Y q (fun hc97 => ?_) (fun hc97 => ?_)
    ·have hs75 := if_t hc97 hs75
     refine y <| C <| g <| rR <| qM q q q <| qM q q q ?_
     obtain ⟨x98, hx99, hs75⟩ := D hs75
     refine b H96.ctx (hp0.c.c.c) hx99 u23 i70 q q q q (fun b100 off101 cap102 hv103 => ?_)
     refine qF uf70 fi70_1 nz68 q q q ?_
     obtain ⟨F104, hat105, hdup106⟩ := H96.at (hp0.c.c.c) hx99 hv103
     obtain ⟨F107, hat108, hin109⟩ := AtP.snd hat105
     obtain ⟨F110, hat111, hin112⟩ := AtP.fst hat108
     refine XL_load (t := ty2) u68 q q hat111 q q q (fun v113 hr114 => ?_)
     have H115 : Holds _ w w74 [.ro ty1 v113 x98.2.1, .ro ty1 v94 x79.2.1, .bx b1 128 [A2_0, A2_1], .sl 3 tI v29 s68] G := hdup106 _ _ _ _ hr114 (fun k h => (fun k h => (fun _ h => h) k (hin109 k h)) k (hin112 k h))
     refine qM q q q ?_
     obtain ⟨x116, hx117, hs75⟩ := D hs75
     refine b H115.ctx hR0 hx117 u68 i67 q q q q (fun b118 off119 cap120 hv121 => ?_)
     obtain ⟨F122, hat123, hdup124⟩ := H115.atN hR0 hx117 hv121
     refine XL_load_agg (t := ty1) us67 uo67 i67 hat123 q q q (fun cs125 hr126 => ?_)
     obtain ⟨c127, c128, F129, F130, rfl, eF133, hr131, hr132⟩ := hr126
     obtain ⟨rfl, _⟩ := hr131
     obtain ⟨rfl, _⟩ := hr132
     change XL _ _ _ _ _ ((64, .agg #[iV x116.1, iV x116.2]) :: _) _
     refine zq (cs := [iV 0, iV 0]) H115 z67 q q q (fun b134 w135 H136 => ?_)
     refine zl (cs' := [iV x116.1, iV x116.2]) H136 q il67 q q q q q (fun w138 H139 => ?_)
     refine B <| C ?_
     refine WP_tail 17 (by kernel_rfl) (by kernel_rfl) (fun w141 hb142 => ?_)
     have H143 := H139.grow hb142
     refine qM q q q <| qF uf67 fi67_0 nz3 q q q ?_
     have hB144 := R H143.p0
     refine l u3 q hB144 q q q q <| qM q q q <| qF uf67 fi67_0 nz3 q q q ?_
     have hB145 := R H143.p0
     refine l u3 q hB145 q q q q ?_
     obtain ⟨x146, hx147, hs75⟩ := D hs75
     refine b H143.ctx hS4 hx147 u24 i3 q q q q (fun b148 off149 cap150 hv151 => ?_)
     obtain ⟨F152, hat153, hdup154⟩ := H143.at hS4 hx147 hv151
     refine zt (k := .i64) u3 q hat153 q q q <| qF uf128 fi128_0 nz24 q q q ?_
     have hB155 := R H143.p3
     refine l u24 q hB155 q q q q <| qM q q q ?_
     obtain ⟨x156, hx157, hs75⟩ := D hs75
     refine b H143.ctx (hp2_0.c.c.c.c.c) hx157 u24 i3 q q q q (fun b158 off159 cap160 hv161 => ?_)
     obtain ⟨F162, hat163, hdup164⟩ := H143.at (hp2_0.c.c.c.c.c) hx157 hv161
     refine zt (k := .i64) u3 q hat163 q q q <| qF uf67 fi67_1 nz3 q q q ?_
     have hB165 := R H143.p0
     refine l u3 q hB165 q q q q <| A q (qt_mul q q) q q <| A q (qt_sub q q) q q <| SL_nil ?_
     obtain ⟨x166, hx167, hs75⟩ := D hs75
     refine b H143.ctx hS4 hx167 u24 i3 q q q q (fun b168 off169 cap170 hv171 => ?_)
     have H172 := H143.p4
     refine WL_storeH (fo := 0) (cs' := [iV (IntKind.wrap .i64 (x146 - (IntKind.wrap .i64 (x156 * x116.2))))]) H172 hx167 hv171 (Upd.whole (Blt.int)) q il3 q q q q (fun w173 H174 => ?_)
     refine rN <| qM q q q <| qF uf67 fi67_0 nz3 q q q ?_
     have hB176 := R H174.p1
     refine l u3 q hB176 q q q q ?_
     obtain ⟨x177, hx178, hs75⟩ := D hs75
     refine b H174.ctx hS0 hx178 u24 i3 q q q q (fun b179 off180 cap181 hv182 => ?_)
     obtain ⟨F183, hat184, hdup185⟩ := H174.at hS0 hx178 hv182
     refine zt (k := .i64) u3 q hat184 q q q <| A q (qt_lss q q) q q <| B ?_
     refine Y q (fun hc186 => ?_) (fun hc186 => ?_)
     ·have hs75 := if_t hc186 hs75
      refine C <| Z ?_
      refine zs (t := tI) (args := []) (xs := ([] : List Int)) H174 (BltL.nil) u24 j3 q q q q q q (fun v187 w188 H189 => ?_)
      refine qA q q q <| qA q q q <| B <| W fun a ha => ?_
      obtain rfl := L hs75
      have H191 := H189.q1.q1.q1.q1.q1
      exact zj (m (⟨ret_ne, q, v187, ha.sub ⟨q, q, trivial⟩, H191⟩))
     have hs75 := if_f hc186 hs75
     refine WP_skip fun a ha => ?_
     refine zi (X (S ?_ ha))
     refine Z <| qM q q q <| A q (qt_add q q) q q <| qA q q q <| WL_nil fun a ha => ?_
     obtain rfl := L hs75
     have H192 := H174.q1.q1.q1.p1
     exact ⟨q, ha.sub ⟨q, q, q, q, q, trivial⟩, H192⟩
    have hs75 := if_f hc97 hs75
    refine WP_exit fun a ha => ?_
    obtain rfl := L hs75
    have H193 := H96.q0.p1.p1
    exact zo (⟨exit_ne, q, ha.sub ⟨q, q, q, q, trivial⟩, H193⟩)
   intro e a71 w194 hO195
   rcases o69 with o69 | o69
   ·skip
    obtain ⟨p196, rfl⟩ : ∃ z, z = o69 := ⟨o69, q⟩
    obtain ⟨rfl, hO198⟩ := hO195
    obtain ⟨ha, H197⟩ := hO198
    refine zn (X (S ?_ ha))
    refine WP_tail 19 (by kernel_rfl) (by kernel_rfl) (fun w199 hb200 => ?_)
    have H201 := H197.grow hb200
    refine qM q q q <| qM q q q <| qM q q q <| qM q q q ?_
    obtain ⟨x202, hx203, hs41⟩ := D hs41
    refine b H201.ctx hS1 hx203 u24 i3 q q q q (fun b204 off205 cap206 hv207 => ?_)
    obtain ⟨F208, hat209, hdup210⟩ := H201.at hS1 hx203 hv207
    refine zt (k := .i64) u3 q hat209 q q q <| qF uf128 fi128_0 nz24 q q q ?_
    have hB211 := R H201.p0
    refine l u24 q hB211 q q q q <| qM q q q ?_
    obtain ⟨x212, hx213, hs41⟩ := D hs41
    refine b H201.ctx (hp2_0.c.c) hx213 u24 i3 q q q q (fun b214 off215 cap216 hv217 => ?_)
    obtain ⟨F218, hat219, hdup220⟩ := H201.at (hp2_0.c.c) hx213 hv217
    refine zt (k := .i64) u3 q hat219 q q q <| qM q q q <| qM q q q ?_
    obtain ⟨x221, hx222, hs41⟩ := D hs41
    refine b H201.ctx (hp0.c.c) hx222 u23 i70 q q q q (fun b223 off224 cap225 hv226 => ?_)
    refine qF uf70 fi70_0 nz3 q q q ?_
    obtain ⟨F227, hat228, hdup229⟩ := H201.at (hp0.c.c) hx222 hv226
    obtain ⟨F230, hat231, hin232⟩ := AtP.fst hat228
    refine zt (k := .i64) u3 q hat231 q q q <| A q (qt_max q q) q q <| A q (qt_mul q q) q q <| A q (qt_add q q) q q <| SL_nil ?_
    obtain ⟨x233, hx234, hs41⟩ := D hs41
    refine b H201.ctx hS1 hx234 u24 i3 q q q q (fun b235 off236 cap237 hv238 => ?_)
    have H239 := H201.p1
    refine WL_storeH (fo := 0) (cs' := [iV (IntKind.wrap .i64 (x202 + (IntKind.wrap .i64 (x212 * (if 1 > x221.1 then 1 else x221.1)))))]) H239 hx234 hv238 (Upd.whole (Blt.int)) q il3 q q q q (fun w240 H241 => ?_)
    refine WL_nil fun a ha => ?_
    refine zi (X (S ?_ ha))
    refine Z <| qM q q q <| A q (qt_add q q) q q <| qA q q q <| WL_nil fun a ha => ?_
    obtain rfl := L hs41
    have H243 := H241.p1
    exact ⟨q, ha.sub ⟨q, q, q, q, trivial⟩, H243⟩
   skip
   obtain ⟨p244, p245, p246⟩ := o69
   obtain ⟨rfl, hO248⟩ := hO195
   obtain ⟨vp244, ha, H247⟩ := hO248
   obtain rfl := L hs41
   exact zj (m (zj (m (⟨ret_ne, q, vp244, ha.sub ⟨q, q, trivial⟩, H247⟩))))
  have hs41 := if_f hc45 hs41
  refine WP_exit fun a ha => ?_
  obtain rfl := L hs41
  have H249 := H44.q0
  exact zo (⟨exit_ne, q, ha.sub ⟨q, trivial⟩, H249⟩)
 intro e a37 w250 hO251
 rcases o35 with o35 | o35
 ·skip
  obtain ⟨p252, rfl⟩ : ∃ z, z = o35 := ⟨o35, q⟩
  obtain ⟨rfl, hO254⟩ := hO251
  obtain ⟨ha, H253⟩ := hO254
  refine zn (X (S ?_ ha))
  refine rR <| qM q q q <| qA q q q <| qA q q q <| B <| W fun a ha => ?_
  obtain rfl := L h
  exact ret2 q ha q q ⟨v29, q, H253⟩
 skip
 obtain ⟨p255, p256, p257⟩ := o35
 obtain ⟨rfl, hO259⟩ := hO251
 obtain ⟨vp255, ha, H258⟩ := hO259
 obtain rfl := L h
 exact zj (m (ret2 q ha q q ⟨vp255, q, H258⟩))
theorem w_spec_l7Make (w : World) (G : List Res) (A0 : Value) (B0 : LI) (A1 : Value) (B1 : List Int) (A2 : Value) (B2 : List Int) (B3 : Int) (A4 : Value) (B4 : LT) (p1 : Int) (p2 : Int) (r : (LI × (List Int) × (List Int) × Int × LT) × Bool) (h : spec_l7MakeS B0 B1 B2 B3 B4 p1 p2 = some r) (H : Ctx w ([.sl 70 ty7 A0 B0, .sl 3 tI A1 B1, .sl 3 tI A2 B2, .sl 33 ty8 A4 B4] ++ G)) : Calls Tryd.prog 83 #[.agg #[A0, A1, A2, iV B3, A4], iV p1, iV p2] w fun e w' => ∃ (v1 : Value) (v2 : Value) (v3 : Value) (v4 : Value), e = .returned (.tuple #[.agg #[v1, v2, v3, iV r.1.2.2.2.1, v4], .bool r.2]) ∧ Holds (([.sl 70 ty7 A0 B0, .sl 3 tI A1 B1, .sl 3 tI A2 B2, .sl 33 ty8 A4 B4] : List Res).flatMap Res.own) w w' [.sl 70 ty7 v1 r.1.1, .sl 3 tI v2 r.1.2.1, .sl 3 tI v3 r.1.2.2.1, .sl 33 ty8 v4 r.1.2.2.2.2] G := by
 have H : Holds (([.sl 70 ty7 A0 B0, .sl 3 tI A1 B1, .sl 3 tI A2 B2, .sl 33 ty8 A4 B4] : List Res).flatMap Res.own) w w [.sl 70 ty7 A0 B0, .sl 3 tI A1 B1, .sl 3 tI A2 B2, .sl 33 ty8 A4 B4] G := zb H
 refine zg (args := [.agg #[A0, A1, A2, iV B3, A4], iV p1, iV p2]) (n := 64) Tryd.func83 q q q ?_
 unfold spec_l7MakeS at h
 refine C <| Z ?_
 refine WL_box (cs := [A0, A1, A2, iV B3, A4]) H q q q q (fun b1 w2 H3 => ?_)
 refine zq (cs := [nS, nS, nS, iV 0, nS]) H3 z27 q q q (fun b5 w6 H7 => ?_)
 refine qA q q q <| B <| C <| C <| zk <| qM q q q <| qF uf27 fi27_0 nz23 q q q ?_
 have hB9 := R H7.p1
 refine l u23 q hB9 q q q q <| za H7.ctx (t := ty7) hS2 u23 q q q <| A q (qt_sub q q) q q ?_
 obtain ⟨x10, hx11, h⟩ := D h
 refine QC q q c38 (fun w' hb => w_spec_l1In w' _ p1 0 (IntKind.wrap .i64 ((List.length B0 : Int) - 1)) x10 hx11 (H7.grow hb).ctx) (by rfl) <| A q (qt_not q) q q <| qM q q q ?_
 obtain ⟨b12, hg13, h⟩ := D h
 refine zh 8 26 (.bool b12) ?_ (fun md hmd hk => ?_)
 rotate_left
 ·obtain ⟨K, rfl⟩ := zr hmd
  rcases btf (!x10) with hc14 | hc14
  ·skip
   refine qS q hc14 q q <| qS q hc14 q q <| qS q hc14 q q <| qS q hc14 q q <| qS q hc14 q q <| qS q hc14 q q <| qS q hc14 q q <| A q (ze q hc14 q) q q ?_
   exact hk _ (p (vb (if_t hc14 hg13)) (cfn 7 q (u)))
  skip
  have hg13 := if_f hc14 hg13
  refine qF uf27 fi27_0 nz23 (J q hc14) q q ?_
  have hB15 := R H7.p1
  refine l u23 q hB15 q (J q hc14) q q <| qM (J q hc14) q q ?_
  obtain ⟨x16, hx17, hg13⟩ := D hg13
  refine b H7.ctx hS2 hx17 u23 i70 (J q hc14) q q q (fun b18 off19 cap20 hv21 => ?_)
  refine qF uf70 fi70_0 nz3 (J q hc14) q q ?_
  obtain ⟨F22, hat23, hdup24⟩ := H7.at hS2 hx17 hv21
  obtain ⟨F25, hat26, hin27⟩ := AtP.fst hat23
  refine zt (k := .i64) u3 q hat26 (J q hc14) q q <| A (J q hc14) (qt_eql q q) q q <| A q (zf q hc14 q) q q ?_
  exact hk _ (p (vb hg13) (cfn 7 q (u)))
 refine qM q q q ?_
 obtain ⟨b28, hg29, h⟩ := D h
 refine zh 4 31 (.bool b28) ?_ (fun md hmd hk => ?_)
 rotate_left
 ·obtain ⟨K, rfl⟩ := zr hmd
  rcases btf b12 with hc30 | hc30
  ·skip
   refine qS q hc30 q q <| qS q hc30 q q <| qS q hc30 q q <| A q (ze q hc30 q) q q ?_
   exact hk _ (p (vb (if_t hc30 hg29)) (cfn 3 q (u)))
  skip
  have hg29 := if_f hc30 hg29
  refine qM (J q hc30) q q ?_
  obtain ⟨x31, hx32, hg29⟩ := D hg29
  refine QC (J q hc30) q c38 (fun w' hb => w_spec_l1In w' _ p2 1 50 x31 hx32 (H7.grow hb).ctx) (by rfl) <| A (J q hc30) (qt_not q) q q <| A q (zf q hc30 q) q q ?_
  exact hk _ (p (vb hg29) (cfn 3 q (u)))
 refine QL_nil fun a ha w33 hb34 => ?_
 have H35 := H7.grow hb34
 refine X (S ?_ ha)
 refine Y q (fun hc36 => ?_) (fun hc36 => ?_)
 ·have h := if_t hc36 h
  refine C <| Z ?_
  have hB37 := R H35.p1
  refine zm (cs := [A0, A1, A2, iV B3, A4]) us27 uo27 il27 hB37 q q q ?_
  change XL _ _ _ _ _ ((32, .agg #[A0, A1, A2, iV B3, A4]) :: _) _
  refine zl (cs' := [A0, A1, A2, iV B3, A4]) H35 q il27 q (T (H35.ctx.sliceOne hS2) (T (H35.ctx.sliceOne hS3) (T (H35.ctx.sliceOne hS4) (T q (T (H35.ctx.sliceOne hS5) q))))) q q q (fun w38 H39 => ?_)
  refine qA q q q <| B <| W fun a ha => ?_
  obtain rfl := L h
  have hB41 := R H39.p0
  have H42 := H39.q0.q0.p3.p3.p3.p3
  exact m (retct q ha q q (run_loadVar_bx (cs := [A0, A1, A2, iV B3, A4]) us27 uo27 il27 hB41) ⟨A0, A1, A2, A4, q, H42⟩)
 have h := if_f hc36 h
 refine y <| rR <| qF uf27 fi27_0 nz23 q q q ?_
 have hB43 := R H35.p1
 refine l u23 q hB43 q q q q <| za H35.ctx (t := ty7) hS2 u23 q q q ?_
 obtain ⟨x44, hx45, h⟩ := D h
 refine WL_makeH H35 hx45 u24 j3 q (fun _ => ⟨q, q⟩) q q q q q (fun v46 w47 H48 => ?_)
 refine qA q q q <| rN <| qM q q q <| qM q q q <| qM q q q ?_
 obtain ⟨x50, hx51, h⟩ := D h
 refine b H48.ctx hS0 hx51 u24 i3 q q q q (fun b52 off53 cap54 hv55 => ?_)
 refine WL_storeH (fo := 0) (cs' := [iV p2]) H48 hx51 hv55 (Upd.whole (Blt.int)) q il3 q q q q (fun w56 H57 => ?_)
 refine rN <| qF uf27 fi27_0 nz23 q q q ?_
 have hB59 := R H57.p2
 refine l u23 q hB59 q q q q <| qF uf27 fi27_2 nz24 q q q ?_
 have hB60 := R H57.p2
 refine l u24 q hB60 q q q q <| qM q q q <| A q (qt_build (args := [(0, .tmp 46)]) (css := [#[v46]]) (cells := #[v46, nS]) q ⟨(H57.ctx.sliceCells hS0), trivial⟩ (by kernel_rfl)) q q ?_
 obtain ⟨x61, hx62, h⟩ := D h
 refine zd q q c99 (w_spec_MakeRun w56 _ A0 B0 hS3 A2 B2 hS5 v46 (List.set x44 (Int.toNat p1) p2) hS0 (nS) ([] : List Int) (HasRo.has HasRo.nil) x61 hx62 H57.ctx) (by rfl) ?_
 rintro _ w63 ⟨v65, rfl, H64⟩; refine ⟨_, q, ?_⟩
 have H66 := H57.cN1 [] H64
 refine qM q q q <| A q (zv q q) q q <| A q (zv q q) q q <| qA q q q <| qA q q q <| B <| C <| rR <| qM q q q ?_
 refine A q (qt_not q) q q <| qM q q q ?_
 obtain ⟨b67, hg68, h⟩ := D h
 refine zh 6 59 (.bool b67) ?_ (fun md hmd hk => ?_)
 rotate_left
 ·obtain ⟨Q, rfl⟩ := Md.seq_of hmd
  rcases btf (!x61.2) with hc69 | hc69
  ·skip
   refine qS q hc69 q q <| qS q hc69 q q <| qS q hc69 q q <| qS q hc69 q q <| qS q hc69 q q <| A q (ze q hc69 q) q q ?_
   exact hk _ (p (vb (if_t hc69 hg68)) (cfn 5 q (u)))
  skip
  have hg68 := if_f hc69 hg68
  refine qM (J q hc69) q q <| qM (J q hc69) q q ?_
  obtain ⟨x70, hx71, hg68⟩ := D hg68
  refine b H66.ctx hS0 hx71 u24 i3 (J q hc69) q q q (fun b72 off73 cap74 hv75 => ?_)
  obtain ⟨F76, hat77, hdup78⟩ := H66.at hS0 hx71 hv75
  refine zt (k := .i64) u3 q hat77 (J q hc69) q q <| A (J q hc69) (qt_gtr q q) q q <| A q (zf q hc69 q) q q ?_
  exact hk _ (p (vb hg68) (cfn 5 q (u)))
 refine B ?_
 refine Y q (fun hc79 => ?_) (fun hc79 => ?_)
 ·have h := if_t hc79 h
  refine C <| Z ?_
  have hB80 := R H66.p3
  refine zm (cs := [A0, A1, A2, iV B3, A4]) us27 uo27 il27 hB80 q q q ?_
  change XL _ _ _ _ _ ((60, .agg #[A0, A1, A2, iV B3, A4]) :: _) _
  have H81 := H66.p2
  refine zl (cs' := [A0, A1, A2, iV B3, A4]) H81 q il27 q (T (H81.ctx.sliceOne hS4) (T (H81.ctx.sliceOne hS5) (T (H81.ctx.sliceOne hS6) (T q (T (H81.ctx.sliceOne hS7) q))))) q q q (fun w82 H83 => ?_)
  refine qA q q q <| B <| W fun a ha => ?_
  obtain rfl := L h
  have hB85 := R H83.p0
  have H86 := H83.q0.q0.q0.q0.p3.p3.p3.p3
  exact m (retct q ha q q (run_loadVar_bx (cs := [A0, A1, A2, iV B3, A4]) us27 uo27 il27 hB85) ⟨A0, A1, A2, A4, q, H86⟩)
 have h := if_f hc79 h
 refine y <| rR <| qM q q q <| qF uf27 fi27_2 nz24 q q q ?_
 have H87 := H66.p3
 refine WL_store_bx H87 q il24 (H87.ctx.sliceCells hS1) (H87.ctx.sliceOne hS1) q q q (fun w88 H89 => ?_)
 refine B <| C <| Z ?_
 have hB91 := R H89.p0
 refine zm (cs := [A0, A1, v65, iV B3, A4]) us27 uo27 il27 hB91 q q q ?_
 change XL _ _ _ _ _ ((63, .agg #[A0, A1, v65, iV B3, A4]) :: _) _
 have H92 := H89.p3
 refine zl (cs' := [A0, A1, v65, iV B3, A4]) H92 q il27 q (T (H92.ctx.sliceOne hS4) (T (H92.ctx.sliceOne hS5) (T (H92.ctx.sliceOne hS2) (T q (T (H92.ctx.sliceOne hS7) q))))) q q q (fun w93 H94 => ?_)
 refine qA q q q <| B <| W fun a ha => ?_
 obtain rfl := L h
 have hB96 := R H94.p0
 have H97 := H94.q0.q0.q1.q3.p3.p1.p3.p3
 exact retct q ha q q (run_loadVar_bx (cs := [A0, A1, v65, iV B3, A4]) us27 uo27 il27 hB96) ⟨A0, A1, v65, A4, q, H97⟩
theorem w_spec_l7Order (w : World) (G : List Res) (A0 : Value) (B0 : LI) (A1 : Value) (B1 : List Int) (A2 : Value) (B2 : List Int) (B3 : Int) (A4 : Value) (B4 : LT) (p1 : Int) (p2 : Int) (p3 : Int) (r : (LI × (List Int) × (List Int) × Int × LT) × Bool) (h : spec_l7OrderS B0 B1 B2 B3 B4 p1 p2 p3 = some r) (H : Ctx w ([.sl 70 ty7 A0 B0, .sl 3 tI A1 B1, .sl 3 tI A2 B2, .sl 33 ty8 A4 B4] ++ G)) : Calls Tryd.prog 84 #[.agg #[A0, A1, A2, iV B3, A4], iV p1, iV p2, iV p3] w fun e w' => ∃ (v1 : Value) (v2 : Value) (v3 : Value) (v4 : Value), e = .returned (.tuple #[.agg #[v1, v2, v3, iV r.1.2.2.2.1, v4], .bool r.2]) ∧ Holds (([.sl 70 ty7 A0 B0, .sl 3 tI A1 B1, .sl 3 tI A2 B2, .sl 33 ty8 A4 B4] : List Res).flatMap Res.own) w w' [.sl 70 ty7 v1 r.1.1, .sl 3 tI v2 r.1.2.1, .sl 3 tI v3 r.1.2.2.1, .sl 33 ty8 v4 r.1.2.2.2.2] G := by
 have H : Holds (([.sl 70 ty7 A0 B0, .sl 3 tI A1 B1, .sl 3 tI A2 B2, .sl 33 ty8 A4 B4] : List Res).flatMap Res.own) w w [.sl 70 ty7 A0 B0, .sl 3 tI A1 B1, .sl 3 tI A2 B2, .sl 33 ty8 A4 B4] G := zb H
 refine zg (args := [.agg #[A0, A1, A2, iV B3, A4], iV p1, iV p2, iV p3]) (n := 93) Tryd.func84 q q q ?_
 unfold spec_l7OrderS at h
 refine C <| Z ?_
 refine WL_box (cs := [A0, A1, A2, iV B3, A4]) H q q q q (fun b1 w2 H3 => ?_)
 refine zq (cs := [nS, nS, nS, iV 0, nS]) H3 z27 q q q (fun b5 w6 H7 => ?_)
 refine qA q q q <| B <| C <| C ?_
 obtain ⟨x10, hx11, h⟩ := D h
 obtain ⟨b21, hob21, h⟩ := D h
 obtain ⟨b32, hob32, h⟩ := D h
 obtain ⟨b58, hob58, h⟩ := D h
 refine WP_join (M := fun a w2 => (Fr a 93 [(1, iV p1), (2, iV p2), (3, iV p3), (4, pB b1), (8, pB b5), (48, .bool b58)] ∧ Holds (([.sl 70 ty7 A0 B0, .sl 3 tI A1 B1, .sl 3 tI A2 B2, .sl 33 ty8 A4 B4] : List Res).flatMap Res.own) w w2 [.bx b1 27 [A0, A1, A2, iV B3, A4], .sl 70 ty7 A0 B0, .sl 3 tI A1 B1, .sl 3 tI A2 B2, .sl 33 ty8 A4 B4, .bx b5 27 [nS, nS, nS, iV 0, nS]] G)) ?_ ?_
 ·refine WP_ordersT (fun w1 w2 => Chg M0 w1 w2) 38 (by kernel_rfl) (fun w209 hb210 => ?_)
  have H211 := H7.grow hb210
  have C212 : Ctx w209 ([] ++ ([.bx b5 27 [nS, nS, nS, iV 0, nS], .bx b1 27 [A0, A1, A2, iV B3, A4], .sl 70 ty7 A0 B0, .sl 3 tI A1 B1, .sl 3 tI A2 B2, .sl 33 ty8 A4 B4] ++ G)) := H211.ctx
  have H213 : Holds _ w209 w209 [] ([.bx b5 27 [nS, nS, nS, iV 0, nS], .bx b1 27 [A0, A1, A2, iV B3, A4], .sl 70 ty7 A0 B0, .sl 3 tI A1 B1, .sl 3 tI A2 B2, .sl 33 ty8 A4 B4] ++ G) := zb (Rs := []) C212
  rcases btf (!x10) with hc218 | hc218
  ·skip
   have ho219 := if_t hc218 hob21
   obtain rfl := L ho219
   have hc220 : true = true := q
   have ho221 := if_t hc220 hob32
   obtain rfl := L ho221
   have hc222 : true = true := q
   have ho223 := if_t hc222 hob58
   obtain rfl := L ho223
   refine XQ (i := 0) q (by kernel_rfl) q H213.chg q (fun _ => qt_move q) q q <| XQ (i := 1) q (by kernel_rfl) q H213.chg q (fun _ => qt_fieldAddr uf27 fi27_4 nz25 q) q q ?_
   have hB224 := HasB.bx (HasB.c (HasB.hd)) H213.ctx
   refine XT (i := 2) q (by kernel_rfl) q H213.chg q (qs_cell u25 q q (hB224.cell (i := 4) q) H213.chg (Ctx.outB C212 (HasB.c (HasB.hd)))) q q <| XT (i := 3) q (by kernel_rfl) q H213.chg q (qs_len (t := ty8) H213.ctx hS5 u25 q) q q <| XQ (i := 4) q (by kernel_rfl) q H213.chg q (fun _ => qt_sub q q) q q <| X1 5 (by kernel_rfl) q <| zd q q c38 (w_spec_l1In w209 _ p1 0 (IntKind.wrap .i64 ((List.length B4 : Int) - 1)) x10 hx11 H213.ctx) (by rfl) ?_
   rintro _ w225 ⟨rfl, H226⟩; refine ⟨_, q, ?_⟩
   have H227 := H213.cN0 [] H226
   refine XN H227.chg <| XQ (i := 6) q (by kernel_rfl) q H227.chg q (fun _ => qt_not q) q q <| XQ (i := 7) q (by kernel_rfl) q H227.chg q (fun _ => qt_move q) q q <| XS (i := 8) q (by kernel_rfl) q H227.chg q hc218 q q <| XS (i := 9) q (by kernel_rfl) q H227.chg q hc218 q q <| XS (i := 10) q (by kernel_rfl) q H227.chg q hc218 q q <| XS (i := 11) q (by kernel_rfl) q H227.chg q hc218 q q <| XS (i := 12) q (by kernel_rfl) q H227.chg q hc218 q q <| XS (i := 13) q (by kernel_rfl) q H227.chg q hc218 q q <| XS (i := 14) q (by kernel_rfl) q H227.chg q hc218 q q ?_
   refine XQ (i := 15) q (by kernel_rfl) q H227.chg q (fun _ => ze q hc218 q) q q <| XQ (i := 16) q (by kernel_rfl) q H227.chg q (fun _ => qt_move q) q q <| XS (i := 17) q (by kernel_rfl) q H227.chg q hc220 q q <| XS (i := 18) q (by kernel_rfl) q H227.chg q hc220 q q <| XS (i := 19) q (by kernel_rfl) q H227.chg q hc220 q q <| XS (i := 20) q (by kernel_rfl) q H227.chg q hc220 q q <| XS (i := 21) q (by kernel_rfl) q H227.chg q hc220 q q <| XS (i := 22) q (by kernel_rfl) q H227.chg q hc220 q q <| XQ (i := 23) q (by kernel_rfl) q H227.chg q (fun _ => ze q hc220 q) q q <| XQ (i := 24) q (by kernel_rfl) q H227.chg q (fun _ => qt_move q) q q ?_
   refine XS (i := 25) q (by kernel_rfl) q H227.chg q hc222 q q <| XS (i := 26) q (by kernel_rfl) q H227.chg q hc222 q q <| XS (i := 27) q (by kernel_rfl) q H227.chg q hc222 q q <| XS (i := 28) q (by kernel_rfl) q H227.chg q hc222 q q <| XS (i := 29) q (by kernel_rfl) q H227.chg q hc222 q q <| XS (i := 30) q (by kernel_rfl) q H227.chg q hc222 q q <| XS (i := 31) q (by kernel_rfl) q H227.chg q hc222 q q <| XS (i := 32) q (by kernel_rfl) q H227.chg q hc222 q q <| XS (i := 33) q (by kernel_rfl) q H227.chg q hc222 q q <| XS (i := 34) q (by kernel_rfl) q H227.chg q hc222 q q ?_
   refine XS (i := 35) q (by kernel_rfl) q H227.chg q hc222 q q <| XS (i := 36) q (by kernel_rfl) q H227.chg q hc222 q q <| XQ (i := 37) q (by kernel_rfl) q H227.chg q (fun _ => ze q hc222 q) q q ?_
   have H228 := H211.cN0 [] H227
   refine XC_done (by kernel_rfl) (fun a ha => ?_)
   have H229 := H228.p5.p5.p5.p5.p5
   exact ⟨ha.sub ⟨q, q, q, q, q, q, trivial⟩, H229⟩
  skip
  have ho230 := if_f hc218 hob21
  obtain ⟨x232, hx233, ho230⟩ := D ho230
  obtain rfl := L ho230
  rcases btf (!x232) with hc237 | hc237
  ·skip
   have ho238 := if_t hc237 hob32
   obtain rfl := L ho238
   have hc239 : true = true := q
   have ho240 := if_t hc239 hob58
   obtain rfl := L ho240
   refine XQ (i := 0) q (by kernel_rfl) q H213.chg q (fun _ => qt_move q) q q <| XQ (i := 1) q (by kernel_rfl) q H213.chg q (fun _ => qt_fieldAddr uf27 fi27_4 nz25 q) q q ?_
   have hB241 := HasB.bx (HasB.c (HasB.hd)) H213.ctx
   refine XT (i := 2) q (by kernel_rfl) q H213.chg q (qs_cell u25 q q (hB241.cell (i := 4) q) H213.chg (Ctx.outB C212 (HasB.c (HasB.hd)))) q q <| XT (i := 3) q (by kernel_rfl) q H213.chg q (qs_len (t := ty8) H213.ctx hS5 u25 q) q q <| XQ (i := 4) q (by kernel_rfl) q H213.chg q (fun _ => qt_sub q q) q q <| X1 5 (by kernel_rfl) q <| zd q q c38 (w_spec_l1In w209 _ p1 0 (IntKind.wrap .i64 ((List.length B4 : Int) - 1)) x10 hx11 H213.ctx) (by rfl) ?_
   rintro _ w242 ⟨rfl, H243⟩; refine ⟨_, q, ?_⟩
   have H244 := H213.cN0 [] H243
   refine XN H244.chg <| XQ (i := 6) q (by kernel_rfl) q H244.chg q (fun _ => qt_not q) q q <| XQ (i := 7) q (by kernel_rfl) q H244.chg q (fun _ => qt_move q) q q <| XQ (i := 8) q (by kernel_rfl) q H244.chg (J q hc218) (fun _ => qt_move q) q q <| XQ (i := 9) q (by kernel_rfl) q H244.chg (J q hc218) (fun _ => qt_fieldAddr uf27 fi27_0 nz23 q) q q ?_
   have hB245 := HasB.bx (HasB.c (HasB.hd)) H244.ctx
   refine XT (i := 10) q (by kernel_rfl) q H244.chg (J q hc218) (qs_cell u23 q q (hB245.cell (i := 0) q) H244.chg (Ctx.outB C212 (HasB.c (HasB.hd)))) q q <| XT (i := 11) q (by kernel_rfl) q H244.chg (J q hc218) (qs_len (t := ty7) H244.ctx hS2 u23 q) q q <| XQ (i := 12) q (by kernel_rfl) q H244.chg (J q hc218) (fun _ => qt_sub q q) q q <| X1 13 (by kernel_rfl) q <| zd (J q hc218) q c38 (w_spec_l1In w242 _ p2 0 (IntKind.wrap .i64 ((List.length B0 : Int) - 1)) x232 hx233 H244.ctx) (by rfl) ?_
   rintro _ w246 ⟨rfl, H247⟩; refine ⟨_, q, ?_⟩
   have H248 := H244.cN0 [] H247
   refine XN H248.chg <| XQ (i := 14) q (by kernel_rfl) q H248.chg (J q hc218) (fun _ => qt_not q) q q <| XQ (i := 15) q (by kernel_rfl) q H248.chg q (fun _ => zf q hc218 q) q q <| XQ (i := 16) q (by kernel_rfl) q H248.chg q (fun _ => qt_move q) q q <| XS (i := 17) q (by kernel_rfl) q H248.chg q hc237 q q <| XS (i := 18) q (by kernel_rfl) q H248.chg q hc237 q q <| XS (i := 19) q (by kernel_rfl) q H248.chg q hc237 q q <| XS (i := 20) q (by kernel_rfl) q H248.chg q hc237 q q <| XS (i := 21) q (by kernel_rfl) q H248.chg q hc237 q q <| XS (i := 22) q (by kernel_rfl) q H248.chg q hc237 q q ?_
   refine XQ (i := 23) q (by kernel_rfl) q H248.chg q (fun _ => ze q hc237 q) q q <| XQ (i := 24) q (by kernel_rfl) q H248.chg q (fun _ => qt_move q) q q <| XS (i := 25) q (by kernel_rfl) q H248.chg q hc239 q q <| XS (i := 26) q (by kernel_rfl) q H248.chg q hc239 q q <| XS (i := 27) q (by kernel_rfl) q H248.chg q hc239 q q <| XS (i := 28) q (by kernel_rfl) q H248.chg q hc239 q q <| XS (i := 29) q (by kernel_rfl) q H248.chg q hc239 q q <| XS (i := 30) q (by kernel_rfl) q H248.chg q hc239 q q <| XS (i := 31) q (by kernel_rfl) q H248.chg q hc239 q q <| XS (i := 32) q (by kernel_rfl) q H248.chg q hc239 q q ?_
   refine XS (i := 33) q (by kernel_rfl) q H248.chg q hc239 q q <| XS (i := 34) q (by kernel_rfl) q H248.chg q hc239 q q <| XS (i := 35) q (by kernel_rfl) q H248.chg q hc239 q q <| XS (i := 36) q (by kernel_rfl) q H248.chg q hc239 q q <| XQ (i := 37) q (by kernel_rfl) q H248.chg q (fun _ => ze q hc239 q) q q ?_
   have H249 := H211.cN0 [] H248
   refine XC_done (by kernel_rfl) (fun a ha => ?_)
   have H250 := H249.p5.p5.p5.p5.p5
   exact ⟨ha.sub ⟨q, q, q, q, q, q, trivial⟩, H250⟩
  skip
  have ho251 := if_f hc237 hob32
  obtain ⟨x253, hx254, ho251⟩ := D ho251
  obtain rfl := L ho251
  rcases btf (decide (x253 < 1)) with hc262 | hc262
  ·skip
   have ho263 := if_t hc262 hob58
   obtain rfl := L ho263
   refine XQ (i := 0) q (by kernel_rfl) q H213.chg q (fun _ => qt_move q) q q <| XQ (i := 1) q (by kernel_rfl) q H213.chg q (fun _ => qt_fieldAddr uf27 fi27_4 nz25 q) q q ?_
   have hB264 := HasB.bx (HasB.c (HasB.hd)) H213.ctx
   refine XT (i := 2) q (by kernel_rfl) q H213.chg q (qs_cell u25 q q (hB264.cell (i := 4) q) H213.chg (Ctx.outB C212 (HasB.c (HasB.hd)))) q q <| XT (i := 3) q (by kernel_rfl) q H213.chg q (qs_len (t := ty8) H213.ctx hS5 u25 q) q q <| XQ (i := 4) q (by kernel_rfl) q H213.chg q (fun _ => qt_sub q q) q q <| X1 5 (by kernel_rfl) q <| zd q q c38 (w_spec_l1In w209 _ p1 0 (IntKind.wrap .i64 ((List.length B4 : Int) - 1)) x10 hx11 H213.ctx) (by rfl) ?_
   rintro _ w265 ⟨rfl, H266⟩; refine ⟨_, q, ?_⟩
   have H267 := H213.cN0 [] H266
   refine XN H267.chg <| XQ (i := 6) q (by kernel_rfl) q H267.chg q (fun _ => qt_not q) q q <| XQ (i := 7) q (by kernel_rfl) q H267.chg q (fun _ => qt_move q) q q <| XQ (i := 8) q (by kernel_rfl) q H267.chg (J q hc218) (fun _ => qt_move q) q q <| XQ (i := 9) q (by kernel_rfl) q H267.chg (J q hc218) (fun _ => qt_fieldAddr uf27 fi27_0 nz23 q) q q ?_
   have hB268 := HasB.bx (HasB.c (HasB.hd)) H267.ctx
   refine XT (i := 10) q (by kernel_rfl) q H267.chg (J q hc218) (qs_cell u23 q q (hB268.cell (i := 0) q) H267.chg (Ctx.outB C212 (HasB.c (HasB.hd)))) q q <| XT (i := 11) q (by kernel_rfl) q H267.chg (J q hc218) (qs_len (t := ty7) H267.ctx hS2 u23 q) q q <| XQ (i := 12) q (by kernel_rfl) q H267.chg (J q hc218) (fun _ => qt_sub q q) q q <| X1 13 (by kernel_rfl) q <| zd (J q hc218) q c38 (w_spec_l1In w265 _ p2 0 (IntKind.wrap .i64 ((List.length B0 : Int) - 1)) x232 hx233 H267.ctx) (by rfl) ?_
   rintro _ w269 ⟨rfl, H270⟩; refine ⟨_, q, ?_⟩
   have H271 := H267.cN0 [] H270
   refine XN H271.chg <| XQ (i := 14) q (by kernel_rfl) q H271.chg (J q hc218) (fun _ => qt_not q) q q <| XQ (i := 15) q (by kernel_rfl) q H271.chg q (fun _ => zf q hc218 q) q q <| XQ (i := 16) q (by kernel_rfl) q H271.chg q (fun _ => qt_move q) q q <| XQ (i := 17) q (by kernel_rfl) q H271.chg (J q hc237) (fun _ => qt_fieldAddr uf27 fi27_2 nz24 q) q q ?_
   have hB272 := HasB.bx (HasB.c (HasB.hd)) H271.ctx
   refine XT (i := 18) q (by kernel_rfl) q H271.chg (J q hc237) (qs_cell u24 q q (hB272.cell (i := 2) q) H271.chg (Ctx.outB C212 (HasB.c (HasB.hd)))) q q <| XQ (i := 19) q (by kernel_rfl) q H271.chg (J q hc237) (fun _ => qt_move q) q q ?_
   obtain ⟨b273, off274, cap275, hv276⟩ := Ctx.isAt H271.ctx hS4 hx254
   refine XT (i := 20) q (by kernel_rfl) q H271.chg (J q hc237) (qs_index hx254 hv276 u24 i3 q q) q q ?_
   obtain ⟨F277, hat278, hdup279⟩ := H271.at hS4 hx254 hv276
   refine XT (i := 21) q (by kernel_rfl) q H271.chg (J q hc237) (qs_cell u3 q q (AtP.cInt hat278) H271.chg (Ctx.outHas C212 hS4 hx254 hv276)) q q <| XQ (i := 22) q (by kernel_rfl) q H271.chg (J q hc237) (fun _ => qt_lss q q) q q <| XQ (i := 23) q (by kernel_rfl) q H271.chg q (fun _ => zf q hc237 q) q q <| XQ (i := 24) q (by kernel_rfl) q H271.chg q (fun _ => qt_move q) q q <| XS (i := 25) q (by kernel_rfl) q H271.chg q hc262 q q <| XS (i := 26) q (by kernel_rfl) q H271.chg q hc262 q q <| XS (i := 27) q (by kernel_rfl) q H271.chg q hc262 q q <| XS (i := 28) q (by kernel_rfl) q H271.chg q hc262 q q <| XS (i := 29) q (by kernel_rfl) q H271.chg q hc262 q q <| XS (i := 30) q (by kernel_rfl) q H271.chg q hc262 q q ?_
   refine XS (i := 31) q (by kernel_rfl) q H271.chg q hc262 q q <| XS (i := 32) q (by kernel_rfl) q H271.chg q hc262 q q <| XS (i := 33) q (by kernel_rfl) q H271.chg q hc262 q q <| XS (i := 34) q (by kernel_rfl) q H271.chg q hc262 q q <| XS (i := 35) q (by kernel_rfl) q H271.chg q hc262 q q <| XS (i := 36) q (by kernel_rfl) q H271.chg q hc262 q q <| XQ (i := 37) q (by kernel_rfl) q H271.chg q (fun _ => ze q hc262 q) q q ?_
   have H280 := H211.cN0 [] H271
   refine XC_done (by kernel_rfl) (fun a ha => ?_)
   have H281 := H280.p5.p5.p5.p5.p5
   exact ⟨ha.sub ⟨q, q, q, q, q, q, trivial⟩, H281⟩
  skip
  have ho282 := if_f hc262 hob58
  obtain ⟨x285, hx286, ho282⟩ := D ho282
  obtain ⟨x297, hx298, ho282⟩ := D ho282
  obtain ⟨x303, hx304, ho282⟩ := D ho282
  obtain rfl := L ho282
  refine XQ (i := 0) q (by kernel_rfl) q H213.chg q (fun _ => qt_move q) q q <| XQ (i := 1) q (by kernel_rfl) q H213.chg q (fun _ => qt_fieldAddr uf27 fi27_4 nz25 q) q q ?_
  have hB308 := HasB.bx (HasB.c (HasB.hd)) H213.ctx
  refine XT (i := 2) q (by kernel_rfl) q H213.chg q (qs_cell u25 q q (hB308.cell (i := 4) q) H213.chg (Ctx.outB C212 (HasB.c (HasB.hd)))) q q <| XT (i := 3) q (by kernel_rfl) q H213.chg q (qs_len (t := ty8) H213.ctx hS5 u25 q) q q <| XQ (i := 4) q (by kernel_rfl) q H213.chg q (fun _ => qt_sub q q) q q <| X1 5 (by kernel_rfl) q <| zd q q c38 (w_spec_l1In w209 _ p1 0 (IntKind.wrap .i64 ((List.length B4 : Int) - 1)) x10 hx11 H213.ctx) (by rfl) ?_
  rintro _ w309 ⟨rfl, H310⟩; refine ⟨_, q, ?_⟩
  have H311 := H213.cN0 [] H310
  refine XN H311.chg <| XQ (i := 6) q (by kernel_rfl) q H311.chg q (fun _ => qt_not q) q q <| XQ (i := 7) q (by kernel_rfl) q H311.chg q (fun _ => qt_move q) q q <| XQ (i := 8) q (by kernel_rfl) q H311.chg (J q hc218) (fun _ => qt_move q) q q <| XQ (i := 9) q (by kernel_rfl) q H311.chg (J q hc218) (fun _ => qt_fieldAddr uf27 fi27_0 nz23 q) q q ?_
  have hB312 := HasB.bx (HasB.c (HasB.hd)) H311.ctx
  refine XT (i := 10) q (by kernel_rfl) q H311.chg (J q hc218) (qs_cell u23 q q (hB312.cell (i := 0) q) H311.chg (Ctx.outB C212 (HasB.c (HasB.hd)))) q q <| XT (i := 11) q (by kernel_rfl) q H311.chg (J q hc218) (qs_len (t := ty7) H311.ctx hS2 u23 q) q q <| XQ (i := 12) q (by kernel_rfl) q H311.chg (J q hc218) (fun _ => qt_sub q q) q q <| X1 13 (by kernel_rfl) q <| zd (J q hc218) q c38 (w_spec_l1In w309 _ p2 0 (IntKind.wrap .i64 ((List.length B0 : Int) - 1)) x232 hx233 H311.ctx) (by rfl) ?_
  rintro _ w313 ⟨rfl, H314⟩; refine ⟨_, q, ?_⟩
  have H315 := H311.cN0 [] H314
  refine XN H315.chg <| XQ (i := 14) q (by kernel_rfl) q H315.chg (J q hc218) (fun _ => qt_not q) q q <| XQ (i := 15) q (by kernel_rfl) q H315.chg q (fun _ => zf q hc218 q) q q <| XQ (i := 16) q (by kernel_rfl) q H315.chg q (fun _ => qt_move q) q q <| XQ (i := 17) q (by kernel_rfl) q H315.chg (J q hc237) (fun _ => qt_fieldAddr uf27 fi27_2 nz24 q) q q ?_
  have hB316 := HasB.bx (HasB.c (HasB.hd)) H315.ctx
  refine XT (i := 18) q (by kernel_rfl) q H315.chg (J q hc237) (qs_cell u24 q q (hB316.cell (i := 2) q) H315.chg (Ctx.outB C212 (HasB.c (HasB.hd)))) q q <| XQ (i := 19) q (by kernel_rfl) q H315.chg (J q hc237) (fun _ => qt_move q) q q ?_
  obtain ⟨b317, off318, cap319, hv320⟩ := Ctx.isAt H315.ctx hS4 hx254
  refine XT (i := 20) q (by kernel_rfl) q H315.chg (J q hc237) (qs_index hx254 hv320 u24 i3 q q) q q ?_
  obtain ⟨F321, hat322, hdup323⟩ := H315.at hS4 hx254 hv320
  refine XT (i := 21) q (by kernel_rfl) q H315.chg (J q hc237) (qs_cell u3 q q (AtP.cInt hat322) H315.chg (Ctx.outHas C212 hS4 hx254 hv320)) q q <| XQ (i := 22) q (by kernel_rfl) q H315.chg (J q hc237) (fun _ => qt_lss q q) q q <| XQ (i := 23) q (by kernel_rfl) q H315.chg q (fun _ => zf q hc237 q) q q <| XQ (i := 24) q (by kernel_rfl) q H315.chg q (fun _ => qt_move q) q q <| XQ (i := 25) q (by kernel_rfl) q H315.chg (J q hc262) (fun _ => qt_fieldAddr uf27 fi27_0 nz23 q) q q ?_
  have hB324 := HasB.bx (HasB.c (HasB.hd)) H315.ctx
  refine XT (i := 26) q (by kernel_rfl) q H315.chg (J q hc262) (qs_cell u23 q q (hB324.cell (i := 0) q) H315.chg (Ctx.outB C212 (HasB.c (HasB.hd)))) q q <| XQ (i := 27) q (by kernel_rfl) q H315.chg (J q hc262) (fun _ => qt_fieldAddr uf27 fi27_4 nz25 q) q q ?_
  have hB325 := HasB.bx (HasB.c (HasB.hd)) H315.ctx
  refine XT (i := 28) q (by kernel_rfl) q H315.chg (J q hc262) (qs_cell u25 q q (hB325.cell (i := 4) q) H315.chg (Ctx.outB C212 (HasB.c (HasB.hd)))) q q <| XQ (i := 29) q (by kernel_rfl) q H315.chg (J q hc262) (fun _ => qt_move q) q q ?_
  obtain ⟨b326, off327, cap328, hv329⟩ := Ctx.isAt H315.ctx hS5 hx286
  refine XT (i := 30) q (by kernel_rfl) q H315.chg (J q hc262) (qs_index hx286 hv329 u25 i33 q q) q q <| XQ (i := 31) q (by kernel_rfl) q H315.chg (J q hc262) (fun _ => qt_fieldAddr uf33 fi33_0 nz3 q) q q ?_
  obtain ⟨F330, hat331, hdup332⟩ := H315.at hS5 hx286 hv329
  obtain ⟨F333, hat334, hin335⟩ := AtP.fst hat331
  refine XT (i := 32) q (by kernel_rfl) q H315.chg (J q hc262) (qs_cell u3 q q (AtP.cInt hat334) H315.chg (Ctx.outHas C212 hS5 hx286 hv329)) q q <| XQ (i := 34) q (by kernel_rfl) q H315.chg (J q hc262) (fun _ => qt_move q) q q <| X1 33 (by kernel_rfl) q <| zd (J q hc262) q c40 (w_spec_FreeOf w313 _ A0 B0 hS2 x285.1 x297 hx298 H315.ctx) (by rfl) ?_
  rintro _ w336 ⟨v338, rfl, H337⟩; refine ⟨_, q, ?_⟩
  have H339 := H315.cN1 [] H337
  refine XN H339.chg <| X1 35 (by kernel_rfl) q <| zd (J q hc262) q c41 (w_spec_l1Has w336 _ v338 x297 hS0 p2 x303 hx304 H339.ctx) (by rfl) ?_
  rintro _ w340 ⟨rfl, H341⟩; refine ⟨_, q, ?_⟩
  have H342 := H339.cN0 [] H341
  refine XN H342.chg <| XQ (i := 36) q (by kernel_rfl) q H342.chg (J q hc262) (fun _ => qt_not q) q q <| XQ (i := 37) q (by kernel_rfl) q H342.chg q (fun _ => zf q hc262 q) q q ?_
  have H343 := H211.cN1 [] H342
  refine XC_done (by kernel_rfl) (fun a ha => ?_)
  have H344 := H343.q0.p5.p5.p5.p5.p5
  exact ⟨ha.sub ⟨q, q, q, q, q, q, trivial⟩, H344⟩
 intro a w345 hI346
 obtain ⟨ha, H347⟩ := hI346
 refine S ?_ ha
 clear ha
 refine Y q (fun hc348 => ?_) (fun hc348 => ?_)
 ·have h := if_t hc348 h
  refine C <| Z ?_
  have hB349 := R H347.p0
  refine zm (cs := [A0, A1, A2, iV B3, A4]) us27 uo27 il27 hB349 q q q ?_
  change XL _ _ _ _ _ ((49, .agg #[A0, A1, A2, iV B3, A4]) :: _) _
  have H350 := H347.p5
  refine zl (cs' := [A0, A1, A2, iV B3, A4]) H350 q il27 q (T (H350.ctx.sliceOne hS2) (T (H350.ctx.sliceOne hS3) (T (H350.ctx.sliceOne hS4) (T q (T (H350.ctx.sliceOne hS5) q))))) q q q (fun w351 H352 => ?_)
  refine qA q q q <| B <| W fun a ha => ?_
  obtain rfl := L h
  have hB354 := R H352.p0
  have H355 := H352.q0.q0.p3.p3.p3.p3
  exact m (retct q ha q q (run_loadVar_bx (cs := [A0, A1, A2, iV B3, A4]) us27 uo27 il27 hB354) ⟨A0, A1, A2, A4, q, H355⟩)
 have h := if_f hc348 h
 refine y <| rR <| qF uf27 fi27_4 nz25 q q q ?_
 have hB356 := R H347.p0
 refine l u25 q hB356 q q q q <| qM q q q ?_
 obtain ⟨x357, hx358, h⟩ := D h
 refine b H347.ctx hS4 hx358 u25 i33 q q q q (fun b359 off360 cap361 hv362 => ?_)
 obtain ⟨F363, hat364, hdup365⟩ := H347.atN hS4 hx358 hv362
 refine XL_load_agg (t := ty8) us33 uo33 i33 hat364 q q q (fun cs366 hr367 => ?_)
 obtain ⟨c368, c369, F370, F371, rfl, eF374, hr372, hr373⟩ := hr367
 obtain ⟨rfl, _⟩ := hr372
 obtain ⟨c375, c376, F377, F378, rfl, eF381, hr379, hr380⟩ := hr373
 obtain ⟨v382, rfl, hr383⟩ := Rep.sl_inv hr379
 obtain ⟨v384, rfl, hr385⟩ := Rep.sl_inv hr380
 have H386 : Holds _ w w345 [.ro ty1 v382 x357.2.1, .ro tI v384 x357.2.2, .bx b1 27 [A0, A1, A2, iV B3, A4], .sl 70 ty7 A0 B0, .sl 3 tI A1 B1, .sl 3 tI A2 B2, .sl 33 ty8 A4 B4, .bx b5 27 [nS, nS, nS, iV 0, nS]] G := hdup365 [.ro ty1 v382 x357.2.1, .ro tI v384 x357.2.2] ⟨⟨_, _, _, _, q, hr383, (fun k h => (fun k h => (fun _ h => h) k (by rw [eF374]; exact zx _ h)) k (by rw [eF381]; exact List.mem_append_left _ h))⟩, ⟨_, _, _, _, q, hr385, (fun k h => (fun k h => (fun _ h => h) k (by rw [eF374]; exact zx _ h)) k (by rw [eF381]; exact zx _ h))⟩, trivial⟩
 change XL _ _ _ _ _ ((54, .agg #[iV x357.1, v382, v384]) :: _) _
 refine zq (cs := [iV 0, nS, nS]) H386 z33 q q q (fun b387 w388 H389 => ?_)
 refine zl (cs' := [iV x357.1, v382, v384]) H389 q il33 q (T q (T (H389.ctx.sliceOne hR1) (T (H389.ctx.sliceOne hR2) q))) q q q (fun w391 H392 => ?_)
 refine B <| C <| Z ?_
 refine zs (t := ty1) (args := []) (xs := ([] : LP)) H392 (BltL.nil) u31 j40 q q q q q q (fun v394 w395 H396 => ?_)
 refine qF uf33 fi33_1 nz31 q q q ?_
 have hB398 := R H396.p1
 refine l u31 q hB398 q q q q ?_
 obtain ⟨x399, hx400, h⟩ := D h
 refine zw H396 hR2 hx400 u31 j40 q q q q q q (fun v401 w402 H403 => ?_)
 refine qM q q q <| A q (qt_build (args := [(0, .tmp 59)]) (css := [#[iV p3]]) (cells := #[iV p3, iV 0]) q ⟨q, trivial⟩ (by kernel_rfl)) q q ?_
 refine zs (t := ty1) (args := [.tmp 60]) (xs := ([(p3, 0)] : LP)) H403 (BltL.cons (Blt.pair (Blt.int) (Blt.int)) q (BltL.nil)) u31 j40 q q q q q q (fun v405 w406 H407 => ?_)
 have H409 := H407.p1
 obtain ⟨x410, hx411, h⟩ := D h
 refine zw H409 hS1 hx411 u31 j40 q q q q q q (fun v412 w413 H414 => ?_)
 refine qF uf33 fi33_1 nz31 q q q ?_
 have H416 := H414.p2
 refine WL_store_bx H416 q il31 (H416.ctx.sliceCells hS1) (H416.ctx.sliceOne hS1) q q q (fun w417 H418 => ?_)
 refine B <| C <| Z ?_
 refine zs (t := tI) (args := []) (xs := ([] : List Int)) H418 (BltL.nil) u24 j3 q q q q q q (fun v420 w421 H422 => ?_)
 refine qF uf33 fi33_2 nz24 q q q ?_
 have hB424 := R H422.p1
 refine l u24 q hB424 q q q q ?_
 obtain ⟨x425, hx426, h⟩ := D h
 refine zw H422 hR5 hx426 u24 j3 q q q q q q (fun v427 w428 H429 => ?_)
 refine qM q q q ?_
 refine zs (t := tI) (args := [.tmp 68]) (xs := ([p2] : List Int)) H429 (BltL.cons (Blt.int) q (BltL.nil)) u24 j3 q q q q q q (fun v431 w432 H433 => ?_)
 have H435 := H433.p1
 obtain ⟨x436, hx437, h⟩ := D h
 refine zw H435 hS1 hx437 u24 j3 q q q q q q (fun v438 w439 H440 => ?_)
 refine qF uf33 fi33_2 nz24 q q q ?_
 have H442 := H440.p2
 refine WL_store_bx H442 q il24 (H442.ctx.sliceCells hS1) (H442.ctx.sliceOne hS1) q q q (fun w443 H444 => ?_)
 refine B <| C <| C <| zk <| qF uf33 fi33_1 nz31 q q q ?_
 have hB446 := R H444.p0
 refine l u31 q hB446 q q q q ?_
 obtain ⟨x447, hx448, h⟩ := D h
 refine QC q q c39 (fun w' hb => w_spec_TicketValid w' _ v412 x410 hS3 x447 hx448 (H444.grow hb).ctx) (by rfl) <| A q (qt_not q) q q <| QL_nil fun a ha w449 hb450 => ?_
 have H451 := H444.grow hb450
 refine X (S ?_ ha)
 refine Y q (fun hc452 => ?_) (fun hc452 => ?_)
 ·have h := if_t hc452 h
  refine C <| Z ?_
  have hB453 := R H451.p7
  refine zm (cs := [A0, A1, A2, iV B3, A4]) us27 uo27 il27 hB453 q q q ?_
  change XL _ _ _ _ _ ((76, .agg #[A0, A1, A2, iV B3, A4]) :: _) _
  have H454 := H451.p12
  refine zl (cs' := [A0, A1, A2, iV B3, A4]) H454 q il27 q (T (H454.ctx.sliceOne hS9) (T (H454.ctx.sliceOne hS10) (T (H454.ctx.sliceOne hS11) (T q (T (H454.ctx.sliceOne hS12) q))))) q q q (fun w455 H456 => ?_)
  refine qA q q q <| B <| W fun a ha => ?_
  obtain rfl := L h
  have hB458 := R H456.p0
  have H459 := H456.q0.q0.q0.q0.q0.q0.q0.q0.q0.p3.p3.p3.p3
  exact m (retct q ha q q (run_loadVar_bx (cs := [A0, A1, A2, iV B3, A4]) us27 uo27 il27 hB458) ⟨A0, A1, A2, A4, q, H459⟩)
 have h := if_f hc452 h
 refine y <| rR <| qF uf27 fi27_4 nz25 q q q ?_
 have hB460 := R H451.p7
 refine l u25 q hB460 q q q q <| qM q q q ?_
 have hB461 := R H451.p0
 refine zm (cs := [iV x357.1, v412, v438]) us33 uo33 il33 hB461 q q q ?_
 change XL _ _ _ _ _ ((80, .agg #[iV x357.1, v412, v438]) :: _) _
 obtain ⟨x462, hx463, h⟩ := D h
 refine b H451.ctx hS11 hx463 u25 i33 q q q q (fun b464 off465 cap466 hv467 => ?_)
 have H468 := H451.p11
 have H469 := H468.p4
 have H470 := H469.freeze
 have H471 := H470.p3
 have H472 := H471.freeze
 have H473 := H472.p2
 refine WL_storeH (fo := 0) (cs' := [iV x357.1, v412, v438]) H473 hx463 hv467 (Upd.whole (Blt.pair (Blt.int) (Blt.pair (Blt.slice hO2) (Blt.slice hO1)))) q il33 q q q q (fun w474 H475 => ?_)
 refine B <| C ?_
 refine WP_tail 9 (by kernel_rfl) (by kernel_rfl) (fun w477 hb478 => ?_)
 have H479 := H475.grow hb478
 refine qF uf27 fi27_2 nz24 q q q ?_
 have hB480 := R H479.p8
 refine l u24 q hB480 q q q q <| qM q q q <| qF uf27 fi27_2 nz24 q q q ?_
 have hB481 := R H479.p8
 refine l u24 q hB481 q q q q <| qM q q q ?_
 obtain ⟨x482, hx483, h⟩ := D h
 refine b H479.ctx hS11 hx483 u24 i3 q q q q (fun b484 off485 cap486 hv487 => ?_)
 obtain ⟨F488, hat489, hdup490⟩ := H479.at hS11 hx483 hv487
 refine zt (k := .i64) u3 q hat489 q q q <| A q (qt_sub q q) q q <| SL_nil ?_
 obtain ⟨x491, hx492, h⟩ := D h
 refine b H479.ctx hS11 hx492 u24 i3 q q q q (fun b493 off494 cap495 hv496 => ?_)
 have H497 := H479.p11
 refine WL_storeH (fo := 0) (cs' := [iV (IntKind.wrap .i64 (x482 - 1))]) H497 hx492 hv496 (Upd.whole (Blt.int)) q il3 q q q q (fun w498 H499 => ?_)
 refine B <| C <| Z ?_
 have hB501 := R H499.p9
 refine zm (cs := [A0, A1, A2, iV B3, A4]) us27 uo27 il27 hB501 q q q ?_
 change XL _ _ _ _ _ ((92, .agg #[A0, A1, A2, iV B3, A4]) :: _) _
 have H502 := H499.p12
 refine zl (cs' := [A0, A1, A2, iV B3, A4]) H502 q il27 q (T (H502.ctx.sliceOne hS11) (T (H502.ctx.sliceOne hS12) (T (H502.ctx.sliceOne hS1) (T q (T (H502.ctx.sliceOne hS2) q))))) q q q (fun w503 H504 => ?_)
 refine qA q q q <| B <| W fun a ha => ?_
 obtain rfl := L h
 have hB506 := R H504.p0
 have H507 := H504.q0.q2.q2.q2.q2.q2.q2.q2.q2.p1.p1.p3.p3
 exact retct q ha q q (run_loadVar_bx (cs := [A0, A1, A2, iV B3, A4]) us27 uo27 il27 hB506) ⟨A0, A1, A2, A4, q, H507⟩
theorem w_spec_l7Tickets (w : World) (G : List Res) (A0 : Value) (B0 : LI) (C0 : Has G ty7 A0 B0) (A1 : Value) (B1 : List Int) (C1 : Has G tI A1 B1) (A2 : Value) (B2 : List Int) (C2 : Has G tI A2 B2) (B3 : Int) (A4 : Value) (B4 : LT) (C4 : Has G ty8 A4 B4) (r : (List LP)) (h : spec_l7TicketsS B0 B1 B2 B3 B4 = some r) (H : Ctx w G) : Calls Tryd.prog 101 #[.agg #[A0, A1, A2, iV B3, A4]] w fun e w' => ∃ (v1 : Value), e = .returned (v1) ∧ Holds M0 w w' [.sl 31 ty2 v1 r] G := by
 have H : Holds M0 w w [] G := zb H
 refine zg (args := [.agg #[A0, A1, A2, iV B3, A4]]) (n := 23) Tryd.func101 q q q ?_
 unfold spec_l7TicketsS at h
 refine C <| Z ?_
 refine WL_box (cs := [A0, A1, A2, iV B3, A4]) H q q q q (fun b1 w2 H3 => ?_)
 refine qA q q q <| B <| C <| Z ?_
 refine zs (t := ty2) (args := []) (xs := ([] : List LP)) H3 (BltL.nil) u129 j31 q q q q q q (fun v5 w6 H7 => ?_)
 refine qA q q q <| B <| C <| rR <| qA q q q <| B <| g ?_
 obtain ⟨o11, ho12, h⟩ := D h
 have H15 := H7.p1
 refine fun a13 ha14 => zp (I := fun s a w2 => match s with | (s9, s10) => ∃ vs9, Fr a 23 [(1, pB b1), (3, vs9), (4, iV s10)] ∧ Holds M0 w w2 [.bx b1 27 [A0, A1, A2, iV B3, A4], .sl 31 ty2 vs9 s9] G) (O := fun o e a w2 => match o with | q0 => e = .exit 0 ∧ ∃ vq0, Fr a 23 [(3, vq0)] ∧ Holds M0 w w2 [.sl 31 ty2 vq0 q0] G) ho12 ?_ ?_ ?_
 ·exact ⟨v5, ha14.sub ⟨q, q, q, trivial⟩, H15⟩
 ·clear ha14
  intro s o18 a w16 hs17 hI19
  obtain ⟨s9, s10⟩ := s
  obtain ⟨vs9, ha, H20⟩ := hI19
  refine S ?_ ha
  clear ha
  refine C <| rR <| qM q q q <| qF uf27 fi27_4 nz25 q q q ?_
  have hB21 := R H20.p0
  refine l u25 q hB21 q q q q <| za H20.ctx (t := ty8) (C4.c.c) u25 q q q <| A q (qt_lss q q) q q <| B ?_
  refine Y q (fun hc22 => ?_) (fun hc22 => ?_)
  ·have hs17 := if_t hc22 hs17
   refine y <| C <| g <| Z <| qM q q q <| qF uf27 fi27_4 nz25 q q q ?_
   have hB23 := R H20.p0
   refine l u25 q hB23 q q q q <| qM q q q ?_
   obtain ⟨x24, hx25, hs17⟩ := D hs17
   refine b H20.ctx (C4.c.c) hx25 u25 i33 q q q q (fun b26 off27 cap28 hv29 => ?_)
   refine qF uf33 fi33_1 nz31 q q q ?_
   obtain ⟨F30, hat31, hdup32⟩ := H20.at (C4.c.c) hx25 hv29
   obtain ⟨F33, hat34, hin35⟩ := AtP.snd hat31
   obtain ⟨F36, hat37, hin38⟩ := AtP.fst hat34
   refine XL_load (t := ty2) u31 q q hat37 q q q (fun v39 hr40 => ?_)
   have H41 : Holds _ w w16 [.ro ty1 v39 x24.2.1, .bx b1 27 [A0, A1, A2, iV B3, A4], .sl 31 ty2 vs9 s9] G := hdup32 _ _ _ _ hr40 (fun k h => (fun k h => (fun _ h => h) k (hin35 k h)) k (hin38 k h))
   refine zs (t := ty2) (args := [.tmp 19]) (xs := ([x24.2.1] : List LP)) H41 (BltL.cons (Blt.slice hO0) (H41.ctx.sliceList hR0) (BltL.nil)) u129 j31 q q q q q q (fun v42 w43 H44 => ?_)
   have H46 := H44.p3
   obtain ⟨x47, hx48, hs17⟩ := D hs17
   refine zw H46 hS1 hx48 u129 j31 q q q q q q (fun v49 w50 H51 => ?_)
   refine qA q q q <| WL_nil fun a ha => ?_
   refine zi (X (S ?_ ha))
   refine Z <| qM q q q <| A q (qt_add q q) q q <| qA q q q <| WL_nil fun a ha => ?_
   obtain rfl := L hs17
   have H53 := H51.q1.q1.p1
   exact ⟨q, v49, ha.sub ⟨q, q, q, trivial⟩, H53⟩
  have hs17 := if_f hc22 hs17
  refine WP_exit fun a ha => ?_
  obtain rfl := L hs17
  have H54 := H20.q0
  exact zo (⟨exit_ne, q, vs9, ha.sub ⟨q, trivial⟩, H54⟩)
 intro e a13 w55 hO56
 obtain ⟨p57, rfl⟩ : ∃ z, z = o11 := ⟨o11, q⟩
 obtain ⟨rfl, hO59⟩ := hO56
 obtain ⟨vp57, ha, H58⟩ := hO59
 refine zn (X (S ?_ ha))
 refine rR <| qM q q q <| qA q q q <| B <| W fun a ha => ?_
 obtain rfl := L h
 exact ret1 q ha q ⟨vp57, q, H58⟩
theorem w_spec_KitchenValid (w : World) (G : List Res) (vp0 : Value) (p0 : List LP) (hp0 : Has G ty2 vp0 p0) (r : Bool) (h : spec_KitchenValidS p0 = some r) (H : Ctx w G) : Calls Tryd.prog 115 #[vp0] w fun e w' => e = .returned (.bool r) ∧ Holds M0 w w' [] G := by
 have H : Holds M0 w w [] G := zb H
 refine zg (args := [vp0]) (n := 19) Tryd.func115 q q q ?_
 unfold spec_KitchenValidS at h
 refine rR <| qA q q q <| B <| C <| rR <| qA q q q <| B <| g ?_
 obtain ⟨o2, ho3, h⟩ := D h
 refine fun a4 ha5 => zp (I := fun s a w2 => match s with | s1 => (Fr a 19 [(0, vp0), (3, iV s1)] ∧ Holds M0 w w2 [] G)) (O := fun o e a w2 => match o with | .inl _ => e = .exit 0 ∧ (Fr a 19 [(0, vp0)] ∧ Holds M0 w w2 [] G) | .inr q0 => e = .ret ∧ (Fr a 19 [(2, .bool q0)] ∧ Holds M0 w w2 [] G)) ho3 ?_ ?_ ?_
 ·exact ⟨ha5.sub ⟨q, q, trivial⟩, H⟩
 ·clear ha5
  intro s o8 a w6 hs7 hI9
  obtain ⟨s1, rfl⟩ : ∃ z, z = s := ⟨s, q⟩
  obtain ⟨ha, H10⟩ := hI9
  refine S ?_ ha
  clear ha
  refine C <| rR <| qM q q q <| qM q q q <| za H10.ctx (t := ty2) (hp0) u129 q q q <| A q (qt_lss q q) q q <| B ?_
  refine Y q (fun hc11 => ?_) (fun hc11 => ?_)
  ·have hs7 := if_t hc11 hs7
   refine y <| C <| g <| C <| zk <| qM q q q <| qM q q q ?_
   obtain ⟨x12, hx13, hs7⟩ := D hs7
   refine b H10.ctx (hp0) hx13 u129 i31 q q q q (fun b14 off15 cap16 hv17 => ?_)
   obtain ⟨F18, hat19, hdup20⟩ := H10.at (hp0) hx13 hv17
   refine XL_load (t := ty2) u31 q q hat19 q q q (fun v21 hr22 => ?_)
   have H23 : Holds _ w w6 [.ro ty1 v21 x12] G := hdup20 _ _ _ _ hr22 (fun _ h => h)
   obtain ⟨x24, hx25, hs7⟩ := D hs7
   refine QC q q c39 (fun w' hb => w_spec_TicketValid w' _ v21 x12 hR0 x24 hx25 (H23.grow hb).ctx) (by rfl) <| A q (qt_not q) q q <| QL_nil fun a ha w26 hb27 => ?_
   have H28 := H23.grow hb27
   refine X (S ?_ ha)
   refine Y q (fun hc29 => ?_) (fun hc29 => ?_)
   ·have hs7 := if_t hc29 hs7
    refine rR <| qA q q q <| B <| W fun a ha => ?_
    obtain rfl := L hs7
    have H30 := H28.q0
    exact zj (m (⟨ret_ne, q, ha.sub ⟨q, trivial⟩, H30⟩))
   have hs7 := if_f hc29 hs7
   refine WP_skip fun a ha => ?_
   refine zi (X (S ?_ ha))
   refine Z <| qM q q q <| A q (qt_add q q) q q <| qA q q q <| WL_nil fun a ha => ?_
   obtain rfl := L hs7
   have H31 := H28.q0
   exact ⟨q, ha.sub ⟨q, q, trivial⟩, H31⟩
  have hs7 := if_f hc11 hs7
  refine WP_exit fun a ha => ?_
  obtain rfl := L hs7
  exact zo (⟨exit_ne, q, ha.sub ⟨q, trivial⟩, H10⟩)
 intro e a4 w32 hO33
 rcases o2 with o2 | o2
 ·skip
  obtain ⟨rfl, hO35⟩ := hO33
  obtain ⟨ha, H34⟩ := hO35
  refine zn (X (S ?_ ha))
  refine rR <| qM q q q <| za H34.ctx (t := ty2) (hp0) u129 q q q <| A q (qt_leq q q) q q <| qA q q q <| B <| W fun a ha => ?_
  obtain rfl := L h
  exact ret1 q ha q ⟨q, H34⟩
 skip
 obtain ⟨p36, rfl⟩ : ∃ z, z = o2 := ⟨o2, q⟩
 obtain ⟨rfl, hO38⟩ := hO33
 obtain ⟨ha, H37⟩ := hO38
 obtain rfl := L h
 exact zj (m (ret1 q ha q ⟨q, H37⟩))
theorem w_spec_l4Copy (w : World) (G : List Res) (vp0 : Value) (p0 : List LP) (hp0 : Has G ty2 vp0 p0) (r : (List LP)) (h : spec_l4CopyS p0 = some r) (H : Ctx w G) : Calls Tryd.prog 116 #[vp0] w fun e w' => ∃ (v1 : Value), e = .returned (v1) ∧ Holds M0 w w' [.sl 31 ty2 v1 r] G := by
 have H : Holds M0 w w [] G := zb H
 refine zg (args := [vp0]) (n := 22) Tryd.func116 q q q ?_
 unfold spec_l4CopyS at h
 refine rR <| qA q q q <| B <| C <| Z ?_
 refine zs (t := ty2) (args := []) (xs := ([] : List LP)) H (BltL.nil) u129 j31 q q q q q q (fun v1 w2 H3 => ?_)
 refine qA q q q <| B <| C <| rR <| qA q q q <| B <| g ?_
 obtain ⟨o7, ho8, h⟩ := D h
 refine fun a9 ha10 => zp (I := fun s a w2 => match s with | (s5, s6) => ∃ vs5, Fr a 22 [(0, vp0), (3, vs5), (4, iV s6)] ∧ Holds M0 w w2 [.sl 31 ty2 vs5 s5] G) (O := fun o e a w2 => match o with | q0 => e = .exit 0 ∧ ∃ vq0, Fr a 22 [(3, vq0)] ∧ Holds M0 w w2 [.sl 31 ty2 vq0 q0] G) ho8 ?_ ?_ ?_
 ·exact ⟨v1, ha10.sub ⟨q, q, q, trivial⟩, H3⟩
 ·clear ha10
  intro s o13 a w11 hs12 hI14
  obtain ⟨s5, s6⟩ := s
  obtain ⟨vs5, ha, H15⟩ := hI14
  refine S ?_ ha
  clear ha
  refine C <| rR <| qM q q q <| qM q q q <| za H15.ctx (t := ty2) (hp0.c) u129 q q q <| A q (qt_lss q q) q q <| B ?_
  refine Y q (fun hc16 => ?_) (fun hc16 => ?_)
  ·have hs12 := if_t hc16 hs12
   refine y <| C <| g <| Z <| qM q q q ?_
   refine zs (t := ty1) (args := []) (xs := ([] : LP)) H15 (BltL.nil) u31 j40 q q q q q q (fun v17 w18 H19 => ?_)
   refine qM q q q <| qM q q q ?_
   obtain ⟨x21, hx22, hs12⟩ := D hs12
   refine b H19.ctx (hp0.c.c) hx22 u129 i31 q q q q (fun b23 off24 cap25 hv26 => ?_)
   obtain ⟨F27, hat28, hdup29⟩ := H19.at (hp0.c.c) hx22 hv26
   refine XL_load (t := ty2) u31 q q hat28 q q q (fun v30 hr31 => ?_)
   have H32 : Holds _ w w18 [.ro ty1 v30 x21, .sl 40 ty1 v17 ([]), .sl 31 ty2 vs5 s5] G := hdup29 _ _ _ _ hr31 (fun _ h => h)
   have H33 := H32.p1
   obtain ⟨x34, hx35, hs12⟩ := D hs12
   refine zw H33 hR1 hx35 u31 j40 q q q q q q (fun v36 w37 H38 => ?_)
   have H40 := H38.freeze
   refine zs (t := ty2) (args := [.tmp 18]) (xs := ([x34] : List LP)) H40 (BltL.cons (Blt.slice hO0) (H40.ctx.sliceList hR0) (BltL.nil)) u129 j31 q q q q q q (fun v41 w42 H43 => ?_)
   have H45 := H43.p3
   obtain ⟨x46, hx47, hs12⟩ := D hs12
   refine zw H45 hS1 hx47 u129 j31 q q q q q q (fun v48 w49 H50 => ?_)
   refine qA q q q <| WL_nil fun a ha => ?_
   refine zi (X (S ?_ ha))
   refine Z <| qM q q q <| A q (qt_add q q) q q <| qA q q q <| WL_nil fun a ha => ?_
   obtain rfl := L hs12
   have H52 := H50.q1.q1.q1
   exact ⟨q, v48, ha.sub ⟨q, q, q, trivial⟩, H52⟩
  have hs12 := if_f hc16 hs12
  refine WP_exit fun a ha => ?_
  obtain rfl := L hs12
  exact zo (⟨exit_ne, q, vs5, ha.sub ⟨q, trivial⟩, H15⟩)
 intro e a9 w53 hO54
 obtain ⟨p55, rfl⟩ : ∃ z, z = o7 := ⟨o7, q⟩
 obtain ⟨rfl, hO57⟩ := hO54
 obtain ⟨vp55, ha, H56⟩ := hO57
 refine zn (X (S ?_ ha))
 refine rR <| qM q q q <| qA q q q <| B <| W fun a ha => ?_
 obtain rfl := L h
 exact ret1 q ha q ⟨vp55, q, H56⟩
theorem w_spec_l4Next (w : World) (G : List Res) (p0 : Int) (p1 : Int) (r : Int) (h : spec_l4NextS p0 p1 = some r) (H : Ctx w G) : Calls Tryd.prog 128 #[iV p0, iV p1] w fun e w' => e = .returned (iV r) ∧ Holds M0 w w' [] G := by
 have H : Holds M0 w w [] G := zb H
 refine zg (args := [iV p0, iV p1]) (n := 33) Tryd.func128 q q q ?_
 unfold spec_l4NextS at h
 refine rR <| qA q q q <| B <| C <| g <| rR <| qM q q q <| A q (qt_eql q q) q q ?_
 refine qM q q q ?_
 refine zh 3 11 (.bool ((p1 == 0) && (p0 == 0))) ?_ (fun md hmd hk => ?_)
 rotate_left
 ·obtain ⟨Q, rfl⟩ := Md.seq_of hmd
  rcases btf (p1 == 0) with hc1 | hc1
  ·skip
   refine qM (J q hc1) q q <| A (J q hc1) (qt_eql q q) q q <| A q (ze q hc1 q) q q ?_
   exact hk _ (p (by rw [hc1]; rfl) (cfn 2 q (u)))
  skip
  refine qS q hc1 q q <| qS q hc1 q q <| A q (zf q hc1 q) q q ?_
  exact hk _ (p (by rw [hc1]; rfl) (cfn 2 q (u)))
 refine qA q q q <| B ?_
 refine Y q (fun hc2 => ?_) (fun hc2 => ?_)
 ·have h := if_t hc2 h
  refine rR <| qA q q q <| B <| W fun a ha => ?_
  obtain rfl := L h
  exact zj (m (ret1 q ha q ⟨q, H⟩))
 have h := if_f hc2 h
 refine rR <| qM q q q <| A q (qt_eql q q) q q <| qM q q q ?_
 refine zh 3 18 (.bool ((p1 == 1) && (p0 == 1))) ?_ (fun md hmd hk => ?_)
 rotate_left
 ·obtain ⟨Q, rfl⟩ := Md.seq_of hmd
  rcases btf (p1 == 1) with hc3 | hc3
  ·skip
   refine qM (J q hc3) q q <| A (J q hc3) (qt_eql q q) q q <| A q (ze q hc3 q) q q ?_
   exact hk _ (p (by rw [hc3]; rfl) (cfn 2 q (u)))
  skip
  refine qS q hc3 q q <| qS q hc3 q q <| A q (zf q hc3 q) q q ?_
  exact hk _ (p (by rw [hc3]; rfl) (cfn 2 q (u)))
 refine qA q q q <| B ?_
 refine Y q (fun hc4 => ?_) (fun hc4 => ?_)
 ·have h := if_t hc4 h
  refine rR <| qA q q q <| B <| W fun a ha => ?_
  obtain rfl := L h
  exact zj (m (ret1 q ha q ⟨q, H⟩))
 have h := if_f hc4 h
 refine rR <| qM q q q <| A q (qt_eql q q) q q <| qM q q q ?_
 refine zh 3 25 (.bool ((p1 == 2) && (p0 == 2))) ?_ (fun md hmd hk => ?_)
 rotate_left
 ·obtain ⟨Q, rfl⟩ := Md.seq_of hmd
  rcases btf (p1 == 2) with hc5 | hc5
  ·skip
   refine qM (J q hc5) q q <| A (J q hc5) (qt_eql q q) q q <| A q (ze q hc5 q) q q ?_
   exact hk _ (p (by rw [hc5]; rfl) (cfn 2 q (u)))
  skip
  refine qS q hc5 q q <| qS q hc5 q q <| A q (zf q hc5 q) q q ?_
  exact hk _ (p (by rw [hc5]; rfl) (cfn 2 q (u)))
 refine qA q q q <| B ?_
 refine Y q (fun hc6 => ?_) (fun hc6 => ?_)
 ·have h := if_t hc6 h
  refine rR <| qA q q q <| B <| W fun a ha => ?_
  obtain rfl := L h
  exact zj (m (ret1 q ha q ⟨q, H⟩))
 have h := if_f hc6 h
 refine rR <| qM q q q <| A q (qt_eql q q) q q <| qM q q q ?_
 refine zh 3 32 (.bool ((p1 == 3) && (decide (p0 < 3)))) ?_ (fun md hmd hk => ?_)
 rotate_left
 ·obtain ⟨Q, rfl⟩ := Md.seq_of hmd
  rcases btf (p1 == 3) with hc7 | hc7
  ·skip
   refine qM (J q hc7) q q <| A (J q hc7) (qt_lss q q) q q <| A q (ze q hc7 q) q q ?_
   exact hk _ (p (by rw [hc7]; rfl) (cfn 2 q (u)))
  skip
  refine qS q hc7 q q <| qS q hc7 q q <| A q (zf q hc7 q) q q ?_
  exact hk _ (p (by rw [hc7]; rfl) (cfn 2 q (u)))
 refine qA q q q <| B ?_
 refine Y q (fun hc8 => ?_) (fun hc8 => ?_)
 ·have h := if_t hc8 h
  refine rR <| qA q q q <| B <| W fun a ha => ?_
  obtain rfl := L h
  exact zj (m (ret1 q ha q ⟨q, H⟩))
 have h := if_f hc8 h
 refine WP_skip fun a ha => ?_
 refine zi (X (S ?_ ha))
 refine rR <| qA q q q <| B <| W fun a ha => ?_
 obtain rfl := L h
 exact ret1 q ha q ⟨q, H⟩
theorem w_spec_TicketDo (w : World) (G : List Res) (vp0 : Value) (p0 : LP) (hp0 : Has G ty1 vp0 p0) (p1 : Int) (p2 : Int) (r : LP × Bool) (h : spec_TicketDoS p0 p1 p2 = some r) (H : Ctx w G) : Calls Tryd.prog 117 #[vp0, iV p1, iV p2] w fun e w' => ∃ (v1 : Value), e = .returned (.tuple #[v1, .bool r.2]) ∧ Holds M0 w w' [.sl 40 ty1 v1 r.1] G := by
 have H : Holds M0 w w [] G := zb H
 refine zg (args := [vp0, iV p1, iV p2]) (n := 46) Tryd.func117 q q q ?_
 unfold spec_TicketDoS at h
 refine rR <| qA q q q <| qA q q q <| B <| C <| C <| zk <| qM q q q ?_
 obtain ⟨x1, hx2, h⟩ := D h
 refine QC q q c39 (fun w' hb => w_spec_TicketValid w' G vp0 p0 (hp0) x1 hx2 (H.grow hb).ctx) (by rfl) <| A q (qt_not q) q q <| QL_nil fun a ha w3 hb4 => ?_
 have H5 := H.grow hb4
 refine X (S ?_ ha)
 refine Y q (fun hc6 => ?_) (fun hc6 => ?_)
 ·have h := if_t hc6 h
  refine C <| Z ?_
  refine zs (t := ty1) (args := []) (xs := ([] : LP)) H5 (BltL.nil) u31 j40 q q q q q q (fun v7 w8 H9 => ?_)
  refine qA q q q <| qA q q q <| B <| W fun a ha => ?_
  obtain rfl := L h
  exact m (ret2 q ha q q ⟨v7, q, H9⟩)
 have h := if_f hc6 h
 refine y <| C <| Z ?_
 refine zs (t := ty1) (args := []) (xs := ([] : LP)) H5 (BltL.nil) u31 j40 q q q q q q (fun v11 w12 H13 => ?_)
 refine qM q q q ?_
 obtain ⟨x15, hx16, h⟩ := D h
 refine zw H13 (hp0.c) hx16 u31 j40 q q q q q q (fun v17 w18 H19 => ?_)
 refine qA q q q <| B <| C <| C <| zk <| qM q q q <| qM q q q <| za H19.ctx (t := ty1) (hp0.c) u31 q q q <| A q (qt_sub q q) q q ?_
 obtain ⟨x21, hx22, h⟩ := D h
 refine QC q q c38 (fun w' hb => w_spec_l1In w' _ p1 0 (IntKind.wrap .i64 ((List.length p0 : Int) - 1)) x21 hx22 (H19.grow hb).ctx) (by rfl) <| A q (qt_not q) q q <| QL_nil fun a ha w23 hb24 => ?_
 have H25 := H19.grow hb24
 refine X (S ?_ ha)
 refine Y q (fun hc26 => ?_) (fun hc26 => ?_)
 ·have h := if_t hc26 h
  refine rR <| qM q q q <| qA q q q <| qA q q q <| B <| W fun a ha => ?_
  obtain rfl := L h
  exact m (ret2 q ha q q ⟨v17, q, H25⟩)
 have h := if_f hc26 h
 refine y <| C <| zk <| qM q q q <| qM q q q ?_
 obtain ⟨x27, hx28, h⟩ := D h
 refine b H25.ctx (hp0.c) hx28 u31 i40 q q q q (fun b29 off30 cap31 hv32 => ?_)
 refine qF uf40 fi40_1 nz3 q q q ?_
 obtain ⟨F33, hat34, hdup35⟩ := H25.at (hp0.c) hx28 hv32
 obtain ⟨F36, hat37, hin38⟩ := AtP.snd hat34
 refine zt (k := .i64) u3 q hat37 q q q <| qM q q q ?_
 obtain ⟨x39, hx40, h⟩ := D h
 refine QC q q c128 (fun w' hb => w_spec_l4Next w' _ x27.2 p2 x39 hx40 (H25.grow hb).ctx) (by rfl) <| qA q q q <| QL_nil fun a ha w41 hb42 => ?_
 have H43 := H25.grow hb42
 refine X (S ?_ ha)
 refine C <| rR <| qM q q q <| A q (qt_lss q q) q q <| B ?_
 refine Y q (fun hc44 => ?_) (fun hc44 => ?_)
 ·have h := if_t hc44 h
  refine rR <| qM q q q <| qA q q q <| qA q q q <| B <| W fun a ha => ?_
  obtain rfl := L h
  exact m (ret2 q ha q q ⟨v17, q, H43⟩)
 have h := if_f hc44 h
 refine y <| rR <| qM q q q <| qM q q q <| qM q q q ?_
 obtain ⟨x45, hx46, h⟩ := D h
 refine b H43.ctx hS0 hx46 u31 i40 q q q q (fun b47 off48 cap49 hv50 => ?_)
 refine qF uf40 fi40_1 nz3 q q q ?_
 refine WL_storeH (fo := 1) (cs' := [iV x39]) H43 hx46 hv50 (Upd.snd (Upd.whole (Blt.int))) q il3 q q q q (fun w51 H52 => ?_)
 refine B <| C <| C <| zk <| qM q q q ?_
 obtain ⟨x54, hx55, h⟩ := D h
 refine QC q q c39 (fun w' hb => w_spec_TicketValid w' _ v17 (List.set x15 (Int.toNat p1) (x45.1, x39)) hS0 x54 hx55 (H52.grow hb).ctx) (by rfl) <| A q (qt_not q) q q <| QL_nil fun a ha w56 hb57 => ?_
 have H58 := H52.grow hb57
 refine X (S ?_ ha)
 refine Y q (fun hc59 => ?_) (fun hc59 => ?_)
 ·have h := if_t hc59 h
  refine C <| Z ?_
  refine zs (t := ty1) (args := []) (xs := ([] : LP)) H58 (BltL.nil) u31 j40 q q q q q q (fun v60 w61 H62 => ?_)
  refine qM q q q ?_
  obtain ⟨x64, hx65, h⟩ := D h
  refine zw H62 (hp0.c.c) hx65 u31 j40 q q q q q q (fun v66 w67 H68 => ?_)
  refine qA q q q <| qA q q q <| B <| W fun a ha => ?_
  obtain rfl := L h
  have H70 := H68.q1
  exact m (ret2 q ha q q ⟨v66, q, H70⟩)
 have h := if_f hc59 h
 refine y <| rR <| qM q q q <| qA q q q <| qA q q q <| B <| W fun a ha => ?_
 obtain rfl := L h
 exact ret2 q ha q q ⟨v17, q, H58⟩
theorem w_spec_TicketMay (w : World) (G : List Res) (vp0 : Value) (p0 : LP) (hp0 : Has G ty1 vp0 p0) (r : (List Int)) (h : spec_TicketMayS p0 = some r) (H : Ctx w G) : Calls Tryd.prog 129 #[vp0] w fun e w' => ∃ (v1 : Value), e = .returned (v1) ∧ Holds M0 w w' [.sl 3 tI v1 r] G := by
 have H : Holds M0 w w [] G := zb H
 refine zg (args := [vp0]) (n := 26) Tryd.func129 q q q ?_
 unfold spec_TicketMayS at h
 refine rR <| qA q q q <| B <| C <| Z ?_
 refine zs (t := tI) (args := []) (xs := ([] : List Int)) H (BltL.nil) u24 j3 q q q q q q (fun v1 w2 H3 => ?_)
 refine qA q q q <| B <| C <| rR <| qA q q q <| B <| g ?_
 obtain ⟨o7, ho8, h⟩ := D h
 refine fun a9 ha10 => zp (I := fun s a w2 => match s with | (s5, s6) => ∃ vs5, Fr a 26 [(0, vp0), (3, vs5), (4, iV s6)] ∧ Holds M0 w w2 [.sl 3 tI vs5 s5] G) (O := fun o e a w2 => match o with | q0 => e = .exit 0 ∧ ∃ vq0, Fr a 26 [(3, vq0)] ∧ Holds M0 w w2 [.sl 3 tI vq0 q0] G) ho8 ?_ ?_ ?_
 ·exact ⟨v1, ha10.sub ⟨q, q, q, trivial⟩, H3⟩
 ·clear ha10
  intro s o13 a w11 hs12 hI14
  obtain ⟨s5, s6⟩ := s
  obtain ⟨vs5, ha, H15⟩ := hI14
  refine S ?_ ha
  clear ha
  refine C <| rR <| qM q q q <| qM q q q <| za H15.ctx (t := ty1) (hp0.c) u31 q q q <| A q (qt_lss q q) q q <| B ?_
  refine Y q (fun hc16 => ?_) (fun hc16 => ?_)
  ·have hs12 := if_t hc16 hs12
   refine y <| C <| g <| rR <| qM q q q <| qM q q q ?_
   obtain ⟨x17, hx18, hs12⟩ := D hs12
   refine zd q q c117 (w_spec_TicketDo w11 _ vp0 p0 (hp0.c) s6 0 x17 hx18 H15.ctx) (by rfl) ?_
   rintro _ w19 ⟨v21, rfl, H20⟩; refine ⟨_, q, ?_⟩
   have H22 := H15.cN1 [] H20
   refine qM q q q <| A q (zv q q) q q <| A q (zv q q) q q <| qA q q q <| qA q q q <| rN <| qM q q q <| B ?_
   refine Y q (fun hc23 => ?_) (fun hc23 => ?_)
   ·have hs12 := if_t hc23 hs12
    refine Z <| qM q q q <| qM q q q ?_
    refine zs (t := tI) (args := [.tmp 22]) (xs := ([s6] : List Int)) H22 (BltL.cons (Blt.int) q (BltL.nil)) u24 j3 q q q q q q (fun v24 w25 H26 => ?_)
    have H28 := H26.p2
    obtain ⟨x29, hx30, hs12⟩ := D hs12
    refine zw H28 hS1 hx30 u24 j3 q q q q q q (fun v31 w32 H33 => ?_)
    refine qA q q q <| WL_nil fun a ha => ?_
    refine zi (X (S ?_ ha))
    refine Z <| qM q q q <| A q (qt_add q q) q q <| qA q q q <| WL_nil fun a ha => ?_
    obtain rfl := L hs12
    have H35 := H33.q1.q1
    exact ⟨q, v31, ha.sub ⟨q, q, q, trivial⟩, H35⟩
   have hs12 := if_f hc23 hs12
   refine WP_skip fun a ha => ?_
   refine zi (X (S ?_ ha))
   refine Z <| qM q q q <| A q (qt_add q q) q q <| qA q q q <| WL_nil fun a ha => ?_
   obtain rfl := L hs12
   have H36 := H22.q0
   exact ⟨q, vs5, ha.sub ⟨q, q, q, trivial⟩, H36⟩
  have hs12 := if_f hc16 hs12
  refine WP_exit fun a ha => ?_
  obtain rfl := L hs12
  exact zo (⟨exit_ne, q, vs5, ha.sub ⟨q, trivial⟩, H15⟩)
 intro e a9 w37 hO38
 obtain ⟨p39, rfl⟩ : ∃ z, z = o7 := ⟨o7, q⟩
 obtain ⟨rfl, hO41⟩ := hO38
 obtain ⟨vp39, ha, H40⟩ := hO41
 refine zn (X (S ?_ ha))
 refine rR <| qM q q q <| qA q q q <| B <| W fun a ha => ?_
 obtain rfl := L h
 exact ret1 q ha q ⟨vp39, q, H40⟩
end Go.Proofs.YthofjabphcheeaaDoor
