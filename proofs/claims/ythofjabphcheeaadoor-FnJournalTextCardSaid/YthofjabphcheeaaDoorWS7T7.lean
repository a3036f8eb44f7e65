/- The walks: each Go function computes its shallow function. Printed by a program. -/
import Derived.Test.YthofjabphcheeaaDoorWS7T6
set_option linter.unusedVariables false
set_option maxRecDepth 10000
namespace Go.Proofs.YthofjabphcheeaaDoor
open Go Go.RowKit
theorem w_spec_HouseDo (w : World) (G : List Res) (A0 : Value) (B0 : LI) (C0 : Has G ty7 A0 B0) (A1 : Value) (B1 : List Int) (C1 : Has G tI A1 B1) (A2 : Value) (B2 : List Int) (C2 : Has G tI A2 B2) (B3 : Int) (A4 : Value) (B4 : LT) (C4 : Has G ty8 A4 B4) (p1_0 : Int) (p1_1 : Int) (p1_2 : Int) (p1_3 : Int) (r : (LI × (List Int) × (List Int) × Int × LT) × Bool) (h : spec_HouseDoS B0 B1 B2 B3 B4 p1_0 p1_1 p1_2 p1_3 = some r) (H : Ctx w G) : Calls Tryd.prog 65 #[.agg #[A0, A1, A2, iV B3, A4], .agg #[iV p1_0, iV p1_1, iV p1_2, iV p1_3]] w fun e w' => ∃ (v1 : Value) (v2 : Value) (v3 : Value) (v4 : Value), e = .returned (.tuple #[.agg #[v1, v2, v3, iV r.1.2.2.2.1, v4], .bool r.2]) ∧ Holds M0 w w' [.sl 70 ty7 v1 r.1.1, .sl 3 tI v2 r.1.2.1, .sl 3 tI v3 r.1.2.2.1, .sl 33 ty8 v4 r.1.2.2.2.2] G := by
 have H : Holds M0 w w [] G := zb H
 refine zg (args := [.agg #[A0, A1, A2, iV B3, A4], .agg #[iV p1_0, iV p1_1, iV p1_2, iV p1_3]]) (n := 137) Tryd.func65 q q q ?_
 unfold spec_HouseDoS at h
 refine C <| Z ?_
 refine WL_box (cs := [A0, A1, A2, iV B3, A4]) H q q q q (fun b1 w2 H3 => ?_)
 refine WL_box (cs := [iV p1_0, iV p1_1, iV p1_2, iV p1_3]) H3 q q q q (fun b5 w6 H7 => ?_)
 refine zq (cs := [nS, nS, nS, iV 0, nS]) H7 z27 q q q (fun b9 w10 H11 => ?_)
 refine qA q q q <| B <| C <| C <| zk ?_
 have hB13 := R H11.p2
 refine zm (cs := [A0, A1, A2, iV B3, A4]) us27 uo27 il27 hB13 q q q ?_
 change XL _ _ _ _ _ ((8, .agg #[A0, A1, A2, iV B3, A4]) :: _) _
 obtain ⟨x14, hx15, h⟩ := D h
 refine QC q q c11 (fun w' hb => w_spec_HouseValid w' _ A0 B0 (C0.c.c.c) A1 B1 (C1.c.c.c) A2 B2 (C2.c.c.c) B3 A4 B4 (C4.c.c.c) x14 hx15 (H11.grow hb).ctx) (by rfl) <| A q (qt_not q) q q <| QL_nil fun a ha w16 hb17 => ?_
 have H18 := H11.grow hb17
 refine X (S ?_ ha)
 refine Y q (fun hc19 => ?_) (fun hc19 => ?_)
 ·have h := if_t hc19 h
  refine rR <| A q (qt_build (args := []) (css := []) (cells := #[nS, nS, nS, iV 0, nS]) q trivial (by kernel_rfl)) q q ?_
  refine zl (cs' := [nS, nS, nS, iV 0, nS]) H18 q il27 q q q q q (fun w20 H21 => ?_)
  refine qA q q q <| B <| W fun a ha => ?_
  obtain rfl := L h
  have hB23 := R H21.p0
  have H24 := H21.nS 70 ty7
  have H25 := H24.nS 3 tI
  have H26 := H25.nS 3 tI
  have H27 := H26.nS 33 ty8
  have H28 := H27.q4.q4.q4.p1.p2.p3
  exact m (retct q ha q q (run_loadVar_bx (cs := [nS, nS, nS, iV 0, nS]) us27 uo27 il27 hB23) ⟨(nS), (nS), (nS), (nS), q, H28⟩)
 have h := if_f hc19 h
 refine y <| C <| Z ?_
 have hB29 := R H18.p2
 refine zm (cs := [A0, A1, A2, iV B3, A4]) us27 uo27 il27 hB29 q q q ?_
 change XL _ _ _ _ _ ((12, .agg #[A0, A1, A2, iV B3, A4]) :: _) _
 obtain ⟨x30, hx31, h⟩ := D h
 refine zd q q c81 (w_spec_l7Copy w16 _ A0 B0 (C0.c.c.c) A1 B1 (C1.c.c.c) A2 B2 (C2.c.c.c) B3 A4 B4 (C4.c.c.c) x30 hx31 H18.ctx) (by rfl) ?_
 rintro _ w32 ⟨v34, v35, v36, v37, rfl, H33⟩; refine ⟨_, q, ?_⟩
 have H38 := H18.cN4 [] H33
 refine zq (cs := [nS, nS, nS, iV 0, nS]) H38 z27 q q q (fun b39 w40 H41 => ?_)
 refine zl (cs' := [v34, v35, v36, iV x30.2.2.2.1, v37]) H41 q il27 q (T (H41.ctx.sliceOne hS1) (T (H41.ctx.sliceOne hS2) (T (H41.ctx.sliceOne hS3) (T q (T (H41.ctx.sliceOne hS4) q))))) q q q (fun w43 H44 => ?_)
 refine rN <| qA q q q <| B <| C <| g <| rR <| qF uf43 fi43_0 nz3 q q q ?_
 have hB46 := R H44.p6
 refine l u3 q hB46 q q q q <| A q (qt_neq q q) q q <| qM q q q ?_
 refine zh 4 22 (.bool ((p1_0 != 3) && (p1_3 != 0))) ?_ (fun md hmd hk => ?_)
 rotate_left
 ·obtain ⟨Q, rfl⟩ := Md.seq_of hmd
  rcases btf (p1_0 != 3) with hc47 | hc47
  ·skip
   refine qF uf43 fi43_3 nz3 (J q hc47) q q ?_
   have hB48 := R H44.p6
   refine l u3 q hB48 q (J q hc47) q q <| A (J q hc47) (qt_neq q q) q q <| A q (ze q hc47 q) q q ?_
   exact hk _ (p (by rw [hc47]; rfl) (cfn 3 q (u)))
  skip
  refine qS q hc47 q q <| qS q hc47 q q <| qS q hc47 q q <| A q (zf q hc47 q) q q ?_
  exact hk _ (p (by rw [hc47]; rfl) (cfn 3 q (u)))
 refine qM q q q ?_
 refine zh 9 32 (.bool (((p1_0 != 3) && (p1_3 != 0)) || ((decide (p1_0 ≥ 4)) && (p1_2 != 0)))) ?_ (fun md hmd hk => ?_)
 rotate_left
 ·obtain ⟨Q, rfl⟩ := Md.seq_of hmd
  rcases btf ((p1_0 != 3) && (p1_3 != 0)) with hc49 | hc49
  ·skip
   refine qS q hc49 q q <| qS q hc49 q q <| qS q hc49 q q <| qS q hc49 q q <| XL_skip q q q <| XL_skip q q q <| XL_skip q q q <| qS q hc49 q q <| A q (ze q hc49 q) q q ?_
   exact hk _ (p (by rw [hc49]; rfl) (cfn 8 q (u)))
  skip
  refine qF uf43 fi43_0 nz3 (J q hc49) q q ?_
  have hB50 := R H44.p6
  refine l u3 q hB50 q (J q hc49) q q <| A (J q hc49) (qt_geq q q) q q <| qM (J q hc49) q q ?_
  refine zh 4 31 (.bool ((decide (p1_0 ≥ 4)) && (p1_2 != 0))) ?_ (fun md hmd hk => ?_)
  rotate_left
  ·obtain ⟨Q, rfl⟩ := Md.seq_of hmd
   rcases btf (decide (p1_0 ≥ 4)) with hc51 | hc51
   ·skip
    refine qF uf43 fi43_2 nz3 (J q hc51) q q ?_
    have hB52 := R H44.p6
    refine l u3 q hB52 q (J q hc51) q q <| A (J q hc51) (qt_neq q q) q q <| A (J q hc49) (ze q hc51 q) q q ?_
    exact hk _ (p (by rw [hc51]; rfl) (cfn 3 q (u)))
   skip
   refine qS q hc51 q q <| qS q hc51 q q <| qS q hc51 q q <| A (J q hc49) (zf q hc51 q) q q ?_
   exact hk _ (p (by rw [hc51]; rfl) (cfn 3 q (u)))
  refine A q (zf q hc49 q) q q ?_
  exact hk _ (p (by rw [hc49]; rfl) (cfn 5 q (u)))
 refine qM q q q ?_
 refine zh 9 42 (.bool ((((p1_0 != 3) && (p1_3 != 0)) || ((decide (p1_0 ≥ 4)) && (p1_2 != 0))) || ((p1_0 == 4) && (p1_1 != 0)))) ?_ (fun md hmd hk => ?_)
 rotate_left
 ·obtain ⟨Q, rfl⟩ := Md.seq_of hmd
  rcases btf (((p1_0 != 3) && (p1_3 != 0)) || ((decide (p1_0 ≥ 4)) && (p1_2 != 0))) with hc53 | hc53
  ·skip
   refine qS q hc53 q q <| qS q hc53 q q <| qS q hc53 q q <| qS q hc53 q q <| XL_skip q q q <| XL_skip q q q <| XL_skip q q q <| qS q hc53 q q <| A q (ze q hc53 q) q q ?_
   exact hk _ (p (by rw [hc53]; rfl) (cfn 8 q (u)))
  skip
  refine qF uf43 fi43_0 nz3 (J q hc53) q q ?_
  have hB54 := R H44.p6
  refine l u3 q hB54 q (J q hc53) q q <| A (J q hc53) (qt_eql q q) q q <| qM (J q hc53) q q ?_
  refine zh 4 41 (.bool ((p1_0 == 4) && (p1_1 != 0))) ?_ (fun md hmd hk => ?_)
  rotate_left
  ·obtain ⟨Q, rfl⟩ := Md.seq_of hmd
   rcases btf (p1_0 == 4) with hc55 | hc55
   ·skip
    refine qF uf43 fi43_1 nz3 (J q hc55) q q ?_
    have hB56 := R H44.p6
    refine l u3 q hB56 q (J q hc55) q q <| A (J q hc55) (qt_neq q q) q q <| A (J q hc53) (ze q hc55 q) q q ?_
    exact hk _ (p (by rw [hc55]; rfl) (cfn 3 q (u)))
   skip
   refine qS q hc55 q q <| qS q hc55 q q <| qS q hc55 q q <| A (J q hc53) (zf q hc55 q) q q ?_
   exact hk _ (p (by rw [hc55]; rfl) (cfn 3 q (u)))
  refine A q (zf q hc53 q) q q ?_
  exact hk _ (p (by rw [hc53]; rfl) (cfn 5 q (u)))
 refine qM q q q ?_
 refine zh 9 52 (.bool (((((p1_0 != 3) && (p1_3 != 0)) || ((decide (p1_0 ≥ 4)) && (p1_2 != 0))) || ((p1_0 == 4) && (p1_1 != 0))) || ((p1_0 == 2) && (p1_2 != 0)))) ?_ (fun md hmd hk => ?_)
 rotate_left
 ·obtain ⟨Q, rfl⟩ := Md.seq_of hmd
  rcases btf ((((p1_0 != 3) && (p1_3 != 0)) || ((decide (p1_0 ≥ 4)) && (p1_2 != 0))) || ((p1_0 == 4) && (p1_1 != 0))) with hc57 | hc57
  ·skip
   refine qS q hc57 q q <| qS q hc57 q q <| qS q hc57 q q <| qS q hc57 q q <| XL_skip q q q <| XL_skip q q q <| XL_skip q q q <| qS q hc57 q q <| A q (ze q hc57 q) q q ?_
   exact hk _ (p (by rw [hc57]; rfl) (cfn 8 q (u)))
  skip
  refine qF uf43 fi43_0 nz3 (J q hc57) q q ?_
  have hB58 := R H44.p6
  refine l u3 q hB58 q (J q hc57) q q <| A (J q hc57) (qt_eql q q) q q <| qM (J q hc57) q q ?_
  refine zh 4 51 (.bool ((p1_0 == 2) && (p1_2 != 0))) ?_ (fun md hmd hk => ?_)
  rotate_left
  ·obtain ⟨Q, rfl⟩ := Md.seq_of hmd
   rcases btf (p1_0 == 2) with hc59 | hc59
   ·skip
    refine qF uf43 fi43_2 nz3 (J q hc59) q q ?_
    have hB60 := R H44.p6
    refine l u3 q hB60 q (J q hc59) q q <| A (J q hc59) (qt_neq q q) q q <| A (J q hc57) (ze q hc59 q) q q ?_
    exact hk _ (p (by rw [hc59]; rfl) (cfn 3 q (u)))
   skip
   refine qS q hc59 q q <| qS q hc59 q q <| qS q hc59 q q <| A (J q hc57) (zf q hc59 q) q q ?_
   exact hk _ (p (by rw [hc59]; rfl) (cfn 3 q (u)))
  refine A q (zf q hc57 q) q q ?_
  exact hk _ (p (by rw [hc57]; rfl) (cfn 5 q (u)))
 refine qA q q q <| B ?_
 refine Y q (fun hc61 => ?_) (fun hc61 => ?_)
 ·have h := if_t hc61 h
  refine C <| Z ?_
  have hB62 := R H44.p0
  refine zm (cs := [v34, v35, v36, iV x30.2.2.2.1, v37]) us27 uo27 il27 hB62 q q q ?_
  change XL _ _ _ _ _ ((53, .agg #[v34, v35, v36, iV x30.2.2.2.1, v37]) :: _) _
  have H63 := H44.p5
  refine zl (cs' := [v34, v35, v36, iV x30.2.2.2.1, v37]) H63 q il27 q (T (H63.ctx.sliceOne hS2) (T (H63.ctx.sliceOne hS3) (T (H63.ctx.sliceOne hS4) (T q (T (H63.ctx.sliceOne hS5) q))))) q q q (fun w64 H65 => ?_)
  refine qA q q q <| B <| W fun a ha => ?_
  obtain rfl := L h
  have hB67 := R H65.p0
  have H68 := H65.q0.q0.q4.q4.p3.p3.p3.p3
  exact zj (m (retct q ha q q (run_loadVar_bx (cs := [v34, v35, v36, iV x30.2.2.2.1, v37]) us27 uo27 il27 hB67) ⟨v34, v35, v36, v37, q, H68⟩))
 have h := if_f hc61 h
 refine rR <| qF uf43 fi43_0 nz3 q q q ?_
 have hB69 := R H44.p6
 refine l u3 q hB69 q q q q <| A q (qt_eql q q) q q <| qA q q q <| B ?_
 refine Y q (fun hc70 => ?_) (fun hc70 => ?_)
 ·have h := if_t hc70 h
  refine Z ?_
  have hB71 := R H44.p0
  refine zm (cs := [v34, v35, v36, iV x30.2.2.2.1, v37]) us27 uo27 il27 hB71 q q q ?_
  change XL _ _ _ _ _ ((59, .agg #[v34, v35, v36, iV x30.2.2.2.1, v37]) :: _) _
  refine qF uf43 fi43_1 nz3 q q q ?_
  have hB72 := R H44.p6
  refine l u3 q hB72 q q q q <| qF uf43 fi43_2 nz3 q q q ?_
  have hB73 := R H44.p6
  refine l u3 q hB73 q q q q ?_
  have H76 := H44.p4
  have H77 := H76.p4
  have H78 := H77.p4
  have H79 := H78.p4
  obtain ⟨x74, hx75, h⟩ := D h
  refine zd q q c82 (w_spec_l7Buy w43 _ v34 x30.1 v35 x30.2.1 v36 x30.2.2.1 x30.2.2.2.1 v37 x30.2.2.2.2 p1_1 p1_2 x74 hx75 H79.ctx) (by rfl) ?_
  rintro _ w80 ⟨v82, v83, v84, v85, rfl, H81⟩; refine ⟨_, q, ?_⟩
  have H86 := H79.cN4 [_, _, _, _] H81
  refine qM q q q <| A q (zv q q) q q <| A q (zv q q) q q ?_
  have H87 := H86.p4
  refine zl (cs' := [v82, v83, v84, iV x74.1.2.2.2.1, v85]) H87 q il27 q (T (H87.ctx.sliceOne hS1) (T (H87.ctx.sliceOne hS2) (T (H87.ctx.sliceOne hS3) (T q (T (H87.ctx.sliceOne hS4) q))))) q q q (fun w88 H89 => ?_)
  refine qA q q q <| WL_nil fun a ha => ?_
  refine zi (X (S ?_ ha))
  refine C <| C <| zk <| qM q q q <| A q (qt_not q) q q <| qM q q q ?_
  obtain ⟨b91, hg92, h⟩ := D h
  refine zh 4 133 (.bool b91) ?_ (fun md hmd hk => ?_)
  rotate_left
  ·obtain ⟨K, rfl⟩ := zr hmd
   rcases btf (!x74.2) with hc93 | hc93
   ·skip
    refine qS q hc93 q q <| qS q hc93 q q <| qS q hc93 q q <| A q (ze q hc93 q) q q ?_
    exact hk _ (p (vb (if_t hc93 hg92)) (cfn 3 q (u)))
   skip
   have hg92 := if_f hc93 hg92
   have hB94 := R H89.p0
   refine zm (cs := [v82, v83, v84, iV x74.1.2.2.2.1, v85]) us27 uo27 il27 hB94 (J q hc93) q q ?_
   change XL _ _ _ _ _ ((130, .agg #[v82, v83, v84, iV x74.1.2.2.2.1, v85]) :: _) _
   obtain ⟨x95, hx96, hg92⟩ := D hg92
   refine QC (J q hc93) q c11 (fun w' hb => w_spec_HouseValid w' _ v82 x74.1.1 hS1 v83 x74.1.2.1 hS2 v84 x74.1.2.2.1 hS3 x74.1.2.2.2.1 v85 x74.1.2.2.2.2 hS4 x95 hx96 (H89.grow hb).ctx) (by rfl) <| A (J q hc93) (qt_not q) q q <| A q (zf q hc93 q) q q ?_
   exact hk _ (p (vb hg92) (cfn 3 q (u)))
  refine QL_nil fun a ha w97 hb98 => ?_
  have H99 := H89.grow hb98
  refine X (S ?_ ha)
  refine Y q (fun hc100 => ?_) (fun hc100 => ?_)
  ·have h := if_t hc100 h
   refine C <| Z ?_
   have hB101 := R H99.p7
   refine zm (cs := [A0, A1, A2, iV B3, A4]) us27 uo27 il27 hB101 q q q ?_
   change XL _ _ _ _ _ ((134, .agg #[A0, A1, A2, iV B3, A4]) :: _) _
   obtain ⟨x102, hx103, h⟩ := D h
   refine zd q q c81 (w_spec_l7Copy w97 _ A0 B0 (C0.c.c.c.c.c.c.c.c) A1 B1 (C1.c.c.c.c.c.c.c.c) A2 B2 (C2.c.c.c.c.c.c.c.c) B3 A4 B4 (C4.c.c.c.c.c.c.c.c) x102 hx103 H99.ctx) (by rfl) ?_
   rintro _ w104 ⟨v106, v107, v108, v109, rfl, H105⟩; refine ⟨_, q, ?_⟩
   have H110 := H99.cN4 [] H105
   have H111 := H110.p9
   refine zl (cs' := [v106, v107, v108, iV x102.2.2.2.1, v109]) H111 q il27 q (T (H111.ctx.sliceOne hS1) (T (H111.ctx.sliceOne hS2) (T (H111.ctx.sliceOne hS3) (T q (T (H111.ctx.sliceOne hS4) q))))) q q q (fun w112 H113 => ?_)
   refine qA q q q <| B <| W fun a ha => ?_
   obtain rfl := L h
   have hB115 := R H113.p0
   have H116 := H113.q0.q4.q4.q4.q4.q4.q4.q4.p3.p3.p3.p3
   exact m (retct q ha q q (run_loadVar_bx (cs := [v106, v107, v108, iV x102.2.2.2.1, v109]) us27 uo27 il27 hB115) ⟨v106, v107, v108, v109, q, H116⟩)
  have h := if_f hc100 h
  refine y <| C <| Z ?_
  have hB117 := R H99.p0
  refine zm (cs := [v82, v83, v84, iV x74.1.2.2.2.1, v85]) us27 uo27 il27 hB117 q q q ?_
  change XL _ _ _ _ _ ((136, .agg #[v82, v83, v84, iV x74.1.2.2.2.1, v85]) :: _) _
  have H118 := H99.p5
  refine zl (cs' := [v82, v83, v84, iV x74.1.2.2.2.1, v85]) H118 q il27 q (T (H118.ctx.sliceOne hS2) (T (H118.ctx.sliceOne hS3) (T (H118.ctx.sliceOne hS4) (T q (T (H118.ctx.sliceOne hS5) q))))) q q q (fun w119 H120 => ?_)
  refine qA q q q <| B <| W fun a ha => ?_
  obtain rfl := L h
  have hB122 := R H120.p0
  have H123 := H120.q0.q0.q4.q4.p3.p3.p3.p3
  exact retct q ha q q (run_loadVar_bx (cs := [v82, v83, v84, iV x74.1.2.2.2.1, v85]) us27 uo27 il27 hB122) ⟨v82, v83, v84, v85, q, H123⟩
 have h := if_f hc70 h
 refine rR <| qF uf43 fi43_0 nz3 q q q ?_
 have hB124 := R H44.p6
 refine l u3 q hB124 q q q q <| A q (qt_eql q q) q q <| qA q q q <| B ?_
 refine Y q (fun hc125 => ?_) (fun hc125 => ?_)
 ·have h := if_t hc125 h
  refine Z ?_
  have hB126 := R H44.p0
  refine zm (cs := [v34, v35, v36, iV x30.2.2.2.1, v37]) us27 uo27 il27 hB126 q q q ?_
  change XL _ _ _ _ _ ((72, .agg #[v34, v35, v36, iV x30.2.2.2.1, v37]) :: _) _
  refine qF uf43 fi43_1 nz3 q q q ?_
  have hB127 := R H44.p6
  refine l u3 q hB127 q q q q <| qF uf43 fi43_2 nz3 q q q ?_
  have hB128 := R H44.p6
  refine l u3 q hB128 q q q q ?_
  have H131 := H44.p4
  have H132 := H131.p4
  have H133 := H132.p4
  have H134 := H133.p4
  obtain ⟨x129, hx130, h⟩ := D h
  refine zd q q c83 (w_spec_l7Make w43 _ v34 x30.1 v35 x30.2.1 v36 x30.2.2.1 x30.2.2.2.1 v37 x30.2.2.2.2 p1_1 p1_2 x129 hx130 H134.ctx) (by rfl) ?_
  rintro _ w135 ⟨v137, v138, v139, v140, rfl, H136⟩; refine ⟨_, q, ?_⟩
  have H141 := H134.cN4 [_, _, _, _] H136
  refine qM q q q <| A q (zv q q) q q <| A q (zv q q) q q ?_
  have H142 := H141.p4
  refine zl (cs' := [v137, v138, v139, iV x129.1.2.2.2.1, v140]) H142 q il27 q (T (H142.ctx.sliceOne hS1) (T (H142.ctx.sliceOne hS2) (T (H142.ctx.sliceOne hS3) (T q (T (H142.ctx.sliceOne hS4) q))))) q q q (fun w143 H144 => ?_)
  refine qA q q q <| WL_nil fun a ha => ?_
  refine zi (X (S ?_ ha))
  refine C <| C <| zk <| qM q q q <| A q (qt_not q) q q <| qM q q q ?_
  obtain ⟨b146, hg147, h⟩ := D h
  refine zh 4 133 (.bool b146) ?_ (fun md hmd hk => ?_)
  rotate_left
  ·obtain ⟨K, rfl⟩ := zr hmd
   rcases btf (!x129.2) with hc148 | hc148
   ·skip
    refine qS q hc148 q q <| qS q hc148 q q <| qS q hc148 q q <| A q (ze q hc148 q) q q ?_
    exact hk _ (p (vb (if_t hc148 hg147)) (cfn 3 q (u)))
   skip
   have hg147 := if_f hc148 hg147
   have hB149 := R H144.p0
   refine zm (cs := [v137, v138, v139, iV x129.1.2.2.2.1, v140]) us27 uo27 il27 hB149 (J q hc148) q q ?_
   change XL _ _ _ _ _ ((130, .agg #[v137, v138, v139, iV x129.1.2.2.2.1, v140]) :: _) _
   obtain ⟨x150, hx151, hg147⟩ := D hg147
   refine QC (J q hc148) q c11 (fun w' hb => w_spec_HouseValid w' _ v137 x129.1.1 hS1 v138 x129.1.2.1 hS2 v139 x129.1.2.2.1 hS3 x129.1.2.2.2.1 v140 x129.1.2.2.2.2 hS4 x150 hx151 (H144.grow hb).ctx) (by rfl) <| A (J q hc148) (qt_not q) q q <| A q (zf q hc148 q) q q ?_
   exact hk _ (p (vb hg147) (cfn 3 q (u)))
  refine QL_nil fun a ha w152 hb153 => ?_
  have H154 := H144.grow hb153
  refine X (S ?_ ha)
  refine Y q (fun hc155 => ?_) (fun hc155 => ?_)
  ·have h := if_t hc155 h
   refine C <| Z ?_
   have hB156 := R H154.p7
   refine zm (cs := [A0, A1, A2, iV B3, A4]) us27 uo27 il27 hB156 q q q ?_
   change XL _ _ _ _ _ ((134, .agg #[A0, A1, A2, iV B3, A4]) :: _) _
   obtain ⟨x157, hx158, h⟩ := D h
   refine zd q q c81 (w_spec_l7Copy w152 _ A0 B0 (C0.c.c.c.c.c.c.c.c) A1 B1 (C1.c.c.c.c.c.c.c.c) A2 B2 (C2.c.c.c.c.c.c.c.c) B3 A4 B4 (C4.c.c.c.c.c.c.c.c) x157 hx158 H154.ctx) (by rfl) ?_
   rintro _ w159 ⟨v161, v162, v163, v164, rfl, H160⟩; refine ⟨_, q, ?_⟩
   have H165 := H154.cN4 [] H160
   have H166 := H165.p9
   refine zl (cs' := [v161, v162, v163, iV x157.2.2.2.1, v164]) H166 q il27 q (T (H166.ctx.sliceOne hS1) (T (H166.ctx.sliceOne hS2) (T (H166.ctx.sliceOne hS3) (T q (T (H166.ctx.sliceOne hS4) q))))) q q q (fun w167 H168 => ?_)
   refine qA q q q <| B <| W fun a ha => ?_
   obtain rfl := L h
   have hB170 := R H168.p0
   have H171 := H168.q0.q4.q4.q4.q4.q4.q4.q4.p3.p3.p3.p3
   exact m (retct q ha q q (run_loadVar_bx (cs := [v161, v162, v163, iV x157.2.2.2.1, v164]) us27 uo27 il27 hB170) ⟨v161, v162, v163, v164, q, H171⟩)
  have h := if_f hc155 h
  refine y <| C <| Z ?_
  have hB172 := R H154.p0
  refine zm (cs := [v137, v138, v139, iV x129.1.2.2.2.1, v140]) us27 uo27 il27 hB172 q q q ?_
  change XL _ _ _ _ _ ((136, .agg #[v137, v138, v139, iV x129.1.2.2.2.1, v140]) :: _) _
  have H173 := H154.p5
  refine zl (cs' := [v137, v138, v139, iV x129.1.2.2.2.1, v140]) H173 q il27 q (T (H173.ctx.sliceOne hS2) (T (H173.ctx.sliceOne hS3) (T (H173.ctx.sliceOne hS4) (T q (T (H173.ctx.sliceOne hS5) q))))) q q q (fun w174 H175 => ?_)
  refine qA q q q <| B <| W fun a ha => ?_
  obtain rfl := L h
  have hB177 := R H175.p0
  have H178 := H175.q0.q0.q4.q4.p3.p3.p3.p3
  exact retct q ha q q (run_loadVar_bx (cs := [v137, v138, v139, iV x129.1.2.2.2.1, v140]) us27 uo27 il27 hB177) ⟨v137, v138, v139, v140, q, H178⟩
 have h := if_f hc125 h
 refine rR <| qF uf43 fi43_0 nz3 q q q ?_
 have hB179 := R H44.p6
 refine l u3 q hB179 q q q q <| A q (qt_eql q q) q q <| qA q q q <| B ?_
 refine Y q (fun hc180 => ?_) (fun hc180 => ?_)
 ·have h := if_t hc180 h
  refine rR <| qF uf27 fi27_4 nz25 q q q ?_
  have hB181 := R H44.p0
  refine l u25 q hB181 q q q q <| qF uf43 fi43_1 nz3 q q q ?_
  have hB182 := R H44.p6
  refine l u3 q hB182 q q q q <| A q (qt_build (args := [(0, .tmp 87)]) (css := [#[iV p1_1]]) (cells := #[iV p1_1, nS, nS]) q ⟨q, trivial⟩ (by kernel_rfl)) q q ?_
  refine zs (t := ty8) (args := [.tmp 88]) (xs := ([(p1_1, [], [])] : LT)) H44 (BltL.cons (Blt.pair (Blt.int) (Blt.pair (Blt.slice (HasRo.nil)) (Blt.slice (HasRo.nil)))) q (BltL.nil)) u25 j33 q q q q q q (fun v183 w184 H185 => ?_)
  have H187 := H185.p5
  obtain ⟨x188, hx189, h⟩ := D h
  refine zw H187 hS1 hx189 u25 j33 q q q q q q (fun v190 w191 H192 => ?_)
  refine qF uf27 fi27_4 nz25 q q q ?_
  have H194 := H192.p2
  refine WL_store_bx H194 q il25 (H194.ctx.sliceCells hS1) (H194.ctx.sliceOne hS1) q q q (fun w195 H196 => ?_)
  refine B <| Z <| qA q q q <| WL_nil fun a ha => ?_
  refine zi (X (S ?_ ha))
  refine C <| C <| zk <| qM q q q <| A q (qt_not q) q q <| qM q q q ?_
  obtain ⟨b198, hg199, h⟩ := D h
  refine zh 4 133 (.bool b198) ?_ (fun md hmd hk => ?_)
  rotate_left
  ·obtain ⟨K, rfl⟩ := zr hmd
   rcases btf (!true) with hc200 | hc200
   ·skip
    refine qS q hc200 q q <| qS q hc200 q q <| qS q hc200 q q <| A q (ze q hc200 q) q q ?_
    exact hk _ (p (vb (if_t hc200 hg199)) (cfn 3 q (u)))
   skip
   have hg199 := if_f hc200 hg199
   have hB201 := R H196.p0
   refine zm (cs := [v34, v35, v36, iV x30.2.2.2.1, v190]) us27 uo27 il27 hB201 (J q hc200) q q ?_
   change XL _ _ _ _ _ ((130, .agg #[v34, v35, v36, iV x30.2.2.2.1, v190]) :: _) _
   obtain ⟨x202, hx203, hg199⟩ := D hg199
   refine QC (J q hc200) q c11 (fun w' hb => w_spec_HouseValid w' _ v34 x30.1 hS3 v35 x30.2.1 hS4 v36 x30.2.2.1 hS5 x30.2.2.2.1 v190 x188 hS1 x202 hx203 (H196.grow hb).ctx) (by rfl) <| A (J q hc200) (qt_not q) q q <| A q (zf q hc200 q) q q ?_
   exact hk _ (p (vb hg199) (cfn 3 q (u)))
  refine QL_nil fun a ha w204 hb205 => ?_
  have H206 := H196.grow hb205
  refine X (S ?_ ha)
  refine Y q (fun hc207 => ?_) (fun hc207 => ?_)
  ·have h := if_t hc207 h
   refine C <| Z ?_
   have hB208 := R H206.p8
   refine zm (cs := [A0, A1, A2, iV B3, A4]) us27 uo27 il27 hB208 q q q ?_
   change XL _ _ _ _ _ ((134, .agg #[A0, A1, A2, iV B3, A4]) :: _) _
   obtain ⟨x209, hx210, h⟩ := D h
   refine zd q q c81 (w_spec_l7Copy w204 _ A0 B0 (C0.c.c.c.c.c.c.c.c.c) A1 B1 (C1.c.c.c.c.c.c.c.c.c) A2 B2 (C2.c.c.c.c.c.c.c.c.c) B3 A4 B4 (C4.c.c.c.c.c.c.c.c.c) x209 hx210 H206.ctx) (by rfl) ?_
   rintro _ w211 ⟨v213, v214, v215, v216, rfl, H212⟩; refine ⟨_, q, ?_⟩
   have H217 := H206.cN4 [] H212
   have H218 := H217.p10
   refine zl (cs' := [v213, v214, v215, iV x209.2.2.2.1, v216]) H218 q il27 q (T (H218.ctx.sliceOne hS1) (T (H218.ctx.sliceOne hS2) (T (H218.ctx.sliceOne hS3) (T q (T (H218.ctx.sliceOne hS4) q))))) q q q (fun w219 H220 => ?_)
   refine qA q q q <| B <| W fun a ha => ?_
   obtain rfl := L h
   have hB222 := R H220.p0
   have H223 := H220.q0.q4.q4.q4.q4.q4.q4.q4.q4.p3.p3.p3.p3
   exact m (retct q ha q q (run_loadVar_bx (cs := [v213, v214, v215, iV x209.2.2.2.1, v216]) us27 uo27 il27 hB222) ⟨v213, v214, v215, v216, q, H223⟩)
  have h := if_f hc207 h
  refine y <| C <| Z ?_
  have hB224 := R H206.p0
  refine zm (cs := [v34, v35, v36, iV x30.2.2.2.1, v190]) us27 uo27 il27 hB224 q q q ?_
  change XL _ _ _ _ _ ((136, .agg #[v34, v35, v36, iV x30.2.2.2.1, v190]) :: _) _
  have H225 := H206.p6
  refine zl (cs' := [v34, v35, v36, iV x30.2.2.2.1, v190]) H225 q il27 q (T (H225.ctx.sliceOne hS4) (T (H225.ctx.sliceOne hS5) (T (H225.ctx.sliceOne hS6) (T q (T (H225.ctx.sliceOne hS2) q))))) q q q (fun w226 H227 => ?_)
  refine qA q q q <| B <| W fun a ha => ?_
  obtain rfl := L h
  have hB229 := R H227.p0
  have H230 := H227.q0.q0.q1.q4.q4.p3.p3.p3
  exact retct q ha q q (run_loadVar_bx (cs := [v34, v35, v36, iV x30.2.2.2.1, v190]) us27 uo27 il27 hB229) ⟨v34, v35, v36, v190, q, H230⟩
 have h := if_f hc180 h
 refine rR <| qF uf43 fi43_0 nz3 q q q ?_
 have hB231 := R H44.p6
 refine l u3 q hB231 q q q q <| A q (qt_eql q q) q q <| qA q q q <| B ?_
 refine Y q (fun hc232 => ?_) (fun hc232 => ?_)
 ·have h := if_t hc232 h
  refine Z ?_
  have hB233 := R H44.p0
  refine zm (cs := [v34, v35, v36, iV x30.2.2.2.1, v37]) us27 uo27 il27 hB233 q q q ?_
  change XL _ _ _ _ _ ((97, .agg #[v34, v35, v36, iV x30.2.2.2.1, v37]) :: _) _
  refine qF uf43 fi43_1 nz3 q q q ?_
  have hB234 := R H44.p6
  refine l u3 q hB234 q q q q <| qF uf43 fi43_2 nz3 q q q ?_
  have hB235 := R H44.p6
  refine l u3 q hB235 q q q q <| qF uf43 fi43_3 nz3 q q q ?_
  have hB236 := R H44.p6
  refine l u3 q hB236 q q q q ?_
  have H239 := H44.p4
  have H240 := H239.p4
  have H241 := H240.p4
  have H242 := H241.p4
  obtain ⟨x237, hx238, h⟩ := D h
  refine zd q q c84 (w_spec_l7Order w43 _ v34 x30.1 v35 x30.2.1 v36 x30.2.2.1 x30.2.2.2.1 v37 x30.2.2.2.2 p1_1 p1_2 p1_3 x237 hx238 H242.ctx) (by rfl) ?_
  rintro _ w243 ⟨v245, v246, v247, v248, rfl, H244⟩; refine ⟨_, q, ?_⟩
  have H249 := H242.cN4 [_, _, _, _] H244
  refine qM q q q <| A q (zv q q) q q <| A q (zv q q) q q ?_
  have H250 := H249.p4
  refine zl (cs' := [v245, v246, v247, iV x237.1.2.2.2.1, v248]) H250 q il27 q (T (H250.ctx.sliceOne hS1) (T (H250.ctx.sliceOne hS2) (T (H250.ctx.sliceOne hS3) (T q (T (H250.ctx.sliceOne hS4) q))))) q q q (fun w251 H252 => ?_)
  refine qA q q q <| WL_nil fun a ha => ?_
  refine zi (X (S ?_ ha))
  refine C <| C <| zk <| qM q q q <| A q (qt_not q) q q <| qM q q q ?_
  obtain ⟨b254, hg255, h⟩ := D h
  refine zh 4 133 (.bool b254) ?_ (fun md hmd hk => ?_)
  rotate_left
  ·obtain ⟨K, rfl⟩ := zr hmd
   rcases btf (!x237.2) with hc256 | hc256
   ·skip
    refine qS q hc256 q q <| qS q hc256 q q <| qS q hc256 q q <| A q (ze q hc256 q) q q ?_
    exact hk _ (p (vb (if_t hc256 hg255)) (cfn 3 q (u)))
   skip
   have hg255 := if_f hc256 hg255
   have hB257 := R H252.p0
   refine zm (cs := [v245, v246, v247, iV x237.1.2.2.2.1, v248]) us27 uo27 il27 hB257 (J q hc256) q q ?_
   change XL _ _ _ _ _ ((130, .agg #[v245, v246, v247, iV x237.1.2.2.2.1, v248]) :: _) _
   obtain ⟨x258, hx259, hg255⟩ := D hg255
   refine QC (J q hc256) q c11 (fun w' hb => w_spec_HouseValid w' _ v245 x237.1.1 hS1 v246 x237.1.2.1 hS2 v247 x237.1.2.2.1 hS3 x237.1.2.2.2.1 v248 x237.1.2.2.2.2 hS4 x258 hx259 (H252.grow hb).ctx) (by rfl) <| A (J q hc256) (qt_not q) q q <| A q (zf q hc256 q) q q ?_
   exact hk _ (p (vb hg255) (cfn 3 q (u)))
  refine QL_nil fun a ha w260 hb261 => ?_
  have H262 := H252.grow hb261
  refine X (S ?_ ha)
  refine Y q (fun hc263 => ?_) (fun hc263 => ?_)
  ·have h := if_t hc263 h
   refine C <| Z ?_
   have hB264 := R H262.p7
   refine zm (cs := [A0, A1, A2, iV B3, A4]) us27 uo27 il27 hB264 q q q ?_
   change XL _ _ _ _ _ ((134, .agg #[A0, A1, A2, iV B3, A4]) :: _) _
   obtain ⟨x265, hx266, h⟩ := D h
   refine zd q q c81 (w_spec_l7Copy w260 _ A0 B0 (C0.c.c.c.c.c.c.c.c) A1 B1 (C1.c.c.c.c.c.c.c.c) A2 B2 (C2.c.c.c.c.c.c.c.c) B3 A4 B4 (C4.c.c.c.c.c.c.c.c) x265 hx266 H262.ctx) (by rfl) ?_
   rintro _ w267 ⟨v269, v270, v271, v272, rfl, H268⟩; refine ⟨_, q, ?_⟩
   have H273 := H262.cN4 [] H268
   have H274 := H273.p9
   refine zl (cs' := [v269, v270, v271, iV x265.2.2.2.1, v272]) H274 q il27 q (T (H274.ctx.sliceOne hS1) (T (H274.ctx.sliceOne hS2) (T (H274.ctx.sliceOne hS3) (T q (T (H274.ctx.sliceOne hS4) q))))) q q q (fun w275 H276 => ?_)
   refine qA q q q <| B <| W fun a ha => ?_
   obtain rfl := L h
   have hB278 := R H276.p0
   have H279 := H276.q0.q4.q4.q4.q4.q4.q4.q4.p3.p3.p3.p3
   exact m (retct q ha q q (run_loadVar_bx (cs := [v269, v270, v271, iV x265.2.2.2.1, v272]) us27 uo27 il27 hB278) ⟨v269, v270, v271, v272, q, H279⟩)
  have h := if_f hc263 h
  refine y <| C <| Z ?_
  have hB280 := R H262.p0
  refine zm (cs := [v245, v246, v247, iV x237.1.2.2.2.1, v248]) us27 uo27 il27 hB280 q q q ?_
  change XL _ _ _ _ _ ((136, .agg #[v245, v246, v247, iV x237.1.2.2.2.1, v248]) :: _) _
  have H281 := H262.p5
  refine zl (cs' := [v245, v246, v247, iV x237.1.2.2.2.1, v248]) H281 q il27 q (T (H281.ctx.sliceOne hS2) (T (H281.ctx.sliceOne hS3) (T (H281.ctx.sliceOne hS4) (T q (T (H281.ctx.sliceOne hS5) q))))) q q q (fun w282 H283 => ?_)
  refine qA q q q <| B <| W fun a ha => ?_
  obtain rfl := L h
  have hB285 := R H283.p0
  have H286 := H283.q0.q0.q4.q4.p3.p3.p3.p3
  exact retct q ha q q (run_loadVar_bx (cs := [v245, v246, v247, iV x237.1.2.2.2.1, v248]) us27 uo27 il27 hB285) ⟨v245, v246, v247, v248, q, H286⟩
 have h := if_f hc232 h
 refine rR <| qF uf43 fi43_0 nz3 q q q ?_
 have hB287 := R H44.p6
 refine l u3 q hB287 q q q q <| A q (qt_eql q q) q q <| qA q q q <| B ?_
 refine Y q (fun hc288 => ?_) (fun hc288 => ?_)
 ·have h := if_t hc288 h
  refine Z ?_
  have hB289 := R H44.p0
  refine zm (cs := [v34, v35, v36, iV x30.2.2.2.1, v37]) us27 uo27 il27 hB289 q q q ?_
  change XL _ _ _ _ _ ((112, .agg #[v34, v35, v36, iV x30.2.2.2.1, v37]) :: _) _
  have H292 := H44.p4
  have H293 := H292.p4
  have H294 := H293.p4
  have H295 := H294.p4
  obtain ⟨x290, hx291, h⟩ := D h
  refine zd q q c85 (w_spec_l7Work w43 _ v34 x30.1 v35 x30.2.1 v36 x30.2.2.1 x30.2.2.2.1 v37 x30.2.2.2.2 x290 hx291 H295.ctx) (by rfl) ?_
  rintro _ w296 ⟨v298, v299, v300, v301, rfl, H297⟩; refine ⟨_, q, ?_⟩
  have H302 := H295.cN4 [_, _, _, _] H297
  refine qM q q q <| A q (zv q q) q q <| A q (zv q q) q q ?_
  have H303 := H302.p4
  refine zl (cs' := [v298, v299, v300, iV x290.1.2.2.2.1, v301]) H303 q il27 q (T (H303.ctx.sliceOne hS1) (T (H303.ctx.sliceOne hS2) (T (H303.ctx.sliceOne hS3) (T q (T (H303.ctx.sliceOne hS4) q))))) q q q (fun w304 H305 => ?_)
  refine qA q q q <| WL_nil fun a ha => ?_
  refine zi (X (S ?_ ha))
  refine C <| C <| zk <| qM q q q <| A q (qt_not q) q q <| qM q q q ?_
  obtain ⟨b307, hg308, h⟩ := D h
  refine zh 4 133 (.bool b307) ?_ (fun md hmd hk => ?_)
  rotate_left
  ·obtain ⟨K, rfl⟩ := zr hmd
   rcases btf (!x290.2) with hc309 | hc309
   ·skip
    refine qS q hc309 q q <| qS q hc309 q q <| qS q hc309 q q <| A q (ze q hc309 q) q q ?_
    exact hk _ (p (vb (if_t hc309 hg308)) (cfn 3 q (u)))
   skip
   have hg308 := if_f hc309 hg308
   have hB310 := R H305.p0
   refine zm (cs := [v298, v299, v300, iV x290.1.2.2.2.1, v301]) us27 uo27 il27 hB310 (J q hc309) q q ?_
   change XL _ _ _ _ _ ((130, .agg #[v298, v299, v300, iV x290.1.2.2.2.1, v301]) :: _) _
   obtain ⟨x311, hx312, hg308⟩ := D hg308
   refine QC (J q hc309) q c11 (fun w' hb => w_spec_HouseValid w' _ v298 x290.1.1 hS1 v299 x290.1.2.1 hS2 v300 x290.1.2.2.1 hS3 x290.1.2.2.2.1 v301 x290.1.2.2.2.2 hS4 x311 hx312 (H305.grow hb).ctx) (by rfl) <| A (J q hc309) (qt_not q) q q <| A q (zf q hc309 q) q q ?_
   exact hk _ (p (vb hg308) (cfn 3 q (u)))
  refine QL_nil fun a ha w313 hb314 => ?_
  have H315 := H305.grow hb314
  refine X (S ?_ ha)
  refine Y q (fun hc316 => ?_) (fun hc316 => ?_)
  ·have h := if_t hc316 h
   refine C <| Z ?_
   have hB317 := R H315.p7
   refine zm (cs := [A0, A1, A2, iV B3, A4]) us27 uo27 il27 hB317 q q q ?_
   change XL _ _ _ _ _ ((134, .agg #[A0, A1, A2, iV B3, A4]) :: _) _
   obtain ⟨x318, hx319, h⟩ := D h
   refine zd q q c81 (w_spec_l7Copy w313 _ A0 B0 (C0.c.c.c.c.c.c.c.c) A1 B1 (C1.c.c.c.c.c.c.c.c) A2 B2 (C2.c.c.c.c.c.c.c.c) B3 A4 B4 (C4.c.c.c.c.c.c.c.c) x318 hx319 H315.ctx) (by rfl) ?_
   rintro _ w320 ⟨v322, v323, v324, v325, rfl, H321⟩; refine ⟨_, q, ?_⟩
   have H326 := H315.cN4 [] H321
   have H327 := H326.p9
   refine zl (cs' := [v322, v323, v324, iV x318.2.2.2.1, v325]) H327 q il27 q (T (H327.ctx.sliceOne hS1) (T (H327.ctx.sliceOne hS2) (T (H327.ctx.sliceOne hS3) (T q (T (H327.ctx.sliceOne hS4) q))))) q q q (fun w328 H329 => ?_)
   refine qA q q q <| B <| W fun a ha => ?_
   obtain rfl := L h
   have hB331 := R H329.p0
   have H332 := H329.q0.q4.q4.q4.q4.q4.q4.q4.p3.p3.p3.p3
   exact m (retct q ha q q (run_loadVar_bx (cs := [v322, v323, v324, iV x318.2.2.2.1, v325]) us27 uo27 il27 hB331) ⟨v322, v323, v324, v325, q, H332⟩)
  have h := if_f hc316 h
  refine y <| C <| Z ?_
  have hB333 := R H315.p0
  refine zm (cs := [v298, v299, v300, iV x290.1.2.2.2.1, v301]) us27 uo27 il27 hB333 q q q ?_
  change XL _ _ _ _ _ ((136, .agg #[v298, v299, v300, iV x290.1.2.2.2.1, v301]) :: _) _
  have H334 := H315.p5
  refine zl (cs' := [v298, v299, v300, iV x290.1.2.2.2.1, v301]) H334 q il27 q (T (H334.ctx.sliceOne hS2) (T (H334.ctx.sliceOne hS3) (T (H334.ctx.sliceOne hS4) (T q (T (H334.ctx.sliceOne hS5) q))))) q q q (fun w335 H336 => ?_)
  refine qA q q q <| B <| W fun a ha => ?_
  obtain rfl := L h
  have hB338 := R H336.p0
  have H339 := H336.q0.q0.q4.q4.p3.p3.p3.p3
  exact retct q ha q q (run_loadVar_bx (cs := [v298, v299, v300, iV x290.1.2.2.2.1, v301]) us27 uo27 il27 hB338) ⟨v298, v299, v300, v301, q, H339⟩
 have h := if_f hc288 h
 refine rR <| qF uf43 fi43_0 nz3 q q q ?_
 have hB340 := R H44.p6
 refine l u3 q hB340 q q q q <| A q (qt_eql q q) q q <| qA q q q <| B ?_
 refine Y q (fun hc341 => ?_) (fun hc341 => ?_)
 ·have h := if_t hc341 h
  refine Z ?_
  have hB342 := R H44.p0
  refine zm (cs := [v34, v35, v36, iV x30.2.2.2.1, v37]) us27 uo27 il27 hB342 q q q ?_
  change XL _ _ _ _ _ ((121, .agg #[v34, v35, v36, iV x30.2.2.2.1, v37]) :: _) _
  refine qF uf43 fi43_1 nz3 q q q ?_
  have hB343 := R H44.p6
  refine l u3 q hB343 q q q q ?_
  have H346 := H44.p4
  have H347 := H346.p4
  have H348 := H347.p4
  have H349 := H348.p4
  obtain ⟨x344, hx345, h⟩ := D h
  refine zd q q c86 (w_spec_l7Close w43 _ v34 x30.1 v35 x30.2.1 v36 x30.2.2.1 x30.2.2.2.1 v37 x30.2.2.2.2 p1_1 x344 hx345 H349.ctx) (by rfl) ?_
  rintro _ w350 ⟨v352, v353, v354, v355, rfl, H351⟩; refine ⟨_, q, ?_⟩
  have H356 := H349.cN4 [_, _, _, _] H351
  refine qM q q q <| A q (zv q q) q q <| A q (zv q q) q q ?_
  have H357 := H356.p4
  refine zl (cs' := [v352, v353, v354, iV x344.1.2.2.2.1, v355]) H357 q il27 q (T (H357.ctx.sliceOne hS1) (T (H357.ctx.sliceOne hS2) (T (H357.ctx.sliceOne hS3) (T q (T (H357.ctx.sliceOne hS4) q))))) q q q (fun w358 H359 => ?_)
  refine qA q q q <| WL_nil fun a ha => ?_
  refine zi (X (S ?_ ha))
  refine C <| C <| zk <| qM q q q <| A q (qt_not q) q q <| qM q q q ?_
  obtain ⟨b361, hg362, h⟩ := D h
  refine zh 4 133 (.bool b361) ?_ (fun md hmd hk => ?_)
  rotate_left
  ·obtain ⟨K, rfl⟩ := zr hmd
   rcases btf (!x344.2) with hc363 | hc363
   ·skip
    refine qS q hc363 q q <| qS q hc363 q q <| qS q hc363 q q <| A q (ze q hc363 q) q q ?_
    exact hk _ (p (vb (if_t hc363 hg362)) (cfn 3 q (u)))
   skip
   have hg362 := if_f hc363 hg362
   have hB364 := R H359.p0
   refine zm (cs := [v352, v353, v354, iV x344.1.2.2.2.1, v355]) us27 uo27 il27 hB364 (J q hc363) q q ?_
   change XL _ _ _ _ _ ((130, .agg #[v352, v353, v354, iV x344.1.2.2.2.1, v355]) :: _) _
   obtain ⟨x365, hx366, hg362⟩ := D hg362
   refine QC (J q hc363) q c11 (fun w' hb => w_spec_HouseValid w' _ v352 x344.1.1 hS1 v353 x344.1.2.1 hS2 v354 x344.1.2.2.1 hS3 x344.1.2.2.2.1 v355 x344.1.2.2.2.2 hS4 x365 hx366 (H359.grow hb).ctx) (by rfl) <| A (J q hc363) (qt_not q) q q <| A q (zf q hc363 q) q q ?_
   exact hk _ (p (vb hg362) (cfn 3 q (u)))
  refine QL_nil fun a ha w367 hb368 => ?_
  have H369 := H359.grow hb368
  refine X (S ?_ ha)
  refine Y q (fun hc370 => ?_) (fun hc370 => ?_)
  ·have h := if_t hc370 h
   refine C <| Z ?_
   have hB371 := R H369.p7
   refine zm (cs := [A0, A1, A2, iV B3, A4]) us27 uo27 il27 hB371 q q q ?_
   change XL _ _ _ _ _ ((134, .agg #[A0, A1, A2, iV B3, A4]) :: _) _
   obtain ⟨x372, hx373, h⟩ := D h
   refine zd q q c81 (w_spec_l7Copy w367 _ A0 B0 (C0.c.c.c.c.c.c.c.c) A1 B1 (C1.c.c.c.c.c.c.c.c) A2 B2 (C2.c.c.c.c.c.c.c.c) B3 A4 B4 (C4.c.c.c.c.c.c.c.c) x372 hx373 H369.ctx) (by rfl) ?_
   rintro _ w374 ⟨v376, v377, v378, v379, rfl, H375⟩; refine ⟨_, q, ?_⟩
   have H380 := H369.cN4 [] H375
   have H381 := H380.p9
   refine zl (cs' := [v376, v377, v378, iV x372.2.2.2.1, v379]) H381 q il27 q (T (H381.ctx.sliceOne hS1) (T (H381.ctx.sliceOne hS2) (T (H381.ctx.sliceOne hS3) (T q (T (H381.ctx.sliceOne hS4) q))))) q q q (fun w382 H383 => ?_)
   refine qA q q q <| B <| W fun a ha => ?_
   obtain rfl := L h
   have hB385 := R H383.p0
   have H386 := H383.q0.q4.q4.q4.q4.q4.q4.q4.p3.p3.p3.p3
   exact m (retct q ha q q (run_loadVar_bx (cs := [v376, v377, v378, iV x372.2.2.2.1, v379]) us27 uo27 il27 hB385) ⟨v376, v377, v378, v379, q, H386⟩)
  have h := if_f hc370 h
  refine y <| C <| Z ?_
  have hB387 := R H369.p0
  refine zm (cs := [v352, v353, v354, iV x344.1.2.2.2.1, v355]) us27 uo27 il27 hB387 q q q ?_
  change XL _ _ _ _ _ ((136, .agg #[v352, v353, v354, iV x344.1.2.2.2.1, v355]) :: _) _
  have H388 := H369.p5
  refine zl (cs' := [v352, v353, v354, iV x344.1.2.2.2.1, v355]) H388 q il27 q (T (H388.ctx.sliceOne hS2) (T (H388.ctx.sliceOne hS3) (T (H388.ctx.sliceOne hS4) (T q (T (H388.ctx.sliceOne hS5) q))))) q q q (fun w389 H390 => ?_)
  refine qA q q q <| B <| W fun a ha => ?_
  obtain rfl := L h
  have hB392 := R H390.p0
  have H393 := H390.q0.q0.q4.q4.p3.p3.p3.p3
  exact retct q ha q q (run_loadVar_bx (cs := [v352, v353, v354, iV x344.1.2.2.2.1, v355]) us27 uo27 il27 hB392) ⟨v352, v353, v354, v355, q, H393⟩
 have h := if_f hc341 h
 refine WP_skip fun a ha => ?_
 refine zi (X (S ?_ ha))
 refine C <| C <| zk <| qM q q q <| A q (qt_not q) q q <| qM q q q ?_
 obtain ⟨b394, hg395, h⟩ := D h
 refine zh 4 133 (.bool b394) ?_ (fun md hmd hk => ?_)
 rotate_left
 ·obtain ⟨K, rfl⟩ := zr hmd
  rcases btf (!false) with hc396 | hc396
  ·skip
   refine qS q hc396 q q <| qS q hc396 q q <| qS q hc396 q q <| A q (ze q hc396 q) q q ?_
   exact hk _ (p (vb (if_t hc396 hg395)) (cfn 3 q (u)))
  skip
  have hg395 := if_f hc396 hg395
  have hB397 := R H44.p0
  refine zm (cs := [v34, v35, v36, iV x30.2.2.2.1, v37]) us27 uo27 il27 hB397 (J q hc396) q q ?_
  change XL _ _ _ _ _ ((130, .agg #[v34, v35, v36, iV x30.2.2.2.1, v37]) :: _) _
  obtain ⟨x398, hx399, hg395⟩ := D hg395
  refine QC (J q hc396) q c11 (fun w' hb => w_spec_HouseValid w' _ v34 x30.1 hS1 v35 x30.2.1 hS2 v36 x30.2.2.1 hS3 x30.2.2.2.1 v37 x30.2.2.2.2 hS4 x398 hx399 (H44.grow hb).ctx) (by rfl) <| A (J q hc396) (qt_not q) q q <| A q (zf q hc396 q) q q ?_
  exact hk _ (p (vb hg395) (cfn 3 q (u)))
 refine QL_nil fun a ha w400 hb401 => ?_
 have H402 := H44.grow hb401
 refine X (S ?_ ha)
 refine Y q (fun hc403 => ?_) (fun hc403 => ?_)
 ·have h := if_t hc403 h
  refine C <| Z ?_
  have hB404 := R H402.p7
  refine zm (cs := [A0, A1, A2, iV B3, A4]) us27 uo27 il27 hB404 q q q ?_
  change XL _ _ _ _ _ ((134, .agg #[A0, A1, A2, iV B3, A4]) :: _) _
  obtain ⟨x405, hx406, h⟩ := D h
  refine zd q q c81 (w_spec_l7Copy w400 _ A0 B0 (C0.c.c.c.c.c.c.c.c) A1 B1 (C1.c.c.c.c.c.c.c.c) A2 B2 (C2.c.c.c.c.c.c.c.c) B3 A4 B4 (C4.c.c.c.c.c.c.c.c) x405 hx406 H402.ctx) (by rfl) ?_
  rintro _ w407 ⟨v409, v410, v411, v412, rfl, H408⟩; refine ⟨_, q, ?_⟩
  have H413 := H402.cN4 [] H408
  have H414 := H413.p9
  refine zl (cs' := [v409, v410, v411, iV x405.2.2.2.1, v412]) H414 q il27 q (T (H414.ctx.sliceOne hS1) (T (H414.ctx.sliceOne hS2) (T (H414.ctx.sliceOne hS3) (T q (T (H414.ctx.sliceOne hS4) q))))) q q q (fun w415 H416 => ?_)
  refine qA q q q <| B <| W fun a ha => ?_
  obtain rfl := L h
  have hB418 := R H416.p0
  have H419 := H416.q0.q4.q4.q4.q4.q4.q4.q4.p3.p3.p3.p3
  exact m (retct q ha q q (run_loadVar_bx (cs := [v409, v410, v411, iV x405.2.2.2.1, v412]) us27 uo27 il27 hB418) ⟨v409, v410, v411, v412, q, H419⟩)
 have h := if_f hc403 h
 refine y <| C <| Z ?_
 have hB420 := R H402.p0
 refine zm (cs := [v34, v35, v36, iV x30.2.2.2.1, v37]) us27 uo27 il27 hB420 q q q ?_
 change XL _ _ _ _ _ ((136, .agg #[v34, v35, v36, iV x30.2.2.2.1, v37]) :: _) _
 have H421 := H402.p5
 refine zl (cs' := [v34, v35, v36, iV x30.2.2.2.1, v37]) H421 q il27 q (T (H421.ctx.sliceOne hS2) (T (H421.ctx.sliceOne hS3) (T (H421.ctx.sliceOne hS4) (T q (T (H421.ctx.sliceOne hS5) q))))) q q q (fun w422 H423 => ?_)
 refine qA q q q <| B <| W fun a ha => ?_
 obtain rfl := L h
 have hB425 := R H423.p0
 have H426 := H423.q0.q0.q4.q4.p3.p3.p3.p3
 exact retct q ha q q (run_loadVar_bx (cs := [v34, v35, v36, iV x30.2.2.2.1, v37]) us27 uo27 il27 hB425) ⟨v34, v35, v36, v37, q, H426⟩
theorem w_spec_l20House (w : World) (G : List Res) (bp0 : Nat) (A0 : Value) (B0 : List Int) (C0 : Has G (.int .u8) A0 B0) (B1 : Int) (p1 : Int) (r : Int × (LI × (List Int) × (List Int) × Int × LT)) (h : spec_l20HouseS B0 B1 p1 = some r) (H : Ctx w ([.bx bp0 104 [A0, iV B1]] ++ G)) : Calls Tryd.prog 31 #[pB bp0, iV p1] w fun e w' => ∃ (v1 : Value) (v2 : Value) (v3 : Value) (v4 : Value), e = .returned (.agg #[v1, v2, v3, iV r.2.2.2.2.1, v4]) ∧ Holds (([.bx bp0 104 [A0, iV B1]] : List Res).flatMap Res.own) w w' [.sl 70 ty7 v1 r.2.1, .sl 3 tI v2 r.2.2.1, .sl 3 tI v3 r.2.2.2.1, .sl 33 ty8 v4 r.2.2.2.2.2, .bx bp0 104 [A0, iV r.1]] G := by
 have H : Holds (([.bx bp0 104 [A0, iV B1]] : List Res).flatMap Res.own) w w [.bx bp0 104 [A0, iV B1]] G := zb H
 refine zg (args := [pB bp0, iV p1]) (n := 79) Tryd.func31 q q q ?_
 unfold spec_l20HouseS at h
 refine C <| Z ?_
 refine zq (cs := [nS, nS, nS, iV 0, nS]) H z27 q q q (fun b1 w2 H3 => ?_)
 refine rN <| qM q q q ?_
 have H7 := H3.p1
 obtain ⟨x5, hx6, h⟩ := D h
 refine zd q q c62 (w_spec_l20Items w2 _ bp0 A0 B0 (C0.c) B1 0 x5 hx6 H7.ctx) (by rfl) ?_
 rintro _ w8 ⟨v10, rfl, H9⟩; refine ⟨_, q, ?_⟩
 have H11 := H7.cN2 [_] H9
 refine qA q q q <| rN <| qM q q q <| qM q q q <| qM q q q ?_
 have H14 := H11.p1
 obtain ⟨x12, hx13, h⟩ := D h
 refine zd q q c63 (w_spec_l20Prices w8 _ bp0 A0 B0 (C0.c.c) x5.1 v10 x5.2 hS0 0 x12 hx13 H14.ctx) (by rfl) ?_
 rintro _ w15 ⟨v17, rfl, H16⟩; refine ⟨_, q, ?_⟩
 have H18 := H14.cN2 [_] H16
 refine qM q q q <| qM q q q ?_
 have H21 := H18.p1
 obtain ⟨x19, hx20, h⟩ := D h
 refine zd q q c64 (w_spec_l20Amounts w15 _ bp0 A0 B0 (C0.c.c.c) x12.1 v10 x5.2 hS1 0 x19 hx20 H21.ctx) (by rfl) ?_
 rintro _ w22 ⟨v24, rfl, H23⟩; refine ⟨_, q, ?_⟩
 have H25 := H21.cN2 [_] H23
 refine qM q q q ?_
 have H28 := H25.p1
 obtain ⟨x26, hx27, h⟩ := D h
 refine zd q q c44 (w_spec_l20Rd__pick w22 _ bp0 A0 B0 (C0.c.c.c.c) x19.1 256 x26 hx27 H28.ctx) (by rfl) ?_
 rintro _ w29 ⟨rfl, H30⟩; refine ⟨_, q, ?_⟩
 have H31 := H28.cN1 [_] H30
 refine qM q q q ?_
 obtain ⟨x32, hx33, h⟩ := D h
 refine zd q q c44 (w_spec_l20Rd__pick w29 _ bp0 A0 B0 (C0.c.c.c.c) x26.1 9 x32 hx33 H31.ctx) (by rfl) ?_
 rintro _ w34 ⟨rfl, H35⟩; refine ⟨_, q, ?_⟩
 have H36 := H31.cN1 [_] H35
 refine A q (qt_mul q q) q q <| A q (qt_build (args := [(0, .tmp 12), (1, .tmp 15), (2, .tmp 18), (3, .tmp 23)]) (css := [#[v10], #[v17], #[v24], #[iV (IntKind.wrap .i64 (x26.2 * x32.2))]]) (cells := #[v10, v17, v24, iV (IntKind.wrap .i64 (x26.2 * x32.2)), nS]) q ⟨(H36.ctx.sliceCells hS3), (H36.ctx.sliceCells hS2), (H36.ctx.sliceCells hS1), q, trivial⟩ (by kernel_rfl)) q q ?_
 refine zq (cs := [nS, nS, nS, iV 0, nS]) H36 z27 q q q (fun b37 w38 H39 => ?_)
 refine zl (cs' := [v10, v17, v24, iV (IntKind.wrap .i64 (x26.2 * x32.2)), nS]) H39 q il27 q (T (H39.ctx.sliceOne hS4) (T (H39.ctx.sliceOne hS3) (T (H39.ctx.sliceOne hS2) (T q (T q q))))) q q q (fun w41 H42 => ?_)
 refine B <| C <| rR <| qM q q q ?_
 have H46 := H42.p1
 obtain ⟨x44, hx45, h⟩ := D h
 refine zd q q c44 (w_spec_l20Rd__pick w41 _ bp0 A0 B0 (C0.c.c.c.c.c) x32.1 24 x44 hx45 H46.ctx) (by rfl) ?_
 rintro _ w47 ⟨rfl, H48⟩; refine ⟨_, q, ?_⟩
 have H49 := H46.cN1 [_] H48
 refine qA q q q <| B <| g ?_
 have H57 := H49.nS 33 ty8
 obtain ⟨o58, ho59, h⟩ := D h
 have H62 := H57.p3.p4.p5.p5.p6.p6
 refine fun a60 ha61 => zp (I := fun s a w2 => match s with | (s50, s51, s52, s53, s54, s55, s56) => ∃ vs52 vs53 vs54 vs56, Fr a 79 [(0, pB bp0), (1, iV p1), (4, pB b1), (6, pB b37), (7, iV s50)] ∧ Holds (([.bx bp0 104 [A0, iV B1]] : List Res).flatMap Res.own) w w2 [.bx bp0 104 [A0, iV s51], .bx b1 27 [nS, nS, nS, iV 0, nS], .bx b37 27 [vs52, vs53, vs54, iV s55, vs56], .sl 70 ty7 vs52 s52, .sl 3 tI vs53 s53, .sl 3 tI vs54 s54, .sl 33 ty8 vs56 s56] G) (O := fun o e a w2 => match o with | (q0, q1, q2, q3, q4, q5) => e = .exit 0 ∧ ∃ vq1 vq2 vq3 vq5, Fr a 79 [(0, pB bp0), (1, iV p1), (4, pB b1), (6, pB b37)] ∧ Holds (([.bx bp0 104 [A0, iV B1]] : List Res).flatMap Res.own) w w2 [.bx bp0 104 [A0, iV q0], .bx b1 27 [nS, nS, nS, iV 0, nS], .bx b37 27 [vq1, vq2, vq3, iV q4, vq5], .sl 70 ty7 vq1 q1, .sl 3 tI vq2 q2, .sl 3 tI vq3 q3, .sl 33 ty8 vq5 q5] G) ho59 ?_ ?_ ?_
 ·exact ⟨v10, v17, v24, (nS), ha61.sub ⟨q, q, q, q, q, trivial⟩, H62⟩
 ·clear ha61
  intro s o65 a w63 hs64 hI66
  obtain ⟨s50, s51, s52, s53, s54, s55, s56⟩ := s
  obtain ⟨vs52, vs53, vs54, vs56, ha, H67⟩ := hI66
  refine S ?_ ha
  clear ha
  refine C <| rR <| qM q q q <| A q (qt_gtr q q) q q <| B ?_
  refine Y q (fun hc68 => ?_) (fun hc68 => ?_)
  ·have hs64 := if_t hc68 hs64
   refine y <| C <| g <| C ?_
   obtain ⟨x71, hx72, hs64⟩ := D hs64
   obtain ⟨x76, hx77, hs64⟩ := D hs64
   refine WP_join (M := fun a w2 => ∃ bz68_0 vz68_1 vz68_2 vz68_3 vz68_4, Fr a 79 [(0, pB bp0), (1, iV p1), (4, pB b1), (6, pB b37), (7, iV s50), (8, pB bz68_0), (9, .bool x76.2)] ∧ Holds (([.bx bp0 104 [A0, iV B1]] : List Res).flatMap Res.own) w w2 [.bx bp0 104 [A0, iV x71.1], .bx b1 27 [nS, nS, nS, iV 0, nS], .bx b37 27 [vs52, vs53, vs54, iV s55, vs56], .sl 70 ty7 vs52 s52, .sl 3 tI vs53 s53, .sl 3 tI vs54 s54, .sl 33 ty8 vs56 s56, .bx bz68_0 27 [vz68_1, vz68_2, vz68_3, iV x76.1.2.2.2.1, vz68_4], .sl 70 ty7 vz68_1 x76.1.1, .sl 3 tI vz68_2 x76.1.2.1, .sl 3 tI vz68_3 x76.1.2.2.1, .sl 33 ty8 vz68_4 x76.1.2.2.2.2] G) ?_ ?_
   ·refine WP_ordersT (fun w1 w2 => Chg (([.bx bp0 104 [A0, iV s51]] : List Res).flatMap Res.own) w1 w2) 10 (by kernel_rfl) (fun w269 hb270 => ?_)
    have H271 := H67.grow hb270
    have C272 : Ctx w269 ([.bx bp0 104 [A0, iV s51]] ++ ([.bx b1 27 [nS, nS, nS, iV 0, nS], .bx b37 27 [vs52, vs53, vs54, iV s55, vs56], .sl 70 ty7 vs52 s52, .sl 3 tI vs53 s53, .sl 3 tI vs54 s54, .sl 33 ty8 vs56 s56] ++ G)) := H271.ctx
    have H273 : Holds _ w269 w269 [.bx bp0 104 [A0, iV s51]] ([.bx b1 27 [nS, nS, nS, iV 0, nS], .bx b37 27 [vs52, vs53, vs54, iV s55, vs56], .sl 70 ty7 vs52 s52, .sl 3 tI vs53 s53, .sl 3 tI vs54 s54, .sl 33 ty8 vs56 s56] ++ G) := zb (Rs := [.bx bp0 104 [A0, iV s51]]) C272
    have hB332 := HasB.bx (HasB.c (HasB.c (HasB.hd))) H273.ctx
    refine XT (i := 0) q (by kernel_rfl) q H273.chg q (qs_agg (cs := [vs52, vs53, vs54, iV s55, vs56]) us27 uo27 il27 q (fun j z hj => by rw [Nat.zero_add]; exact hB332.cell hj) H273.chg (Ctx.outB C272 (HasB.c (HasB.hd)))) q q ?_
    change XC _ _ _ _ _ _ _ _ ((32, .agg #[vs52, vs53, vs54, iV s55, vs56]) :: _) _
    refine XQ (i := 1) q (by kernel_rfl) q H273.chg q (fun _ => qt_move q) q q ?_
    have hB333 := HasB.bx (HasB.c (HasB.c (HasB.hd))) H273.ctx
    refine XT (i := 2) q (by kernel_rfl) q H273.chg q (qs_agg (cs := [vs52, vs53, vs54, iV s55, vs56]) us27 uo27 il27 q (fun j z hj => by rw [Nat.zero_add]; exact hB333.cell hj) H273.chg (Ctx.outB C272 (HasB.c (HasB.hd)))) q q ?_
    change XC _ _ _ _ _ _ _ _ ((34, .agg #[vs52, vs53, vs54, iV s55, vs56]) :: _) _
    refine zy [3, 8] (by kernel_rfl) (by simp) (allc ?_ (allc ?_ alln))
    ·refine XC_do q ?_
     refine zd q q c45 (w_spec_l20HouseDeed w269 _ bp0 A0 B0 (C0.c.c.c.c.c.c) s51 vs52 s52 hS2 vs53 s53 hS3 vs54 s54 hS4 s55 vs56 s56 hS5 x71 hx72 H273.ctx) (by rfl) ?_
     rintro _ w334 ⟨rfl, H335⟩; refine ⟨_, q, ?_⟩
     have H336 := H273.cN1 [_] H335
     refine XN H336.chg ?_
     refine zy [4, 8] (by kernel_rfl) (by simp) (allc ?_ (allc ?_ alln))
     ·refine XC_do q ?_
      refine zd q q c65 (w_spec_HouseDo w334 _ vs52 s52 hS3 vs53 s53 hS4 vs54 s54 hS5 s55 vs56 s56 hS6 x71.2.1 x71.2.2.1 x71.2.2.2.1 x71.2.2.2.2 x76 hx77 H336.ctx) (by rfl) ?_
      rintro _ w337 ⟨v339, v340, v341, v342, rfl, H338⟩; refine ⟨_, q, ?_⟩
      have H343 := H336.cN4 [] H338
      refine XN H343.chg <| XQ (i := 5) q (by kernel_rfl) q H343.chg q (fun _ => qt_move q) q q <| XQ (i := 6) q (by kernel_rfl) q H343.chg q (fun _ => zv q q) q q <| XQ (i := 7) q (by kernel_rfl) q H343.chg q (fun _ => zv q q) q q <| X1 8 (by kernel_rfl) q ?_
      refine zq (cs := [nS, nS, nS, iV 0, nS]) H343 z27 q q q (fun b344 w345 H346 => ?_)
      refine XN H346.chg <| X1 9 (by kernel_rfl) q ?_
      refine zl (cs' := [v339, v340, v341, iV x76.1.2.2.2.1, v342]) H346 q il27 q (T (H346.ctx.sliceOne hS1) (T (H346.ctx.sliceOne hS2) (T (H346.ctx.sliceOne hS3) (T q (T (H346.ctx.sliceOne hS4) q))))) q q q (fun w348 H349 => ?_)
      refine XN H349.chg ?_
      have H351 : Holds _ w w348 [.bx b344 27 [v339, v340, v341, iV x76.1.2.2.2.1, v342], .sl 70 ty7 v339 x76.1.1, .sl 3 tI v340 x76.1.2.1, .sl 3 tI v341 x76.1.2.2.1, .sl 33 ty8 v342 x76.1.2.2.2.2, .bx bp0 104 [A0, iV x71.1], .bx b1 27 [nS, nS, nS, iV 0, nS], .bx b37 27 [vs52, vs53, vs54, iV s55, vs56], .sl 70 ty7 vs52 s52, .sl 3 tI vs53 s53, .sl 3 tI vs54 s54, .sl 33 ty8 vs56 s56] G := H271.calledN (Rs := [.bx bp0 104 [A0, iV s51]]) H349
      refine X1 10 (by kernel_rfl) q <| qA q q q <| XE q ?_
      refine XC_done (by kernel_rfl) (fun a ha => ?_)
      have H352 := H351.p4.p4.p4.p4.p4.p11.p11.p11.p11.p11.p11.p11
      exact ⟨b344, v339, v340, v341, v342, ha.sub ⟨q, q, q, q, q, q, q, trivial⟩, H352⟩
     refine XC_do q ?_
     refine zq (cs := [nS, nS, nS, iV 0, nS]) H336 z27 q q q (fun b353 w354 H355 => ?_)
     refine XN H355.chg <| X1 4 (by kernel_rfl) q <| zd q q c65 (w_spec_HouseDo w354 _ vs52 s52 hS4 vs53 s53 hS5 vs54 s54 hS6 s55 vs56 s56 hS7 x71.2.1 x71.2.2.1 x71.2.2.2.1 x71.2.2.2.2 x76 hx77 H355.ctx) (by rfl) ?_
     rintro _ w357 ⟨v359, v360, v361, v362, rfl, H358⟩; refine ⟨_, q, ?_⟩
     have H363 := H355.cN4 [] H358
     refine XN H363.chg <| XQ (i := 5) q (by kernel_rfl) q H363.chg q (fun _ => qt_move q) q q <| XQ (i := 6) q (by kernel_rfl) q H363.chg q (fun _ => zv q q) q q <| XQ (i := 7) q (by kernel_rfl) q H363.chg q (fun _ => zv q q) q q <| X1 9 (by kernel_rfl) q ?_
     have H364 := H363.p4
     refine zl (cs' := [v359, v360, v361, iV x76.1.2.2.2.1, v362]) H364 q il27 q (T (H364.ctx.sliceOne hS1) (T (H364.ctx.sliceOne hS2) (T (H364.ctx.sliceOne hS3) (T q (T (H364.ctx.sliceOne hS4) q))))) q q q (fun w365 H366 => ?_)
     refine XN H366.chg ?_
     have H368 : Holds _ w w365 [.bx b353 27 [v359, v360, v361, iV x76.1.2.2.2.1, v362], .sl 70 ty7 v359 x76.1.1, .sl 3 tI v360 x76.1.2.1, .sl 3 tI v361 x76.1.2.2.1, .sl 33 ty8 v362 x76.1.2.2.2.2, .bx bp0 104 [A0, iV x71.1], .bx b1 27 [nS, nS, nS, iV 0, nS], .bx b37 27 [vs52, vs53, vs54, iV s55, vs56], .sl 70 ty7 vs52 s52, .sl 3 tI vs53 s53, .sl 3 tI vs54 s54, .sl 33 ty8 vs56 s56] G := H271.calledN (Rs := [.bx bp0 104 [A0, iV s51]]) H366
     refine X1 10 (by kernel_rfl) q <| qA q q q <| XE q ?_
     refine XC_done (by kernel_rfl) (fun a ha => ?_)
     have H369 := H368.p4.p4.p4.p4.p4.p11.p11.p11.p11.p11.p11.p11
     exact ⟨b353, v359, v360, v361, v362, ha.sub ⟨q, q, q, q, q, q, q, trivial⟩, H369⟩
    refine XC_do q ?_
    refine zq (cs := [nS, nS, nS, iV 0, nS]) H273 z27 q q q (fun b370 w371 H372 => ?_)
    refine XN H372.chg <| X1 3 (by kernel_rfl) q ?_
    have H374 := H372.p1
    refine zd q q c45 (w_spec_l20HouseDeed w371 _ bp0 A0 B0 (C0.c.c.c.c.c.c.c) s51 vs52 s52 hS3 vs53 s53 hS4 vs54 s54 hS5 s55 vs56 s56 hS6 x71 hx72 H374.ctx) (by rfl) ?_
    rintro _ w375 ⟨rfl, H376⟩; refine ⟨_, q, ?_⟩
    have H377 := H374.cN1 [_] H376
    refine XN H377.chg <| X1 4 (by kernel_rfl) q <| zd q q c65 (w_spec_HouseDo w375 _ vs52 s52 hS4 vs53 s53 hS5 vs54 s54 hS6 s55 vs56 s56 hS7 x71.2.1 x71.2.2.1 x71.2.2.2.1 x71.2.2.2.2 x76 hx77 H377.ctx) (by rfl) ?_
    rintro _ w378 ⟨v380, v381, v382, v383, rfl, H379⟩; refine ⟨_, q, ?_⟩
    have H384 := H377.cN4 [] H379
    refine XN H384.chg <| XQ (i := 5) q (by kernel_rfl) q H384.chg q (fun _ => qt_move q) q q <| XQ (i := 6) q (by kernel_rfl) q H384.chg q (fun _ => zv q q) q q <| XQ (i := 7) q (by kernel_rfl) q H384.chg q (fun _ => zv q q) q q <| X1 9 (by kernel_rfl) q ?_
    have H385 := H384.p5
    refine zl (cs' := [v380, v381, v382, iV x76.1.2.2.2.1, v383]) H385 q il27 q (T (H385.ctx.sliceOne hS1) (T (H385.ctx.sliceOne hS2) (T (H385.ctx.sliceOne hS3) (T q (T (H385.ctx.sliceOne hS4) q))))) q q q (fun w386 H387 => ?_)
    refine XN H387.chg ?_
    have H389 : Holds _ w w386 [.bx b370 27 [v380, v381, v382, iV x76.1.2.2.2.1, v383], .sl 70 ty7 v380 x76.1.1, .sl 3 tI v381 x76.1.2.1, .sl 3 tI v382 x76.1.2.2.1, .sl 33 ty8 v383 x76.1.2.2.2.2, .bx bp0 104 [A0, iV x71.1], .bx b1 27 [nS, nS, nS, iV 0, nS], .bx b37 27 [vs52, vs53, vs54, iV s55, vs56], .sl 70 ty7 vs52 s52, .sl 3 tI vs53 s53, .sl 3 tI vs54 s54, .sl 33 ty8 vs56 s56] G := H271.calledN (Rs := [.bx bp0 104 [A0, iV s51]]) H387
    refine X1 10 (by kernel_rfl) q <| qA q q q <| XE q ?_
    refine XC_done (by kernel_rfl) (fun a ha => ?_)
    have H390 := H389.p4.p4.p4.p4.p4.p11.p11.p11.p11.p11.p11.p11
    exact ⟨b370, v380, v381, v382, v383, ha.sub ⟨q, q, q, q, q, q, q, trivial⟩, H390⟩
   intro a w391 hI392
   obtain ⟨bz68_0, vz68_1, vz68_2, vz68_3, vz68_4, ha, H393⟩ := hI392
   refine S ?_ ha
   clear ha
   refine rR <| qM q q q <| B ?_
   refine Y q (fun hc394 => ?_) (fun hc394 => ?_)
   ·have hs64 := if_t hc394 hs64
    refine Z ?_
    have hB395 := R H393.p7
    refine zm (cs := [vz68_1, vz68_2, vz68_3, iV x76.1.2.2.2.1, vz68_4]) us27 uo27 il27 hB395 q q q ?_
    change XL _ _ _ _ _ ((40, .agg #[vz68_1, vz68_2, vz68_3, iV x76.1.2.2.2.1, vz68_4]) :: _) _
    have H396 := H393.p2
    refine zl (cs' := [vz68_1, vz68_2, vz68_3, iV x76.1.2.2.2.1, vz68_4]) H396 q il27 q (T (H396.ctx.sliceOne hS8) (T (H396.ctx.sliceOne hS9) (T (H396.ctx.sliceOne hS10) (T q (T (H396.ctx.sliceOne hS11) q))))) q q q (fun w397 H398 => ?_)
    refine WL_nil fun a ha => ?_
    refine zi (X (S ?_ ha))
    refine Z <| qM q q q <| A q (qt_sub q q) q q <| qA q q q <| WL_nil fun a ha => ?_
    obtain rfl := L hs64
    have H400 := H398.q3.q3.q3.q3.q3.p6.p6.p6.p6.p4.p6.p6
    exact ⟨q, vz68_1, vz68_2, vz68_3, vz68_4, ha.sub ⟨q, q, q, q, q, trivial⟩, H400⟩
   have hs64 := if_f hc394 hs64
   refine WP_skip fun a ha => ?_
   refine zi (X (S ?_ ha))
   refine Z <| qM q q q <| A q (qt_sub q q) q q <| qA q q q <| WL_nil fun a ha => ?_
   obtain rfl := L hs64
   have H401 := H393.q7.q7.q7.q7.q7.p6.p6.p6.p6.p6.p6.p6
   exact ⟨q, vs52, vs53, vs54, vs56, ha.sub ⟨q, q, q, q, q, trivial⟩, H401⟩
  have hs64 := if_f hc68 hs64
  refine WP_exit fun a ha => ?_
  obtain rfl := L hs64
  have H402 := H67.p6.p6.p6.p6.p6.p6.p6
  exact zo (⟨exit_ne, q, vs52, vs53, vs54, vs56, ha.sub ⟨q, q, q, q, trivial⟩, H402⟩)
 intro e a60 w403 hO404
 obtain ⟨p405, p406, p407, p408, p409, p410⟩ := o58
 obtain ⟨rfl, hO412⟩ := hO404
 obtain ⟨vp406, vp407, vp408, vp410, ha, H411⟩ := hO412
 refine zn (X (S ?_ ha))
 refine C <| rR <| qM q q q <| qM q q q ?_
 obtain ⟨x413, hx414, h⟩ := D h
 refine zd q q c46 (w_spec_l20Rd__odd w403 _ bp0 A0 B0 (C0.c.c.c.c.c.c) p405 p1 x413 hx414 H411.ctx) (by rfl) ?_
 rintro _ w415 ⟨rfl, H416⟩; refine ⟨_, q, ?_⟩
 have H417 := H411.cN1 [_] H416
 refine B ?_
 obtain ⟨o422, ho423, h⟩ := D h
 obtain ⟨j418, j419, j420, j421⟩ := o422
 refine WP_join (M := fun a w2 => ∃ vj419 vj421, Fr a 79 [(0, pB bp0), (4, pB b1), (6, pB b37)] ∧ Holds (([.bx bp0 104 [A0, iV B1]] : List Res).flatMap Res.own) w w2 [.bx bp0 104 [A0, iV j418], .bx b1 27 [nS, nS, nS, iV 0, nS], .bx b37 27 [vp406, vp407, vj419, iV j420, vj421], .sl 70 ty7 vp406 p406, .sl 3 tI vp407 p407, .sl 3 tI vj419 j419, .sl 33 ty8 vj421 j421] G) ?_ ?_
 ·refine Y q (fun hc424 => ?_) (fun hc424 => ?_)
  ·have ho423 := if_t hc424 ho423
   refine rR <| qM q q q ?_
   obtain ⟨x425, hx426, ho423⟩ := D ho423
   refine zd q q c44 (w_spec_l20Rd__pick w415 _ bp0 A0 B0 (C0.c.c.c.c.c.c) x413.1 4 x425 hx426 H417.ctx) (by rfl) ?_
   rintro _ w427 ⟨rfl, H428⟩; refine ⟨_, q, ?_⟩
   have H429 := H417.cN1 [_] H428
   refine B <| g <| rR <| A q (qt_eql q q) q q <| qA q q q <| B ?_
   refine Y q (fun hc430 => ?_) (fun hc430 => ?_)
   ·have ho423 := if_t hc430 ho423
    refine Z ?_
    refine zs (t := tI) (args := [.const (iV (-1)), .const (iV 100000)]) (xs := ([(-1), 100000] : List Int)) H429 (BltL.cons (Blt.int) q (BltL.cons (Blt.int) q (BltL.nil))) u24 j3 q q q q q q (fun v431 w432 H433 => ?_)
    refine qM q q q ?_
    have H437 := H433.p1
    obtain ⟨x435, hx436, ho423⟩ := D ho423
    refine zd q q c44 (w_spec_l20Rd__pick w432 _ bp0 A0 B0 (C0.c.c.c.c.c.c.c) x425.1 2 x435 hx436 H437.ctx) (by rfl) ?_
    rintro _ w438 ⟨rfl, H439⟩; refine ⟨_, q, ?_⟩
    have H440 := H437.cN1 [_] H439
    obtain ⟨x441, hx442, ho423⟩ := D ho423
    refine b H440.ctx hS1 hx442 u24 i3 q q q q (fun b443 off444 cap445 hv446 => ?_)
    obtain ⟨F447, hat448, hdup449⟩ := H440.at hS1 hx442 hv446
    refine zt (k := .i64) u3 q hat448 q q q <| qF uf27 fi27_3 nz3 q q q ?_
    have H450 := H440.p3
    refine WL_store_bx H450 q il3 q q q q q (fun w451 H452 => ?_)
    refine WL_nil fun a ha => ?_
    obtain ⟨rfl, rfl, rfl, rfl⟩ := (by simpa only [Option.some.injEq, Prod.mk.injEq] using ho423 : _)
    have H454 := H452.q2.p6.p6.p6.p6.p4.p6.p6
    exact zi (X (⟨vp408, vp410, ha.sub ⟨q, q, q, trivial⟩, H454⟩))
   have ho423 := if_f hc430 ho423
   refine rR <| A q (qt_eql q q) q q <| qA q q q <| B ?_
   refine Y q (fun hc455 => ?_) (fun hc455 => ?_)
   ·have ho423 := if_t hc455 ho423
    refine Z <| qF uf27 fi27_2 nz24 q q q ?_
    have hB456 := R H429.p2
    refine l u24 q hB456 q q q q ?_
    refine zs (t := tI) (args := [.const (iV 0)]) (xs := ([0] : List Int)) H429 (BltL.cons (Blt.int) q (BltL.nil)) u24 j3 q q q q q q (fun v457 w458 H459 => ?_)
    have H461 := H459.p6
    obtain ⟨x462, hx463, ho423⟩ := D ho423
    refine zw H461 hS1 hx463 u24 j3 q q q q q q (fun v464 w465 H466 => ?_)
    refine qF uf27 fi27_2 nz24 q q q ?_
    have H468 := H466.p4
    refine WL_store_bx H468 q il24 (H468.ctx.sliceCells hS1) (H468.ctx.sliceOne hS1) q q q (fun w469 H470 => ?_)
    refine WL_nil fun a ha => ?_
    obtain ⟨rfl, rfl, rfl, rfl⟩ := (by simpa only [Option.some.injEq, Prod.mk.injEq] using ho423 : _)
    have H472 := H470.q2.p6.p2.p6.p6.p4.p6.p6
    exact zi (X (⟨v464, vp410, ha.sub ⟨q, q, q, trivial⟩, H472⟩))
   have ho423 := if_f hc455 ho423
   refine rR <| A q (qt_eql q q) q q <| qA q q q <| B ?_
   refine Y q (fun hc473 => ?_) (fun hc473 => ?_)
   ·have ho423 := if_t hc473 ho423
    refine Z <| qF uf27 fi27_4 nz25 q q q ?_
    have hB474 := R H429.p2
    refine l u25 q hB474 q q q q <| A q (qt_build (args := []) (css := []) (cells := #[iV 0, iV 0]) q trivial (by kernel_rfl)) q q ?_
    refine zs (t := ty1) (args := [.tmp 71]) (xs := ([(0, 0)] : LP)) H429 (BltL.cons (Blt.pair (Blt.int) (Blt.int)) q (BltL.nil)) u31 j40 q q q q q q (fun v475 w476 H477 => ?_)
    refine zs (t := tI) (args := [.const (iV 9)]) (xs := ([9] : List Int)) H477 (BltL.cons (Blt.int) q (BltL.nil)) u24 j3 q q q q q q (fun v479 w480 H481 => ?_)
    refine A q (qt_build (args := [(1, .tmp 72), (2, .tmp 73)]) (css := [#[v475], #[v479]]) (cells := #[iV 0, v475, v479]) q ⟨(H481.ctx.sliceCells hS1), (H481.ctx.sliceCells hS0), trivial⟩ (by kernel_rfl)) q q ?_
    have H483 := H481.p1
    have H484 := H483.freeze
    have H485 := H484.p1
    have H486 := H485.freeze
    refine zs (t := ty8) (args := [.tmp 74]) (xs := ([(0, [(0, 0)], [9])] : LT)) H486 (BltL.cons (Blt.pair (Blt.int) (Blt.pair (Blt.slice hO1) (Blt.slice hO0))) q (BltL.nil)) u25 j33 q q q q q q (fun v487 w488 H489 => ?_)
    have H491 := H489.p9
    obtain ⟨x492, hx493, ho423⟩ := D ho423
    refine zw H491 hS1 hx493 u25 j33 q q q q q q (fun v494 w495 H496 => ?_)
    refine qF uf27 fi27_4 nz25 q q q ?_
    have H498 := H496.p6
    refine WL_store_bx H498 q il25 (H498.ctx.sliceCells hS1) (H498.ctx.sliceOne hS1) q q q (fun w499 H500 => ?_)
    refine WL_nil fun a ha => ?_
    obtain ⟨rfl, rfl, rfl, rfl⟩ := (by simpa only [Option.some.injEq, Prod.mk.injEq] using ho423 : _)
    have H502 := H500.q2.q2.q2.p1.p6.p6.p6.p4.p6.p6
    exact zi (X (⟨vp408, v494, ha.sub ⟨q, q, q, trivial⟩, H502⟩))
   have ho423 := if_f hc473 ho423
   refine Z <| qF uf27 fi27_4 nz25 q q q ?_
   have hB503 := R H429.p2
   refine l u25 q hB503 q q q q <| A q (qt_build (args := [(0, .const (iV (-1)))]) (css := [#[iV (-1)]]) (cells := #[iV (-1), nS, nS]) q ⟨q, trivial⟩ (by kernel_rfl)) q q ?_
   refine zs (t := ty8) (args := [.tmp 48]) (xs := ([((-1), [], [])] : LT)) H429 (BltL.cons (Blt.pair (Blt.int) (Blt.pair (Blt.slice (HasRo.nil)) (Blt.slice (HasRo.nil)))) q (BltL.nil)) u25 j33 q q q q q q (fun v504 w505 H506 => ?_)
   have H508 := H506.p7
   obtain ⟨x509, hx510, ho423⟩ := D ho423
   refine zw H508 hS1 hx510 u25 j33 q q q q q q (fun v511 w512 H513 => ?_)
   refine qF uf27 fi27_4 nz25 q q q ?_
   have H515 := H513.p4
   refine WL_store_bx H515 q il25 (H515.ctx.sliceCells hS1) (H515.ctx.sliceOne hS1) q q q (fun w516 H517 => ?_)
   refine WL_nil fun a ha => ?_
   obtain ⟨rfl, rfl, rfl, rfl⟩ := (by simpa only [Option.some.injEq, Prod.mk.injEq] using ho423 : _)
   have H519 := H517.q2.p1.p6.p6.p6.p4.p6.p6
   exact zi (X (⟨vp408, v511, ha.sub ⟨q, q, q, trivial⟩, H519⟩))
  have ho423 := if_f hc424 ho423
  refine WP_skip fun a ha => ?_
  obtain ⟨rfl, rfl, rfl, rfl⟩ := (by simpa only [Option.some.injEq, Prod.mk.injEq] using ho423 : _)
  have H520 := H417.p6.p6.p6.p6.p6.p6.p6
  exact X (⟨vp408, vp410, ha.sub ⟨q, q, q, trivial⟩, H520⟩)
 intro a w521 hI522
 obtain ⟨vj419, vj421, ha, H523⟩ := hI522
 refine S ?_ ha
 clear ha
 refine C <| Z ?_
 have hB524 := R H523.p2
 refine zm (cs := [vp406, vp407, vj419, iV j420, vj421]) us27 uo27 il27 hB524 q q q ?_
 change XL _ _ _ _ _ ((78, .agg #[vp406, vp407, vj419, iV j420, vj421]) :: _) _
 have H525 := H523.p1
 refine zl (cs' := [vp406, vp407, vj419, iV j420, vj421]) H525 q il27 q (T (H525.ctx.sliceOne hS3) (T (H525.ctx.sliceOne hS4) (T (H525.ctx.sliceOne hS5) (T q (T (H525.ctx.sliceOne hS6) q))))) q q q (fun w526 H527 => ?_)
 refine B <| W fun a ha => ?_
 obtain rfl := L h
 have hB529 := R H527.p0
 have H530 := H527.q0.q1.p4.p4.p4.p4
 exact retc q ha q (run_loadVar_bx (cs := [vp406, vp407, vj419, iV j420, vj421]) us27 uo27 il27 hB529) ⟨vp406, vp407, vj419, vj421, q, H530⟩
end Go.Proofs.YthofjabphcheeaaDoor
