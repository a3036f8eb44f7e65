/- The walks: each Go function computes its shallow function. Printed by a program. -/
import Derived.Test.YtcjkbcdlpfgbgaaGreatDoorWX7H4
set_option linter.unusedVariables false
set_option maxRecDepth 10000
namespace Go.Proofs.YtcjkbcdlpfgbgaaGreatDoor
open Go Go.RowKit
theorem w_spec_HouseDo (w : World) (G : List Res) (A0 : Value) (B0 : LI) (C0 : Has G ty10 A0 B0) (A1 : Value) (B1 : List Int) (C1 : Has G tI A1 B1) (A2 : Value) (B2 : List Int) (C2 : Has G tI A2 B2) (B3 : Int) (A4 : Value) (B4 : LT) (C4 : Has G ty12 A4 B4) (p1_0 : Int) (p1_1 : Int) (p1_2 : Int) (p1_3 : Int) (r : (LI × (List Int) × (List Int) × Int × LT) × Bool) (h : spec_HouseDoS B0 B1 B2 B3 B4 p1_0 p1_1 p1_2 p1_3 = some r) (H : Ctx w G) : Calls Tryz.prog 21 #[.agg #[A0, A1, A2, iV B3, A4], .agg #[iV p1_0, iV p1_1, iV p1_2, iV p1_3]] w fun e w' => ∃ (v1 : Value) (v2 : Value) (v3 : Value) (v4 : Value), e = .returned (.tuple #[.agg #[v1, v2, v3, iV r.1.2.2.2.1, v4], .bool r.2]) ∧ Holds M0 w w' [.sl 115 ty10 v1 r.1.1, .sl 3 tI v2 r.1.2.1, .sl 3 tI v3 r.1.2.2.1, .sl 89 ty12 v4 r.1.2.2.2.2] G := by
 have H : Holds M0 w w [] G := zb H
 refine zg (args := [.agg #[A0, A1, A2, iV B3, A4], .agg #[iV p1_0, iV p1_1, iV p1_2, iV p1_3]]) (n := 137) Tryz.func21 q q q ?_
 unfold spec_HouseDoS at h
 refine C <| Z ?_
 refine WL_box (cs := [A0, A1, A2, iV B3, A4]) H q q q q (fun b1 w2 H3 => ?_)
 refine WL_box (cs := [iV p1_0, iV p1_1, iV p1_2, iV p1_3]) H3 q q q q (fun b5 w6 H7 => ?_)
 refine zq (cs := [nS, nS, nS, iV 0, nS]) H7 z31 q q q (fun b9 w10 H11 => ?_)
 refine qA q q q <| B <| C <| C <| zk ?_
 have hB13 := R H11.p2
 refine zm (cs := [A0, A1, A2, iV B3, A4]) us31 uo31 il31 hB13 q q q ?_
 change XL _ _ _ _ _ ((8, .agg #[A0, A1, A2, iV B3, A4]) :: _) _
 obtain ⟨x14, hx15, h⟩ := D h
 refine QC q q c33 (fun w' hb => w_spec_HouseValid w' _ A0 B0 (C0.c.c.c) A1 B1 (C1.c.c.c) A2 B2 (C2.c.c.c) B3 A4 B4 (C4.c.c.c) x14 hx15 (H11.grow hb).ctx) (by rfl) <| A q (qt_not q) q q <| QL_nil fun a ha w16 hb17 => ?_
 have H18 := H11.grow hb17
 refine X (S ?_ ha)
 refine Y q (fun hc19 => ?_) (fun hc19 => ?_)
 ·have h := if_t hc19 h
  refine rR <| A q (qt_build (args := []) (css := []) (cells := #[nS, nS, nS, iV 0, nS]) q trivial (by kernel_rfl)) q q ?_
  refine zl (cs' := [nS, nS, nS, iV 0, nS]) H18 q il31 q q q q q (fun w20 H21 => ?_)
  refine qA q q q <| B <| W fun a ha => ?_
  obtain rfl := L h
  have hB23 := R H21.p0
  have H24 := H21.nS 115 ty10
  have H25 := H24.nS 3 tI
  have H26 := H25.nS 3 tI
  have H27 := H26.nS 89 ty12
  have H28 := H27.q4.q4.q4.p1.p2.p3
  exact m (retct q ha q q (run_loadVar_bx (cs := [nS, nS, nS, iV 0, nS]) us31 uo31 il31 hB23) ⟨(nS), (nS), (nS), (nS), q, H28⟩)
 have h := if_f hc19 h
 refine y <| C <| Z ?_
 have hB29 := R H18.p2
 refine zm (cs := [A0, A1, A2, iV B3, A4]) us31 uo31 il31 hB29 q q q ?_
 change XL _ _ _ _ _ ((12, .agg #[A0, A1, A2, iV B3, A4]) :: _) _
 obtain ⟨x30, hx31, h⟩ := D h
 refine zd q q c36 (w_spec_l7Copy w16 _ A0 B0 (C0.c.c.c) A1 B1 (C1.c.c.c) A2 B2 (C2.c.c.c) B3 A4 B4 (C4.c.c.c) x30 hx31 H18.ctx) (by rfl) ?_
 rintro _ w32 ⟨v34, v35, v36, v37, rfl, H33⟩; refine ⟨_, q, ?_⟩
 have H38 := H18.cN4 [] H33
 refine zq (cs := [nS, nS, nS, iV 0, nS]) H38 z31 q q q (fun b39 w40 H41 => ?_)
 refine zl (cs' := [v34, v35, v36, iV x30.2.2.2.1, v37]) H41 q il31 q (T (H41.ctx.sliceOne hS1) (T (H41.ctx.sliceOne hS2) (T (H41.ctx.sliceOne hS3) (T q (T (H41.ctx.sliceOne hS4) q))))) q q q (fun w43 H44 => ?_)
 refine rN <| qA q q q <| B <| C <| g <| rR <| qF uf49 fi49_0 nz3 q q q ?_
 have hB46 := R H44.p6
 refine l u3 q hB46 q q q q <| A q (qt_neq q q) q q <| qM q q q ?_
 refine zh 4 22 (.bool ((p1_0 != 3) && (p1_3 != 0))) ?_ (fun md hmd hk => ?_)
 rotate_left
 ·obtain ⟨Q, rfl⟩ := Md.seq_of hmd
  rcases btf (p1_0 != 3) with hc47 | hc47
  ·skip
   refine qF uf49 fi49_3 nz3 (J q hc47) q q ?_
   have hB48 := R H44.p6
   refine l u3 q hB48 q (J q hc47) q q <| A (J q hc47) (qt_neq q q) q q <| A q (ze q hc47 q) q q ?_
   exact hk _ (p (by rw [hc47]; rfl) (cfn 3 q (u)))
  skip
  refine qS q hc47 q q <| qS q hc47 q q <| qS q hc47 q q <| A q (zf q hc47 q) q q ?_
  exact hk _ (p (by rw [hc47]; rfl) (cfn 3 q (u)))
 refine qM q q q ?_
 refine zh 9 32 (.bool (((p1_0 != 3) && (p1_3 != 0)) || ((decide (p1_0 ≥ 4)) && (p1_2 != 0)))) ?_ (fun md hmd hk => ?_)
 rotate_left
 ·obtain ⟨Q, rfl⟩ := Md.seq_of hmd
  rcases btf ((p1_0 != 3) && (p1_3 != 0)) with hc49 | hc49
  ·skip
   refine qS q hc49 q q <| qS q hc49 q q <| qS q hc49 q q <| qS q hc49 q q <| XL_skip q q q <| XL_skip q q q <| XL_skip q q q <| qS q hc49 q q <| A q (ze q hc49 q) q q ?_
   exact hk _ (p (by rw [hc49]; rfl) (cfn 8 q (u)))
  skip
  refine qF uf49 fi49_0 nz3 (J q hc49) q q ?_
  have hB50 := R H44.p6
  refine l u3 q hB50 q (J q hc49) q q <| A (J q hc49) (qt_geq q q) q q <| qM (J q hc49) q q ?_
  refine zh 4 31 (.bool ((decide (p1_0 ≥ 4)) && (p1_2 != 0))) ?_ (fun md hmd hk => ?_)
  rotate_left
  ·obtain ⟨Q, rfl⟩ := Md.seq_of hmd
   rcases btf (decide (p1_0 ≥ 4)) with hc51 | hc51
   ·skip
    refine qF uf49 fi49_2 nz3 (J q hc51) q q ?_
    have hB52 := R H44.p6
    refine l u3 q hB52 q (J q hc51) q q <| A (J q hc51) (qt_neq q q) q q <| A (J q hc49) (ze q hc51 q) q q ?_
    exact hk _ (p (by rw [hc51]; rfl) (cfn 3 q (u)))
   skip
   refine qS q hc51 q q <| qS q hc51 q q <| qS q hc51 q q <| A (J q hc49) (zf q hc51 q) q q ?_
   exact hk _ (p (by rw [hc51]; rfl) (cfn 3 q (u)))
  refine A q (zf q hc49 q) q q ?_
  exact hk _ (p (by rw [hc49]; rfl) (cfn 5 q (u)))
 refine qM q q q ?_
 refine zh 9 42 (.bool ((((p1_0 != 3) && (p1_3 != 0)) || ((decide (p1_0 ≥ 4)) && (p1_2 != 0))) || ((p1_0 == 4) && (p1_1 != 0)))) ?_ (fun md hmd hk => ?_)
 rotate_left
 ·obtain ⟨Q, rfl⟩ := Md.seq_of hmd
  rcases btf (((p1_0 != 3) && (p1_3 != 0)) || ((decide (p1_0 ≥ 4)) && (p1_2 != 0))) with hc53 | hc53
  ·skip
   refine qS q hc53 q q <| qS q hc53 q q <| qS q hc53 q q <| qS q hc53 q q <| XL_skip q q q <| XL_skip q q q <| XL_skip q q q <| qS q hc53 q q <| A q (ze q hc53 q) q q ?_
   exact hk _ (p (by rw [hc53]; rfl) (cfn 8 q (u)))
  skip
  refine qF uf49 fi49_0 nz3 (J q hc53) q q ?_
  have hB54 := R H44.p6
  refine l u3 q hB54 q (J q hc53) q q <| A (J q hc53) (qt_eql q q) q q <| qM (J q hc53) q q ?_
  refine zh 4 41 (.bool ((p1_0 == 4) && (p1_1 != 0))) ?_ (fun md hmd hk => ?_)
  rotate_left
  ·obtain ⟨Q, rfl⟩ := Md.seq_of hmd
   rcases btf (p1_0 == 4) with hc55 | hc55
   ·skip
    refine qF uf49 fi49_1 nz3 (J q hc55) q q ?_
    have hB56 := R H44.p6
    refine l u3 q hB56 q (J q hc55) q q <| A (J q hc55) (qt_neq q q) q q <| A (J q hc53) (ze q hc55 q) q q ?_
    exact hk _ (p (by rw [hc55]; rfl) (cfn 3 q (u)))
   skip
   refine qS q hc55 q q <| qS q hc55 q q <| qS q hc55 q q <| A (J q hc53) (zf q hc55 q) q q ?_
   exact hk _ (p (by rw [hc55]; rfl) (cfn 3 q (u)))
  refine A q (zf q hc53 q) q q ?_
  exact hk _ (p (by rw [hc53]; rfl) (cfn 5 q (u)))
 refine qM q q q ?_
 refine zh 9 52 (.bool (((((p1_0 != 3) && (p1_3 != 0)) || ((decide (p1_0 ≥ 4)) && (p1_2 != 0))) || ((p1_0 == 4) && (p1_1 != 0))) || ((p1_0 == 2) && (p1_2 != 0)))) ?_ (fun md hmd hk => ?_)
 rotate_left
 ·obtain ⟨Q, rfl⟩ := Md.seq_of hmd
  rcases btf ((((p1_0 != 3) && (p1_3 != 0)) || ((decide (p1_0 ≥ 4)) && (p1_2 != 0))) || ((p1_0 == 4) && (p1_1 != 0))) with hc57 | hc57
  ·skip
   refine qS q hc57 q q <| qS q hc57 q q <| qS q hc57 q q <| qS q hc57 q q <| XL_skip q q q <| XL_skip q q q <| XL_skip q q q <| qS q hc57 q q <| A q (ze q hc57 q) q q ?_
   exact hk _ (p (by rw [hc57]; rfl) (cfn 8 q (u)))
  skip
  refine qF uf49 fi49_0 nz3 (J q hc57) q q ?_
  have hB58 := R H44.p6
  refine l u3 q hB58 q (J q hc57) q q <| A (J q hc57) (qt_eql q q) q q <| qM (J q hc57) q q ?_
  refine zh 4 51 (.bool ((p1_0 == 2) && (p1_2 != 0))) ?_ (fun md hmd hk => ?_)
  rotate_left
  ·obtain ⟨Q, rfl⟩ := Md.seq_of hmd
   rcases btf (p1_0 == 2) with hc59 | hc59
   ·skip
    refine qF uf49 fi49_2 nz3 (J q hc59) q q ?_
    have hB60 := R H44.p6
    refine l u3 q hB60 q (J q hc59) q q <| A (J q hc59) (qt_neq q q) q q <| A (J q hc57) (ze q hc59 q) q q ?_
    exact hk _ (p (by rw [hc59]; rfl) (cfn 3 q (u)))
   skip
   refine qS q hc59 q q <| qS q hc59 q q <| qS q hc59 q q <| A (J q hc57) (zf q hc59 q) q q ?_
   exact hk _ (p (by rw [hc59]; rfl) (cfn 3 q (u)))
  refine A q (zf q hc57 q) q q ?_
  exact hk _ (p (by rw [hc57]; rfl) (cfn 5 q (u)))
 refine qA q q q <| B ?_
 refine Y q (fun hc61 => ?_) (fun hc61 => ?_)
 ·have h := if_t hc61 h
  refine C <| Z ?_
  have hB62 := R H44.p0
  refine zm (cs := [v34, v35, v36, iV x30.2.2.2.1, v37]) us31 uo31 il31 hB62 q q q ?_
  change XL _ _ _ _ _ ((53, .agg #[v34, v35, v36, iV x30.2.2.2.1, v37]) :: _) _
  have H63 := H44.p5
  refine zl (cs' := [v34, v35, v36, iV x30.2.2.2.1, v37]) H63 q il31 q (T (H63.ctx.sliceOne hS2) (T (H63.ctx.sliceOne hS3) (T (H63.ctx.sliceOne hS4) (T q (T (H63.ctx.sliceOne hS5) q))))) q q q (fun w64 H65 => ?_)
  refine qA q q q <| B <| W fun a ha => ?_
  obtain rfl := L h
  have hB67 := R H65.p0
  have H68 := H65.q0.q0.q4.q4.p3.p3.p3.p3
  exact zj (m (retct q ha q q (run_loadVar_bx (cs := [v34, v35, v36, iV x30.2.2.2.1, v37]) us31 uo31 il31 hB67) ⟨v34, v35, v36, v37, q, H68⟩))
 have h := if_f hc61 h
 refine rR <| qF uf49 fi49_0 nz3 q q q ?_
 have hB69 := R H44.p6
 refine l u3 q hB69 q q q q <| A q (qt_eql q q) q q <| qA q q q <| B ?_
 refine Y q (fun hc70 => ?_) (fun hc70 => ?_)
 ·have h := if_t hc70 h
  refine Z ?_
  have hB71 := R H44.p0
  refine zm (cs := [v34, v35, v36, iV x30.2.2.2.1, v37]) us31 uo31 il31 hB71 q q q ?_
  change XL _ _ _ _ _ ((59, .agg #[v34, v35, v36, iV x30.2.2.2.1, v37]) :: _) _
  refine qF uf49 fi49_1 nz3 q q q ?_
  have hB72 := R H44.p6
  refine l u3 q hB72 q q q q <| qF uf49 fi49_2 nz3 q q q ?_
  have hB73 := R H44.p6
  refine l u3 q hB73 q q q q ?_
  have H76 := H44.p4
  have H77 := H76.p4
  have H78 := H77.p4
  have H79 := H78.p4
  obtain ⟨x74, hx75, h⟩ := D h
  refine zd q q c63 (w_spec_l7Buy w43 _ v34 x30.1 v35 x30.2.1 v36 x30.2.2.1 x30.2.2.2.1 v37 x30.2.2.2.2 p1_1 p1_2 x74 hx75 H79.ctx) (by rfl) ?_
  rintro _ w80 ⟨v82, v83, v84, v85, rfl, H81⟩; refine ⟨_, q, ?_⟩
  have H86 := H79.cN4 [_, _, _, _] H81
  refine qM q q q <| A q (zv q q) q q <| A q (zv q q) q q ?_
  have H87 := H86.p4
  refine zl (cs' := [v82, v83, v84, iV x74.1.2.2.2.1, v85]) H87 q il31 q (T (H87.ctx.sliceOne hS1) (T (H87.ctx.sliceOne hS2) (T (H87.ctx.sliceOne hS3) (T q (T (H87.ctx.sliceOne hS4) q))))) q q q (fun w88 H89 => ?_)
  refine qA q q q <| WL_nil fun a ha => ?_
  refine zi (X (S ?_ ha))
  refine C <| C <| zk <| qM q q q <| A q (qt_not q) q q <| qM q q q ?_
  obtain ⟨b91, hg92, h⟩ := D h
  refine zh 4 133 (.bool b91) ?_ (fun md hmd hk => ?_)
  rotate_left
  ·obtain ⟨K, rfl⟩ := zr hmd
   rcases btf (!x74.2) with hc93 | hc93
   ·skip
    refine qS q hc93 q q <| qS q hc93 q q <| qS q hc93 q q <| A q (ze q hc93 q) q q ?_
    exact hk _ (p (vb (if_t hc93 hg92)) (cfn 3 q (u)))
   skip
   have hg92 := if_f hc93 hg92
   have hB94 := R H89.p0
   refine zm (cs := [v82, v83, v84, iV x74.1.2.2.2.1, v85]) us31 uo31 il31 hB94 (J q hc93) q q ?_
   change XL _ _ _ _ _ ((130, .agg #[v82, v83, v84, iV x74.1.2.2.2.1, v85]) :: _) _
   obtain ⟨x95, hx96, hg92⟩ := D hg92
   refine QC (J q hc93) q c33 (fun w' hb => w_spec_HouseValid w' _ v82 x74.1.1 hS1 v83 x74.1.2.1 hS2 v84 x74.1.2.2.1 hS3 x74.1.2.2.2.1 v85 x74.1.2.2.2.2 hS4 x95 hx96 (H89.grow hb).ctx) (by rfl) <| A (J q hc93) (qt_not q) q q <| A q (zf q hc93 q) q q ?_
   exact hk _ (p (vb hg92) (cfn 3 q (u)))
  refine QL_nil fun a ha w97 hb98 => ?_
  have H99 := H89.grow hb98
  refine X (S ?_ ha)
  refine Y q (fun hc100 => ?_) (fun hc100 => ?_)
  ·have h := if_t hc100 h
   refine C <| Z ?_
   have hB101 := R H99.p7
   refine zm (cs := [A0, A1, A2, iV B3, A4]) us31 uo31 il31 hB101 q q q ?_
   change XL _ _ _ _ _ ((134, .agg #[A0, A1, A2, iV B3, A4]) :: _) _
   obtain ⟨x102, hx103, h⟩ := D h
   refine zd q q c36 (w_spec_l7Copy w97 _ A0 B0 (C0.c.c.c.c.c.c.c.c) A1 B1 (C1.c.c.c.c.c.c.c.c) A2 B2 (C2.c.c.c.c.c.c.c.c) B3 A4 B4 (C4.c.c.c.c.c.c.c.c) x102 hx103 H99.ctx) (by rfl) ?_
   rintro _ w104 ⟨v106, v107, v108, v109, rfl, H105⟩; refine ⟨_, q, ?_⟩
   have H110 := H99.cN4 [] H105
   have H111 := H110.p9
   refine zl (cs' := [v106, v107, v108, iV x102.2.2.2.1, v109]) H111 q il31 q (T (H111.ctx.sliceOne hS1) (T (H111.ctx.sliceOne hS2) (T (H111.ctx.sliceOne hS3) (T q (T (H111.ctx.sliceOne hS4) q))))) q q q (fun w112 H113 => ?_)
   refine qA q q q <| B <| W fun a ha => ?_
   obtain rfl := L h
   have hB115 := R H113.p0
   have H116 := H113.q0.q4.q4.q4.q4.q4.q4.q4.p3.p3.p3.p3
   exact m (retct q ha q q (run_loadVar_bx (cs := [v106, v107, v108, iV x102.2.2.2.1, v109]) us31 uo31 il31 hB115) ⟨v106, v107, v108, v109, q, H116⟩)
  have h := if_f hc100 h
  refine y <| C <| Z ?_
  have hB117 := R H99.p0
  refine zm (cs := [v82, v83, v84, iV x74.1.2.2.2.1, v85]) us31 uo31 il31 hB117 q q q ?_
  change XL _ _ _ _ _ ((136, .agg #[v82, v83, v84, iV x74.1.2.2.2.1, v85]) :: _) _
  have H118 := H99.p5
  refine zl (cs' := [v82, v83, v84, iV x74.1.2.2.2.1, v85]) H118 q il31 q (T (H118.ctx.sliceOne hS2) (T (H118.ctx.sliceOne hS3) (T (H118.ctx.sliceOne hS4) (T q (T (H118.ctx.sliceOne hS5) q))))) q q q (fun w119 H120 => ?_)
  refine qA q q q <| B <| W fun a ha => ?_
  obtain rfl := L h
  have hB122 := R H120.p0
  have H123 := H120.q0.q0.q4.q4.p3.p3.p3.p3
  exact retct q ha q q (run_loadVar_bx (cs := [v82, v83, v84, iV x74.1.2.2.2.1, v85]) us31 uo31 il31 hB122) ⟨v82, v83, v84, v85, q, H123⟩
 have h := if_f hc70 h
 refine rR <| qF uf49 fi49_0 nz3 q q q ?_
 have hB124 := R H44.p6
 refine l u3 q hB124 q q q q <| A q (qt_eql q q) q q <| qA q q q <| B ?_
 refine Y q (fun hc125 => ?_) (fun hc125 => ?_)
 ·have h := if_t hc125 h
  refine Z ?_
  have hB126 := R H44.p0
  refine zm (cs := [v34, v35, v36, iV x30.2.2.2.1, v37]) us31 uo31 il31 hB126 q q q ?_
  change XL _ _ _ _ _ ((72, .agg #[v34, v35, v36, iV x30.2.2.2.1, v37]) :: _) _
  refine qF uf49 fi49_1 nz3 q q q ?_
  have hB127 := R H44.p6
  refine l u3 q hB127 q q q q <| qF uf49 fi49_2 nz3 q q q ?_
  have hB128 := R H44.p6
  refine l u3 q hB128 q q q q ?_
  have H131 := H44.p4
  have H132 := H131.p4
  have H133 := H132.p4
  have H134 := H133.p4
  obtain ⟨x129, hx130, h⟩ := D h
  refine zd q q c64 (w_spec_l7Make w43 _ v34 x30.1 v35 x30.2.1 v36 x30.2.2.1 x30.2.2.2.1 v37 x30.2.2.2.2 p1_1 p1_2 x129 hx130 H134.ctx) (by rfl) ?_
  rintro _ w135 ⟨v137, v138, v139, v140, rfl, H136⟩; refine ⟨_, q, ?_⟩
  have H141 := H134.cN4 [_, _, _, _] H136
  refine qM q q q <| A q (zv q q) q q <| A q (zv q q) q q ?_
  have H142 := H141.p4
  refine zl (cs' := [v137, v138, v139, iV x129.1.2.2.2.1, v140]) H142 q il31 q (T (H142.ctx.sliceOne hS1) (T (H142.ctx.sliceOne hS2) (T (H142.ctx.sliceOne hS3) (T q (T (H142.ctx.sliceOne hS4) q))))) q q q (fun w143 H144 => ?_)
  refine qA q q q <| WL_nil fun a ha => ?_
  refine zi (X (S ?_ ha))
  refine C <| C <| zk <| qM q q q <| A q (qt_not q) q q <| qM q q q ?_
  obtain ⟨b146, hg147, h⟩ := D h
  refine zh 4 133 (.bool b146) ?_ (fun md hmd hk => ?_)
  rotate_left
  ·obtain ⟨K, rfl⟩ := zr hmd
   rcases btf (!x129.2) with hc148 | hc148
   ·skip
    refine qS q hc148 q q <| qS q hc148 q q <| qS q hc148 q q <| A q (ze q hc148 q) q q ?_
    exact hk _ (p (vb (if_t hc148 hg147)) (cfn 3 q (u)))
   skip
   have hg147 := if_f hc148 hg147
   have hB149 := R H144.p0
   refine zm (cs := [v137, v138, v139, iV x129.1.2.2.2.1, v140]) us31 uo31 il31 hB149 (J q hc148) q q ?_
   change XL _ _ _ _ _ ((130, .agg #[v137, v138, v139, iV x129.1.2.2.2.1, v140]) :: _) _
   obtain ⟨x150, hx151, hg147⟩ := D hg147
   refine QC (J q hc148) q c33 (fun w' hb => w_spec_HouseValid w' _ v137 x129.1.1 hS1 v138 x129.1.2.1 hS2 v139 x129.1.2.2.1 hS3 x129.1.2.2.2.1 v140 x129.1.2.2.2.2 hS4 x150 hx151 (H144.grow hb).ctx) (by rfl) <| A (J q hc148) (qt_not q) q q <| A q (zf q hc148 q) q q ?_
   exact hk _ (p (vb hg147) (cfn 3 q (u)))
  refine QL_nil fun a ha w152 hb153 => ?_
  have H154 := H144.grow hb153
  refine X (S ?_ ha)
  refine Y q (fun hc155 => ?_) (fun hc155 => ?_)
  ·have h := if_t hc155 h
   refine C <| Z ?_
   have hB156 := R H154.p7
   refine zm (cs := [A0, A1, A2, iV B3, A4]) us31 uo31 il31 hB156 q q q ?_
   change XL _ _ _ _ _ ((134, .agg #[A0, A1, A2, iV B3, A4]) :: _) _
   obtain ⟨x157, hx158, h⟩ := D h
   refine zd q q c36 (w_spec_l7Copy w152 _ A0 B0 (C0.c.c.c.c.c.c.c.c) A1 B1 (C1.c.c.c.c.c.c.c.c) A2 B2 (C2.c.c.c.c.c.c.c.c) B3 A4 B4 (C4.c.c.c.c.c.c.c.c) x157 hx158 H154.ctx) (by rfl) ?_
   rintro _ w159 ⟨v161, v162, v163, v164, rfl, H160⟩; refine ⟨_, q, ?_⟩
   have H165 := H154.cN4 [] H160
   have H166 := H165.p9
   refine zl (cs' := [v161, v162, v163, iV x157.2.2.2.1, v164]) H166 q il31 q (T (H166.ctx.sliceOne hS1) (T (H166.ctx.sliceOne hS2) (T (H166.ctx.sliceOne hS3) (T q (T (H166.ctx.sliceOne hS4) q))))) q q q (fun w167 H168 => ?_)
   refine qA q q q <| B <| W fun a ha => ?_
   obtain rfl := L h
   have hB170 := R H168.p0
   have H171 := H168.q0.q4.q4.q4.q4.q4.q4.q4.p3.p3.p3.p3
   exact m (retct q ha q q (run_loadVar_bx (cs := [v161, v162, v163, iV x157.2.2.2.1, v164]) us31 uo31 il31 hB170) ⟨v161, v162, v163, v164, q, H171⟩)
  have h := if_f hc155 h
  refine y <| C <| Z ?_
  have hB172 := R H154.p0
  refine zm (cs := [v137, v138, v139, iV x129.1.2.2.2.1, v140]) us31 uo31 il31 hB172 q q q ?_
  change XL _ _ _ _ _ ((136, .agg #[v137, v138, v139, iV x129.1.2.2.2.1, v140]) :: _) _
  have H173 := H154.p5
  refine zl (cs' := [v137, v138, v139, iV x129.1.2.2.2.1, v140]) H173 q il31 q (T (H173.ctx.sliceOne hS2) (T (H173.ctx.sliceOne hS3) (T (H173.ctx.sliceOne hS4) (T q (T (H173.ctx.sliceOne hS5) q))))) q q q (fun w174 H175 => ?_)
  refine qA q q q <| B <| W fun a ha => ?_
  obtain rfl := L h
  have hB177 := R H175.p0
  have H178 := H175.q0.q0.q4.q4.p3.p3.p3.p3
  exact retct q ha q q (run_loadVar_bx (cs := [v137, v138, v139, iV x129.1.2.2.2.1, v140]) us31 uo31 il31 hB177) ⟨v137, v138, v139, v140, q, H178⟩
 have h := if_f hc125 h
 refine rR <| qF uf49 fi49_0 nz3 q q q ?_
 have hB179 := R H44.p6
 refine l u3 q hB179 q q q q <| A q (qt_eql q q) q q <| qA q q q <| B ?_
 refine Y q (fun hc180 => ?_) (fun hc180 => ?_)
 ·have h := if_t hc180 h
  refine rR <| qF uf31 fi31_4 nz29 q q q ?_
  have hB181 := R H44.p0
  refine l u29 q hB181 q q q q <| qF uf49 fi49_1 nz3 q q q ?_
  have hB182 := R H44.p6
  refine l u3 q hB182 q q q q <| A q (qt_build (args := [(0, .tmp 87)]) (css := [#[iV p1_1]]) (cells := #[iV p1_1, nS, nS]) q ⟨q, trivial⟩ (by kernel_rfl)) q q ?_
  refine zs (t := ty12) (args := [.tmp 88]) (xs := ([(p1_1, [], [])] : LT)) H44 (BltL.cons (Blt.pair (Blt.int) (Blt.pair (Blt.slice (HasRo.nil)) (Blt.slice (HasRo.nil)))) q (BltL.nil)) u29 j89 q q q q q q (fun v183 w184 H185 => ?_)
  have H187 := H185.p5
  obtain ⟨x188, hx189, h⟩ := D h
  refine zw H187 hS1 hx189 u29 j89 q q q q q q (fun v190 w191 H192 => ?_)
  refine qF uf31 fi31_4 nz29 q q q ?_
  have H194 := H192.p2
  refine WL_store_bx H194 q il29 (H194.ctx.sliceCells hS1) (H194.ctx.sliceOne hS1) q q q (fun w195 H196 => ?_)
  refine B <| Z <| qA q q q <| WL_nil fun a ha => ?_
  refine zi (X (S ?_ ha))
  refine C <| C <| zk <| qM q q q <| A q (qt_not q) q q <| qM q q q ?_
  obtain ⟨b198, hg199, h⟩ := D h
  refine zh 4 133 (.bool b198) ?_ (fun md hmd hk => ?_)
  rotate_left
  ·obtain ⟨K, rfl⟩ := zr hmd
   rcases btf (!true) with hc200 | hc200
   ·skip
    refine qS q hc200 q q <| qS q hc200 q q <| qS q hc200 q q <| A q (ze q hc200 q) q q ?_
    exact hk _ (p (vb (if_t hc200 hg199)) (cfn 3 q (u)))
   skip
   have hg199 := if_f hc200 hg199
   have hB201 := R H196.p0
   refine zm (cs := [v34, v35, v36, iV x30.2.2.2.1, v190]) us31 uo31 il31 hB201 (J q hc200) q q ?_
   change XL _ _ _ _ _ ((130, .agg #[v34, v35, v36, iV x30.2.2.2.1, v190]) :: _) _
   obtain ⟨x202, hx203, hg199⟩ := D hg199
   refine QC (J q hc200) q c33 (fun w' hb => w_spec_HouseValid w' _ v34 x30.1 hS3 v35 x30.2.1 hS4 v36 x30.2.2.1 hS5 x30.2.2.2.1 v190 x188 hS1 x202 hx203 (H196.grow hb).ctx) (by rfl) <| A (J q hc200) (qt_not q) q q <| A q (zf q hc200 q) q q ?_
   exact hk _ (p (vb hg199) (cfn 3 q (u)))
  refine QL_nil fun a ha w204 hb205 => ?_
  have H206 := H196.grow hb205
  refine X (S ?_ ha)
  refine Y q (fun hc207 => ?_) (fun hc207 => ?_)
  ·have h := if_t hc207 h
   refine C <| Z ?_
   have hB208 := R H206.p8
   refine zm (cs := [A0, A1, A2, iV B3, A4]) us31 uo31 il31 hB208 q q q ?_
   change XL _ _ _ _ _ ((134, .agg #[A0, A1, A2, iV B3, A4]) :: _) _
   obtain ⟨x209, hx210, h⟩ := D h
   refine zd q q c36 (w_spec_l7Copy w204 _ A0 B0 (C0.c.c.c.c.c.c.c.c.c) A1 B1 (C1.c.c.c.c.c.c.c.c.c) A2 B2 (C2.c.c.c.c.c.c.c.c.c) B3 A4 B4 (C4.c.c.c.c.c.c.c.c.c) x209 hx210 H206.ctx) (by rfl) ?_
   rintro _ w211 ⟨v213, v214, v215, v216, rfl, H212⟩; refine ⟨_, q, ?_⟩
   have H217 := H206.cN4 [] H212
   have H218 := H217.p10
   refine zl (cs' := [v213, v214, v215, iV x209.2.2.2.1, v216]) H218 q il31 q (T (H218.ctx.sliceOne hS1) (T (H218.ctx.sliceOne hS2) (T (H218.ctx.sliceOne hS3) (T q (T (H218.ctx.sliceOne hS4) q))))) q q q (fun w219 H220 => ?_)
   refine qA q q q <| B <| W fun a ha => ?_
   obtain rfl := L h
   have hB222 := R H220.p0
   have H223 := H220.q0.q4.q4.q4.q4.q4.q4.q4.q4.p3.p3.p3.p3
   exact m (retct q ha q q (run_loadVar_bx (cs := [v213, v214, v215, iV x209.2.2.2.1, v216]) us31 uo31 il31 hB222) ⟨v213, v214, v215, v216, q, H223⟩)
  have h := if_f hc207 h
  refine y <| C <| Z ?_
  have hB224 := R H206.p0
  refine zm (cs := [v34, v35, v36, iV x30.2.2.2.1, v190]) us31 uo31 il31 hB224 q q q ?_
  change XL _ _ _ _ _ ((136, .agg #[v34, v35, v36, iV x30.2.2.2.1, v190]) :: _) _
  have H225 := H206.p6
  refine zl (cs' := [v34, v35, v36, iV x30.2.2.2.1, v190]) H225 q il31 q (T (H225.ctx.sliceOne hS4) (T (H225.ctx.sliceOne hS5) (T (H225.ctx.sliceOne hS6) (T q (T (H225.ctx.sliceOne hS2) q))))) q q q (fun w226 H227 => ?_)
  refine qA q q q <| B <| W fun a ha => ?_
  obtain rfl := L h
  have hB229 := R H227.p0
  have H230 := H227.q0.q0.q1.q4.q4.p3.p3.p3
  exact retct q ha q q (run_loadVar_bx (cs := [v34, v35, v36, iV x30.2.2.2.1, v190]) us31 uo31 il31 hB229) ⟨v34, v35, v36, v190, q, H230⟩
 have h := if_f hc180 h
 refine rR <| qF uf49 fi49_0 nz3 q q q ?_
 have hB231 := R H44.p6
 refine l u3 q hB231 q q q q <| A q (qt_eql q q) q q <| qA q q q <| B ?_
 refine Y q (fun hc232 => ?_) (fun hc232 => ?_)
 ·have h := if_t hc232 h
  refine Z ?_
  have hB233 := R H44.p0
  refine zm (cs := [v34, v35, v36, iV x30.2.2.2.1, v37]) us31 uo31 il31 hB233 q q q ?_
  change XL _ _ _ _ _ ((97, .agg #[v34, v35, v36, iV x30.2.2.2.1, v37]) :: _) _
  refine qF uf49 fi49_1 nz3 q q q ?_
  have hB234 := R H44.p6
  refine l u3 q hB234 q q q q <| qF uf49 fi49_2 nz3 q q q ?_
  have hB235 := R H44.p6
  refine l u3 q hB235 q q q q <| qF uf49 fi49_3 nz3 q q q ?_
  have hB236 := R H44.p6
  refine l u3 q hB236 q q q q ?_
  have H239 := H44.p4
  have H240 := H239.p4
  have H241 := H240.p4
  have H242 := H241.p4
  obtain ⟨x237, hx238, h⟩ := D h
  refine zd q q c65 (w_spec_l7Order w43 _ v34 x30.1 v35 x30.2.1 v36 x30.2.2.1 x30.2.2.2.1 v37 x30.2.2.2.2 p1_1 p1_2 p1_3 x237 hx238 H242.ctx) (by rfl) ?_
  rintro _ w243 ⟨v245, v246, v247, v248, rfl, H244⟩; refine ⟨_, q, ?_⟩
  have H249 := H242.cN4 [_, _, _, _] H244
  refine qM q q q <| A q (zv q q) q q <| A q (zv q q) q q ?_
  have H250 := H249.p4
  refine zl (cs' := [v245, v246, v247, iV x237.1.2.2.2.1, v248]) H250 q il31 q (T (H250.ctx.sliceOne hS1) (T (H250.ctx.sliceOne hS2) (T (H250.ctx.sliceOne hS3) (T q (T (H250.ctx.sliceOne hS4) q))))) q q q (fun w251 H252 => ?_)
  refine qA q q q <| WL_nil fun a ha => ?_
  refine zi (X (S ?_ ha))
  refine C <| C <| zk <| qM q q q <| A q (qt_not q) q q <| qM q q q ?_
  obtain ⟨b254, hg255, h⟩ := D h
  refine zh 4 133 (.bool b254) ?_ (fun md hmd hk => ?_)
  rotate_left
  ·obtain ⟨K, rfl⟩ := zr hmd
   rcases btf (!x237.2) with hc256 | hc256
   ·skip
    refine qS q hc256 q q <| qS q hc256 q q <| qS q hc256 q q <| A q (ze q hc256 q) q q ?_
    exact hk _ (p (vb (if_t hc256 hg255)) (cfn 3 q (u)))
   skip
   have hg255 := if_f hc256 hg255
   have hB257 := R H252.p0
   refine zm (cs := [v245, v246, v247, iV x237.1.2.2.2.1, v248]) us31 uo31 il31 hB257 (J q hc256) q q ?_
   change XL _ _ _ _ _ ((130, .agg #[v245, v246, v247, iV x237.1.2.2.2.1, v248]) :: _) _
   obtain ⟨x258, hx259, hg255⟩ := D hg255
   refine QC (J q hc256) q c33 (fun w' hb => w_spec_HouseValid w' _ v245 x237.1.1 hS1 v246 x237.1.2.1 hS2 v247 x237.1.2.2.1 hS3 x237.1.2.2.2.1 v248 x237.1.2.2.2.2 hS4 x258 hx259 (H252.grow hb).ctx) (by rfl) <| A (J q hc256) (qt_not q) q q <| A q (zf q hc256 q) q q ?_
   exact hk _ (p (vb hg255) (cfn 3 q (u)))
  refine QL_nil fun a ha w260 hb261 => ?_
  have H262 := H252.grow hb261
  refine X (S ?_ ha)
  refine Y q (fun hc263 => ?_) (fun hc263 => ?_)
  ·have h := if_t hc263 h
   refine C <| Z ?_
   have hB264 := R H262.p7
   refine zm (cs := [A0, A1, A2, iV B3, A4]) us31 uo31 il31 hB264 q q q ?_
   change XL _ _ _ _ _ ((134, .agg #[A0, A1, A2, iV B3, A4]) :: _) _
   obtain ⟨x265, hx266, h⟩ := D h
   refine zd q q c36 (w_spec_l7Copy w260 _ A0 B0 (C0.c.c.c.c.c.c.c.c) A1 B1 (C1.c.c.c.c.c.c.c.c) A2 B2 (C2.c.c.c.c.c.c.c.c) B3 A4 B4 (C4.c.c.c.c.c.c.c.c) x265 hx266 H262.ctx) (by rfl) ?_
   rintro _ w267 ⟨v269, v270, v271, v272, rfl, H268⟩; refine ⟨_, q, ?_⟩
   have H273 := H262.cN4 [] H268
   have H274 := H273.p9
   refine zl (cs' := [v269, v270, v271, iV x265.2.2.2.1, v272]) H274 q il31 q (T (H274.ctx.sliceOne hS1) (T (H274.ctx.sliceOne hS2) (T (H274.ctx.sliceOne hS3) (T q (T (H274.ctx.sliceOne hS4) q))))) q q q (fun w275 H276 => ?_)
   refine qA q q q <| B <| W fun a ha => ?_
   obtain rfl := L h
   have hB278 := R H276.p0
   have H279 := H276.q0.q4.q4.q4.q4.q4.q4.q4.p3.p3.p3.p3
   exact m (retct q ha q q (run_loadVar_bx (cs := [v269, v270, v271, iV x265.2.2.2.1, v272]) us31 uo31 il31 hB278) ⟨v269, v270, v271, v272, q, H279⟩)
  have h := if_f hc263 h
  refine y <| C <| Z ?_
  have hB280 := R H262.p0
  refine zm (cs := [v245, v246, v247, iV x237.1.2.2.2.1, v248]) us31 uo31 il31 hB280 q q q ?_
  change XL _ _ _ _ _ ((136, .agg #[v245, v246, v247, iV x237.1.2.2.2.1, v248]) :: _) _
  have H281 := H262.p5
  refine zl (cs' := [v245, v246, v247, iV x237.1.2.2.2.1, v248]) H281 q il31 q (T (H281.ctx.sliceOne hS2) (T (H281.ctx.sliceOne hS3) (T (H281.ctx.sliceOne hS4) (T q (T (H281.ctx.sliceOne hS5) q))))) q q q (fun w282 H283 => ?_)
  refine qA q q q <| B <| W fun a ha => ?_
  obtain rfl := L h
  have hB285 := R H283.p0
  have H286 := H283.q0.q0.q4.q4.p3.p3.p3.p3
  exact retct q ha q q (run_loadVar_bx (cs := [v245, v246, v247, iV x237.1.2.2.2.1, v248]) us31 uo31 il31 hB285) ⟨v245, v246, v247, v248, q, H286⟩
 have h := if_f hc232 h
 refine rR <| qF uf49 fi49_0 nz3 q q q ?_
 have hB287 := R H44.p6
 refine l u3 q hB287 q q q q <| A q (qt_eql q q) q q <| qA q q q <| B ?_
 refine Y q (fun hc288 => ?_) (fun hc288 => ?_)
 ·have h := if_t hc288 h
  refine Z ?_
  have hB289 := R H44.p0
  refine zm (cs := [v34, v35, v36, iV x30.2.2.2.1, v37]) us31 uo31 il31 hB289 q q q ?_
  change XL _ _ _ _ _ ((112, .agg #[v34, v35, v36, iV x30.2.2.2.1, v37]) :: _) _
  have H292 := H44.p4
  have H293 := H292.p4
  have H294 := H293.p4
  have H295 := H294.p4
  obtain ⟨x290, hx291, h⟩ := D h
  refine zd q q c66 (w_spec_l7Work w43 _ v34 x30.1 v35 x30.2.1 v36 x30.2.2.1 x30.2.2.2.1 v37 x30.2.2.2.2 x290 hx291 H295.ctx) (by rfl) ?_
  rintro _ w296 ⟨v298, v299, v300, v301, rfl, H297⟩; refine ⟨_, q, ?_⟩
  have H302 := H295.cN4 [_, _, _, _] H297
  refine qM q q q <| A q (zv q q) q q <| A q (zv q q) q q ?_
  have H303 := H302.p4
  refine zl (cs' := [v298, v299, v300, iV x290.1.2.2.2.1, v301]) H303 q il31 q (T (H303.ctx.sliceOne hS1) (T (H303.ctx.sliceOne hS2) (T (H303.ctx.sliceOne hS3) (T q (T (H303.ctx.sliceOne hS4) q))))) q q q (fun w304 H305 => ?_)
  refine qA q q q <| WL_nil fun a ha => ?_
  refine zi (X (S ?_ ha))
  refine C <| C <| zk <| qM q q q <| A q (qt_not q) q q <| qM q q q ?_
  obtain ⟨b307, hg308, h⟩ := D h
  refine zh 4 133 (.bool b307) ?_ (fun md hmd hk => ?_)
  rotate_left
  ·obtain ⟨K, rfl⟩ := zr hmd
   rcases btf (!x290.2) with hc309 | hc309
   ·skip
    refine qS q hc309 q q <| qS q hc309 q q <| qS q hc309 q q <| A q (ze q hc309 q) q q ?_
    exact hk _ (p (vb (if_t hc309 hg308)) (cfn 3 q (u)))
   skip
   have hg308 := if_f hc309 hg308
   have hB310 := R H305.p0
   refine zm (cs := [v298, v299, v300, iV x290.1.2.2.2.1, v301]) us31 uo31 il31 hB310 (J q hc309) q q ?_
   change XL _ _ _ _ _ ((130, .agg #[v298, v299, v300, iV x290.1.2.2.2.1, v301]) :: _) _
   obtain ⟨x311, hx312, hg308⟩ := D hg308
   refine QC (J q hc309) q c33 (fun w' hb => w_spec_HouseValid w' _ v298 x290.1.1 hS1 v299 x290.1.2.1 hS2 v300 x290.1.2.2.1 hS3 x290.1.2.2.2.1 v301 x290.1.2.2.2.2 hS4 x311 hx312 (H305.grow hb).ctx) (by rfl) <| A (J q hc309) (qt_not q) q q <| A q (zf q hc309 q) q q ?_
   exact hk _ (p (vb hg308) (cfn 3 q (u)))
  refine QL_nil fun a ha w313 hb314 => ?_
  have H315 := H305.grow hb314
  refine X (S ?_ ha)
  refine Y q (fun hc316 => ?_) (fun hc316 => ?_)
  ·have h := if_t hc316 h
   refine C <| Z ?_
   have hB317 := R H315.p7
   refine zm (cs := [A0, A1, A2, iV B3, A4]) us31 uo31 il31 hB317 q q q ?_
   change XL _ _ _ _ _ ((134, .agg #[A0, A1, A2, iV B3, A4]) :: _) _
   obtain ⟨x318, hx319, h⟩ := D h
   refine zd q q c36 (w_spec_l7Copy w313 _ A0 B0 (C0.c.c.c.c.c.c.c.c) A1 B1 (C1.c.c.c.c.c.c.c.c) A2 B2 (C2.c.c.c.c.c.c.c.c) B3 A4 B4 (C4.c.c.c.c.c.c.c.c) x318 hx319 H315.ctx) (by rfl) ?_
   rintro _ w320 ⟨v322, v323, v324, v325, rfl, H321⟩; refine ⟨_, q, ?_⟩
   have H326 := H315.cN4 [] H321
   have H327 := H326.p9
   refine zl (cs' := [v322, v323, v324, iV x318.2.2.2.1, v325]) H327 q il31 q (T (H327.ctx.sliceOne hS1) (T (H327.ctx.sliceOne hS2) (T (H327.ctx.sliceOne hS3) (T q (T (H327.ctx.sliceOne hS4) q))))) q q q (fun w328 H329 => ?_)
   refine qA q q q <| B <| W fun a ha => ?_
   obtain rfl := L h
   have hB331 := R H329.p0
   have H332 := H329.q0.q4.q4.q4.q4.q4.q4.q4.p3.p3.p3.p3
   exact m (retct q ha q q (run_loadVar_bx (cs := [v322, v323, v324, iV x318.2.2.2.1, v325]) us31 uo31 il31 hB331) ⟨v322, v323, v324, v325, q, H332⟩)
  have h := if_f hc316 h
  refine y <| C <| Z ?_
  have hB333 := R H315.p0
  refine zm (cs := [v298, v299, v300, iV x290.1.2.2.2.1, v301]) us31 uo31 il31 hB333 q q q ?_
  change XL _ _ _ _ _ ((136, .agg #[v298, v299, v300, iV x290.1.2.2.2.1, v301]) :: _) _
  have H334 := H315.p5
  refine zl (cs' := [v298, v299, v300, iV x290.1.2.2.2.1, v301]) H334 q il31 q (T (H334.ctx.sliceOne hS2) (T (H334.ctx.sliceOne hS3) (T (H334.ctx.sliceOne hS4) (T q (T (H334.ctx.sliceOne hS5) q))))) q q q (fun w335 H336 => ?_)
  refine qA q q q <| B <| W fun a ha => ?_
  obtain rfl := L h
  have hB338 := R H336.p0
  have H339 := H336.q0.q0.q4.q4.p3.p3.p3.p3
  exact retct q ha q q (run_loadVar_bx (cs := [v298, v299, v300, iV x290.1.2.2.2.1, v301]) us31 uo31 il31 hB338) ⟨v298, v299, v300, v301, q, H339⟩
 have h := if_f hc288 h
 refine rR <| qF uf49 fi49_0 nz3 q q q ?_
 have hB340 := R H44.p6
 refine l u3 q hB340 q q q q <| A q (qt_eql q q) q q <| qA q q q <| B ?_
 refine Y q (fun hc341 => ?_) (fun hc341 => ?_)
 ·have h := if_t hc341 h
  refine Z ?_
  have hB342 := R H44.p0
  refine zm (cs := [v34, v35, v36, iV x30.2.2.2.1, v37]) us31 uo31 il31 hB342 q q q ?_
  change XL _ _ _ _ _ ((121, .agg #[v34, v35, v36, iV x30.2.2.2.1, v37]) :: _) _
  refine qF uf49 fi49_1 nz3 q q q ?_
  have hB343 := R H44.p6
  refine l u3 q hB343 q q q q ?_
  have H346 := H44.p4
  have H347 := H346.p4
  have H348 := H347.p4
  have H349 := H348.p4
  obtain ⟨x344, hx345, h⟩ := D h
  refine zd q q c67 (w_spec_l7Close w43 _ v34 x30.1 v35 x30.2.1 v36 x30.2.2.1 x30.2.2.2.1 v37 x30.2.2.2.2 p1_1 x344 hx345 H349.ctx) (by rfl) ?_
  rintro _ w350 ⟨v352, v353, v354, v355, rfl, H351⟩; refine ⟨_, q, ?_⟩
  have H356 := H349.cN4 [_, _, _, _] H351
  refine qM q q q <| A q (zv q q) q q <| A q (zv q q) q q ?_
  have H357 := H356.p4
  refine zl (cs' := [v352, v353, v354, iV x344.1.2.2.2.1, v355]) H357 q il31 q (T (H357.ctx.sliceOne hS1) (T (H357.ctx.sliceOne hS2) (T (H357.ctx.sliceOne hS3) (T q (T (H357.ctx.sliceOne hS4) q))))) q q q (fun w358 H359 => ?_)
  refine qA q q q <| WL_nil fun a ha => ?_
  refine zi (X (S ?_ ha))
  refine C <| C <| zk <| qM q q q <| A q (qt_not q) q q <| qM q q q ?_
  obtain ⟨b361, hg362, h⟩ := D h
  refine zh 4 133 (.bool b361) ?_ (fun md hmd hk => ?_)
  rotate_left
  ·obtain ⟨K, rfl⟩ := zr hmd
   rcases btf (!x344.2) with hc363 | hc363
   ·skip
    refine qS q hc363 q q <| qS q hc363 q q <| qS q hc363 q q <| A q (ze q hc363 q) q q ?_
    exact hk _ (p (vb (if_t hc363 hg362)) (cfn 3 q (u)))
   skip
   have hg362 := if_f hc363 hg362
   have hB364 := R H359.p0
   refine zm (cs := [v352, v353, v354, iV x344.1.2.2.2.1, v355]) us31 uo31 il31 hB364 (J q hc363) q q ?_
   change XL _ _ _ _ _ ((130, .agg #[v352, v353, v354, iV x344.1.2.2.2.1, v355]) :: _) _
   obtain ⟨x365, hx366, hg362⟩ := D hg362
   refine QC (J q hc363) q c33 (fun w' hb => w_spec_HouseValid w' _ v352 x344.1.1 hS1 v353 x344.1.2.1 hS2 v354 x344.1.2.2.1 hS3 x344.1.2.2.2.1 v355 x344.1.2.2.2.2 hS4 x365 hx366 (H359.grow hb).ctx) (by rfl) <| A (J q hc363) (qt_not q) q q <| A q (zf q hc363 q) q q ?_
   exact hk _ (p (vb hg362) (cfn 3 q (u)))
  refine QL_nil fun a ha w367 hb368 => ?_
  have H369 := H359.grow hb368
  refine X (S ?_ ha)
  refine Y q (fun hc370 => ?_) (fun hc370 => ?_)
  ·have h := if_t hc370 h
   refine C <| Z ?_
   have hB371 := R H369.p7
   refine zm (cs := [A0, A1, A2, iV B3, A4]) us31 uo31 il31 hB371 q q q ?_
   change XL _ _ _ _ _ ((134, .agg #[A0, A1, A2, iV B3, A4]) :: _) _
   obtain ⟨x372, hx373, h⟩ := D h
   refine zd q q c36 (w_spec_l7Copy w367 _ A0 B0 (C0.c.c.c.c.c.c.c.c) A1 B1 (C1.c.c.c.c.c.c.c.c) A2 B2 (C2.c.c.c.c.c.c.c.c) B3 A4 B4 (C4.c.c.c.c.c.c.c.c) x372 hx373 H369.ctx) (by rfl) ?_
   rintro _ w374 ⟨v376, v377, v378, v379, rfl, H375⟩; refine ⟨_, q, ?_⟩
   have H380 := H369.cN4 [] H375
   have H381 := H380.p9
   refine zl (cs' := [v376, v377, v378, iV x372.2.2.2.1, v379]) H381 q il31 q (T (H381.ctx.sliceOne hS1) (T (H381.ctx.sliceOne hS2) (T (H381.ctx.sliceOne hS3) (T q (T (H381.ctx.sliceOne hS4) q))))) q q q (fun w382 H383 => ?_)
   refine qA q q q <| B <| W fun a ha => ?_
   obtain rfl := L h
   have hB385 := R H383.p0
   have H386 := H383.q0.q4.q4.q4.q4.q4.q4.q4.p3.p3.p3.p3
   exact m (retct q ha q q (run_loadVar_bx (cs := [v376, v377, v378, iV x372.2.2.2.1, v379]) us31 uo31 il31 hB385) ⟨v376, v377, v378, v379, q, H386⟩)
  have h := if_f hc370 h
  refine y <| C <| Z ?_
  have hB387 := R H369.p0
  refine zm (cs := [v352, v353, v354, iV x344.1.2.2.2.1, v355]) us31 uo31 il31 hB387 q q q ?_
  change XL _ _ _ _ _ ((136, .agg #[v352, v353, v354, iV x344.1.2.2.2.1, v355]) :: _) _
  have H388 := H369.p5
  refine zl (cs' := [v352, v353, v354, iV x344.1.2.2.2.1, v355]) H388 q il31 q (T (H388.ctx.sliceOne hS2) (T (H388.ctx.sliceOne hS3) (T (H388.ctx.sliceOne hS4) (T q (T (H388.ctx.sliceOne hS5) q))))) q q q (fun w389 H390 => ?_)
  refine qA q q q <| B <| W fun a ha => ?_
  obtain rfl := L h
  have hB392 := R H390.p0
  have H393 := H390.q0.q0.q4.q4.p3.p3.p3.p3
  exact retct q ha q q (run_loadVar_bx (cs := [v352, v353, v354, iV x344.1.2.2.2.1, v355]) us31 uo31 il31 hB392) ⟨v352, v353, v354, v355, q, H393⟩
 have h := if_f hc341 h
 refine WP_skip fun a ha => ?_
 refine zi (X (S ?_ ha))
 refine C <| C <| zk <| qM q q q <| A q (qt_not q) q q <| qM q q q ?_
 obtain ⟨b394, hg395, h⟩ := D h
 refine zh 4 133 (.bool b394) ?_ (fun md hmd hk => ?_)
 rotate_left
 ·obtain ⟨K, rfl⟩ := zr hmd
  rcases btf (!false) with hc396 | hc396
  ·skip
   refine qS q hc396 q q <| qS q hc396 q q <| qS q hc396 q q <| A q (ze q hc396 q) q q ?_
   exact hk _ (p (vb (if_t hc396 hg395)) (cfn 3 q (u)))
  skip
  have hg395 := if_f hc396 hg395
  have hB397 := R H44.p0
  refine zm (cs := [v34, v35, v36, iV x30.2.2.2.1, v37]) us31 uo31 il31 hB397 (J q hc396) q q ?_
  change XL _ _ _ _ _ ((130, .agg #[v34, v35, v36, iV x30.2.2.2.1, v37]) :: _) _
  obtain ⟨x398, hx399, hg395⟩ := D hg395
  refine QC (J q hc396) q c33 (fun w' hb => w_spec_HouseValid w' _ v34 x30.1 hS1 v35 x30.2.1 hS2 v36 x30.2.2.1 hS3 x30.2.2.2.1 v37 x30.2.2.2.2 hS4 x398 hx399 (H44.grow hb).ctx) (by rfl) <| A (J q hc396) (qt_not q) q q <| A q (zf q hc396 q) q q ?_
  exact hk _ (p (vb hg395) (cfn 3 q (u)))
 refine QL_nil fun a ha w400 hb401 => ?_
 have H402 := H44.grow hb401
 refine X (S ?_ ha)
 refine Y q (fun hc403 => ?_) (fun hc403 => ?_)
 ·have h := if_t hc403 h
  refine C <| Z ?_
  have hB404 := R H402.p7
  refine zm (cs := [A0, A1, A2, iV B3, A4]) us31 uo31 il31 hB404 q q q ?_
  change XL _ _ _ _ _ ((134, .agg #[A0, A1, A2, iV B3, A4]) :: _) _
  obtain ⟨x405, hx406, h⟩ := D h
  refine zd q q c36 (w_spec_l7Copy w400 _ A0 B0 (C0.c.c.c.c.c.c.c.c) A1 B1 (C1.c.c.c.c.c.c.c.c) A2 B2 (C2.c.c.c.c.c.c.c.c) B3 A4 B4 (C4.c.c.c.c.c.c.c.c) x405 hx406 H402.ctx) (by rfl) ?_
  rintro _ w407 ⟨v409, v410, v411, v412, rfl, H408⟩; refine ⟨_, q, ?_⟩
  have H413 := H402.cN4 [] H408
  have H414 := H413.p9
  refine zl (cs' := [v409, v410, v411, iV x405.2.2.2.1, v412]) H414 q il31 q (T (H414.ctx.sliceOne hS1) (T (H414.ctx.sliceOne hS2) (T (H414.ctx.sliceOne hS3) (T q (T (H414.ctx.sliceOne hS4) q))))) q q q (fun w415 H416 => ?_)
  refine qA q q q <| B <| W fun a ha => ?_
  obtain rfl := L h
  have hB418 := R H416.p0
  have H419 := H416.q0.q4.q4.q4.q4.q4.q4.q4.p3.p3.p3.p3
  exact m (retct q ha q q (run_loadVar_bx (cs := [v409, v410, v411, iV x405.2.2.2.1, v412]) us31 uo31 il31 hB418) ⟨v409, v410, v411, v412, q, H419⟩)
 have h := if_f hc403 h
 refine y <| C <| Z ?_
 have hB420 := R H402.p0
 refine zm (cs := [v34, v35, v36, iV x30.2.2.2.1, v37]) us31 uo31 il31 hB420 q q q ?_
 change XL _ _ _ _ _ ((136, .agg #[v34, v35, v36, iV x30.2.2.2.1, v37]) :: _) _
 have H421 := H402.p5
 refine zl (cs' := [v34, v35, v36, iV x30.2.2.2.1, v37]) H421 q il31 q (T (H421.ctx.sliceOne hS2) (T (H421.ctx.sliceOne hS3) (T (H421.ctx.sliceOne hS4) (T q (T (H421.ctx.sliceOne hS5) q))))) q q q (fun w422 H423 => ?_)
 refine qA q q q <| B <| W fun a ha => ?_
 obtain rfl := L h
 have hB425 := R H423.p0
 have H426 := H423.q0.q0.q4.q4.p3.p3.p3.p3
 exact retct q ha q q (run_loadVar_bx (cs := [v34, v35, v36, iV x30.2.2.2.1, v37]) us31 uo31 il31 hB425) ⟨v34, v35, v36, v37, q, H426⟩
theorem w_impl_partsValid (w : World) (G : List Res) (vp0 : Value) (p0 : LP) (hp0 : Has G ty2 vp0 p0) (p1 : Int) (r : Bool) (h : impl_partsValidS p0 p1 = some r) (H : Ctx w G) : Calls Tryz.prog 168 #[vp0, iV p1] w fun e w' => e = .returned (.bool r) ∧ Holds M0 w w' [] G := by
 have H : Holds M0 w w [] G := zb H
 refine zg (args := [vp0, iV p1]) (n := 45) Tryz.func168 q q q ?_
 unfold impl_partsValidS at h
 refine rR <| qA q q q <| B <| C <| rR <| qM q q q <| za H.ctx (t := ty2) (hp0) u113 q q q <| A q (qt_lss q q) q q ?_
 refine qM q q q ?_
 refine zh 4 15 (.bool ((decide ((List.length p0 : Int) < 1)) || (decide ((List.length p0 : Int) > 3)))) ?_ (fun md hmd hk => ?_)
 rotate_left
 ·obtain ⟨Q, rfl⟩ := Md.seq_of hmd
  rcases btf (decide ((List.length p0 : Int) < 1)) with hc1 | hc1
  ·skip
   refine qS q hc1 q q <| qS q hc1 q q <| qS q hc1 q q <| A q (ze q hc1 q) q q ?_
   exact hk _ (p (by rw [hc1]; rfl) (cfn 3 q (u)))
  skip
  refine qM (J q hc1) q q <| za H.ctx (t := ty2) (hp0) u113 (J q hc1) q q <| A (J q hc1) (qt_gtr q q) q q <| A q (zf q hc1 q) q q ?_
  exact hk _ (p (by rw [hc1]; rfl) (cfn 3 q (u)))
 refine B ?_
 refine Y q (fun hc2 => ?_) (fun hc2 => ?_)
 ·have h := if_t hc2 h
  refine rR <| qA q q q <| B <| W fun a ha => ?_
  obtain rfl := L h
  exact m (ret1 q ha q ⟨q, H⟩)
 have h := if_f hc2 h
 refine y <| rR <| qA q q q <| B <| C <| rR <| qM q q q <| za H.ctx (t := ty2) (hp0) u113 q q q ?_
 refine qM q q q <| B <| g ?_
 obtain ⟨o5, ho6, h⟩ := D h
 refine fun a7 ha8 => zp (I := fun s a w2 => match s with | (s3, s4) => (Fr a 45 [(1, iV p1), (5, iV s3), (16, vp0), (17, iV (List.length p0 : Int)), (18, iV s4)] ∧ Holds M0 w w2 [] G)) (O := fun o e a w2 => match o with | .inl _ => e = .exit 0 ∧ (Fr a 45 [] ∧ Holds M0 w w2 [] G) | .inr q0 => e = .ret ∧ (Fr a 45 [(4, .bool q0)] ∧ Holds M0 w w2 [] G)) ho6 ?_ ?_ ?_
 ·exact ⟨ha8.sub ⟨q, q, q, q, q, trivial⟩, H⟩
 ·clear ha8
  intro s o11 a w9 hs10 hI12
  obtain ⟨s3, s4⟩ := s
  obtain ⟨ha, H13⟩ := hI12
  refine S ?_ ha
  clear ha
  refine rR <| A q (qt_lss q q) q q <| B <| C ?_
  refine Y q (fun hc14 => ?_) (fun hc14 => ?_)
  ·have hs10 := if_t hc14 hs10
   refine y <| C <| g <| C <| Z ?_
   obtain ⟨x15, hx16, hs10⟩ := D hs10
   refine b H13.ctx (hp0) hx16 u113 i162 q q q q (fun b17 off18 cap19 hv20 => ?_)
   obtain ⟨F21, hat22, hdup23⟩ := H13.atN (hp0) hx16 hv20
   refine XL_load_agg (t := ty2) us162 uo162 i162 hat22 q q q (fun cs24 hr25 => ?_)
   obtain ⟨c26, c27, F28, F29, rfl, eF32, hr30, hr31⟩ := hr25
   obtain ⟨rfl, _⟩ := hr30
   obtain ⟨rfl, _⟩ := hr31
   change XL _ _ _ _ _ ((21, .agg #[iV x15.1, iV x15.2]) :: _) _
   refine zq (cs := [iV 0, iV 0]) H13 z162 q q q (fun b33 w34 H35 => ?_)
   refine zl (cs' := [iV x15.1, iV x15.2]) H35 q il162 q q q q q (fun w37 H38 => ?_)
   refine B <| C <| rR <| qF uf162 fi162_0 nz3 q q q ?_
   have hB40 := R H38.p0
   refine l u3 q hB40 q q q q <| qM q q q <| A q (qt_leq q q) q q <| qM q q q ?_
   refine zh 5 31 (.bool ((decide (x15.1 ≤ s3)) || (decide (x15.1 ≥ p1)))) ?_ (fun md hmd hk => ?_)
   rotate_left
   ·obtain ⟨Q, rfl⟩ := Md.seq_of hmd
    rcases btf (decide (x15.1 ≤ s3)) with hc41 | hc41
    ·skip
     refine qS q hc41 q q <| qS q hc41 q q <| qS q hc41 q q <| qS q hc41 q q <| A q (ze q hc41 q) q q ?_
     exact hk _ (p (by rw [hc41]; rfl) (cfn 4 q (u)))
    skip
    refine qF uf162 fi162_0 nz3 (J q hc41) q q ?_
    have hB42 := R H38.p0
    refine l u3 q hB42 q (J q hc41) q q <| qM (J q hc41) q q <| A (J q hc41) (qt_geq q q) q q <| A q (zf q hc41 q) q q ?_
    exact hk _ (p (by rw [hc41]; rfl) (cfn 4 q (u)))
   refine qM q q q ?_
   refine zh 4 36 (.bool (((decide (x15.1 ≤ s3)) || (decide (x15.1 ≥ p1))) || (decide (x15.2 < 1)))) ?_ (fun md hmd hk => ?_)
   rotate_left
   ·obtain ⟨Q, rfl⟩ := Md.seq_of hmd
    rcases btf ((decide (x15.1 ≤ s3)) || (decide (x15.1 ≥ p1))) with hc43 | hc43
    ·skip
     refine qS q hc43 q q <| qS q hc43 q q <| qS q hc43 q q <| A q (ze q hc43 q) q q ?_
     exact hk _ (p (by rw [hc43]; rfl) (cfn 3 q (u)))
    skip
    refine qF uf162 fi162_1 nz3 (J q hc43) q q ?_
    have hB44 := R H38.p0
    refine l u3 q hB44 q (J q hc43) q q <| A (J q hc43) (qt_lss q q) q q <| A q (zf q hc43 q) q q ?_
    exact hk _ (p (by rw [hc43]; rfl) (cfn 3 q (u)))
   refine qM q q q ?_
   refine zh 4 41 (.bool ((((decide (x15.1 ≤ s3)) || (decide (x15.1 ≥ p1))) || (decide (x15.2 < 1))) || (decide (x15.2 > 6)))) ?_ (fun md hmd hk => ?_)
   rotate_left
   ·obtain ⟨Q, rfl⟩ := Md.seq_of hmd
    rcases btf (((decide (x15.1 ≤ s3)) || (decide (x15.1 ≥ p1))) || (decide (x15.2 < 1))) with hc45 | hc45
    ·skip
     refine qS q hc45 q q <| qS q hc45 q q <| qS q hc45 q q <| A q (ze q hc45 q) q q ?_
     exact hk _ (p (by rw [hc45]; rfl) (cfn 3 q (u)))
    skip
    refine qF uf162 fi162_1 nz3 (J q hc45) q q ?_
    have hB46 := R H38.p0
    refine l u3 q hB46 q (J q hc45) q q <| A (J q hc45) (qt_gtr q q) q q <| A q (zf q hc45 q) q q ?_
    exact hk _ (p (by rw [hc45]; rfl) (cfn 3 q (u)))
   refine B ?_
   refine Y q (fun hc47 => ?_) (fun hc47 => ?_)
   ·have hs10 := if_t hc47 hs10
    refine rR <| qA q q q <| B <| W fun a ha => ?_
    obtain rfl := L hs10
    have H48 := H38.q0
    exact m (zj (m (⟨ret_ne, q, ha.sub ⟨q, trivial⟩, H48⟩)))
   have hs10 := if_f hc47 hs10
   refine y <| Z <| qF uf162 fi162_0 nz3 q q q ?_
   have hB49 := R H38.p0
   refine l u3 q hB49 q q q q <| qA q q q <| WL_nil fun a ha => ?_
   refine zi (X (S ?_ ha))
   refine Z <| A q (qt_add q q) q q <| qM q q q <| WL_nil fun a ha => ?_
   obtain rfl := L hs10
   have H50 := H38.q0
   exact ⟨q, ha.sub ⟨q, q, q, q, q, trivial⟩, H50⟩
  have hs10 := if_f hc14 hs10
  refine WP_exit fun a ha => ?_
  obtain rfl := L hs10
  exact zo (⟨exit_ne, q, ha.sub trivial, H13⟩)
 intro e a7 w51 hO52
 rcases o5 with o5 | o5
 ·skip
  obtain ⟨rfl, hO54⟩ := hO52
  obtain ⟨ha, H53⟩ := hO54
  refine zn (X (S ?_ ha))
  refine rR <| qA q q q <| B <| W fun a ha => ?_
  obtain rfl := L h
  exact ret1 q ha q ⟨q, H53⟩
 skip
 obtain ⟨p55, rfl⟩ : ∃ z, z = o5 := ⟨o5, q⟩
 obtain ⟨rfl, hO57⟩ := hO52
 obtain ⟨ha, H56⟩ := hO57
 obtain rfl := L h
 exact zj (m (ret1 q ha q ⟨q, H56⟩))
theorem w_impl_itemValid (w : World) (G : List Res) (B0 : Int) (A1 : Value) (B1 : LP) (C1 : Has G ty2 A1 B1) (B2 : Int) (p1 : Int) (r : Bool) (h : impl_itemValidS B0 B1 B2 p1 = some r) (H : Ctx w G) : Calls Tryz.prog 152 #[.agg #[iV B0, A1, iV B2], iV p1] w fun e w' => e = .returned (.bool r) ∧ Holds M0 w w' [] G := by
 have H : Holds M0 w w [] G := zb H
 refine zg (args := [.agg #[iV B0, A1, iV B2], iV p1]) (n := 34) Tryz.func152 q q q ?_
 unfold impl_itemValidS at h
 refine C <| Z ?_
 refine WL_box (cs := [iV B0, A1, iV B2]) H q q q q (fun b1 w2 H3 => ?_)
 refine qA q q q <| B <| C <| rR <| qF uf115 fi115_2 nz3 q q q ?_
 have hB5 := R H3.p0
 refine l u3 q hB5 q q q q <| A q (qt_lss q q) q q <| qM q q q ?_
 refine zh 4 12 (.bool ((decide (B2 < 0)) || (decide (B2 > 31)))) ?_ (fun md hmd hk => ?_)
 rotate_left
 ·obtain ⟨Q, rfl⟩ := Md.seq_of hmd
  rcases btf (decide (B2 < 0)) with hc6 | hc6
  ·skip
   refine qS q hc6 q q <| qS q hc6 q q <| qS q hc6 q q <| A q (ze q hc6 q) q q ?_
   exact hk _ (p (by rw [hc6]; rfl) (cfn 3 q (u)))
  skip
  refine qF uf115 fi115_2 nz3 (J q hc6) q q ?_
  have hB7 := R H3.p0
  refine l u3 q hB7 q (J q hc6) q q <| A (J q hc6) (qt_gtr q q) q q <| A q (zf q hc6 q) q q ?_
  exact hk _ (p (by rw [hc6]; rfl) (cfn 3 q (u)))
 refine B ?_
 refine Y q (fun hc8 => ?_) (fun hc8 => ?_)
 ·have h := if_t hc8 h
  refine rR <| qA q q q <| B <| W fun a ha => ?_
  obtain rfl := L h
  have H9 := H3.q0
  exact m (ret1 q ha q ⟨q, H9⟩)
 have h := if_f hc8 h
 refine y <| C <| rR <| qF uf115 fi115_0 nz3 q q q ?_
 have hB10 := R H3.p0
 refine l u3 q hB10 q q q q <| A q (qt_eql q q) q q <| B ?_
 refine Y q (fun hc11 => ?_) (fun hc11 => ?_)
 ·have h := if_t hc11 h
  refine rR <| qF uf115 fi115_1 nz113 q q q ?_
  have hB12 := R H3.p0
  refine l u113 q hB12 q q q q <| za H3.ctx (t := ty2) (C1.c) u113 q q q <| A q (qt_eql q q) q q <| qA q q q <| B <| W fun a ha => ?_
  obtain rfl := L h
  have H13 := H3.q0
  exact m (ret1 q ha q ⟨q, H13⟩)
 have h := if_f hc11 h
 refine y <| C <| zk <| qF uf115 fi115_0 nz3 q q q ?_
 have hB14 := R H3.p0
 refine l u3 q hB14 q q q q <| A q (qt_geq q q) q q <| qM q q q ?_
 refine zh 4 27 (.bool ((decide (B0 ≥ 1)) && (decide (B0 ≤ 6)))) ?_ (fun md hmd hk => ?_)
 rotate_left
 ·obtain ⟨K, rfl⟩ := zr hmd
  rcases btf (decide (B0 ≥ 1)) with hc15 | hc15
  ·skip
   refine qF uf115 fi115_0 nz3 (J q hc15) q q ?_
   have hB16 := R H3.p0
   refine l u3 q hB16 q (J q hc15) q q <| A (J q hc15) (qt_leq q q) q q <| A q (ze q hc15 q) q q ?_
   exact hk _ (p (by rw [hc15]; rfl) (cfn 3 q (u)))
  skip
  refine qS q hc15 q q <| qS q hc15 q q <| qS q hc15 q q <| A q (zf q hc15 q) q q ?_
  exact hk _ (p (by rw [hc15]; rfl) (cfn 3 q (u)))
 refine qM q q q ?_
 obtain ⟨b17, hg18, h⟩ := D h
 refine zh 5 33 (.bool b17) ?_ (fun md hmd hk => ?_)
 rotate_left
 ·obtain ⟨K, rfl⟩ := zr hmd
  rcases btf ((decide (B0 ≥ 1)) && (decide (B0 ≤ 6))) with hc19 | hc19
  ·skip
   have hg18 := if_t hc19 hg18
   refine qF uf115 fi115_1 nz113 (J q hc19) q q ?_
   have hB20 := R H3.p0
   refine l u113 q hB20 q (J q hc19) q q <| qM (J q hc19) q q ?_
   obtain ⟨x21, hx22, hg18⟩ := D hg18
   refine QC (J q hc19) q c168 (fun w' hb => w_impl_partsValid w' _ A1 B1 (C1.c) p1 x21 hx22 (H3.grow hb).ctx) (by rfl) <| A q (ze q hc19 q) q q ?_
   exact hk _ (p (vb hg18) (cfn 4 q (u)))
  skip
  refine qS q hc19 q q <| qS q hc19 q q <| qS q hc19 q q <| qS q hc19 q q <| A q (zf q hc19 q) q q ?_
  exact hk _ (p (vb (if_f hc19 hg18)) (cfn 4 q (u)))
 refine qA q q q <| QL_nil fun a ha w23 hb24 => ?_
 have H25 := H3.grow hb24
 refine X (S ?_ ha)
 refine W fun a ha => ?_
 obtain rfl := L h
 have H26 := H25.q0
 exact ret1 q ha q ⟨q, H26⟩
theorem w_impl_ItemsValid (w : World) (G : List Res) (vp0 : Value) (p0 : LI) (hp0 : Has G ty10 vp0 p0) (r : Bool) (h : impl_ItemsValidS p0 = some r) (H : Ctx w G) : Calls Tryz.prog 129 #[vp0] w fun e w' => e = .returned (.bool r) ∧ Holds M0 w w' [] G := by
 have H : Holds M0 w w [] G := zb H
 refine zg (args := [vp0]) (n := 20) Tryz.func129 q q q ?_
 unfold impl_ItemsValidS at h
 refine rR <| qA q q q <| B <| C <| rR <| qM q q q <| za H.ctx (t := ty10) (hp0) u28 q q q <| A q (qt_gtr q q) q q ?_
 refine B ?_
 refine Y q (fun hc1 => ?_) (fun hc1 => ?_)
 ·have h := if_t hc1 h
  refine rR <| qA q q q <| B <| W fun a ha => ?_
  obtain rfl := L h
  exact m (ret1 q ha q ⟨q, H⟩)
 have h := if_f hc1 h
 refine y <| C <| rR <| qM q q q <| za H.ctx (t := ty10) (hp0) u28 q q q <| qM q q q <| B <| g ?_
 obtain ⟨o3, ho4, h⟩ := D h
 refine fun a5 ha6 => zp (I := fun s a w2 => match s with | s2 => (Fr a 20 [(8, vp0), (9, iV (List.length p0 : Int)), (10, iV s2)] ∧ Holds M0 w w2 [] G)) (O := fun o e a w2 => match o with | .inl _ => e = .exit 0 ∧ (Fr a 20 [] ∧ Holds M0 w w2 [] G) | .inr q0 => e = .ret ∧ (Fr a 20 [(2, .bool q0)] ∧ Holds M0 w w2 [] G)) ho4 ?_ ?_ ?_
 ·exact ⟨ha6.sub ⟨q, q, q, trivial⟩, H⟩
 ·clear ha6
  intro s o9 a w7 hs8 hI10
  obtain ⟨s2, rfl⟩ : ∃ z, z = s := ⟨s, q⟩
  obtain ⟨ha, H11⟩ := hI10
  refine S ?_ ha
  clear ha
  refine rR <| A q (qt_lss q q) q q <| B <| C ?_
  refine Y q (fun hc12 => ?_) (fun hc12 => ?_)
  ·have hs8 := if_t hc12 hs8
   refine y <| C <| g <| rR <| qM q q q ?_
   obtain ⟨x13, hx14, hs8⟩ := D hs8
   refine b H11.ctx (hp0) hx14 u28 i115 q q q q (fun b15 off16 cap17 hv18 => ?_)
   obtain ⟨F19, hat20, hdup21⟩ := H11.atN (hp0) hx14 hv18
   refine XL_load_agg (t := ty10) us115 uo115 i115 hat20 q q q (fun cs22 hr23 => ?_)
   obtain ⟨c24, c25, F26, F27, rfl, eF30, hr28, hr29⟩ := hr23
   obtain ⟨rfl, _⟩ := hr28
   obtain ⟨c31, c32, F33, F34, rfl, eF37, hr35, hr36⟩ := hr29
   obtain ⟨v38, rfl, hr39⟩ := Rep.sl_inv hr35
   obtain ⟨rfl, _⟩ := hr36
   have H40 : Holds _ w w7 [.ro ty2 v38 x13.2.1] G := hdup21 [.ro ty2 v38 x13.2.1] ⟨⟨_, _, _, _, q, hr39, (fun k h => (fun k h => (fun _ h => h) k (by rw [eF30]; exact zx _ h)) k (by rw [eF37]; exact List.mem_append_left _ h))⟩, trivial⟩
   change XL _ _ _ _ _ ((14, .agg #[iV x13.1, v38, iV x13.2.2]) :: _) _
   refine zq (cs := [iV 0, nS, iV 0]) H40 z115 q q q (fun b41 w42 H43 => ?_)
   refine qA q q q ?_
   refine zl (cs' := [iV x13.1, v38, iV x13.2.2]) H43 q il115 q (T q (T (H43.ctx.sliceOne hR1) (T q q))) q q q (fun w45 H46 => ?_)
   refine B <| C <| zk ?_
   have hB48 := R H46.p0
   refine zm (cs := [iV x13.1, v38, iV x13.2.2]) us115 uo115 il115 hB48 q q q ?_
   change XL _ _ _ _ _ ((15, .agg #[iV x13.1, v38, iV x13.2.2]) :: _) _
   refine qM q q q ?_
   obtain ⟨x49, hx50, hs8⟩ := D hs8
   refine QC q q c152 (fun w' hb => w_impl_itemValid w' _ x13.1 v38 x13.2.1 hR1 x13.2.2 s2 x49 hx50 (H46.grow hb).ctx) (by rfl) <| A q (qt_not q) q q <| QL_nil fun a ha w51 hb52 => ?_
   have H53 := H46.grow hb52
   refine X (S ?_ ha)
   refine Y q (fun hc54 => ?_) (fun hc54 => ?_)
   ·have hs8 := if_t hc54 hs8
    refine rR <| qA q q q <| B <| W fun a ha => ?_
    obtain rfl := L hs8
    have H55 := H53.q0.q0
    exact zj (m (⟨ret_ne, q, ha.sub ⟨q, trivial⟩, H55⟩))
   have hs8 := if_f hc54 hs8
   refine WP_skip fun a ha => ?_
   refine zi (X (S ?_ ha))
   refine Z <| A q (qt_add q q) q q <| qM q q q <| WL_nil fun a ha => ?_
   obtain rfl := L hs8
   have H56 := H53.q0.q0
   exact ⟨q, ha.sub ⟨q, q, q, trivial⟩, H56⟩
  have hs8 := if_f hc12 hs8
  refine WP_exit fun a ha => ?_
  obtain rfl := L hs8
  exact zo (⟨exit_ne, q, ha.sub trivial, H11⟩)
 intro e a5 w57 hO58
 rcases o3 with o3 | o3
 ·skip
  obtain ⟨rfl, hO60⟩ := hO58
  obtain ⟨ha, H59⟩ := hO60
  refine zn (X (S ?_ ha))
  refine rR <| qA q q q <| B <| W fun a ha => ?_
  obtain rfl := L h
  exact ret1 q ha q ⟨q, H59⟩
 skip
 obtain ⟨p61, rfl⟩ : ∃ z, z = o3 := ⟨o3, q⟩
 obtain ⟨rfl, hO63⟩ := hO58
 obtain ⟨ha, H62⟩ := hO63
 obtain rfl := L h
 exact zj (m (ret1 q ha q ⟨q, H62⟩))
theorem w_impl_amountsOk (w : World) (G : List Res) (vp0 : Value) (p0 : List Int) (hp0 : Has G tI vp0 p0) (p1 : Int) (p2 : Int) (r : Bool) (h : impl_amountsOkS p0 p1 p2 = some r) (H : Ctx w G) : Calls Tryz.prog 91 #[vp0, iV p1, iV p2] w fun e w' => e = .returned (.bool r) ∧ Holds M0 w w' [] G := by
 have H : Holds M0 w w [] G := zb H
 refine zg (args := [vp0, iV p1, iV p2]) (n := 27) Tryz.func91 q q q ?_
 unfold impl_amountsOkS at h
 refine rR <| qA q q q <| B <| C <| rR <| qM q q q <| za H.ctx (t := tI) (hp0) u23 q q q <| qM q q q ?_
 refine A q (qt_neq q q) q q <| B ?_
 refine Y q (fun hc1 => ?_) (fun hc1 => ?_)
 ·have h := if_t hc1 h
  refine rR <| qA q q q <| B <| W fun a ha => ?_
  obtain rfl := L h
  exact m (ret1 q ha q ⟨q, H⟩)
 have h := if_f hc1 h
 refine y <| C <| rR <| qM q q q <| za H.ctx (t := tI) (hp0) u23 q q q <| qM q q q <| B <| g ?_
 obtain ⟨o3, ho4, h⟩ := D h
 refine fun a5 ha6 => zp (I := fun s a w2 => match s with | s2 => (Fr a 27 [(2, iV p2), (13, vp0), (14, iV (List.length p0 : Int)), (15, iV s2)] ∧ Holds M0 w w2 [] G)) (O := fun o e a w2 => match o with | .inl _ => e = .exit 0 ∧ (Fr a 27 [] ∧ Holds M0 w w2 [] G) | .inr q0 => e = .ret ∧ (Fr a 27 [(6, .bool q0)] ∧ Holds M0 w w2 [] G)) ho4 ?_ ?_ ?_
 ·exact ⟨ha6.sub ⟨q, q, q, q, trivial⟩, H⟩
 ·clear ha6
  intro s o9 a w7 hs8 hI10
  obtain ⟨s2, rfl⟩ : ∃ z, z = s := ⟨s, q⟩
  obtain ⟨ha, H11⟩ := hI10
  refine S ?_ ha
  clear ha
  refine rR <| A q (qt_lss q q) q q <| B <| C ?_
  refine Y q (fun hc12 => ?_) (fun hc12 => ?_)
  ·have hs8 := if_t hc12 hs8
   refine y <| C <| g <| C <| Z ?_
   obtain ⟨x13, hx14, hs8⟩ := D hs8
   refine b H11.ctx (hp0) hx14 u23 i3 q q q q (fun b15 off16 cap17 hv18 => ?_)
   obtain ⟨F19, hat20, hdup21⟩ := H11.at (hp0) hx14 hv18
   refine zt (k := .i64) u3 q hat20 q q q <| qA q q q <| rN <| qM q q q <| A q (qt_lss q q) q q <| qM q q q ?_
   refine zh 4 25 (.bool ((decide (x13 < 0)) || (decide (x13 > p2)))) ?_ (fun md hmd hk => ?_)
   rotate_left
   ·obtain ⟨Q, rfl⟩ := Md.seq_of hmd
    rcases btf (decide (x13 < 0)) with hc22 | hc22
    ·skip
     refine qS q hc22 q q <| qS q hc22 q q <| qS q hc22 q q <| A q (ze q hc22 q) q q ?_
     exact hk _ (p (by rw [hc22]; rfl) (cfn 3 q (u)))
    skip
    refine qM (J q hc22) q q <| qM (J q hc22) q q <| A (J q hc22) (qt_gtr q q) q q <| A q (zf q hc22 q) q q ?_
    exact hk _ (p (by rw [hc22]; rfl) (cfn 3 q (u)))
   refine B ?_
   refine Y q (fun hc23 => ?_) (fun hc23 => ?_)
   ·have hs8 := if_t hc23 hs8
    refine rR <| qA q q q <| B <| W fun a ha => ?_
    obtain rfl := L hs8
    exact zj (m (⟨ret_ne, q, ha.sub ⟨q, trivial⟩, H11⟩))
   have hs8 := if_f hc23 hs8
   refine WP_skip fun a ha => ?_
   refine zi (X (S ?_ ha))
   refine Z <| A q (qt_add q q) q q <| qM q q q <| WL_nil fun a ha => ?_
   obtain rfl := L hs8
   exact ⟨q, ha.sub ⟨q, q, q, q, trivial⟩, H11⟩
  have hs8 := if_f hc12 hs8
  refine WP_exit fun a ha => ?_
  obtain rfl := L hs8
  exact zo (⟨exit_ne, q, ha.sub trivial, H11⟩)
 intro e a5 w24 hO25
 rcases o3 with o3 | o3
 ·skip
  obtain ⟨rfl, hO27⟩ := hO25
  obtain ⟨ha, H26⟩ := hO27
  refine zn (X (S ?_ ha))
  refine rR <| qA q q q <| B <| W fun a ha => ?_
  obtain rfl := L h
  exact ret1 q ha q ⟨q, H26⟩
 skip
 obtain ⟨p28, rfl⟩ : ∃ z, z = o3 := ⟨o3, q⟩
 obtain ⟨rfl, hO30⟩ := hO25
 obtain ⟨ha, H29⟩ := hO30
 obtain rfl := L h
 exact zj (m (ret1 q ha q ⟨q, H29⟩))
theorem w_impl_PricesValid (w : World) (G : List Res) (vp0 : Value) (p0 : LI) (hp0 : Has G ty10 vp0 p0) (vp1 : Value) (p1 : List Int) (hp1 : Has G tI vp1 p1) (r : Bool) (h : impl_PricesValidS p0 p1 = some r) (H : Ctx w G) : Calls Tryz.prog 90 #[vp0, vp1] w fun e w' => e = .returned (.bool r) ∧ Holds M0 w w' [] G := by
 have H : Holds M0 w w [] G := zb H
 refine zg (args := [vp0, vp1]) (n := 13) Tryz.func90 q q q ?_
 unfold impl_PricesValidS at h
 refine rR <| qA q q q <| B <| C <| zk <| qM q q q ?_
 obtain ⟨x1, hx2, h⟩ := D h
 refine QC q q c129 (fun w' hb => w_impl_ItemsValid w' G vp0 p0 (hp0) x1 hx2 (H.grow hb).ctx) (by rfl) <| qM q q q ?_
 obtain ⟨b3, hg4, h⟩ := D h
 refine zh 5 12 (.bool b3) ?_ (fun md hmd hk => ?_)
 rotate_left
 ·obtain ⟨K, rfl⟩ := zr hmd
  rcases btf x1 with hc5 | hc5
  ·skip
   have hg4 := if_t hc5 hg4
   refine qM (J q hc5) q q <| qM (J q hc5) q q <| za H.ctx (t := ty10) (hp0) u28 (J q hc5) q q ?_
   obtain ⟨x6, hx7, hg4⟩ := D hg4
   refine QC (J q hc5) q c91 (fun w' hb => w_impl_amountsOk w' G vp1 p1 (hp1) (List.length p0 : Int) 20 x6 hx7 (H.grow hb).ctx) (by rfl) <| A q (ze q hc5 q) q q ?_
   exact hk _ (p (vb hg4) (cfn 4 q (u)))
  skip
  refine qS q hc5 q q <| qS q hc5 q q <| qS q hc5 q q <| qS q hc5 q q <| A q (zf q hc5 q) q q ?_
  exact hk _ (p (vb (if_f hc5 hg4)) (cfn 4 q (u)))
 refine qA q q q <| QL_nil fun a ha w8 hb9 => ?_
 have H10 := H.grow hb9
 refine X (S ?_ ha)
 refine W fun a ha => ?_
 obtain rfl := L h
 exact ret1 q ha q ⟨q, H10⟩
theorem w_impl_finished (w : World) (G : List Res) (B0 : Int) (B1 : Int) (r : Bool) (h : impl_finishedS B0 B1 = some r) (H : Ctx w G) : Calls Tryz.prog 133 #[.agg #[iV B0, iV B1]] w fun e w' => e = .returned (.bool r) ∧ Holds M0 w w' [] G := by
 have H : Holds M0 w w [] G := zb H
 refine zg (args := [.agg #[iV B0, iV B1]]) (n := 11) Tryz.func133 q q q ?_
 unfold impl_finishedS at h
 refine C <| Z ?_
 refine WL_box (cs := [iV B0, iV B1]) H q q q q (fun b1 w2 H3 => ?_)
 refine qA q q q <| rN <| qF uf119 fi119_1 nz3 q q q ?_
 have hB5 := R H3.p0
 refine l u3 q hB5 q q q q <| A q (qt_eql q q) q q <| qM q q q ?_
 refine zh 4 10 (.bool ((B1 == 3) || (B1 == 4))) ?_ (fun md hmd hk => ?_)
 rotate_left
 ·obtain ⟨Q, rfl⟩ := Md.seq_of hmd
  rcases btf (B1 == 3) with hc6 | hc6
  ·skip
   refine qS q hc6 q q <| qS q hc6 q q <| qS q hc6 q q <| A q (ze q hc6 q) q q ?_
   exact hk _ (p (by rw [hc6]; rfl) (cfn 3 q (u)))
  skip
  refine qF uf119 fi119_1 nz3 (J q hc6) q q ?_
  have hB7 := R H3.p0
  refine l u3 q hB7 q (J q hc6) q q <| A (J q hc6) (qt_eql q q) q q <| A q (zf q hc6 q) q q ?_
  exact hk _ (p (by rw [hc6]; rfl) (cfn 3 q (u)))
 refine qA q q q <| B <| W fun a ha => ?_
 obtain rfl := L h
 have H8 := H3.q0
 exact ret1 q ha q ⟨q, H8⟩
theorem w_impl_reached (w : World) (G : List Res) (vp0 : Value) (p0 : LP) (hp0 : Has G ty2 vp0 p0) (p1 : Int) (r : Bool) (h : impl_reachedS p0 p1 = some r) (H : Ctx w G) : Calls Tryz.prog 153 #[vp0, iV p1] w fun e w' => e = .returned (.bool r) ∧ Holds M0 w w' [] G := by
 have H : Holds M0 w w [] G := zb H
 refine zg (args := [vp0, iV p1]) (n := 23) Tryz.func153 q q q ?_
 unfold impl_reachedS at h
 refine rR <| qA q q q <| B <| C <| rR <| qM q q q <| za H.ctx (t := ty2) (hp0) u87 q q q <| qM q q q ?_
 refine B <| g ?_
 obtain ⟨o2, ho3, h⟩ := D h
 refine fun a4 ha5 => zp (I := fun s a w2 => match s with | s1 => (Fr a 23 [(1, iV p1), (7, vp0), (8, iV (List.length p0 : Int)), (9, iV s1)] ∧ Holds M0 w w2 [] G)) (O := fun o e a w2 => match o with | .inl _ => e = .exit 0 ∧ (Fr a 23 [] ∧ Holds M0 w w2 [] G) | .inr q0 => e = .ret ∧ (Fr a 23 [(4, .bool q0)] ∧ Holds M0 w w2 [] G)) ho3 ?_ ?_ ?_
 ·exact ⟨ha5.sub ⟨q, q, q, q, trivial⟩, H⟩
 ·clear ha5
  intro s o8 a w6 hs7 hI9
  obtain ⟨s1, rfl⟩ : ∃ z, z = s := ⟨s, q⟩
  obtain ⟨ha, H10⟩ := hI9
  refine S ?_ ha
  clear ha
  refine rR <| A q (qt_lss q q) q q <| B <| C ?_
  refine Y q (fun hc11 => ?_) (fun hc11 => ?_)
  ·have hs7 := if_t hc11 hs7
   refine y <| C <| g <| C <| Z ?_
   obtain ⟨x12, hx13, hs7⟩ := D hs7
   refine b H10.ctx (hp0) hx13 u87 i119 q q q q (fun b14 off15 cap16 hv17 => ?_)
   obtain ⟨F18, hat19, hdup20⟩ := H10.atN (hp0) hx13 hv17
   refine XL_load_agg (t := ty2) us119 uo119 i119 hat19 q q q (fun cs21 hr22 => ?_)
   obtain ⟨c23, c24, F25, F26, rfl, eF29, hr27, hr28⟩ := hr22
   obtain ⟨rfl, _⟩ := hr27
   obtain ⟨rfl, _⟩ := hr28
   change XL _ _ _ _ _ ((12, .agg #[iV x12.1, iV x12.2]) :: _) _
   refine zq (cs := [iV 0, iV 0]) H10 z119 q q q (fun b30 w31 H32 => ?_)
   refine zl (cs' := [iV x12.1, iV x12.2]) H32 q il119 q q q q q (fun w34 H35 => ?_)
   refine B <| C <| zk <| qF uf119 fi119_0 nz3 q q q ?_
   have hB37 := R H35.p0
   refine l u3 q hB37 q q q q <| qM q q q <| A q (qt_lss q q) q q <| qM q q q ?_
   obtain ⟨b38, hg39, hs7⟩ := D hs7
   refine zh 4 21 (.bool b38) ?_ (fun md hmd hk => ?_)
   rotate_left
   ·obtain ⟨K, rfl⟩ := zr hmd
    rcases btf (decide (x12.1 < p1)) with hc40 | hc40
    ·skip
     have hg39 := if_t hc40 hg39
     have hB41 := R H35.p0
     refine zm (cs := [iV x12.1, iV x12.2]) us119 uo119 il119 hB41 (J q hc40) q q ?_
     change XL _ _ _ _ _ ((18, .agg #[iV x12.1, iV x12.2]) :: _) _
     obtain ⟨x42, hx43, hg39⟩ := D hg39
     refine QC (J q hc40) q c133 (fun w' hb => w_impl_finished w' _ x12.1 x12.2 x42 hx43 (H35.grow hb).ctx) (by rfl) <| A (J q hc40) (qt_not q) q q <| A q (ze q hc40 q) q q ?_
     exact hk _ (p (vb hg39) (cfn 3 q (u)))
    skip
    refine qS q hc40 q q <| qS q hc40 q q <| qS q hc40 q q <| A q (zf q hc40 q) q q ?_
    exact hk _ (p (vb (if_f hc40 hg39)) (cfn 3 q (u)))
   refine QL_nil fun a ha w44 hb45 => ?_
   have H46 := H35.grow hb45
   refine X (S ?_ ha)
   refine Y q (fun hc47 => ?_) (fun hc47 => ?_)
   ·have hs7 := if_t hc47 hs7
    refine rR <| qA q q q <| B <| W fun a ha => ?_
    obtain rfl := L hs7
    have H48 := H46.q0
    exact zj (m (⟨ret_ne, q, ha.sub ⟨q, trivial⟩, H48⟩))
   have hs7 := if_f hc47 hs7
   refine WP_skip fun a ha => ?_
   refine zi (X (S ?_ ha))
   refine Z <| A q (qt_add q q) q q <| qM q q q <| WL_nil fun a ha => ?_
   obtain rfl := L hs7
   have H49 := H46.q0
   exact ⟨q, ha.sub ⟨q, q, q, q, trivial⟩, H49⟩
  have hs7 := if_f hc11 hs7
  refine WP_exit fun a ha => ?_
  obtain rfl := L hs7
  exact zo (⟨exit_ne, q, ha.sub trivial, H10⟩)
 intro e a4 w50 hO51
 rcases o2 with o2 | o2
 ·skip
  obtain ⟨rfl, hO53⟩ := hO51
  obtain ⟨ha, H52⟩ := hO53
  refine zn (X (S ?_ ha))
  refine rR <| qA q q q <| B <| W fun a ha => ?_
  obtain rfl := L h
  exact ret1 q ha q ⟨q, H52⟩
 skip
 obtain ⟨p54, rfl⟩ : ∃ z, z = o2 := ⟨o2, q⟩
 obtain ⟨rfl, hO56⟩ := hO51
 obtain ⟨ha, H55⟩ := hO56
 obtain rfl := L h
 exact zj (m (ret1 q ha q ⟨q, H55⟩))
theorem w_impl_TicketValid (w : World) (G : List Res) (vp0 : Value) (p0 : LP) (hp0 : Has G ty2 vp0 p0) (r : Bool) (h : impl_TicketValidS p0 = some r) (H : Ctx w G) : Calls Tryz.prog 130 #[vp0] w fun e w' => e = .returned (.bool r) ∧ Holds M0 w w' [] G := by
 have H : Holds M0 w w [] G := zb H
 refine zg (args := [vp0]) (n := 57) Tryz.func130 q q q ?_
 unfold impl_TicketValidS at h
 refine rR <| qA q q q <| B <| C <| rR <| qM q q q <| za H.ctx (t := ty2) (hp0) u87 q q q <| A q (qt_gtr q q) q q ?_
 refine B ?_
 refine Y q (fun hc1 => ?_) (fun hc1 => ?_)
 ·have h := if_t hc1 h
  refine rR <| qA q q q <| B <| W fun a ha => ?_
  obtain rfl := L h
  exact m (ret1 q ha q ⟨q, H⟩)
 have h := if_f hc1 h
 refine y <| C <| rR <| qM q q q <| za H.ctx (t := ty2) (hp0) u87 q q q <| qM q q q <| B <| g ?_
 obtain ⟨o3, ho4, h⟩ := D h
 refine fun a5 ha6 => zp (I := fun s a w2 => match s with | s2 => (Fr a 57 [(0, vp0), (10, vp0), (11, iV (List.length p0 : Int)), (12, iV s2)] ∧ Holds M0 w w2 [] G)) (O := fun o e a w2 => match o with | .inl _ => e = .exit 0 ∧ (Fr a 57 [(0, vp0)] ∧ Holds M0 w w2 [] G) | .inr q0 => e = .ret ∧ (Fr a 57 [(2, .bool q0)] ∧ Holds M0 w w2 [] G)) ho4 ?_ ?_ ?_
 ·exact ⟨ha6.sub ⟨q, q, q, q, trivial⟩, H⟩
 ·clear ha6
  intro s o9 a w7 hs8 hI10
  obtain ⟨s2, rfl⟩ : ∃ z, z = s := ⟨s, q⟩
  obtain ⟨ha, H11⟩ := hI10
  refine S ?_ ha
  clear ha
  refine rR <| A q (qt_lss q q) q q <| B <| C ?_
  refine Y q (fun hc12 => ?_) (fun hc12 => ?_)
  ·have hs8 := if_t hc12 hs8
   refine y <| C <| g <| C <| Z ?_
   obtain ⟨x13, hx14, hs8⟩ := D hs8
   refine b H11.ctx (hp0) hx14 u87 i119 q q q q (fun b15 off16 cap17 hv18 => ?_)
   obtain ⟨F19, hat20, hdup21⟩ := H11.atN (hp0) hx14 hv18
   refine XL_load_agg (t := ty2) us119 uo119 i119 hat20 q q q (fun cs22 hr23 => ?_)
   obtain ⟨c24, c25, F26, F27, rfl, eF30, hr28, hr29⟩ := hr23
   obtain ⟨rfl, _⟩ := hr28
   obtain ⟨rfl, _⟩ := hr29
   change XL _ _ _ _ _ ((15, .agg #[iV x13.1, iV x13.2]) :: _) _
   refine zq (cs := [iV 0, iV 0]) H11 z119 q q q (fun b31 w32 H33 => ?_)
   refine zl (cs' := [iV x13.1, iV x13.2]) H33 q il119 q q q q q (fun w35 H36 => ?_)
   refine rN <| qF uf119 fi119_0 nz3 q q q ?_
   have hB38 := R H36.p0
   refine l u3 q hB38 q q q q <| A q (qt_lss q q) q q <| qM q q q ?_
   refine zh 4 23 (.bool ((decide (x13.1 < 0)) || (decide (x13.1 > 2)))) ?_ (fun md hmd hk => ?_)
   rotate_left
   ·obtain ⟨Q, rfl⟩ := Md.seq_of hmd
    rcases btf (decide (x13.1 < 0)) with hc39 | hc39
    ·skip
     refine qS q hc39 q q <| qS q hc39 q q <| qS q hc39 q q <| A q (ze q hc39 q) q q ?_
     exact hk _ (p (by rw [hc39]; rfl) (cfn 3 q (u)))
    skip
    refine qF uf119 fi119_0 nz3 (J q hc39) q q ?_
    have hB40 := R H36.p0
    refine l u3 q hB40 q (J q hc39) q q <| A (J q hc39) (qt_gtr q q) q q <| A q (zf q hc39 q) q q ?_
    exact hk _ (p (by rw [hc39]; rfl) (cfn 3 q (u)))
   refine qM q q q ?_
   refine zh 4 28 (.bool (((decide (x13.1 < 0)) || (decide (x13.1 > 2))) || (decide (x13.2 < 0)))) ?_ (fun md hmd hk => ?_)
   rotate_left
   ·obtain ⟨Q, rfl⟩ := Md.seq_of hmd
    rcases btf ((decide (x13.1 < 0)) || (decide (x13.1 > 2))) with hc41 | hc41
    ·skip
     refine qS q hc41 q q <| qS q hc41 q q <| qS q hc41 q q <| A q (ze q hc41 q) q q ?_
     exact hk _ (p (by rw [hc41]; rfl) (cfn 3 q (u)))
    skip
    refine qF uf119 fi119_1 nz3 (J q hc41) q q ?_
    have hB42 := R H36.p0
    refine l u3 q hB42 q (J q hc41) q q <| A (J q hc41) (qt_lss q q) q q <| A q (zf q hc41 q) q q ?_
    exact hk _ (p (by rw [hc41]; rfl) (cfn 3 q (u)))
   refine qM q q q ?_
   refine zh 4 33 (.bool ((((decide (x13.1 < 0)) || (decide (x13.1 > 2))) || (decide (x13.2 < 0))) || (decide (x13.2 > 4)))) ?_ (fun md hmd hk => ?_)
   rotate_left
   ·obtain ⟨Q, rfl⟩ := Md.seq_of hmd
    rcases btf (((decide (x13.1 < 0)) || (decide (x13.1 > 2))) || (decide (x13.2 < 0))) with hc43 | hc43
    ·skip
     refine qS q hc43 q q <| qS q hc43 q q <| qS q hc43 q q <| A q (ze q hc43 q) q q ?_
     exact hk _ (p (by rw [hc43]; rfl) (cfn 3 q (u)))
    skip
    refine qF uf119 fi119_1 nz3 (J q hc43) q q ?_
    have hB44 := R H36.p0
    refine l u3 q hB44 q (J q hc43) q q <| A (J q hc43) (qt_gtr q q) q q <| A q (zf q hc43 q) q q ?_
    exact hk _ (p (by rw [hc43]; rfl) (cfn 3 q (u)))
   refine B ?_
   refine Y q (fun hc45 => ?_) (fun hc45 => ?_)
   ·have hs8 := if_t hc45 hs8
    refine rR <| qA q q q <| B <| W fun a ha => ?_
    obtain rfl := L hs8
    have H46 := H36.q0
    exact zj (m (⟨ret_ne, q, ha.sub ⟨q, trivial⟩, H46⟩))
   have hs8 := if_f hc45 hs8
   refine WP_skip fun a ha => ?_
   refine zi (X (S ?_ ha))
   refine Z <| A q (qt_add q q) q q <| qM q q q <| WL_nil fun a ha => ?_
   obtain rfl := L hs8
   have H47 := H36.q0
   exact ⟨q, ha.sub ⟨q, q, q, q, trivial⟩, H47⟩
  have hs8 := if_f hc12 hs8
  refine WP_exit fun a ha => ?_
  obtain rfl := L hs8
  exact zo (⟨exit_ne, q, ha.sub ⟨q, trivial⟩, H11⟩)
 intro e a5 w48 hO49
 rcases o3 with o3 | o3
 ·skip
  obtain ⟨rfl, hO51⟩ := hO49
  obtain ⟨ha, H50⟩ := hO51
  refine zn (X (S ?_ ha))
  refine C <| rR <| qM q q q <| za H50.ctx (t := ty2) (hp0) u87 q q q <| qM q q q <| B <| g ?_
  obtain ⟨o53, ho54, h⟩ := D h
  refine fun a55 ha56 => zp (I := fun s a w2 => match s with | s52 => (Fr a 57 [(0, vp0), (35, vp0), (36, iV (List.length p0 : Int)), (37, iV s52)] ∧ Holds M0 w w2 [] G)) (O := fun o e a w2 => match o with | .inl _ => e = .exit 2 ∧ (Fr a 57 [] ∧ Holds M0 w w2 [] G) | .inr q0 => e = .ret ∧ (Fr a 57 [(2, .bool q0)] ∧ Holds M0 w w2 [] G)) ho54 ?_ ?_ ?_
  ·exact ⟨ha56.sub ⟨q, q, q, q, trivial⟩, H50⟩
  ·clear ha56
   intro s o59 a w57 hs58 hI60
   obtain ⟨s52, rfl⟩ : ∃ z, z = s := ⟨s, q⟩
   obtain ⟨ha, H61⟩ := hI60
   refine S ?_ ha
   clear ha
   refine rR <| A q (qt_lss q q) q q <| B <| C ?_
   refine Y q (fun hc62 => ?_) (fun hc62 => ?_)
   ·have hs58 := if_t hc62 hs58
    refine y <| C <| g <| C <| Z ?_
    obtain ⟨x63, hx64, hs58⟩ := D hs58
    refine b H61.ctx (hp0) hx64 u87 i119 q q q q (fun b65 off66 cap67 hv68 => ?_)
    obtain ⟨F69, hat70, hdup71⟩ := H61.atN (hp0) hx64 hv68
    refine XL_load_agg (t := ty2) us119 uo119 i119 hat70 q q q (fun cs72 hr73 => ?_)
    obtain ⟨c74, c75, F76, F77, rfl, eF80, hr78, hr79⟩ := hr73
    obtain ⟨rfl, _⟩ := hr78
    obtain ⟨rfl, _⟩ := hr79
    change XL _ _ _ _ _ ((40, .agg #[iV x63.1, iV x63.2]) :: _) _
    refine zq (cs := [iV 0, iV 0]) H61 z119 q q q (fun b81 w82 H83 => ?_)
    refine zl (cs' := [iV x63.1, iV x63.2]) H83 q il119 q q q q q (fun w85 H86 => ?_)
    refine B <| C <| zk <| qF uf119 fi119_1 nz3 q q q ?_
    have hB88 := R H86.p0
    refine l u3 q hB88 q q q q <| A q (qt_neq q q) q q <| qM q q q ?_
    refine zh 4 48 (.bool ((x63.2 != 0) && (x63.2 != 4))) ?_ (fun md hmd hk => ?_)
    rotate_left
    ·obtain ⟨K, rfl⟩ := zr hmd
     rcases btf (x63.2 != 0) with hc89 | hc89
     ·skip
      refine qF uf119 fi119_1 nz3 (J q hc89) q q ?_
      have hB90 := R H86.p0
      refine l u3 q hB90 q (J q hc89) q q <| A (J q hc89) (qt_neq q q) q q <| A q (ze q hc89 q) q q ?_
      exact hk _ (p (by rw [hc89]; rfl) (cfn 3 q (u)))
     skip
     refine qS q hc89 q q <| qS q hc89 q q <| qS q hc89 q q <| A q (zf q hc89 q) q q ?_
     exact hk _ (p (by rw [hc89]; rfl) (cfn 3 q (u)))
    refine qM q q q ?_
    obtain ⟨b91, hg92, hs58⟩ := D hs58
    refine zh 6 55 (.bool b91) ?_ (fun md hmd hk => ?_)
    rotate_left
    ·obtain ⟨K, rfl⟩ := zr hmd
     rcases btf ((x63.2 != 0) && (x63.2 != 4)) with hc93 | hc93
     ·skip
      have hg92 := if_t hc93 hg92
      refine qM (J q hc93) q q <| qF uf119 fi119_0 nz3 (J q hc93) q q ?_
      have hB94 := R H86.p0
      refine l u3 q hB94 q (J q hc93) q q ?_
      obtain ⟨x95, hx96, hg92⟩ := D hg92
      refine QC (J q hc93) q c153 (fun w' hb => w_impl_reached w' _ vp0 p0 (hp0.c) x63.1 x95 hx96 (H86.grow hb).ctx) (by rfl) <| A (J q hc93) (qt_not q) q q <| A q (ze q hc93 q) q q ?_
      exact hk _ (p (vb hg92) (cfn 5 q (u)))
     skip
     refine qS q hc93 q q <| qS q hc93 q q <| qS q hc93 q q <| qS q hc93 q q <| qS q hc93 q q <| A q (zf q hc93 q) q q ?_
     exact hk _ (p (vb (if_f hc93 hg92)) (cfn 5 q (u)))
    refine QL_nil fun a ha w97 hb98 => ?_
    have H99 := H86.grow hb98
    refine X (S ?_ ha)
    refine Y q (fun hc100 => ?_) (fun hc100 => ?_)
    ·have hs58 := if_t hc100 hs58
     refine rR <| qA q q q <| B <| W fun a ha => ?_
     obtain rfl := L hs58
     have H101 := H99.q0
     exact zj (m (⟨ret_ne, q, ha.sub ⟨q, trivial⟩, H101⟩))
    have hs58 := if_f hc100 hs58
    refine WP_skip fun a ha => ?_
    refine zi (X (S ?_ ha))
    refine Z <| A q (qt_add q q) q q <| qM q q q <| WL_nil fun a ha => ?_
    obtain rfl := L hs58
    have H102 := H99.q0
    exact ⟨q, ha.sub ⟨q, q, q, q, trivial⟩, H102⟩
   have hs58 := if_f hc62 hs58
   refine WP_exit fun a ha => ?_
   obtain rfl := L hs58
   exact zo (⟨exit_ne, q, ha.sub trivial, H61⟩)
  intro e a55 w103 hO104
  rcases o53 with o53 | o53
  ·skip
   obtain ⟨rfl, hO106⟩ := hO104
   obtain ⟨ha, H105⟩ := hO106
   refine zn (X (S ?_ ha))
   refine rR <| qA q q q <| B <| W fun a ha => ?_
   obtain rfl := L h
   exact ret1 q ha q ⟨q, H105⟩
  skip
  obtain ⟨p107, rfl⟩ : ∃ z, z = o53 := ⟨o53, q⟩
  obtain ⟨rfl, hO109⟩ := hO104
  obtain ⟨ha, H108⟩ := hO109
  obtain rfl := L h
  exact zj (m (ret1 q ha q ⟨q, H108⟩))
 skip
 obtain ⟨p110, rfl⟩ : ∃ z, z = o3 := ⟨o3, q⟩
 obtain ⟨rfl, hO112⟩ := hO49
 obtain ⟨ha, H111⟩ := hO112
 obtain rfl := L h
 exact zj (m (ret1 q ha q ⟨q, H111⟩))
theorem w_impl_UsesOf (w : World) (G : List Res) (vp0 : Value) (p0 : LI) (hp0 : Has G ty10 vp0 p0) (p1 : Int) (r : Int) (h : impl_UsesOfS p0 p1 = some r) (H : Ctx w G) : Calls Tryz.prog 162 #[vp0, iV p1] w fun e w' => e = .returned (iV r) ∧ Holds M0 w w' [] G := by
 have H : Holds M0 w w [] G := zb H
 refine zg (args := [vp0, iV p1]) (n := 51) Tryz.func162 q q q ?_
 unfold impl_UsesOfS at h
 refine rR <| qA q q q <| B <| C <| C <| zk <| qM q q q ?_
 obtain ⟨x1, hx2, h⟩ := D h
 refine QC q q c129 (fun w' hb => w_impl_ItemsValid w' G vp0 p0 (hp0) x1 hx2 (H.grow hb).ctx) (by rfl) <| A q (qt_not q) q q <| qM q q q ?_
 refine zh 3 15 (.bool ((!x1) || (decide (p1 < 0)))) ?_ (fun md hmd hk => ?_)
 rotate_left
 ·obtain ⟨K, rfl⟩ := zr hmd
  rcases btf (!x1) with hc3 | hc3
  ·skip
   refine qS q hc3 q q <| qS q hc3 q q <| A q (ze q hc3 q) q q ?_
   exact hk _ (p (by rw [hc3]; rfl) (cfn 2 q (u)))
  skip
  refine qM (J q hc3) q q <| A (J q hc3) (qt_lss q q) q q <| A q (zf q hc3 q) q q ?_
  exact hk _ (p (by rw [hc3]; rfl) (cfn 2 q (u)))
 refine qM q q q ?_
 refine zh 5 21 (.bool (((!x1) || (decide (p1 < 0))) || (decide (p1 ≥ (List.length p0 : Int))))) ?_ (fun md hmd hk => ?_)
 rotate_left
 ·obtain ⟨K, rfl⟩ := zr hmd
  rcases btf ((!x1) || (decide (p1 < 0))) with hc4 | hc4
  ·skip
   refine qS q hc4 q q <| qS q hc4 q q <| qS q hc4 q q <| qS q hc4 q q <| A q (ze q hc4 q) q q ?_
   exact hk _ (p (by rw [hc4]; rfl) (cfn 4 q (u)))
  skip
  refine qM (J q hc4) q q <| qM (J q hc4) q q <| za H.ctx (t := ty10) (hp0) u28 (J q hc4) q q <| A (J q hc4) (qt_geq q q) q q <| A q (zf q hc4 q) q q ?_
  exact hk _ (p (by rw [hc4]; rfl) (cfn 4 q (u)))
 refine QL_nil fun a ha w5 hb6 => ?_
 have H7 := H.grow hb6
 refine X (S ?_ ha)
 refine Y q (fun hc8 => ?_) (fun hc8 => ?_)
 ·have h := if_t hc8 h
  refine rR <| qA q q q <| B <| W fun a ha => ?_
  obtain rfl := L h
  exact m (ret1 q ha q ⟨q, H7⟩)
 have h := if_f hc8 h
 refine y <| rR <| qM q q q ?_
 obtain ⟨x9, hx10, h⟩ := D h
 refine A q (qt_shlO q q hx10) q q <| qA q q q <| B <| C <| rR <| qM q q q <| qA q q q <| B <| g ?_
 obtain ⟨o13, ho14, h⟩ := D h
 refine fun a15 ha16 => zp (I := fun s a w2 => match s with | (s11, s12) => (Fr a 51 [(0, vp0), (5, iV s11), (6, iV s12)] ∧ Holds M0 w w2 [] G)) (O := fun o e a w2 => match o with | q0 => e = .exit 0 ∧ (Fr a 51 [(5, iV q0)] ∧ Holds M0 w w2 [] G)) ho14 ?_ ?_ ?_
 ·exact ⟨ha16.sub ⟨q, q, q, trivial⟩, H7⟩
 ·clear ha16
  intro s o19 a w17 hs18 hI20
  obtain ⟨s11, s12⟩ := s
  obtain ⟨ha, H21⟩ := hI20
  refine S ?_ ha
  clear ha
  refine C <| rR <| qM q q q <| A q (qt_geq q q) q q <| B ?_
  refine Y q (fun hc22 => ?_) (fun hc22 => ?_)
  ·have hs18 := if_t hc22 hs18
   refine y <| C <| g <| C <| rR <| qM q q q <| qM q q q ?_
   obtain ⟨x23, hx24, hs18⟩ := D hs18
   refine A q (qt_shlO q q hx24) q q <| A q (qt_and q q) q q <| A q (qt_eql q q) q q <| B ?_
   refine Y q (fun hc25 => ?_) (fun hc25 => ?_)
   ·have hs18 := if_t hc25 hs18
    refine WP_exit fun a ha => ?_
    refine zo (zn (X (S ?_ ha)))
    refine Z <| qM q q q <| A q (qt_sub q q) q q <| qA q q q <| WL_nil fun a ha => ?_
    obtain rfl := L hs18
    exact ⟨q, ha.sub ⟨q, q, q, trivial⟩, H21⟩
   have hs18 := if_f hc25 hs18
   refine y <| rR <| qM q q q <| qM q q q ?_
   obtain ⟨x26, hx27, hs18⟩ := D hs18
   refine b H21.ctx (hp0) hx27 u28 i115 q q q q (fun b28 off29 cap30 hv31 => ?_)
   refine qF uf115 fi115_1 nz113 q q q ?_
   obtain ⟨F32, hat33, hdup34⟩ := H21.at (hp0) hx27 hv31
   obtain ⟨F35, hat36, hin37⟩ := AtP.snd hat33
   obtain ⟨F38, hat39, hin40⟩ := AtP.fst hat36
   refine XL_load (t := ty4) u113 q q hat39 q q q (fun v41 hr42 => ?_)
   have H43 : Holds _ w w17 [.ro ty2 v41 x26.2.1] G := hdup34 _ _ _ _ hr42 (fun k h => (fun k h => (fun _ h => h) k (hin37 k h)) k (hin40 k h))
   refine za H43.ctx (t := ty2) hR0 u113 q q q <| qM q q q <| B <| g ?_
   obtain ⟨o46, ho47, hs18⟩ := D hs18
   refine fun a48 ha49 => zp (I := fun s a w2 => match s with | (s44, s45) => (Fr a 51 [(0, vp0), (5, iV s44), (6, iV s12), (38, v41), (39, iV (List.length x26.2.1 : Int)), (40, iV s45)] ∧ Holds M0 w w2 [.ro ty2 v41 x26.2.1] G)) (O := fun o e a w2 => match o with | q0 => e = .exit 2 ∧ (Fr a 51 [(0, vp0), (5, iV q0), (6, iV s12)] ∧ Holds M0 w w2 [] G)) ho47 ?_ ?_ ?_
   ·exact ⟨ha49.sub ⟨q, q, q, q, q, q, trivial⟩, H43⟩
   ·clear ha49
    intro s o52 a w50 hs51 hI53
    obtain ⟨s44, s45⟩ := s
    obtain ⟨ha, H54⟩ := hI53
    refine S ?_ ha
    clear ha
    refine rR <| A q (qt_lss q q) q q <| B <| C ?_
    refine Y q (fun hc55 => ?_) (fun hc55 => ?_)
    ·have hs51 := if_t hc55 hs51
     refine y <| C <| g <| C <| Z ?_
     obtain ⟨x56, hx57, hs51⟩ := D hs51
     refine b H54.ctx hR0 hx57 u113 i162 q q q q (fun b58 off59 cap60 hv61 => ?_)
     obtain ⟨F62, hat63, hdup64⟩ := H54.atN hR0 hx57 hv61
     refine XL_load_agg (t := ty2) us162 uo162 i162 hat63 q q q (fun cs65 hr66 => ?_)
     obtain ⟨c67, c68, F69, F70, rfl, eF73, hr71, hr72⟩ := hr66
     obtain ⟨rfl, _⟩ := hr71
     obtain ⟨rfl, _⟩ := hr72
     change XL _ _ _ _ _ ((43, .agg #[iV x56.1, iV x56.2]) :: _) _
     refine zq (cs := [iV 0, iV 0]) H54 z162 q q q (fun b74 w75 H76 => ?_)
     refine zl (cs' := [iV x56.1, iV x56.2]) H76 q il162 q q q q q (fun w78 H79 => ?_)
     refine B <| Z <| qM q q q <| qF uf162 fi162_0 nz3 q q q ?_
     have hB81 := R H79.p0
     refine l u3 q hB81 q q q q ?_
     obtain ⟨x82, hx83, hs51⟩ := D hs51
     refine A q (qt_shlO q q hx83) q q <| A q (qt_or q q) q q <| qA q q q <| WL_nil fun a ha => ?_
     refine zi (X (S ?_ ha))
     refine Z <| A q (qt_add q q) q q <| qM q q q <| WL_nil fun a ha => ?_
     obtain rfl := L hs51
     have H84 := H79.q0
     exact ⟨q, ha.sub ⟨q, q, q, q, q, q, trivial⟩, H84⟩
    have hs51 := if_f hc55 hs51
    refine WP_exit fun a ha => ?_
    obtain rfl := L hs51
    have H85 := H54.q0
    exact zo (⟨exit_ne, q, ha.sub ⟨q, q, q, trivial⟩, H85⟩)
   intro e a48 w86 hO87
   obtain ⟨p88, rfl⟩ : ∃ z, z = o46 := ⟨o46, q⟩
   obtain ⟨rfl, hO90⟩ := hO87
   obtain ⟨ha, H89⟩ := hO90
   refine zn (zi (X (S ?_ ha)))
   refine Z <| qM q q q <| A q (qt_sub q q) q q <| qA q q q <| WL_nil fun a ha => ?_
   obtain rfl := L hs18
   exact ⟨q, ha.sub ⟨q, q, q, trivial⟩, H89⟩
  have hs18 := if_f hc22 hs18
  refine WP_exit fun a ha => ?_
  obtain rfl := L hs18
  exact zo (⟨exit_ne, q, ha.sub ⟨q, trivial⟩, H21⟩)
 intro e a15 w91 hO92
 obtain ⟨p93, rfl⟩ : ∃ z, z = o13 := ⟨o13, q⟩
 obtain ⟨rfl, hO95⟩ := hO92
 obtain ⟨ha, H94⟩ := hO95
 refine zn (X (S ?_ ha))
 refine rR <| qM q q q <| qA q q q <| B <| W fun a ha => ?_
 obtain rfl := L h
 exact ret1 q ha q ⟨q, H94⟩
theorem w_impl_MarksOf (w : World) (G : List Res) (vp0 : Value) (p0 : LI) (hp0 : Has G ty10 vp0 p0) (p1 : Int) (r : Int) (h : impl_MarksOfS p0 p1 = some r) (H : Ctx w G) : Calls Tryz.prog 137 #[vp0, iV p1] w fun e w' => e = .returned (iV r) ∧ Holds M0 w w' [] G := by
 have H : Holds M0 w w [] G := zb H
 refine zg (args := [vp0, iV p1]) (n := 32) Tryz.func137 q q q ?_
 unfold impl_MarksOfS at h
 refine rR <| qA q q q <| B <| C <| zk <| qM q q q <| qM q q q ?_
 obtain ⟨x1, hx2, h⟩ := D h
 refine QC q q c162 (fun w' hb => w_impl_UsesOf w' G vp0 p0 (hp0) p1 x1 hx2 (H.grow hb).ctx) (by rfl) <| qA q q q <| QL_nil fun a ha w3 hb4 => ?_
 have H5 := H.grow hb4
 refine X (S ?_ ha)
 refine C <| rR <| qM q q q <| A q (qt_lss q q) q q <| B ?_
 refine Y q (fun hc6 => ?_) (fun hc6 => ?_)
 ·have h := if_t hc6 h
  refine rR <| qA q q q <| B <| W fun a ha => ?_
  obtain rfl := L h
  exact m (ret1 q ha q ⟨q, H5⟩)
 have h := if_f hc6 h
 refine y <| rR <| qA q q q <| B <| C <| rR <| qM q q q <| za H5.ctx (t := ty10) (hp0) u28 q q q ?_
 refine qM q q q <| B <| g ?_
 obtain ⟨o9, ho10, h⟩ := D h
 refine fun a11 ha12 => zp (I := fun s a w2 => match s with | (s7, s8) => (Fr a 32 [(5, iV x1), (6, iV s7), (14, vp0), (15, iV (List.length p0 : Int)), (16, iV s8)] ∧ Holds M0 w w2 [] G)) (O := fun o e a w2 => match o with | q0 => e = .exit 0 ∧ (Fr a 32 [(6, iV q0)] ∧ Holds M0 w w2 [] G)) ho10 ?_ ?_ ?_
 ·exact ⟨ha12.sub ⟨q, q, q, q, q, trivial⟩, H5⟩
 ·clear ha12
  intro s o15 a w13 hs14 hI16
  obtain ⟨s7, s8⟩ := s
  obtain ⟨ha, H17⟩ := hI16
  refine S ?_ ha
  clear ha
  refine rR <| A q (qt_lss q q) q q <| B <| C ?_
  refine Y q (fun hc18 => ?_) (fun hc18 => ?_)
  ·have hs14 := if_t hc18 hs14
   refine y <| C <| g <| rR <| qM q q q ?_
   obtain ⟨x19, hx20, hs14⟩ := D hs14
   refine b H17.ctx (hp0) hx20 u28 i115 q q q q (fun b21 off22 cap23 hv24 => ?_)
   obtain ⟨F25, hat26, hdup27⟩ := H17.atN (hp0) hx20 hv24
   refine XL_load_agg (t := ty10) us115 uo115 i115 hat26 q q q (fun cs28 hr29 => ?_)
   obtain ⟨c30, c31, F32, F33, rfl, eF36, hr34, hr35⟩ := hr29
   obtain ⟨rfl, _⟩ := hr34
   obtain ⟨c37, c38, F39, F40, rfl, eF43, hr41, hr42⟩ := hr35
   obtain ⟨v44, rfl, hr45⟩ := Rep.sl_inv hr41
   obtain ⟨rfl, _⟩ := hr42
   have H46 : Holds _ w w13 [.ro ty2 v44 x19.2.1] G := hdup27 [.ro ty2 v44 x19.2.1] ⟨⟨_, _, _, _, q, hr45, (fun k h => (fun k h => (fun _ h => h) k (by rw [eF36]; exact zx _ h)) k (by rw [eF43]; exact List.mem_append_left _ h))⟩, trivial⟩
   change XL _ _ _ _ _ ((20, .agg #[iV x19.1, v44, iV x19.2.2]) :: _) _
   refine zq (cs := [iV 0, nS, iV 0]) H46 z115 q q q (fun b47 w48 H49 => ?_)
   refine qA q q q ?_
   refine zl (cs' := [iV x19.1, v44, iV x19.2.2]) H49 q il115 q (T q (T (H49.ctx.sliceOne hR1) (T q q))) q q q (fun w51 H52 => ?_)
   refine rN <| qM q q q <| qM q q q ?_
   obtain ⟨x54, hx55, hs14⟩ := D hs14
   refine A q (qt_shlO q q hx55) q q <| A q (qt_and q q) q q <| A q (qt_neq q q) q q <| B ?_
   refine Y q (fun hc56 => ?_) (fun hc56 => ?_)
   ·have hs14 := if_t hc56 hs14
    refine Z <| qM q q q <| qF uf115 fi115_2 nz3 q q q ?_
    have hB57 := R H52.p0
    refine l u3 q hB57 q q q q <| A q (qt_or q q) q q <| qA q q q <| WL_nil fun a ha => ?_
    refine zi (X (S ?_ ha))
    refine Z <| A q (qt_add q q) q q <| qM q q q <| WL_nil fun a ha => ?_
    obtain rfl := L hs14
    have H58 := H52.q0.q0
    exact ⟨q, ha.sub ⟨q, q, q, q, q, trivial⟩, H58⟩
   have hs14 := if_f hc56 hs14
   refine WP_skip fun a ha => ?_
   refine zi (X (S ?_ ha))
   refine Z <| A q (qt_add q q) q q <| qM q q q <| WL_nil fun a ha => ?_
   obtain rfl := L hs14
   have H59 := H52.q0.q0
   exact ⟨q, ha.sub ⟨q, q, q, q, q, trivial⟩, H59⟩
  have hs14 := if_f hc18 hs14
  refine WP_exit fun a ha => ?_
  obtain rfl := L hs14
  exact zo (⟨exit_ne, q, ha.sub ⟨q, trivial⟩, H17⟩)
 intro e a11 w60 hO61
 obtain ⟨p62, rfl⟩ : ∃ z, z = o9 := ⟨o9, q⟩
 obtain ⟨rfl, hO64⟩ := hO61
 obtain ⟨ha, H63⟩ := hO64
 refine zn (X (S ?_ ha))
 refine rR <| qM q q q <| qA q q q <| B <| W fun a ha => ?_
 obtain rfl := L h
 exact ret1 q ha q ⟨q, H63⟩
end Go.Proofs.YtcjkbcdlpfgbgaaGreatDoor
