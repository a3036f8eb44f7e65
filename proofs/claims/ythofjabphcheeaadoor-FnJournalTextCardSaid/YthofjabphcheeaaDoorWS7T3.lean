/- The walks: each Go function computes its shallow function. Printed by a program. -/
import Derived.Test.YthofjabphcheeaaDoorWS7T2
set_option linter.unusedVariables false
set_option maxRecDepth 10000
namespace Go.Proofs.YthofjabphcheeaaDoor
open Go Go.RowKit
theorem w_spec_l1In (w : World) (G : List Res) (p0 : Int) (p1 : Int) (p2 : Int) (r : Bool) (h : spec_l1InS p0 p1 p2 = some r) (H : Ctx w G) : Calls Tryd.prog 38 #[iV p0, iV p1, iV p2] w fun e w' => e = .returned (.bool r) ∧ Holds M0 w w' [] G := by
 have H : Holds M0 w w [] G := zb H
 refine zg (args := [iV p0, iV p1, iV p2]) (n := 15) Tryd.func38 q q q ?_
 unfold spec_l1InS at h
 refine rR <| qA q q q <| rN <| qM q q q <| qM q q q <| A q (qt_geq q q) q q <| qM q q q ?_
 refine zh 4 14 (.bool ((decide (p0 ≥ p1)) && (decide (p0 ≤ p2)))) ?_ (fun md hmd hk => ?_)
 rotate_left
 ·obtain ⟨Q, rfl⟩ := Md.seq_of hmd
  rcases btf (decide (p0 ≥ p1)) with hc1 | hc1
  ·skip
   refine qM (J q hc1) q q <| qM (J q hc1) q q <| A (J q hc1) (qt_leq q q) q q <| A q (ze q hc1 q) q q ?_
   exact hk _ (p (by rw [hc1]; rfl) (cfn 3 q (u)))
  skip
  refine qS q hc1 q q <| qS q hc1 q q <| qS q hc1 q q <| A q (zf q hc1 q) q q ?_
  exact hk _ (p (by rw [hc1]; rfl) (cfn 3 q (u)))
 refine qA q q q <| B <| W fun a ha => ?_
 obtain rfl := L h
 exact ret1 q ha q ⟨q, H⟩
theorem w_spec_l1Item (w : World) (G : List Res) (B0 : Int) (A1 : Value) (B1 : LP) (C1 : Has G ty1 A1 B1) (B2 : Int) (p1 : Int) (r : Bool) (h : spec_l1ItemS B0 B1 B2 p1 = some r) (H : Ctx w G) : Calls Tryd.prog 89 #[.agg #[iV B0, A1, iV B2], iV p1] w fun e w' => e = .returned (.bool r) ∧ Holds M0 w w' [] G := by
 have H : Holds M0 w w [] G := zb H
 refine zg (args := [.agg #[iV B0, A1, iV B2], iV p1]) (n := 77) Tryd.func89 q q q ?_
 unfold spec_l1ItemS at h
 refine C <| Z ?_
 refine WL_box (cs := [iV B0, A1, iV B2]) H q q q q (fun b1 w2 H3 => ?_)
 refine qA q q q <| B <| C <| rR <| qA q q q <| B <| g ?_
 obtain ⟨o6, ho7, h⟩ := D h
 refine fun a8 ha9 => zp (I := fun s a w2 => match s with | s5 => (Fr a 77 [(1, iV p1), (2, pB b1), (5, iV s5)] ∧ Holds M0 w w2 [.bx b1 70 [iV B0, A1, iV B2]] G)) (O := fun o e a w2 => match o with | .inl _ => e = .exit 0 ∧ (Fr a 77 [(2, pB b1)] ∧ Holds M0 w w2 [.bx b1 70 [iV B0, A1, iV B2]] G) | .inr q0 => e = .ret ∧ (Fr a 77 [(4, .bool q0)] ∧ Holds M0 w w2 [] G)) ho7 ?_ ?_ ?_
 ·exact ⟨ha9.sub ⟨q, q, q, trivial⟩, H3⟩
 ·clear ha9
  intro s o12 a w10 hs11 hI13
  obtain ⟨s5, rfl⟩ : ∃ z, z = s := ⟨s, q⟩
  obtain ⟨ha, H14⟩ := hI13
  refine S ?_ ha
  clear ha
  refine C <| rR <| qM q q q <| qF uf70 fi70_1 nz68 q q q ?_
  have hB15 := R H14.p0
  refine l u68 q hB15 q q q q <| za H14.ctx (t := ty1) (C1.c) u68 q q q <| A q (qt_lss q q) q q <| B ?_
  refine Y q (fun hc16 => ?_) (fun hc16 => ?_)
  ·have hs11 := if_t hc16 hs11
   refine y <| C <| g <| C <| WP_quiet (by kernel_rfl) (by kernel_rfl) <| qF uf70 fi70_1 nz68 q q q ?_
   have hB17 := R H14.p0
   refine l u68 q hB17 q q q q <| qM q q q ?_
   obtain ⟨x18, hx19, hs11⟩ := D hs11
   refine b H14.ctx (C1.c) hx19 u68 i67 q q q q (fun b20 off21 cap22 hv23 => ?_)
   refine qF uf67 fi67_0 nz3 q q q ?_
   obtain ⟨F24, hat25, hdup26⟩ := H14.at (C1.c) hx19 hv23
   obtain ⟨F27, hat28, hin29⟩ := AtP.fst hat25
   refine zt (k := .i64) u3 q hat28 q q q <| qM q q q <| A q (qt_sub q q) q q ?_
   obtain ⟨x30, hx31, hs11⟩ := D hs11
   refine QC q q c38 (fun w' hb => w_spec_l1In w' _ x18.1 0 (IntKind.wrap .i64 (p1 - 1)) x30 hx31 (H14.grow hb).ctx) (by rfl) <| A q (qt_not q) q q <| qM q q q ?_
   obtain ⟨b32, hg33, hs11⟩ := D hs11
   refine zh 9 32 (.bool b32) ?_ (fun md hmd hk => ?_)
   rotate_left
   ·obtain ⟨K, rfl⟩ := zr hmd
    rcases btf (!x30) with hc34 | hc34
    ·skip
     refine qS q hc34 q q <| qS q hc34 q q <| qS q hc34 q q <| qS q hc34 q q <| qS q hc34 q q <| qS q hc34 q q <| qS q hc34 q q <| qS q hc34 q q <| A q (ze q hc34 q) q q ?_
     exact hk _ (p (vb (if_t hc34 hg33)) (cfn 8 q (u)))
    skip
    have hg33 := if_f hc34 hg33
    refine qF uf70 fi70_1 nz68 (J q hc34) q q ?_
    have hB35 := R H14.p0
    refine l u68 q hB35 q (J q hc34) q q <| qM (J q hc34) q q ?_
    obtain ⟨x36, hx37, hg33⟩ := D hg33
    refine b H14.ctx (C1.c) hx37 u68 i67 (J q hc34) q q q (fun b38 off39 cap40 hv41 => ?_)
    refine qF uf67 fi67_1 nz3 (J q hc34) q q ?_
    obtain ⟨F42, hat43, hdup44⟩ := H14.at (C1.c) hx37 hv41
    obtain ⟨F45, hat46, hin47⟩ := AtP.snd hat43
    refine zt (k := .i64) u3 q hat46 (J q hc34) q q ?_
    obtain ⟨x48, hx49, hg33⟩ := D hg33
    refine QC (J q hc34) q c38 (fun w' hb => w_spec_l1In w' _ x36.2 1 6 x48 hx49 (H14.grow hb).ctx) (by rfl) <| A (J q hc34) (qt_not q) q q <| A q (zf q hc34 q) q q ?_
    exact hk _ (p (vb hg33) (cfn 8 q (u)))
   refine qM q q q ?_
   obtain ⟨b50, hg51, hs11⟩ := D hs11
   refine zh 19 52 (.bool b50) ?_ (fun md hmd hk => ?_)
   rotate_left
   ·obtain ⟨K, rfl⟩ := zr hmd
    rcases btf b32 with hc52 | hc52
    ·skip
     refine qS q hc52 q q <| qS q hc52 q q <| qS q hc52 q q <| XL_skip q q q <| XL_skip q q q <| XL_skip q q q <| XL_skip q q q <| XL_skip q q q <| XL_skip q q q <| XL_skip q q q ?_
     refine XL_skip q q q <| XL_skip q q q <| XL_skip q q q <| XL_skip q q q <| XL_skip q q q <| XL_skip q q q <| XL_skip q q q <| qS q hc52 q q <| A q (ze q hc52 q) q q ?_
     exact hk _ (p (vb (if_t hc52 hg51)) (cfn 18 q (u)))
    skip
    have hg51 := if_f hc52 hg51
    refine qM (J q hc52) q q <| A (J q hc52) (qt_gtr q q) q q <| qM (J q hc52) q q ?_
    obtain ⟨b53, hg54, hg51⟩ := D hg51
    refine zh 15 51 (.bool b53) ?_ (fun md hmd hk => ?_)
    rotate_left
    ·obtain ⟨K, rfl⟩ := zr hmd
     rcases btf (decide (s5 > 0)) with hc55 | hc55
     ·skip
      have hg54 := if_t hc55 hg54
      refine qF uf70 fi70_1 nz68 (J q hc55) q q ?_
      have hB56 := R H14.p0
      refine l u68 q hB56 q (J q hc55) q q <| qM (J q hc55) q q <| A (J q hc55) (qt_sub q q) q q ?_
      obtain ⟨x57, hx58, hg54⟩ := D hg54
      refine b H14.ctx (C1.c) hx58 u68 i67 (J q hc55) q q q (fun b59 off60 cap61 hv62 => ?_)
      refine qF uf67 fi67_0 nz3 (J q hc55) q q ?_
      obtain ⟨F63, hat64, hdup65⟩ := H14.at (C1.c) hx58 hv62
      obtain ⟨F66, hat67, hin68⟩ := AtP.fst hat64
      refine zt (k := .i64) u3 q hat67 (J q hc55) q q <| qF uf70 fi70_1 nz68 (J q hc55) q q ?_
      have hB69 := R H14.p0
      refine l u68 q hB69 q (J q hc55) q q <| qM (J q hc55) q q ?_
      obtain ⟨x70, hx71, hg54⟩ := D hg54
      refine b H14.ctx (C1.c) hx71 u68 i67 (J q hc55) q q q (fun b72 off73 cap74 hv75 => ?_)
      refine qF uf67 fi67_0 nz3 (J q hc55) q q ?_
      obtain ⟨F76, hat77, hdup78⟩ := H14.at (C1.c) hx71 hv75
      obtain ⟨F79, hat80, hin81⟩ := AtP.fst hat77
      refine zt (k := .i64) u3 q hat80 (J q hc55) q q <| A (J q hc55) (qt_geq q q) q q <| A (J q hc52) (ze q hc55 q) q q ?_
      exact hk _ (p (vb hg54) (cfn 14 q (u)))
     skip
     refine qS q hc55 q q <| qS q hc55 q q <| qS q hc55 q q <| qS q hc55 q q <| qS q hc55 q q <| qS q hc55 q q <| qS q hc55 q q <| qS q hc55 q q <| qS q hc55 q q <| qS q hc55 q q ?_
     refine qS q hc55 q q <| qS q hc55 q q <| qS q hc55 q q <| qS q hc55 q q <| A (J q hc52) (zf q hc55 q) q q ?_
     exact hk _ (p (vb (if_f hc55 hg54)) (cfn 14 q (u)))
    refine A q (zf q hc52 q) q q ?_
    exact hk _ (p (vb hg51) (cfn 4 q (u)))
   refine QL_nil fun a ha w82 hb83 => ?_
   have H84 := H14.grow hb83
   refine X (S ?_ ha)
   refine Y q (fun hc85 => ?_) (fun hc85 => ?_)
   ·have hs11 := if_t hc85 hs11
    refine rR <| qA q q q <| B <| W fun a ha => ?_
    obtain rfl := L hs11
    have H86 := H84.q0
    exact zj (m (⟨ret_ne, q, ha.sub ⟨q, trivial⟩, H86⟩))
   have hs11 := if_f hc85 hs11
   refine WP_skip fun a ha => ?_
   refine zi (X (S ?_ ha))
   refine Z <| qM q q q <| A q (qt_add q q) q q <| qA q q q <| WL_nil fun a ha => ?_
   obtain rfl := L hs11
   exact ⟨q, ha.sub ⟨q, q, q, trivial⟩, H84⟩
  have hs11 := if_f hc16 hs11
  refine WP_exit fun a ha => ?_
  obtain rfl := L hs11
  exact zo (⟨exit_ne, q, ha.sub ⟨q, trivial⟩, H14⟩)
 intro e a8 w87 hO88
 rcases o6 with o6 | o6
 ·skip
  obtain ⟨rfl, hO90⟩ := hO88
  obtain ⟨ha, H89⟩ := hO90
  refine zn (X (S ?_ ha))
  refine C <| zk <| qF uf70 fi70_0 nz3 q q q ?_
  have hB91 := R H89.p0
  refine l u3 q hB91 q q q q ?_
  obtain ⟨x92, hx93, h⟩ := D h
  refine QC q q c38 (fun w' hb => w_spec_l1In w' _ B0 0 6 x92 hx93 (H89.grow hb).ctx) (by rfl) <| qM q q q ?_
  refine zh 5 61 (.bool (x92 && (decide ((List.length B1 : Int) ≤ 3)))) ?_ (fun md hmd hk => ?_)
  rotate_left
  ·obtain ⟨K, rfl⟩ := zr hmd
   rcases btf x92 with hc94 | hc94
   ·skip
    refine qF uf70 fi70_1 nz68 (J q hc94) q q ?_
    have hB95 := R H89.p0
    refine l u68 q hB95 q (J q hc94) q q <| za H89.ctx (t := ty1) (C1.c) u68 (J q hc94) q q <| A (J q hc94) (qt_leq q q) q q <| A q (ze q hc94 q) q q ?_
    exact hk _ (p (by rw [hc94]; rfl) (cfn 4 q (u)))
   skip
   refine qS q hc94 q q <| qS q hc94 q q <| qS q hc94 q q <| qS q hc94 q q <| A q (zf q hc94 q) q q ?_
   exact hk _ (p (by rw [hc94]; rfl) (cfn 4 q (u)))
  refine qM q q q ?_
  refine zh 9 71 (.bool ((x92 && (decide ((List.length B1 : Int) ≤ 3))) && ((decide (B0 > 0)) == (decide ((List.length B1 : Int) > 0))))) ?_ (fun md hmd hk => ?_)
  rotate_left
  ·obtain ⟨K, rfl⟩ := zr hmd
   rcases btf (x92 && (decide ((List.length B1 : Int) ≤ 3))) with hc96 | hc96
   ·skip
    refine qF uf70 fi70_0 nz3 (J q hc96) q q ?_
    have hB97 := R H89.p0
    refine l u3 q hB97 q (J q hc96) q q <| A (J q hc96) (qt_gtr q q) q q <| qF uf70 fi70_1 nz68 (J q hc96) q q ?_
    have hB98 := R H89.p0
    refine l u68 q hB98 q (J q hc96) q q <| za H89.ctx (t := ty1) (C1.c) u68 (J q hc96) q q <| A (J q hc96) (qt_gtr q q) q q <| A (J q hc96) (qt_beql u4 q q) q q <| A q (ze q hc96 q) q q ?_
    exact hk _ (p (by rw [hc96]; rfl) (cfn 8 q (u)))
   skip
   refine qS q hc96 q q <| qS q hc96 q q <| qS q hc96 q q <| qS q hc96 q q <| qS q hc96 q q <| qS q hc96 q q <| qS q hc96 q q <| qS q hc96 q q <| A q (zf q hc96 q) q q ?_
   exact hk _ (p (by rw [hc96]; rfl) (cfn 8 q (u)))
  refine qM q q q ?_
  obtain ⟨b99, hg100, h⟩ := D h
  refine zh 4 76 (.bool b99) ?_ (fun md hmd hk => ?_)
  rotate_left
  ·obtain ⟨K, rfl⟩ := zr hmd
   rcases btf ((x92 && (decide ((List.length B1 : Int) ≤ 3))) && ((decide (B0 > 0)) == (decide ((List.length B1 : Int) > 0)))) with hc101 | hc101
   ·skip
    have hg100 := if_t hc101 hg100
    refine qF uf70 fi70_2 nz3 (J q hc101) q q ?_
    have hB102 := R H89.p0
    refine l u3 q hB102 q (J q hc101) q q ?_
    obtain ⟨x103, hx104, hg100⟩ := D hg100
    refine QC (J q hc101) q c38 (fun w' hb => w_spec_l1In w' _ B2 0 31 x103 hx104 (H89.grow hb).ctx) (by rfl) <| A q (ze q hc101 q) q q ?_
    exact hk _ (p (vb hg100) (cfn 3 q (u)))
   skip
   refine qS q hc101 q q <| qS q hc101 q q <| qS q hc101 q q <| A q (zf q hc101 q) q q ?_
   exact hk _ (p (vb (if_f hc101 hg100)) (cfn 3 q (u)))
  refine qA q q q <| QL_nil fun a ha w105 hb106 => ?_
  have H107 := H89.grow hb106
  refine X (S ?_ ha)
  refine W fun a ha => ?_
  obtain rfl := L h
  have H108 := H107.q0
  exact ret1 q ha q ⟨q, H108⟩
 skip
 obtain ⟨p109, rfl⟩ : ∃ z, z = o6 := ⟨o6, q⟩
 obtain ⟨rfl, hO111⟩ := hO88
 obtain ⟨ha, H110⟩ := hO111
 obtain rfl := L h
 exact zj (m (ret1 q ha q ⟨q, H110⟩))
theorem w_spec_ItemsValid (w : World) (G : List Res) (vp0 : Value) (p0 : LI) (hp0 : Has G ty7 vp0 p0) (r : Bool) (h : spec_ItemsValidS p0 = some r) (H : Ctx w G) : Calls Tryd.prog 70 #[vp0] w fun e w' => e = .returned (.bool r) ∧ Holds M0 w w' [] G := by
 have H : Holds M0 w w [] G := zb H
 refine zg (args := [vp0]) (n := 20) Tryd.func70 q q q ?_
 unfold spec_ItemsValidS at h
 refine rR <| qA q q q <| B <| C <| rR <| qA q q q <| B <| g ?_
 obtain ⟨o2, ho3, h⟩ := D h
 refine fun a4 ha5 => zp (I := fun s a w2 => match s with | s1 => (Fr a 20 [(0, vp0), (3, iV s1)] ∧ Holds M0 w w2 [] G)) (O := fun o e a w2 => match o with | .inl _ => e = .exit 0 ∧ (Fr a 20 [(0, vp0)] ∧ Holds M0 w w2 [] G) | .inr q0 => e = .ret ∧ (Fr a 20 [(2, .bool q0)] ∧ Holds M0 w w2 [] G)) ho3 ?_ ?_ ?_
 ·exact ⟨ha5.sub ⟨q, q, trivial⟩, H⟩
 ·clear ha5
  intro s o8 a w6 hs7 hI9
  obtain ⟨s1, rfl⟩ : ∃ z, z = s := ⟨s, q⟩
  obtain ⟨ha, H10⟩ := hI9
  refine S ?_ ha
  clear ha
  refine C <| rR <| qM q q q <| qM q q q <| za H10.ctx (t := ty7) (hp0) u23 q q q <| A q (qt_lss q q) q q <| B ?_
  refine Y q (fun hc11 => ?_) (fun hc11 => ?_)
  ·have hs7 := if_t hc11 hs7
   refine y <| C <| g <| C <| zk <| qM q q q <| qM q q q ?_
   obtain ⟨x12, hx13, hs7⟩ := D hs7
   refine b H10.ctx (hp0) hx13 u23 i70 q q q q (fun b14 off15 cap16 hv17 => ?_)
   obtain ⟨F18, hat19, hdup20⟩ := H10.atN (hp0) hx13 hv17
   refine XL_load_agg (t := ty7) us70 uo70 i70 hat19 q q q (fun cs21 hr22 => ?_)
   obtain ⟨c23, c24, F25, F26, rfl, eF29, hr27, hr28⟩ := hr22
   obtain ⟨rfl, _⟩ := hr27
   obtain ⟨c30, c31, F32, F33, rfl, eF36, hr34, hr35⟩ := hr28
   obtain ⟨v37, rfl, hr38⟩ := Rep.sl_inv hr34
   obtain ⟨rfl, _⟩ := hr35
   have H39 : Holds _ w w6 [.ro ty1 v37 x12.2.1] G := hdup20 [.ro ty1 v37 x12.2.1] ⟨⟨_, _, _, _, q, hr38, (fun k h => (fun k h => (fun _ h => h) k (by rw [eF29]; exact zx _ h)) k (by rw [eF36]; exact List.mem_append_left _ h))⟩, trivial⟩
   change XL _ _ _ _ _ ((13, .agg #[iV x12.1, v37, iV x12.2.2]) :: _) _
   refine qM q q q ?_
   obtain ⟨x40, hx41, hs7⟩ := D hs7
   refine QC q q c89 (fun w' hb => w_spec_l1Item w' _ x12.1 v37 x12.2.1 hR0 x12.2.2 s1 x40 hx41 (H39.grow hb).ctx) (by rfl) <| A q (qt_not q) q q <| QL_nil fun a ha w42 hb43 => ?_
   have H44 := H39.grow hb43
   refine X (S ?_ ha)
   refine Y q (fun hc45 => ?_) (fun hc45 => ?_)
   ·have hs7 := if_t hc45 hs7
    refine rR <| qA q q q <| B <| W fun a ha => ?_
    obtain rfl := L hs7
    have H46 := H44.q0
    exact zj (m (⟨ret_ne, q, ha.sub ⟨q, trivial⟩, H46⟩))
   have hs7 := if_f hc45 hs7
   refine WP_skip fun a ha => ?_
   refine zi (X (S ?_ ha))
   refine Z <| qM q q q <| A q (qt_add q q) q q <| qA q q q <| WL_nil fun a ha => ?_
   obtain rfl := L hs7
   have H47 := H44.q0
   exact ⟨q, ha.sub ⟨q, q, trivial⟩, H47⟩
  have hs7 := if_f hc11 hs7
  refine WP_exit fun a ha => ?_
  obtain rfl := L hs7
  exact zo (⟨exit_ne, q, ha.sub ⟨q, trivial⟩, H10⟩)
 intro e a4 w48 hO49
 rcases o2 with o2 | o2
 ·skip
  obtain ⟨rfl, hO51⟩ := hO49
  obtain ⟨ha, H50⟩ := hO51
  refine zn (X (S ?_ ha))
  refine rR <| qM q q q <| za H50.ctx (t := ty7) (hp0) u23 q q q <| A q (qt_leq q q) q q <| qA q q q <| B <| W fun a ha => ?_
  obtain rfl := L h
  exact ret1 q ha q ⟨q, H50⟩
 skip
 obtain ⟨p52, rfl⟩ : ∃ z, z = o2 := ⟨o2, q⟩
 obtain ⟨rfl, hO54⟩ := hO49
 obtain ⟨ha, H53⟩ := hO54
 obtain rfl := L h
 exact zj (m (ret1 q ha q ⟨q, H53⟩))
theorem w_spec_PricesValid (w : World) (G : List Res) (vp0 : Value) (p0 : LI) (hp0 : Has G ty7 vp0 p0) (vp1 : Value) (p1 : List Int) (hp1 : Has G tI vp1 p1) (r : Bool) (h : spec_PricesValidS p0 p1 = some r) (H : Ctx w G) : Calls Tryd.prog 36 #[vp0, vp1] w fun e w' => e = .returned (.bool r) ∧ Holds M0 w w' [] G := by
 have H : Holds M0 w w [] G := zb H
 refine zg (args := [vp0, vp1]) (n := 27) Tryd.func36 q q q ?_
 unfold spec_PricesValidS at h
 refine rR <| qA q q q <| B <| C <| rR <| qA q q q <| B <| g ?_
 obtain ⟨o2, ho3, h⟩ := D h
 refine fun a4 ha5 => zp (I := fun s a w2 => match s with | s1 => (Fr a 27 [(0, vp0), (1, vp1), (5, iV s1)] ∧ Holds M0 w w2 [] G)) (O := fun o e a w2 => match o with | .inl _ => e = .exit 0 ∧ (Fr a 27 [(0, vp0), (1, vp1)] ∧ Holds M0 w w2 [] G) | .inr q0 => e = .ret ∧ (Fr a 27 [(4, .bool q0)] ∧ Holds M0 w w2 [] G)) ho3 ?_ ?_ ?_
 ·exact ⟨ha5.sub ⟨q, q, q, trivial⟩, H⟩
 ·clear ha5
  intro s o8 a w6 hs7 hI9
  obtain ⟨s1, rfl⟩ : ∃ z, z = s := ⟨s, q⟩
  obtain ⟨ha, H10⟩ := hI9
  refine S ?_ ha
  clear ha
  refine C <| rR <| qM q q q <| qM q q q <| za H10.ctx (t := tI) (hp1) u24 q q q <| A q (qt_lss q q) q q <| B ?_
  refine Y q (fun hc11 => ?_) (fun hc11 => ?_)
  ·have hs7 := if_t hc11 hs7
   refine y <| C <| g <| C <| zk <| qM q q q <| qM q q q ?_
   obtain ⟨x12, hx13, hs7⟩ := D hs7
   refine b H10.ctx (hp1) hx13 u24 i3 q q q q (fun b14 off15 cap16 hv17 => ?_)
   obtain ⟨F18, hat19, hdup20⟩ := H10.at (hp1) hx13 hv17
   refine zt (k := .i64) u3 q hat19 q q q ?_
   obtain ⟨x21, hx22, hs7⟩ := D hs7
   refine QC q q c38 (fun w' hb => w_spec_l1In w' G x12 0 20 x21 hx22 (H10.grow hb).ctx) (by rfl) <| A q (qt_not q) q q <| QL_nil fun a ha w23 hb24 => ?_
   have H25 := H10.grow hb24
   refine X (S ?_ ha)
   refine Y q (fun hc26 => ?_) (fun hc26 => ?_)
   ·have hs7 := if_t hc26 hs7
    refine rR <| qA q q q <| B <| W fun a ha => ?_
    obtain rfl := L hs7
    exact zj (m (⟨ret_ne, q, ha.sub ⟨q, trivial⟩, H25⟩))
   have hs7 := if_f hc26 hs7
   refine WP_skip fun a ha => ?_
   refine zi (X (S ?_ ha))
   refine Z <| qM q q q <| A q (qt_add q q) q q <| qA q q q <| WL_nil fun a ha => ?_
   obtain rfl := L hs7
   exact ⟨q, ha.sub ⟨q, q, q, trivial⟩, H25⟩
  have hs7 := if_f hc11 hs7
  refine WP_exit fun a ha => ?_
  obtain rfl := L hs7
  exact zo (⟨exit_ne, q, ha.sub ⟨q, q, trivial⟩, H10⟩)
 intro e a4 w27 hO28
 rcases o2 with o2 | o2
 ·skip
  obtain ⟨rfl, hO30⟩ := hO28
  obtain ⟨ha, H29⟩ := hO30
  refine zn (X (S ?_ ha))
  refine C <| zk <| qM q q q ?_
  obtain ⟨x31, hx32, h⟩ := D h
  refine QC q q c70 (fun w' hb => w_spec_ItemsValid w' G vp0 p0 (hp0) x31 hx32 (H29.grow hb).ctx) (by rfl) <| qM q q q ?_
  refine zh 6 26 (.bool (x31 && ((List.length p1 : Int) == (List.length p0 : Int)))) ?_ (fun md hmd hk => ?_)
  rotate_left
  ·obtain ⟨K, rfl⟩ := zr hmd
   rcases btf x31 with hc33 | hc33
   ·skip
    refine qM (J q hc33) q q <| za H29.ctx (t := tI) (hp1) u24 (J q hc33) q q <| qM (J q hc33) q q <| za H29.ctx (t := ty7) (hp0) u23 (J q hc33) q q <| A (J q hc33) (qt_eql q q) q q <| A q (ze q hc33 q) q q ?_
    exact hk _ (p (by rw [hc33]; rfl) (cfn 5 q (u)))
   skip
   refine qS q hc33 q q <| qS q hc33 q q <| qS q hc33 q q <| qS q hc33 q q <| qS q hc33 q q <| A q (zf q hc33 q) q q ?_
   exact hk _ (p (by rw [hc33]; rfl) (cfn 5 q (u)))
  refine qA q q q <| QL_nil fun a ha w34 hb35 => ?_
  have H36 := H29.grow hb35
  refine X (S ?_ ha)
  refine W fun a ha => ?_
  obtain rfl := L h
  exact ret1 q ha q ⟨q, H36⟩
 skip
 obtain ⟨p37, rfl⟩ : ∃ z, z = o2 := ⟨o2, q⟩
 obtain ⟨rfl, hO39⟩ := hO28
 obtain ⟨ha, H38⟩ := hO39
 obtain rfl := L h
 exact zj (m (ret1 q ha q ⟨q, H38⟩))
theorem w_spec_l1Amounts (w : World) (G : List Res) (vp0 : Value) (p0 : LI) (hp0 : Has G ty7 vp0 p0) (vp1 : Value) (p1 : List Int) (hp1 : Has G tI vp1 p1) (r : Bool) (h : spec_l1AmountsS p0 p1 = some r) (H : Ctx w G) : Calls Tryd.prog 37 #[vp0, vp1] w fun e w' => e = .returned (.bool r) ∧ Holds M0 w w' [] G := by
 have H : Holds M0 w w [] G := zb H
 refine zg (args := [vp0, vp1]) (n := 23) Tryd.func37 q q q ?_
 unfold spec_l1AmountsS at h
 refine rR <| qA q q q <| B <| C <| rR <| qA q q q <| B <| g ?_
 obtain ⟨o2, ho3, h⟩ := D h
 refine fun a4 ha5 => zp (I := fun s a w2 => match s with | s1 => (Fr a 23 [(0, vp0), (1, vp1), (5, iV s1)] ∧ Holds M0 w w2 [] G)) (O := fun o e a w2 => match o with | .inl _ => e = .exit 0 ∧ (Fr a 23 [(0, vp0), (1, vp1)] ∧ Holds M0 w w2 [] G) | .inr q0 => e = .ret ∧ (Fr a 23 [(4, .bool q0)] ∧ Holds M0 w w2 [] G)) ho3 ?_ ?_ ?_
 ·exact ⟨ha5.sub ⟨q, q, q, trivial⟩, H⟩
 ·clear ha5
  intro s o8 a w6 hs7 hI9
  obtain ⟨s1, rfl⟩ : ∃ z, z = s := ⟨s, q⟩
  obtain ⟨ha, H10⟩ := hI9
  refine S ?_ ha
  clear ha
  refine C <| rR <| qM q q q <| qM q q q <| za H10.ctx (t := tI) (hp1) u24 q q q <| A q (qt_lss q q) q q <| B ?_
  refine Y q (fun hc11 => ?_) (fun hc11 => ?_)
  ·have hs7 := if_t hc11 hs7
   refine y <| C <| g <| C <| zk <| qM q q q <| qM q q q ?_
   obtain ⟨x12, hx13, hs7⟩ := D hs7
   refine b H10.ctx (hp1) hx13 u24 i3 q q q q (fun b14 off15 cap16 hv17 => ?_)
   obtain ⟨F18, hat19, hdup20⟩ := H10.at (hp1) hx13 hv17
   refine zt (k := .i64) u3 q hat19 q q q ?_
   obtain ⟨x21, hx22, hs7⟩ := D hs7
   refine QC q q c38 (fun w' hb => w_spec_l1In w' G x12 0 50 x21 hx22 (H10.grow hb).ctx) (by rfl) <| A q (qt_not q) q q <| QL_nil fun a ha w23 hb24 => ?_
   have H25 := H10.grow hb24
   refine X (S ?_ ha)
   refine Y q (fun hc26 => ?_) (fun hc26 => ?_)
   ·have hs7 := if_t hc26 hs7
    refine rR <| qA q q q <| B <| W fun a ha => ?_
    obtain rfl := L hs7
    exact zj (m (⟨ret_ne, q, ha.sub ⟨q, trivial⟩, H25⟩))
   have hs7 := if_f hc26 hs7
   refine WP_skip fun a ha => ?_
   refine zi (X (S ?_ ha))
   refine Z <| qM q q q <| A q (qt_add q q) q q <| qA q q q <| WL_nil fun a ha => ?_
   obtain rfl := L hs7
   exact ⟨q, ha.sub ⟨q, q, q, trivial⟩, H25⟩
  have hs7 := if_f hc11 hs7
  refine WP_exit fun a ha => ?_
  obtain rfl := L hs7
  exact zo (⟨exit_ne, q, ha.sub ⟨q, q, trivial⟩, H10⟩)
 intro e a4 w27 hO28
 rcases o2 with o2 | o2
 ·skip
  obtain ⟨rfl, hO30⟩ := hO28
  obtain ⟨ha, H29⟩ := hO30
  refine zn (X (S ?_ ha))
  refine rR <| qM q q q <| za H29.ctx (t := tI) (hp1) u24 q q q <| qM q q q <| za H29.ctx (t := ty7) (hp0) u23 q q q <| A q (qt_eql q q) q q <| qA q q q <| B <| W fun a ha => ?_
  obtain rfl := L h
  exact ret1 q ha q ⟨q, H29⟩
 skip
 obtain ⟨p31, rfl⟩ : ∃ z, z = o2 := ⟨o2, q⟩
 obtain ⟨rfl, hO33⟩ := hO28
 obtain ⟨ha, H32⟩ := hO33
 obtain rfl := L h
 exact zj (m (ret1 q ha q ⟨q, H32⟩))
theorem w_spec_l4Ready (w : World) (G : List Res) (vp0 : Value) (p0 : LP) (hp0 : Has G ty1 vp0 p0) (p1 : Int) (r : Bool) (h : spec_l4ReadyS p0 p1 = some r) (H : Ctx w G) : Calls Tryd.prog 71 #[vp0, iV p1] w fun e w' => e = .returned (.bool r) ∧ Holds M0 w w' [] G := by
 have H : Holds M0 w w [] G := zb H
 refine zg (args := [vp0, iV p1]) (n := 27) Tryd.func71 q q q ?_
 unfold spec_l4ReadyS at h
 refine rR <| qA q q q <| B <| C <| rR <| qA q q q <| B <| g ?_
 obtain ⟨o2, ho3, h⟩ := D h
 refine fun a4 ha5 => zp (I := fun s a w2 => match s with | s1 => (Fr a 27 [(0, vp0), (1, iV p1), (5, iV s1)] ∧ Holds M0 w w2 [] G)) (O := fun o e a w2 => match o with | .inl _ => e = .exit 0 ∧ (Fr a 27 [] ∧ Holds M0 w w2 [] G) | .inr q0 => e = .ret ∧ (Fr a 27 [(4, .bool q0)] ∧ Holds M0 w w2 [] G)) ho3 ?_ ?_ ?_
 ·exact ⟨ha5.sub ⟨q, q, q, trivial⟩, H⟩
 ·clear ha5
  intro s o8 a w6 hs7 hI9
  obtain ⟨s1, rfl⟩ : ∃ z, z = s := ⟨s, q⟩
  obtain ⟨ha, H10⟩ := hI9
  refine S ?_ ha
  clear ha
  refine C <| rR <| qM q q q <| qM q q q <| za H10.ctx (t := ty1) (hp0) u31 q q q <| A q (qt_lss q q) q q <| B ?_
  refine Y q (fun hc11 => ?_) (fun hc11 => ?_)
  ·have hs7 := if_t hc11 hs7
   refine y <| C <| g <| rR <| qM q q q <| qM q q q ?_
   obtain ⟨x12, hx13, hs7⟩ := D hs7
   refine b H10.ctx (hp0) hx13 u31 i40 q q q q (fun b14 off15 cap16 hv17 => ?_)
   refine qF uf40 fi40_0 nz3 q q q ?_
   obtain ⟨F18, hat19, hdup20⟩ := H10.at (hp0) hx13 hv17
   obtain ⟨F21, hat22, hin23⟩ := AtP.fst hat19
   refine zt (k := .i64) u3 q hat22 q q q <| qM q q q <| A q (qt_lss q q) q q <| qM q q q ?_
   obtain ⟨b24, hg25, hs7⟩ := D hs7
   refine zh 7 26 (.bool b24) ?_ (fun md hmd hk => ?_)
   rotate_left
   ·obtain ⟨Q, rfl⟩ := Md.seq_of hmd
    rcases btf (decide (x12.1 < p1)) with hc26 | hc26
    ·skip
     have hg25 := if_t hc26 hg25
     refine qM (J q hc26) q q <| qM (J q hc26) q q ?_
     obtain ⟨x27, hx28, hg25⟩ := D hg25
     refine b H10.ctx (hp0) hx28 u31 i40 (J q hc26) q q q (fun b29 off30 cap31 hv32 => ?_)
     refine qF uf40 fi40_1 nz3 (J q hc26) q q ?_
     obtain ⟨F33, hat34, hdup35⟩ := H10.at (hp0) hx28 hv32
     obtain ⟨F36, hat37, hin38⟩ := AtP.snd hat34
     refine zt (k := .i64) u3 q hat37 (J q hc26) q q <| A (J q hc26) (qt_lss q q) q q <| A q (ze q hc26 q) q q ?_
     exact hk _ (p (vb hg25) (cfn 6 q (u)))
    skip
    refine qS q hc26 q q <| qS q hc26 q q <| qS q hc26 q q <| qS q hc26 q q <| qS q hc26 q q <| qS q hc26 q q <| A q (zf q hc26 q) q q ?_
    exact hk _ (p (vb (if_f hc26 hg25)) (cfn 6 q (u)))
   refine B ?_
   refine Y q (fun hc39 => ?_) (fun hc39 => ?_)
   ·have hs7 := if_t hc39 hs7
    refine rR <| qA q q q <| B <| W fun a ha => ?_
    obtain rfl := L hs7
    exact zj (m (⟨ret_ne, q, ha.sub ⟨q, trivial⟩, H10⟩))
   have hs7 := if_f hc39 hs7
   refine WP_skip fun a ha => ?_
   refine zi (X (S ?_ ha))
   refine Z <| qM q q q <| A q (qt_add q q) q q <| qA q q q <| WL_nil fun a ha => ?_
   obtain rfl := L hs7
   exact ⟨q, ha.sub ⟨q, q, q, trivial⟩, H10⟩
  have hs7 := if_f hc11 hs7
  refine WP_exit fun a ha => ?_
  obtain rfl := L hs7
  exact zo (⟨exit_ne, q, ha.sub trivial, H10⟩)
 intro e a4 w40 hO41
 rcases o2 with o2 | o2
 ·skip
  obtain ⟨rfl, hO43⟩ := hO41
  obtain ⟨ha, H42⟩ := hO43
  refine zn (X (S ?_ ha))
  refine rR <| qA q q q <| B <| W fun a ha => ?_
  obtain rfl := L h
  exact ret1 q ha q ⟨q, H42⟩
 skip
 obtain ⟨p44, rfl⟩ : ∃ z, z = o2 := ⟨o2, q⟩
 obtain ⟨rfl, hO46⟩ := hO41
 obtain ⟨ha, H45⟩ := hO46
 obtain rfl := L h
 exact zj (m (ret1 q ha q ⟨q, H45⟩))
theorem w_spec_TicketValid (w : World) (G : List Res) (vp0 : Value) (p0 : LP) (hp0 : Has G ty1 vp0 p0) (r : Bool) (h : spec_TicketValidS p0 = some r) (H : Ctx w G) : Calls Tryd.prog 39 #[vp0] w fun e w' => e = .returned (.bool r) ∧ Holds M0 w w' [] G := by
 have H : Holds M0 w w [] G := zb H
 refine zg (args := [vp0]) (n := 38) Tryd.func39 q q q ?_
 unfold spec_TicketValidS at h
 refine rR <| qA q q q <| B <| C <| rR <| qA q q q <| B <| g ?_
 obtain ⟨o2, ho3, h⟩ := D h
 refine fun a4 ha5 => zp (I := fun s a w2 => match s with | s1 => (Fr a 38 [(0, vp0), (3, iV s1)] ∧ Holds M0 w w2 [] G)) (O := fun o e a w2 => match o with | .inl _ => e = .exit 0 ∧ (Fr a 38 [(0, vp0)] ∧ Holds M0 w w2 [] G) | .inr q0 => e = .ret ∧ (Fr a 38 [(2, .bool q0)] ∧ Holds M0 w w2 [] G)) ho3 ?_ ?_ ?_
 ·exact ⟨ha5.sub ⟨q, q, trivial⟩, H⟩
 ·clear ha5
  intro s o8 a w6 hs7 hI9
  obtain ⟨s1, rfl⟩ : ∃ z, z = s := ⟨s, q⟩
  obtain ⟨ha, H10⟩ := hI9
  refine S ?_ ha
  clear ha
  refine C <| rR <| qM q q q <| qM q q q <| za H10.ctx (t := ty1) (hp0) u31 q q q <| A q (qt_lss q q) q q <| B ?_
  refine Y q (fun hc11 => ?_) (fun hc11 => ?_)
  ·have hs7 := if_t hc11 hs7
   refine y <| C <| g <| rR <| qM q q q <| qM q q q ?_
   obtain ⟨x12, hx13, hs7⟩ := D hs7
   refine b H10.ctx (hp0) hx13 u31 i40 q q q q (fun b14 off15 cap16 hv17 => ?_)
   obtain ⟨F18, hat19, hdup20⟩ := H10.atN (hp0) hx13 hv17
   refine XL_load_agg (t := ty1) us40 uo40 i40 hat19 q q q (fun cs21 hr22 => ?_)
   obtain ⟨c23, c24, F25, F26, rfl, eF29, hr27, hr28⟩ := hr22
   obtain ⟨rfl, _⟩ := hr27
   obtain ⟨rfl, _⟩ := hr28
   change XL _ _ _ _ _ ((14, .agg #[iV x12.1, iV x12.2]) :: _) _
   refine zq (cs := [iV 0, iV 0]) H10 z40 q q q (fun b30 w31 H32 => ?_)
   refine zl (cs' := [iV x12.1, iV x12.2]) H32 q il40 q q q q q (fun w34 H35 => ?_)
   refine B <| C <| C <| zk <| qF uf40 fi40_0 nz3 q q q ?_
   have hB37 := R H35.p0
   refine l u3 q hB37 q q q q ?_
   obtain ⟨x38, hx39, hs7⟩ := D hs7
   refine QC q q c38 (fun w' hb => w_spec_l1In w' _ x12.1 0 2 x38 hx39 (H35.grow hb).ctx) (by rfl) <| A q (qt_not q) q q <| qM q q q ?_
   obtain ⟨b40, hg41, hs7⟩ := D hs7
   refine zh 5 24 (.bool b40) ?_ (fun md hmd hk => ?_)
   rotate_left
   ·obtain ⟨K, rfl⟩ := zr hmd
    rcases btf (!x38) with hc42 | hc42
    ·skip
     refine qS q hc42 q q <| qS q hc42 q q <| qS q hc42 q q <| qS q hc42 q q <| A q (ze q hc42 q) q q ?_
     exact hk _ (p (vb (if_t hc42 hg41)) (cfn 4 q (u)))
    skip
    have hg41 := if_f hc42 hg41
    refine qF uf40 fi40_1 nz3 (J q hc42) q q ?_
    have hB43 := R H35.p0
    refine l u3 q hB43 q (J q hc42) q q ?_
    obtain ⟨x44, hx45, hg41⟩ := D hg41
    refine QC (J q hc42) q c38 (fun w' hb => w_spec_l1In w' _ x12.2 0 4 x44 hx45 (H35.grow hb).ctx) (by rfl) <| A (J q hc42) (qt_not q) q q <| A q (zf q hc42 q) q q ?_
    exact hk _ (p (vb hg41) (cfn 4 q (u)))
   refine QL_nil fun a ha w46 hb47 => ?_
   have H48 := H35.grow hb47
   refine X (S ?_ ha)
   refine Y q (fun hc49 => ?_) (fun hc49 => ?_)
   ·have hs7 := if_t hc49 hs7
    refine rR <| qA q q q <| B <| W fun a ha => ?_
    obtain rfl := L hs7
    have H50 := H48.q0
    exact m (zj (m (⟨ret_ne, q, ha.sub ⟨q, trivial⟩, H50⟩)))
   have hs7 := if_f hc49 hs7
   refine y <| C <| zk <| qF uf40 fi40_1 nz3 q q q ?_
   have hB51 := R H48.p0
   refine l u3 q hB51 q q q q ?_
   obtain ⟨x52, hx53, hs7⟩ := D hs7
   refine QC q q c38 (fun w' hb => w_spec_l1In w' _ x12.2 1 3 x52 hx53 (H48.grow hb).ctx) (by rfl) <| qM q q q ?_
   obtain ⟨b54, hg55, hs7⟩ := D hs7
   refine zh 6 34 (.bool b54) ?_ (fun md hmd hk => ?_)
   rotate_left
   ·obtain ⟨K, rfl⟩ := zr hmd
    rcases btf x52 with hc56 | hc56
    ·skip
     have hg55 := if_t hc56 hg55
     refine qM (J q hc56) q q <| qF uf40 fi40_0 nz3 (J q hc56) q q ?_
     have hB57 := R H48.p0
     refine l u3 q hB57 q (J q hc56) q q ?_
     obtain ⟨x58, hx59, hg55⟩ := D hg55
     refine QC (J q hc56) q c71 (fun w' hb => w_spec_l4Ready w' _ vp0 p0 (hp0.c) x12.1 x58 hx59 (H48.grow hb).ctx) (by rfl) <| A (J q hc56) (qt_not q) q q <| A q (ze q hc56 q) q q ?_
     exact hk _ (p (vb hg55) (cfn 5 q (u)))
    skip
    refine qS q hc56 q q <| qS q hc56 q q <| qS q hc56 q q <| qS q hc56 q q <| qS q hc56 q q <| A q (zf q hc56 q) q q ?_
    exact hk _ (p (vb (if_f hc56 hg55)) (cfn 5 q (u)))
   refine QL_nil fun a ha w60 hb61 => ?_
   have H62 := H48.grow hb61
   refine X (S ?_ ha)
   refine Y q (fun hc63 => ?_) (fun hc63 => ?_)
   ·have hs7 := if_t hc63 hs7
    refine rR <| qA q q q <| B <| W fun a ha => ?_
    obtain rfl := L hs7
    have H64 := H62.q0
    exact zj (m (⟨ret_ne, q, ha.sub ⟨q, trivial⟩, H64⟩))
   have hs7 := if_f hc63 hs7
   refine WP_skip fun a ha => ?_
   refine zi (X (S ?_ ha))
   refine Z <| qM q q q <| A q (qt_add q q) q q <| qA q q q <| WL_nil fun a ha => ?_
   obtain rfl := L hs7
   have H65 := H62.q0
   exact ⟨q, ha.sub ⟨q, q, trivial⟩, H65⟩
  have hs7 := if_f hc11 hs7
  refine WP_exit fun a ha => ?_
  obtain rfl := L hs7
  exact zo (⟨exit_ne, q, ha.sub ⟨q, trivial⟩, H10⟩)
 intro e a4 w66 hO67
 rcases o2 with o2 | o2
 ·skip
  obtain ⟨rfl, hO69⟩ := hO67
  obtain ⟨ha, H68⟩ := hO69
  refine zn (X (S ?_ ha))
  refine rR <| qM q q q <| za H68.ctx (t := ty1) (hp0) u31 q q q <| A q (qt_leq q q) q q <| qA q q q <| B <| W fun a ha => ?_
  obtain rfl := L h
  exact ret1 q ha q ⟨q, H68⟩
 skip
 obtain ⟨p70, rfl⟩ : ∃ z, z = o2 := ⟨o2, q⟩
 obtain ⟨rfl, hO72⟩ := hO67
 obtain ⟨ha, H71⟩ := hO72
 obtain rfl := L h
 exact zj (m (ret1 q ha q ⟨q, H71⟩))
theorem w_spec_l1Join (w : World) (G : List Res) (p0 : Int) (p1 : Int) (r : Int) (h : spec_l1JoinS p0 p1 = some r) (H : Ctx w G) : Calls Tryd.prog 90 #[iV p0, iV p1] w fun e w' => e = .returned (iV r) ∧ Holds M0 w w' [] G := by
 have H : Holds M0 w w [] G := zb H
 refine zg (args := [iV p0, iV p1]) (n := 30) Tryd.func90 q q q ?_
 unfold spec_l1JoinS at h
 refine rR <| qA q q q <| rN <| qA q q q <| B <| C <| C ?_
 refine Z <| qA q q q <| B <| g ?_
 obtain ⟨o3, ho4, h⟩ := D h
 refine fun a5 ha6 => zp (I := fun s a w2 => match s with | (s1, s2) => (Fr a 30 [(0, iV p0), (1, iV p1), (5, iV s1), (6, iV s2)] ∧ Holds M0 w w2 [] G)) (O := fun o e a w2 => match o with | q0 => e = .exit 0 ∧ (Fr a 30 [(5, iV q0)] ∧ Holds M0 w w2 [] G)) ho4 ?_ ?_ ?_
 ·exact ⟨ha6.sub ⟨q, q, q, q, trivial⟩, H⟩
 ·clear ha6
  intro s o9 a w7 hs8 hI10
  obtain ⟨s1, s2⟩ := s
  obtain ⟨ha, H11⟩ := hI10
  refine S ?_ ha
  clear ha
  refine C <| rR <| qM q q q <| qM q q q <| qM q q q <| A q (qt_max q q) q q <| A q (qt_leq q q) q q <| B ?_
  refine Y q (fun hc12 => ?_) (fun hc12 => ?_)
  ·have hs8 := if_t hc12 hs8
   refine y <| C <| g <| rR <| qM q q q <| qM q q q ?_
   obtain ⟨x13, hx14, hs8⟩ := D hs8
   refine A q (qt_quoO q q hx14) q q <| A q (qt_rem q q (by decide)) q q <| A q (qt_eql q q) q q <| qM q q q ?_
   obtain ⟨b15, hg16, hs8⟩ := D hs8
   refine zh 6 25 (.bool b15) ?_ (fun md hmd hk => ?_)
   rotate_left
   ·obtain ⟨Q, rfl⟩ := Md.seq_of hmd
    rcases btf ((Int.tmod x13 2) == 1) with hc17 | hc17
    ·skip
     refine qS q hc17 q q <| qS q hc17 q q <| qS q hc17 q q <| qS q hc17 q q <| qS q hc17 q q <| A q (ze q hc17 q) q q ?_
     exact hk _ (p (vb (if_t hc17 hg16)) (cfn 5 q (u)))
    skip
    have hg16 := if_f hc17 hg16
    refine qM (J q hc17) q q <| qM (J q hc17) q q ?_
    obtain ⟨x18, hx19, hg16⟩ := D hg16
    refine A (J q hc17) (qt_quoO q q hx19) q q <| A (J q hc17) (qt_rem q q (by decide)) q q <| A (J q hc17) (qt_eql q q) q q <| A q (zf q hc17 q) q q ?_
    exact hk _ (p (vb hg16) (cfn 5 q (u)))
   refine B ?_
   refine Y q (fun hc20 => ?_) (fun hc20 => ?_)
   ·have hs8 := if_t hc20 hs8
    refine Z <| qM q q q <| qM q q q <| A q (qt_add q q) q q <| qA q q q <| WL_nil fun a ha => ?_
    refine zi (X (S ?_ ha))
    refine Z <| qM q q q <| A q (qt_mul q q) q q <| qA q q q <| WL_nil fun a ha => ?_
    obtain rfl := L hs8
    exact ⟨q, ha.sub ⟨q, q, q, q, trivial⟩, H11⟩
   have hs8 := if_f hc20 hs8
   refine WP_skip fun a ha => ?_
   refine zi (X (S ?_ ha))
   refine Z <| qM q q q <| A q (qt_mul q q) q q <| qA q q q <| WL_nil fun a ha => ?_
   obtain rfl := L hs8
   exact ⟨q, ha.sub ⟨q, q, q, q, trivial⟩, H11⟩
  have hs8 := if_f hc12 hs8
  refine WP_exit fun a ha => ?_
  obtain rfl := L hs8
  exact zo (⟨exit_ne, q, ha.sub ⟨q, trivial⟩, H11⟩)
 intro e a5 w21 hO22
 obtain ⟨p23, rfl⟩ : ∃ z, z = o3 := ⟨o3, q⟩
 obtain ⟨rfl, hO25⟩ := hO22
 obtain ⟨ha, H24⟩ := hO25
 refine zn (X (S ?_ ha))
 refine rR <| qM q q q <| qA q q q <| B <| W fun a ha => ?_
 obtain rfl := L h
 exact ret1 q ha q ⟨q, H24⟩
theorem w_spec_UsesOf (w : World) (G : List Res) (vp0 : Value) (p0 : LI) (hp0 : Has G ty7 vp0 p0) (p1 : Int) (r : Int) (h : spec_UsesOfS p0 p1 = some r) (H : Ctx w G) : Calls Tryd.prog 91 #[vp0, iV p1] w fun e w' => e = .returned (iV r) ∧ Holds M0 w w' [] G := by
 have H : Holds M0 w w [] G := zb H
 refine zg (args := [vp0, iV p1]) (n := 56) Tryd.func91 q q q ?_
 unfold spec_UsesOfS at h
 refine rR <| qA q q q <| B <| C <| C <| zk <| qM q q q ?_
 obtain ⟨x1, hx2, h⟩ := D h
 refine QC q q c70 (fun w' hb => w_spec_ItemsValid w' G vp0 p0 (hp0) x1 hx2 (H.grow hb).ctx) (by rfl) <| A q (qt_not q) q q <| qM q q q ?_
 obtain ⟨b3, hg4, h⟩ := D h
 refine zh 7 18 (.bool b3) ?_ (fun md hmd hk => ?_)
 rotate_left
 ·obtain ⟨K, rfl⟩ := zr hmd
  rcases btf (!x1) with hc5 | hc5
  ·skip
   refine qS q hc5 q q <| qS q hc5 q q <| qS q hc5 q q <| qS q hc5 q q <| qS q hc5 q q <| qS q hc5 q q <| A q (ze q hc5 q) q q ?_
   exact hk _ (p (vb (if_t hc5 hg4)) (cfn 6 q (u)))
  skip
  have hg4 := if_f hc5 hg4
  refine qM (J q hc5) q q <| qM (J q hc5) q q <| za H.ctx (t := ty7) (hp0) u23 (J q hc5) q q <| A (J q hc5) (qt_sub q q) q q ?_
  obtain ⟨x6, hx7, hg4⟩ := D hg4
  refine QC (J q hc5) q c38 (fun w' hb => w_spec_l1In w' G p1 0 (IntKind.wrap .i64 ((List.length p0 : Int) - 1)) x6 hx7 (H.grow hb).ctx) (by rfl) <| A (J q hc5) (qt_not q) q q <| A q (zf q hc5 q) q q ?_
  exact hk _ (p (vb hg4) (cfn 6 q (u)))
 refine QL_nil fun a ha w8 hb9 => ?_
 have H10 := H.grow hb9
 refine X (S ?_ ha)
 refine Y q (fun hc11 => ?_) (fun hc11 => ?_)
 ·have h := if_t hc11 h
  refine rR <| qA q q q <| B <| W fun a ha => ?_
  obtain rfl := L h
  exact m (ret1 q ha q ⟨q, H10⟩)
 have h := if_f hc11 h
 refine y <| rR <| qM q q q ?_
 obtain ⟨x12, hx13, h⟩ := D h
 refine A q (qt_shlO q q hx13) q q <| qA q q q <| B <| C <| rR <| qM q q q <| qA q q q <| B <| g ?_
 obtain ⟨o16, ho17, h⟩ := D h
 refine fun a18 ha19 => zp (I := fun s a w2 => match s with | (s14, s15) => (Fr a 56 [(0, vp0), (5, iV s14), (6, iV s15)] ∧ Holds M0 w w2 [] G)) (O := fun o e a w2 => match o with | q0 => e = .exit 0 ∧ (Fr a 56 [(5, iV q0)] ∧ Holds M0 w w2 [] G)) ho17 ?_ ?_ ?_
 ·exact ⟨ha19.sub ⟨q, q, q, trivial⟩, H10⟩
 ·clear ha19
  intro s o22 a w20 hs21 hI23
  obtain ⟨s14, s15⟩ := s
  obtain ⟨ha, H24⟩ := hI23
  refine S ?_ ha
  clear ha
  refine C <| rR <| qM q q q <| A q (qt_geq q q) q q <| B ?_
  refine Y q (fun hc25 => ?_) (fun hc25 => ?_)
  ·have hs21 := if_t hc25 hs21
   refine y <| C <| g <| rR <| qA q q q <| B <| g ?_
   obtain ⟨o28, ho29, hs21⟩ := D hs21
   refine fun a30 ha31 => zp (I := fun s a w2 => match s with | (s26, s27) => (Fr a 56 [(0, vp0), (5, iV s26), (6, iV s15), (7, iV s27)] ∧ Holds M0 w w2 [] G)) (O := fun o e a w2 => match o with | q0 => e = .exit 2 ∧ (Fr a 56 [(0, vp0), (5, iV q0), (6, iV s15)] ∧ Holds M0 w w2 [] G)) ho29 ?_ ?_ ?_
   ·exact ⟨ha31.sub ⟨q, q, q, q, trivial⟩, H24⟩
   ·clear ha31
    intro s o34 a w32 hs33 hI35
    obtain ⟨s26, s27⟩ := s
    obtain ⟨ha, H36⟩ := hI35
    refine S ?_ ha
    clear ha
    refine C <| rR <| qM q q q <| qM q q q <| qM q q q ?_
    obtain ⟨x37, hx38, hs33⟩ := D hs33
    refine b H36.ctx (hp0) hx38 u23 i70 q q q q (fun b39 off40 cap41 hv42 => ?_)
    refine qF uf70 fi70_1 nz68 q q q ?_
    obtain ⟨F43, hat44, hdup45⟩ := H36.at (hp0) hx38 hv42
    obtain ⟨F46, hat47, hin48⟩ := AtP.snd hat44
    obtain ⟨F49, hat50, hin51⟩ := AtP.fst hat47
    refine XL_load (t := ty2) u68 q q hat50 q q q (fun v52 hr53 => ?_)
    have H54 : Holds _ w w32 [.ro ty1 v52 x37.2.1] G := hdup45 _ _ _ _ hr53 (fun k h => (fun k h => (fun _ h => h) k (hin48 k h)) k (hin51 k h))
    refine za H54.ctx (t := ty1) hR0 u68 q q q <| A q (qt_lss q q) q q <| qM q q q ?_
    obtain ⟨b55, hg56, hs33⟩ := D hs33
    refine zh 6 40 (.bool b55) ?_ (fun md hmd hk => ?_)
    rotate_left
    ·obtain ⟨Q, rfl⟩ := Md.seq_of hmd
     rcases btf (decide (s27 < (List.length x37.2.1 : Int))) with hc57 | hc57
     ·skip
      have hg56 := if_t hc57 hg56
      refine qM (J q hc57) q q <| qM (J q hc57) q q ?_
      obtain ⟨x58, hx59, hg56⟩ := D hg56
      refine A (J q hc57) (qt_shrO q q hx59) q q <| A (J q hc57) (qt_rem q q (by decide)) q q <| A (J q hc57) (qt_eql q q) q q <| A q (ze q hc57 q) q q ?_
      exact hk _ (p (vb hg56) (cfn 5 q (u)))
     skip
     refine qS q hc57 q q <| qS q hc57 q q <| qS q hc57 q q <| qS q hc57 q q <| qS q hc57 q q <| A q (zf q hc57 q) q q ?_
     exact hk _ (p (vb (if_f hc57 hg56)) (cfn 5 q (u)))
    refine B ?_
    refine Y q (fun hc60 => ?_) (fun hc60 => ?_)
    ·have hs33 := if_t hc60 hs33
     refine y <| C <| g <| zk <| qM q q q <| qM q q q <| qM q q q ?_
     obtain ⟨x61, hx62, hs33⟩ := D hs33
     refine b H54.ctx (hp0.c) hx62 u23 i70 q q q q (fun b63 off64 cap65 hv66 => ?_)
     refine qF uf70 fi70_1 nz68 q q q ?_
     obtain ⟨F67, hat68, hdup69⟩ := H54.at (hp0.c) hx62 hv66
     obtain ⟨F70, hat71, hin72⟩ := AtP.snd hat68
     obtain ⟨F73, hat74, hin75⟩ := AtP.fst hat71
     refine XL_load (t := ty2) u68 q q hat74 q q q (fun v76 hr77 => ?_)
     have H78 : Holds _ w w32 [.ro ty1 v76 x61.2.1, .ro ty1 v52 x37.2.1] G := hdup69 _ _ _ _ hr77 (fun k h => (fun k h => (fun _ h => h) k (hin72 k h)) k (hin75 k h))
     refine qM q q q ?_
     obtain ⟨x79, hx80, hs33⟩ := D hs33
     refine b H78.ctx hR0 hx80 u68 i67 q q q q (fun b81 off82 cap83 hv84 => ?_)
     refine qF uf67 fi67_0 nz3 q q q ?_
     obtain ⟨F85, hat86, hdup87⟩ := H78.at hR0 hx80 hv84
     obtain ⟨F88, hat89, hin90⟩ := AtP.fst hat86
     refine zt (k := .i64) u3 q hat89 q q q ?_
     obtain ⟨x91, hx92, hs33⟩ := D hs33
     refine A q (qt_shlO q q hx92) q q ?_
     obtain ⟨x93, hx94, hs33⟩ := D hs33
     refine QC q q c90 (fun w' hb => w_spec_l1Join w' _ s26 x91 x93 hx94 (H78.grow hb).ctx) (by rfl) <| qA q q q <| QL_nil fun a ha w95 hb96 => ?_
     have H97 := H78.grow hb96
     refine zi (X (S ?_ ha))
     refine Z <| qM q q q <| A q (qt_add q q) q q <| qA q q q <| WL_nil fun a ha => ?_
     obtain rfl := L hs33
     have H98 := H97.q0.q0
     exact ⟨q, ha.sub ⟨q, q, q, q, trivial⟩, H98⟩
    have hs33 := if_f hc60 hs33
    refine WP_exit fun a ha => ?_
    obtain rfl := L hs33
    have H99 := H54.q0
    exact zo (⟨exit_ne, q, ha.sub ⟨q, q, q, trivial⟩, H99⟩)
   intro e a30 w100 hO101
   obtain ⟨p102, rfl⟩ : ∃ z, z = o28 := ⟨o28, q⟩
   obtain ⟨rfl, hO104⟩ := hO101
   obtain ⟨ha, H103⟩ := hO104
   refine zn (zi (X (S ?_ ha)))
   refine Z <| qM q q q <| A q (qt_sub q q) q q <| qA q q q <| WL_nil fun a ha => ?_
   obtain rfl := L hs21
   exact ⟨q, ha.sub ⟨q, q, q, trivial⟩, H103⟩
  have hs21 := if_f hc25 hs21
  refine WP_exit fun a ha => ?_
  obtain rfl := L hs21
  exact zo (⟨exit_ne, q, ha.sub ⟨q, trivial⟩, H24⟩)
 intro e a18 w105 hO106
 obtain ⟨p107, rfl⟩ : ∃ z, z = o16 := ⟨o16, q⟩
 obtain ⟨rfl, hO109⟩ := hO106
 obtain ⟨ha, H108⟩ := hO109
 refine zn (X (S ?_ ha))
 refine rR <| qM q q q <| qA q q q <| B <| W fun a ha => ?_
 obtain rfl := L h
 exact ret1 q ha q ⟨q, H108⟩
theorem w_spec_MarksOf (w : World) (G : List Res) (vp0 : Value) (p0 : LI) (hp0 : Has G ty7 vp0 p0) (p1 : Int) (r : Int) (h : spec_MarksOfS p0 p1 = some r) (H : Ctx w G) : Calls Tryd.prog 73 #[vp0, iV p1] w fun e w' => e = .returned (iV r) ∧ Holds M0 w w' [] G := by
 have H : Holds M0 w w [] G := zb H
 refine zg (args := [vp0, iV p1]) (n := 31) Tryd.func73 q q q ?_
 unfold spec_MarksOfS at h
 refine rR <| qA q q q <| B <| C <| zk <| qM q q q <| qM q q q ?_
 obtain ⟨x1, hx2, h⟩ := D h
 refine QC q q c91 (fun w' hb => w_spec_UsesOf w' G vp0 p0 (hp0) p1 x1 hx2 (H.grow hb).ctx) (by rfl) <| qA q q q <| QL_nil fun a ha w3 hb4 => ?_
 have H5 := H.grow hb4
 refine X (S ?_ ha)
 refine C <| rR <| qM q q q <| A q (qt_lss q q) q q <| B ?_
 refine Y q (fun hc6 => ?_) (fun hc6 => ?_)
 ·have h := if_t hc6 h
  refine rR <| qA q q q <| B <| W fun a ha => ?_
  obtain rfl := L h
  exact m (ret1 q ha q ⟨q, H5⟩)
 have h := if_f hc6 h
 refine y <| rR <| qA q q q <| B <| C <| rR <| qA q q q <| B ?_
 refine g ?_
 obtain ⟨o9, ho10, h⟩ := D h
 refine fun a11 ha12 => zp (I := fun s a w2 => match s with | (s7, s8) => (Fr a 31 [(0, vp0), (1, iV p1), (5, iV x1), (6, iV s7), (7, iV s8)] ∧ Holds M0 w w2 [] G)) (O := fun o e a w2 => match o with | q0 => e = .exit 0 ∧ (Fr a 31 [(6, iV q0)] ∧ Holds M0 w w2 [] G)) ho10 ?_ ?_ ?_
 ·exact ⟨ha12.sub ⟨q, q, q, q, q, trivial⟩, H5⟩
 ·clear ha12
  intro s o15 a w13 hs14 hI16
  obtain ⟨s7, s8⟩ := s
  obtain ⟨ha, H17⟩ := hI16
  refine S ?_ ha
  clear ha
  refine C <| rR <| qM q q q <| qM q q q <| A q (qt_leq q q) q q <| B ?_
  refine Y q (fun hc18 => ?_) (fun hc18 => ?_)
  ·have hs14 := if_t hc18 hs14
   refine y <| C <| g <| rR <| qM q q q <| qM q q q ?_
   obtain ⟨x19, hx20, hs14⟩ := D hs14
   refine A q (qt_shrO q q hx20) q q <| A q (qt_rem q q (by decide)) q q <| A q (qt_eql q q) q q <| B ?_
   refine Y q (fun hc21 => ?_) (fun hc21 => ?_)
   ·have hs14 := if_t hc21 hs14
    refine zk <| qM q q q <| qM q q q <| qM q q q ?_
    obtain ⟨x22, hx23, hs14⟩ := D hs14
    refine b H17.ctx (hp0) hx23 u23 i70 q q q q (fun b24 off25 cap26 hv27 => ?_)
    refine qF uf70 fi70_2 nz3 q q q ?_
    obtain ⟨F28, hat29, hdup30⟩ := H17.at (hp0) hx23 hv27
    obtain ⟨F31, hat32, hin33⟩ := AtP.snd hat29
    obtain ⟨F34, hat35, hin36⟩ := AtP.snd hat32
    refine zt (k := .i64) u3 q hat35 q q q ?_
    obtain ⟨x37, hx38, hs14⟩ := D hs14
    refine QC q q c90 (fun w' hb => w_spec_l1Join w' G s7 x22.2.2 x37 hx38 (H17.grow hb).ctx) (by rfl) <| qA q q q <| QL_nil fun a ha w39 hb40 => ?_
    have H41 := H17.grow hb40
    refine zi (X (S ?_ ha))
    refine Z <| qM q q q <| A q (qt_add q q) q q <| qA q q q <| WL_nil fun a ha => ?_
    obtain rfl := L hs14
    exact ⟨q, ha.sub ⟨q, q, q, q, q, trivial⟩, H41⟩
   have hs14 := if_f hc21 hs14
   refine WP_skip fun a ha => ?_
   refine zi (X (S ?_ ha))
   refine Z <| qM q q q <| A q (qt_add q q) q q <| qA q q q <| WL_nil fun a ha => ?_
   obtain rfl := L hs14
   exact ⟨q, ha.sub ⟨q, q, q, q, q, trivial⟩, H17⟩
  have hs14 := if_f hc18 hs14
  refine WP_exit fun a ha => ?_
  obtain rfl := L hs14
  exact zo (⟨exit_ne, q, ha.sub ⟨q, trivial⟩, H17⟩)
 intro e a11 w42 hO43
 obtain ⟨p44, rfl⟩ : ∃ z, z = o9 := ⟨o9, q⟩
 obtain ⟨rfl, hO46⟩ := hO43
 obtain ⟨ha, H45⟩ := hO46
 refine zn (X (S ?_ ha))
 refine rR <| qM q q q <| qA q q q <| B <| W fun a ha => ?_
 obtain rfl := L h
 exact ret1 q ha q ⟨q, H45⟩
theorem w_spec_l1Meet (w : World) (G : List Res) (p0 : Int) (p1 : Int) (r : Int) (h : spec_l1MeetS p0 p1 = some r) (H : Ctx w G) : Calls Tryd.prog 72 #[iV p0, iV p1] w fun e w' => e = .returned (iV r) ∧ Holds M0 w w' [] G := by
 have H : Holds M0 w w [] G := zb H
 refine zg (args := [iV p0, iV p1]) (n := 12) Tryd.func72 q q q ?_
 unfold spec_l1MeetS at h
 refine rR <| qA q q q <| B <| C <| zk <| qM q q q <| qM q q q <| A q (qt_add q q) q q <| qM q q q ?_
 refine qM q q q ?_
 obtain ⟨x1, hx2, h⟩ := D h
 refine QC q q c90 (fun w' hb => w_spec_l1Join w' G p0 p1 x1 hx2 (H.grow hb).ctx) (by rfl) <| A q (qt_sub q q) q q <| qA q q q <| QL_nil fun a ha w3 hb4 => ?_
 have H5 := H.grow hb4
 refine X (S ?_ ha)
 refine W fun a ha => ?_
 obtain rfl := L h
 exact ret1 q ha q ⟨q, H5⟩
theorem w_spec_FreeOf (w : World) (G : List Res) (vp0 : Value) (p0 : LI) (hp0 : Has G ty7 vp0 p0) (p1 : Int) (r : (List Int)) (h : spec_FreeOfS p0 p1 = some r) (H : Ctx w G) : Calls Tryd.prog 40 #[vp0, iV p1] w fun e w' => ∃ (v1 : Value), e = .returned (v1) ∧ Holds M0 w w' [.sl 3 tI v1 r] G := by
 have H : Holds M0 w w [] G := zb H
 refine zg (args := [vp0, iV p1]) (n := 41) Tryd.func40 q q q ?_
 unfold spec_FreeOfS at h
 refine rR <| qA q q q <| B <| C <| Z ?_
 refine zs (t := tI) (args := []) (xs := ([] : List Int)) H (BltL.nil) u24 j3 q q q q q q (fun v1 w2 H3 => ?_)
 refine qA q q q <| B <| C <| rR <| qA q q q <| B <| g ?_
 obtain ⟨o7, ho8, h⟩ := D h
 refine fun a9 ha10 => zp (I := fun s a w2 => match s with | (s5, s6) => ∃ vs5, Fr a 41 [(0, vp0), (1, iV p1), (5, vs5), (6, iV s6)] ∧ Holds M0 w w2 [.sl 3 tI vs5 s5] G) (O := fun o e a w2 => match o with | q0 => e = .exit 0 ∧ ∃ vq0, Fr a 41 [(5, vq0)] ∧ Holds M0 w w2 [.sl 3 tI vq0 q0] G) ho8 ?_ ?_ ?_
 ·exact ⟨v1, ha10.sub ⟨q, q, q, q, trivial⟩, H3⟩
 ·clear ha10
  intro s o13 a w11 hs12 hI14
  obtain ⟨s5, s6⟩ := s
  obtain ⟨vs5, ha, H15⟩ := hI14
  refine S ?_ ha
  clear ha
  refine C <| C <| zk <| qM q q q <| qM q q q <| za H15.ctx (t := ty7) (hp0.c) u23 q q q <| A q (qt_lss q q) q q <| qM q q q ?_
  obtain ⟨b16, hg17, hs12⟩ := D hs12
  refine zh 3 15 (.bool b16) ?_ (fun md hmd hk => ?_)
  rotate_left
  ·obtain ⟨K, rfl⟩ := zr hmd
   rcases btf (decide (s6 < (List.length p0 : Int))) with hc18 | hc18
   ·skip
    have hg17 := if_t hc18 hg17
    refine qM (J q hc18) q q ?_
    obtain ⟨x19, hx20, hg17⟩ := D hg17
    refine QC (J q hc18) q c70 (fun w' hb => w_spec_ItemsValid w' _ vp0 p0 (hp0.c) x19 hx20 (H15.grow hb).ctx) (by rfl) <| A q (ze q hc18 q) q q ?_
    exact hk _ (p (vb hg17) (cfn 2 q (u)))
   skip
   refine qS q hc18 q q <| qS q hc18 q q <| A q (zf q hc18 q) q q ?_
   exact hk _ (p (vb (if_f hc18 hg17)) (cfn 2 q (u)))
  refine qM q q q ?_
  obtain ⟨b21, hg22, hs12⟩ := D hs12
  refine zh 3 19 (.bool b21) ?_ (fun md hmd hk => ?_)
  rotate_left
  ·obtain ⟨K, rfl⟩ := zr hmd
   rcases btf b16 with hc23 | hc23
   ·skip
    have hg22 := if_t hc23 hg22
    refine qM (J q hc23) q q ?_
    obtain ⟨x24, hx25, hg22⟩ := D hg22
    refine QC (J q hc23) q c38 (fun w' hb => w_spec_l1In w' _ p1 0 31 x24 hx25 (H15.grow hb).ctx) (by rfl) <| A q (ze q hc23 q) q q ?_
    exact hk _ (p (vb hg22) (cfn 2 q (u)))
   skip
   refine qS q hc23 q q <| qS q hc23 q q <| A q (zf q hc23 q) q q ?_
   exact hk _ (p (vb (if_f hc23 hg22)) (cfn 2 q (u)))
  refine QL_nil fun a ha w26 hb27 => ?_
  have H28 := H15.grow hb27
  refine X (S ?_ ha)
  refine Y q (fun hc29 => ?_) (fun hc29 => ?_)
  ·have hs12 := if_t hc29 hs12
   refine y <| C <| g <| C <| zk <| qM q q q <| qM q q q ?_
   obtain ⟨x30, hx31, hs12⟩ := D hs12
   refine b H28.ctx (hp0.c) hx31 u23 i70 q q q q (fun b32 off33 cap34 hv35 => ?_)
   refine qF uf70 fi70_0 nz3 q q q ?_
   obtain ⟨F36, hat37, hdup38⟩ := H28.at (hp0.c) hx31 hv35
   obtain ⟨F39, hat40, hin41⟩ := AtP.fst hat37
   refine zt (k := .i64) u3 q hat40 q q q <| A q (qt_gtr q q) q q <| qM q q q ?_
   obtain ⟨b42, hg43, hs12⟩ := D hs12
   refine zh 7 35 (.bool b42) ?_ (fun md hmd hk => ?_)
   rotate_left
   ·obtain ⟨K, rfl⟩ := zr hmd
    rcases btf (decide (x30.1 > 0)) with hc44 | hc44
    ·skip
     have hg43 := if_t hc44 hg43
     refine qM (J q hc44) q q <| qM (J q hc44) q q ?_
     obtain ⟨x45, hx46, hg43⟩ := D hg43
     refine QC (J q hc44) q c73 (fun w' hb => w_spec_MarksOf w' _ vp0 p0 (hp0.c) s6 x45 hx46 (H28.grow hb).ctx) (by rfl) <| qM (J q hc44) q q ?_
     obtain ⟨x47, hx48, hg43⟩ := D hg43
     refine QC (J q hc44) q c72 (fun w' hb => w_spec_l1Meet w' _ x45 p1 x47 hx48 (H28.grow hb).ctx) (by rfl) <| A (J q hc44) (qt_eql q q) q q <| A q (ze q hc44 q) q q ?_
     exact hk _ (p (vb hg43) (cfn 6 q (u)))
    skip
    refine qS q hc44 q q <| qS q hc44 q q <| qS q hc44 q q <| qS q hc44 q q <| qS q hc44 q q <| qS q hc44 q q <| A q (zf q hc44 q) q q ?_
    exact hk _ (p (vb (if_f hc44 hg43)) (cfn 6 q (u)))
   refine QL_nil fun a ha w49 hb50 => ?_
   have H51 := H28.grow hb50
   refine X (S ?_ ha)
   refine Y q (fun hc52 => ?_) (fun hc52 => ?_)
   ·have hs12 := if_t hc52 hs12
    refine Z <| qM q q q <| qM q q q ?_
    refine zs (t := tI) (args := [.tmp 37]) (xs := ([s6] : List Int)) H51 (BltL.cons (Blt.int) q (BltL.nil)) u24 j3 q q q q q q (fun v53 w54 H55 => ?_)
    have H57 := H55.p1
    obtain ⟨x58, hx59, hs12⟩ := D hs12
    refine zw H57 hS1 hx59 u24 j3 q q q q q q (fun v60 w61 H62 => ?_)
    refine qA q q q <| WL_nil fun a ha => ?_
    refine zi (X (S ?_ ha))
    refine Z <| qM q q q <| A q (qt_add q q) q q <| qA q q q <| WL_nil fun a ha => ?_
    obtain rfl := L hs12
    have H64 := H62.q1
    exact ⟨q, v60, ha.sub ⟨q, q, q, q, trivial⟩, H64⟩
   have hs12 := if_f hc52 hs12
   refine WP_skip fun a ha => ?_
   refine zi (X (S ?_ ha))
   refine Z <| qM q q q <| A q (qt_add q q) q q <| qA q q q <| WL_nil fun a ha => ?_
   obtain rfl := L hs12
   exact ⟨q, vs5, ha.sub ⟨q, q, q, q, trivial⟩, H51⟩
  have hs12 := if_f hc29 hs12
  refine WP_exit fun a ha => ?_
  obtain rfl := L hs12
  exact zo (⟨exit_ne, q, vs5, ha.sub ⟨q, trivial⟩, H28⟩)
 intro e a9 w65 hO66
 obtain ⟨p67, rfl⟩ : ∃ z, z = o7 := ⟨o7, q⟩
 obtain ⟨rfl, hO69⟩ := hO66
 obtain ⟨vp67, ha, H68⟩ := hO69
 refine zn (X (S ?_ ha))
 refine rR <| qM q q q <| qA q q q <| B <| W fun a ha => ?_
 obtain rfl := L h
 exact ret1 q ha q ⟨vp67, q, H68⟩
theorem w_spec_l1Has (w : World) (G : List Res) (vp0 : Value) (p0 : List Int) (hp0 : Has G tI vp0 p0) (p1 : Int) (r : Bool) (h : spec_l1HasS p0 p1 = some r) (H : Ctx w G) : Calls Tryd.prog 41 #[vp0, iV p1] w fun e w' => e = .returned (.bool r) ∧ Holds M0 w w' [] G := by
 have H : Holds M0 w w [] G := zb H
 refine zg (args := [vp0, iV p1]) (n := 18) Tryd.func41 q q q ?_
 unfold spec_l1HasS at h
 refine rR <| qA q q q <| B <| C <| rR <| qA q q q <| B <| g ?_
 obtain ⟨o2, ho3, h⟩ := D h
 refine fun a4 ha5 => zp (I := fun s a w2 => match s with | s1 => (Fr a 18 [(0, vp0), (1, iV p1), (5, iV s1)] ∧ Holds M0 w w2 [] G)) (O := fun o e a w2 => match o with | .inl _ => e = .exit 0 ∧ (Fr a 18 [] ∧ Holds M0 w w2 [] G) | .inr q0 => e = .ret ∧ (Fr a 18 [(4, .bool q0)] ∧ Holds M0 w w2 [] G)) ho3 ?_ ?_ ?_
 ·exact ⟨ha5.sub ⟨q, q, q, trivial⟩, H⟩
 ·clear ha5
  intro s o8 a w6 hs7 hI9
  obtain ⟨s1, rfl⟩ : ∃ z, z = s := ⟨s, q⟩
  obtain ⟨ha, H10⟩ := hI9
  refine S ?_ ha
  clear ha
  refine C <| rR <| qM q q q <| qM q q q <| za H10.ctx (t := tI) (hp0) u24 q q q <| A q (qt_lss q q) q q <| B ?_
  refine Y q (fun hc11 => ?_) (fun hc11 => ?_)
  ·have hs7 := if_t hc11 hs7
   refine y <| C <| g <| rR <| qM q q q <| qM q q q ?_
   obtain ⟨x12, hx13, hs7⟩ := D hs7
   refine b H10.ctx (hp0) hx13 u24 i3 q q q q (fun b14 off15 cap16 hv17 => ?_)
   obtain ⟨F18, hat19, hdup20⟩ := H10.at (hp0) hx13 hv17
   refine zt (k := .i64) u3 q hat19 q q q <| qM q q q <| A q (qt_eql q q) q q <| B ?_
   refine Y q (fun hc21 => ?_) (fun hc21 => ?_)
   ·have hs7 := if_t hc21 hs7
    refine rR <| qA q q q <| B <| W fun a ha => ?_
    obtain rfl := L hs7
    exact zj (m (⟨ret_ne, q, ha.sub ⟨q, trivial⟩, H10⟩))
   have hs7 := if_f hc21 hs7
   refine WP_skip fun a ha => ?_
   refine zi (X (S ?_ ha))
   refine Z <| qM q q q <| A q (qt_add q q) q q <| qA q q q <| WL_nil fun a ha => ?_
   obtain rfl := L hs7
   exact ⟨q, ha.sub ⟨q, q, q, trivial⟩, H10⟩
  have hs7 := if_f hc11 hs7
  refine WP_exit fun a ha => ?_
  obtain rfl := L hs7
  exact zo (⟨exit_ne, q, ha.sub trivial, H10⟩)
 intro e a4 w22 hO23
 rcases o2 with o2 | o2
 ·skip
  obtain ⟨rfl, hO25⟩ := hO23
  obtain ⟨ha, H24⟩ := hO25
  refine zn (X (S ?_ ha))
  refine rR <| qA q q q <| B <| W fun a ha => ?_
  obtain rfl := L h
  exact ret1 q ha q ⟨q, H24⟩
 skip
 obtain ⟨p26, rfl⟩ : ∃ z, z = o2 := ⟨o2, q⟩
 obtain ⟨rfl, hO28⟩ := hO23
 obtain ⟨ha, H27⟩ := hO28
 obtain rfl := L h
 exact zj (m (ret1 q ha q ⟨q, H27⟩))
theorem w_spec_HouseValid (w : World) (G : List Res) (A0 : Value) (B0 : LI) (C0 : Has G ty7 A0 B0) (A1 : Value) (B1 : List Int) (C1 : Has G tI A1 B1) (A2 : Value) (B2 : List Int) (C2 : Has G tI A2 B2) (B3 : Int) (A4 : Value) (B4 : LT) (C4 : Has G ty8 A4 B4) (r : Bool) (h : spec_HouseValidS B0 B1 B2 B3 B4 = some r) (H : Ctx w G) : Calls Tryd.prog 11 #[.agg #[A0, A1, A2, iV B3, A4]] w fun e w' => e = .returned (.bool r) ∧ Holds M0 w w' [] G := by
 have H : Holds M0 w w [] G := zb H
 refine zg (args := [.agg #[A0, A1, A2, iV B3, A4]]) (n := 84) Tryd.func11 q q q ?_
 unfold spec_HouseValidS at h
 refine C <| Z ?_
 refine WL_box (cs := [A0, A1, A2, iV B3, A4]) H q q q q (fun b1 w2 H3 => ?_)
 refine qA q q q <| B <| C <| C <| zk <| qF uf27 fi27_0 nz23 q q q ?_
 have hB5 := R H3.p0
 refine l u23 q hB5 q q q q <| qF uf27 fi27_1 nz24 q q q ?_
 have hB6 := R H3.p0
 refine l u24 q hB6 q q q q ?_
 obtain ⟨x7, hx8, h⟩ := D h
 refine QC q q c36 (fun w' hb => w_spec_PricesValid w' _ A0 B0 (C0.c) A1 B1 (C1.c) x7 hx8 (H3.grow hb).ctx) (by rfl) <| A q (qt_not q) q q <| qM q q q ?_
 obtain ⟨b9, hg10, h⟩ := D h
 refine zh 7 20 (.bool b9) ?_ (fun md hmd hk => ?_)
 rotate_left
 ·obtain ⟨K, rfl⟩ := zr hmd
  rcases btf (!x7) with hc11 | hc11
  ·skip
   refine qS q hc11 q q <| qS q hc11 q q <| qS q hc11 q q <| qS q hc11 q q <| qS q hc11 q q <| qS q hc11 q q <| A q (ze q hc11 q) q q ?_
   exact hk _ (p (vb (if_t hc11 hg10)) (cfn 6 q (u)))
  skip
  have hg10 := if_f hc11 hg10
  refine qF uf27 fi27_0 nz23 (J q hc11) q q ?_
  have hB12 := R H3.p0
  refine l u23 q hB12 q (J q hc11) q q <| qF uf27 fi27_2 nz24 (J q hc11) q q ?_
  have hB13 := R H3.p0
  refine l u24 q hB13 q (J q hc11) q q ?_
  obtain ⟨x14, hx15, hg10⟩ := D hg10
  refine QC (J q hc11) q c37 (fun w' hb => w_spec_l1Amounts w' _ A0 B0 (C0.c) A2 B2 (C2.c) x14 hx15 (H3.grow hb).ctx) (by rfl) <| A (J q hc11) (qt_not q) q q <| A q (zf q hc11 q) q q ?_
  exact hk _ (p (vb hg10) (cfn 6 q (u)))
 refine qM q q q ?_
 obtain ⟨b16, hg17, h⟩ := D h
 refine zh 5 26 (.bool b16) ?_ (fun md hmd hk => ?_)
 rotate_left
 ·obtain ⟨K, rfl⟩ := zr hmd
  rcases btf b9 with hc18 | hc18
  ·skip
   refine qS q hc18 q q <| qS q hc18 q q <| qS q hc18 q q <| qS q hc18 q q <| A q (ze q hc18 q) q q ?_
   exact hk _ (p (vb (if_t hc18 hg17)) (cfn 4 q (u)))
  skip
  have hg17 := if_f hc18 hg17
  refine qF uf27 fi27_3 nz3 (J q hc18) q q ?_
  have hB19 := R H3.p0
  refine l u3 q hB19 q (J q hc18) q q ?_
  obtain ⟨x20, hx21, hg17⟩ := D hg17
  refine QC (J q hc18) q c38 (fun w' hb => w_spec_l1In w' _ B3 0 99999 x20 hx21 (H3.grow hb).ctx) (by rfl) <| A (J q hc18) (qt_not q) q q <| A q (zf q hc18 q) q q ?_
  exact hk _ (p (vb hg17) (cfn 4 q (u)))
 refine qM q q q ?_
 refine zh 5 32 (.bool (b16 || (decide ((List.length B4 : Int) > 4)))) ?_ (fun md hmd hk => ?_)
 rotate_left
 ·obtain ⟨K, rfl⟩ := zr hmd
  rcases btf b16 with hc22 | hc22
  ·skip
   refine qS q hc22 q q <| qS q hc22 q q <| qS q hc22 q q <| qS q hc22 q q <| A q (ze q hc22 q) q q ?_
   exact hk _ (p (by rw [hc22]; rfl) (cfn 4 q (u)))
  skip
  refine qF uf27 fi27_4 nz25 (J q hc22) q q ?_
  have hB23 := R H3.p0
  refine l u25 q hB23 q (J q hc22) q q <| za H3.ctx (t := ty8) (C4.c) u25 (J q hc22) q q <| A (J q hc22) (qt_gtr q q) q q <| A q (zf q hc22 q) q q ?_
  exact hk _ (p (by rw [hc22]; rfl) (cfn 4 q (u)))
 refine QL_nil fun a ha w24 hb25 => ?_
 have H26 := H3.grow hb25
 refine X (S ?_ ha)
 refine Y q (fun hc27 => ?_) (fun hc27 => ?_)
 ·have h := if_t hc27 h
  refine rR <| qA q q q <| B <| W fun a ha => ?_
  obtain rfl := L h
  have H28 := H26.q0
  exact m (ret1 q ha q ⟨q, H28⟩)
 have h := if_f hc27 h
 refine y <| C <| rR <| qA q q q <| B <| g ?_
 obtain ⟨o30, ho31, h⟩ := D h
 refine fun a32 ha33 => zp (I := fun s a w2 => match s with | s29 => (Fr a 84 [(1, pB b1), (3, iV s29)] ∧ Holds M0 w w2 [.bx b1 27 [A0, A1, A2, iV B3, A4]] G)) (O := fun o e a w2 => match o with | .inl _ => e = .exit 0 ∧ (Fr a 84 [] ∧ Holds M0 w w2 [] G) | .inr q0 => e = .ret ∧ (Fr a 84 [(2, .bool q0)] ∧ Holds M0 w w2 [] G)) ho31 ?_ ?_ ?_
 ·exact ⟨ha33.sub ⟨q, q, trivial⟩, H26⟩
 ·clear ha33
  intro s o36 a w34 hs35 hI37
  obtain ⟨s29, rfl⟩ : ∃ z, z = s := ⟨s, q⟩
  obtain ⟨ha, H38⟩ := hI37
  refine S ?_ ha
  clear ha
  refine C <| rR <| qM q q q <| qF uf27 fi27_4 nz25 q q q ?_
  have hB39 := R H38.p0
  refine l u25 q hB39 q q q q <| za H38.ctx (t := ty8) (C4.c) u25 q q q <| A q (qt_lss q q) q q <| B ?_
  refine Y q (fun hc40 => ?_) (fun hc40 => ?_)
  ·have hs35 := if_t hc40 hs35
   refine y <| C <| g <| rR <| qF uf27 fi27_4 nz25 q q q ?_
   have hB41 := R H38.p0
   refine l u25 q hB41 q q q q <| qM q q q ?_
   obtain ⟨x42, hx43, hs35⟩ := D hs35
   refine b H38.ctx (C4.c) hx43 u25 i33 q q q q (fun b44 off45 cap46 hv47 => ?_)
   obtain ⟨F48, hat49, hdup50⟩ := H38.atN (C4.c) hx43 hv47
   refine XL_load_agg (t := ty8) us33 uo33 i33 hat49 q q q (fun cs51 hr52 => ?_)
   obtain ⟨c53, c54, F55, F56, rfl, eF59, hr57, hr58⟩ := hr52
   obtain ⟨rfl, _⟩ := hr57
   obtain ⟨c60, c61, F62, F63, rfl, eF66, hr64, hr65⟩ := hr58
   obtain ⟨v67, rfl, hr68⟩ := Rep.sl_inv hr64
   obtain ⟨v69, rfl, hr70⟩ := Rep.sl_inv hr65
   have H71 : Holds _ w w34 [.ro ty1 v67 x42.2.1, .ro tI v69 x42.2.2, .bx b1 27 [A0, A1, A2, iV B3, A4]] G := hdup50 [.ro ty1 v67 x42.2.1, .ro tI v69 x42.2.2] ⟨⟨_, _, _, _, q, hr68, (fun k h => (fun k h => (fun _ h => h) k (by rw [eF59]; exact zx _ h)) k (by rw [eF66]; exact List.mem_append_left _ h))⟩, ⟨_, _, _, _, q, hr70, (fun k h => (fun k h => (fun _ h => h) k (by rw [eF59]; exact zx _ h)) k (by rw [eF66]; exact zx _ h))⟩, trivial⟩
   change XL _ _ _ _ _ ((44, .agg #[iV x42.1, v67, v69]) :: _) _
   refine zq (cs := [iV 0, nS, nS]) H71 z33 q q q (fun b72 w73 H74 => ?_)
   refine zl (cs' := [iV x42.1, v67, v69]) H74 q il33 q (T q (T (H74.ctx.sliceOne hR1) (T (H74.ctx.sliceOne hR2) q))) q q q (fun w76 H77 => ?_)
   refine B <| C <| C <| zk <| qF uf33 fi33_0 nz3 q q q ?_
   have hB79 := R H77.p0
   refine l u3 q hB79 q q q q ?_
   obtain ⟨x80, hx81, hs35⟩ := D hs35
   refine QC q q c38 (fun w' hb => w_spec_l1In w' _ x42.1 0 31 x80 hx81 (H77.grow hb).ctx) (by rfl) <| A q (qt_not q) q q <| qM q q q ?_
   obtain ⟨b82, hg83, hs35⟩ := D hs35
   refine zh 5 54 (.bool b82) ?_ (fun md hmd hk => ?_)
   rotate_left
   ·obtain ⟨K, rfl⟩ := zr hmd
    rcases btf (!x80) with hc84 | hc84
    ·skip
     refine qS q hc84 q q <| qS q hc84 q q <| qS q hc84 q q <| qS q hc84 q q <| A q (ze q hc84 q) q q ?_
     exact hk _ (p (vb (if_t hc84 hg83)) (cfn 4 q (u)))
    skip
    have hg83 := if_f hc84 hg83
    refine qF uf33 fi33_1 nz31 (J q hc84) q q ?_
    have hB85 := R H77.p0
    refine l u31 q hB85 q (J q hc84) q q ?_
    obtain ⟨x86, hx87, hg83⟩ := D hg83
    refine QC (J q hc84) q c39 (fun w' hb => w_spec_TicketValid w' _ v67 x42.2.1 hR1 x86 hx87 (H77.grow hb).ctx) (by rfl) <| A (J q hc84) (qt_not q) q q <| A q (zf q hc84 q) q q ?_
    exact hk _ (p (vb hg83) (cfn 4 q (u)))
   refine qM q q q ?_
   refine zh 8 63 (.bool (b82 || ((List.length x42.2.2 : Int) != (List.length x42.2.1 : Int)))) ?_ (fun md hmd hk => ?_)
   rotate_left
   ·obtain ⟨K, rfl⟩ := zr hmd
    rcases btf b82 with hc88 | hc88
    ·skip
     refine qS q hc88 q q <| qS q hc88 q q <| qS q hc88 q q <| qS q hc88 q q <| qS q hc88 q q <| qS q hc88 q q <| qS q hc88 q q <| A q (ze q hc88 q) q q ?_
     exact hk _ (p (by rw [hc88]; rfl) (cfn 7 q (u)))
    skip
    refine qF uf33 fi33_2 nz24 (J q hc88) q q ?_
    have hB89 := R H77.p0
    refine l u24 q hB89 q (J q hc88) q q <| za H77.ctx (t := tI) hR2 u24 (J q hc88) q q <| qF uf33 fi33_1 nz31 (J q hc88) q q ?_
    have hB90 := R H77.p0
    refine l u31 q hB90 q (J q hc88) q q <| za H77.ctx (t := ty1) hR1 u31 (J q hc88) q q <| A (J q hc88) (qt_neq q q) q q <| A q (zf q hc88 q) q q ?_
    exact hk _ (p (by rw [hc88]; rfl) (cfn 7 q (u)))
   refine QL_nil fun a ha w91 hb92 => ?_
   have H93 := H77.grow hb92
   refine X (S ?_ ha)
   refine Y q (fun hc94 => ?_) (fun hc94 => ?_)
   ·have hs35 := if_t hc94 hs35
    refine rR <| qA q q q <| B <| W fun a ha => ?_
    obtain rfl := L hs35
    have H95 := H93.q0.q0.q0.q0
    exact m (zj (m (⟨ret_ne, q, ha.sub ⟨q, trivial⟩, H95⟩)))
   have hs35 := if_f hc94 hs35
   refine y <| rR <| qF uf27 fi27_0 nz23 q q q ?_
   have hB96 := R H93.p3
   refine l u23 q hB96 q q q q <| qF uf33 fi33_0 nz3 q q q ?_
   have hB97 := R H93.p0
   refine l u3 q hB97 q q q q ?_
   obtain ⟨x98, hx99, hs35⟩ := D hs35
   refine zd q q c40 (w_spec_FreeOf w91 _ A0 B0 (C0.c.c.c.c) x42.1 x98 hx99 H93.ctx) (by rfl) ?_
   rintro _ w100 ⟨v102, rfl, H101⟩; refine ⟨_, q, ?_⟩
   have H103 := H93.cN1 [] H101
   refine qA q q q <| rN <| qA q q q <| B <| g ?_
   obtain ⟨o105, ho106, hs35⟩ := D hs35
   have H109 := H103.p3.p3.p3.p4
   refine fun a107 ha108 => zp (I := fun s a w2 => match s with | s104 => (Fr a 84 [(1, pB b1), (3, iV s29), (4, pB b72), (5, v102), (6, iV s104)] ∧ Holds M0 w w2 [.bx b1 27 [A0, A1, A2, iV B3, A4], .bx b72 33 [iV x42.1, v67, v69], .ro ty1 v67 x42.2.1, .ro tI v69 x42.2.2, .sl 3 tI v102 x98] G)) (O := fun o e a w2 => match o with | .inl _ => e = .exit 2 ∧ (Fr a 84 [(1, pB b1), (3, iV s29)] ∧ Holds M0 w w2 [.bx b1 27 [A0, A1, A2, iV B3, A4]] G) | .inr q0 => e = .ret ∧ (Fr a 84 [(2, .bool q0)] ∧ Holds M0 w w2 [] G)) ho106 ?_ ?_ ?_
   ·exact ⟨ha108.sub ⟨q, q, q, q, q, trivial⟩, H109⟩
   ·clear ha108
    intro s o112 a w110 hs111 hI113
    obtain ⟨s104, rfl⟩ : ∃ z, z = s := ⟨s, q⟩
    obtain ⟨ha, H114⟩ := hI113
    refine S ?_ ha
    clear ha
    refine C <| rR <| qM q q q <| qF uf33 fi33_2 nz24 q q q ?_
    have hB115 := R H114.p1
    refine l u24 q hB115 q q q q <| za H114.ctx (t := tI) hR3 u24 q q q <| A q (qt_lss q q) q q <| B ?_
    refine Y q (fun hc116 => ?_) (fun hc116 => ?_)
    ·have hs111 := if_t hc116 hs111
     refine y <| C <| g <| C <| zk <| qM q q q <| qF uf33 fi33_2 nz24 q q q ?_
     have hB117 := R H114.p1
     refine l u24 q hB117 q q q q <| qM q q q ?_
     obtain ⟨x118, hx119, hs111⟩ := D hs111
     refine b H114.ctx hR3 hx119 u24 i3 q q q q (fun b120 off121 cap122 hv123 => ?_)
     obtain ⟨F124, hat125, hdup126⟩ := H114.at hR3 hx119 hv123
     refine zt (k := .i64) u3 q hat125 q q q ?_
     obtain ⟨x127, hx128, hs111⟩ := D hs111
     refine QC q q c41 (fun w' hb => w_spec_l1Has w' _ v102 x98 hS4 x118 x127 hx128 (H114.grow hb).ctx) (by rfl) <| A q (qt_not q) q q <| QL_nil fun a ha w129 hb130 => ?_
     have H131 := H114.grow hb130
     refine X (S ?_ ha)
     refine Y q (fun hc132 => ?_) (fun hc132 => ?_)
     ·have hs111 := if_t hc132 hs111
      refine rR <| qA q q q <| B <| W fun a ha => ?_
      obtain rfl := L hs111
      have H133 := H131.q0.q0.q0.q0.q0
      exact zj (m (⟨ret_ne, q, ha.sub ⟨q, trivial⟩, H133⟩))
     have hs111 := if_f hc132 hs111
     refine WP_skip fun a ha => ?_
     refine zi (X (S ?_ ha))
     refine Z <| qM q q q <| A q (qt_add q q) q q <| qA q q q <| WL_nil fun a ha => ?_
     obtain rfl := L hs111
     have H134 := H131.p4.p4.p4.p4.p4
     exact ⟨q, ha.sub ⟨q, q, q, q, q, trivial⟩, H134⟩
    have hs111 := if_f hc116 hs111
    refine WP_exit fun a ha => ?_
    obtain rfl := L hs111
    have H135 := H114.q1.q1.q1.q1
    exact zo (⟨exit_ne, q, ha.sub ⟨q, q, trivial⟩, H135⟩)
   intro e a107 w136 hO137
   rcases o105 with o105 | o105
   ·skip
    obtain ⟨rfl, hO139⟩ := hO137
    obtain ⟨ha, H138⟩ := hO139
    refine zn (zi (X (S ?_ ha)))
    refine Z <| qM q q q <| A q (qt_add q q) q q <| qA q q q <| WL_nil fun a ha => ?_
    obtain rfl := L hs35
    exact ⟨q, ha.sub ⟨q, q, trivial⟩, H138⟩
   skip
   obtain ⟨p140, rfl⟩ : ∃ z, z = o105 := ⟨o105, q⟩
   obtain ⟨rfl, hO142⟩ := hO137
   obtain ⟨ha, H141⟩ := hO142
   obtain rfl := L hs35
   exact zj (zj (m (⟨ret_ne, q, ha.sub ⟨q, trivial⟩, H141⟩)))
  have hs35 := if_f hc40 hs35
  refine WP_exit fun a ha => ?_
  obtain rfl := L hs35
  have H143 := H38.q0
  exact zo (⟨exit_ne, q, ha.sub trivial, H143⟩)
 intro e a32 w144 hO145
 rcases o30 with o30 | o30
 ·skip
  obtain ⟨rfl, hO147⟩ := hO145
  obtain ⟨ha, H146⟩ := hO147
  refine zn (X (S ?_ ha))
  refine rR <| qA q q q <| B <| W fun a ha => ?_
  obtain rfl := L h
  exact ret1 q ha q ⟨q, H146⟩
 skip
 obtain ⟨p148, rfl⟩ : ∃ z, z = o30 := ⟨o30, q⟩
 obtain ⟨rfl, hO150⟩ := hO145
 obtain ⟨ha, H149⟩ := hO150
 obtain rfl := L h
 exact zj (m (ret1 q ha q ⟨q, H149⟩))
end Go.Proofs.YthofjabphcheeaaDoor
