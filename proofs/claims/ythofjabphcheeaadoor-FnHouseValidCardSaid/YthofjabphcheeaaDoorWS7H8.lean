/- The walks: each Go function computes its shallow function. Printed by a program. -/
import Derived.Test.YthofjabphcheeaaDoorWS7H7
set_option linter.unusedVariables false
set_option maxRecDepth 10000
namespace Go.Proofs.YthofjabphcheeaaDoor
open Go Go.RowKit
theorem w_impl_partsValid (w : World) (G : List Res) (vp0 : Value) (p0 : LP) (hp0 : Has G ty1 vp0 p0) (p1 : Int) (r : Bool) (h : impl_partsValidS p0 p1 = some r) (H : Ctx w G) : Calls Tryd.prog 92 #[vp0, iV p1] w fun e w' => e = .returned (.bool r) ∧ Holds M0 w w' [] G := by
 have H : Holds M0 w w [] G := zb H
 refine zg (args := [vp0, iV p1]) (n := 45) Tryd.func92 q q q ?_
 unfold impl_partsValidS at h
 refine rR <| qA q q q <| B <| C <| rR <| qM q q q <| za H.ctx (t := ty1) (hp0) u68 q q q <| A q (qt_lss q q) q q ?_
 refine qM q q q ?_
 refine zh 4 15 (.bool ((decide ((List.length p0 : Int) < 1)) || (decide ((List.length p0 : Int) > 3)))) ?_ (fun md hmd hk => ?_)
 rotate_left
 ·obtain ⟨Q, rfl⟩ := Md.seq_of hmd
  rcases btf (decide ((List.length p0 : Int) < 1)) with hc1 | hc1
  ·skip
   refine qS q hc1 q q <| qS q hc1 q q <| qS q hc1 q q <| A q (ze q hc1 q) q q ?_
   exact hk _ (p (by rw [hc1]; rfl) (cfn 3 q (u)))
  skip
  refine qM (J q hc1) q q <| za H.ctx (t := ty1) (hp0) u68 (J q hc1) q q <| A (J q hc1) (qt_gtr q q) q q <| A q (zf q hc1 q) q q ?_
  exact hk _ (p (by rw [hc1]; rfl) (cfn 3 q (u)))
 refine B ?_
 refine Y q (fun hc2 => ?_) (fun hc2 => ?_)
 ·have h := if_t hc2 h
  refine rR <| qA q q q <| B <| W fun a ha => ?_
  obtain rfl := L h
  exact m (ret1 q ha q ⟨q, H⟩)
 have h := if_f hc2 h
 refine y <| rR <| qA q q q <| B <| C <| rR <| qM q q q <| za H.ctx (t := ty1) (hp0) u68 q q q ?_
 refine qM q q q <| B <| g ?_
 obtain ⟨o5, ho6, h⟩ := D h
 refine fun a7 ha8 => zp (I := fun s a w2 => match s with | (s3, s4) => (Fr a 45 [(1, iV p1), (5, iV s3), (16, vp0), (17, iV (List.length p0 : Int)), (18, iV s4)] ∧ Holds M0 w w2 [] G)) (O := fun o e a w2 => match o with | .inl _ => e = .exit 0 ∧ (Fr a 45 [] ∧ Holds M0 w w2 [] G) | .inr q0 => e = .ret ∧ (Fr a 45 [(4, .bool q0)] ∧ Holds M0 w w2 [] G)) ho6 ?_ ?_ ?_
 ·exact ⟨ha8.sub ⟨q, q, q, q, q, trivial⟩, H⟩
 ·clear ha8
  intro s o11 a w9 hs10 hI12
  obtain ⟨s3, s4⟩ := s
  obtain ⟨ha, H13⟩ := hI12
  refine S ?_ ha
  clear ha
  refine rR <| A q (qt_lss q q) q q <| B <| C ?_
  refine Y q (fun hc14 => ?_) (fun hc14 => ?_)
  ·have hs10 := if_t hc14 hs10
   refine y <| C <| g <| C <| Z ?_
   obtain ⟨x15, hx16, hs10⟩ := D hs10
   refine b H13.ctx (hp0) hx16 u68 i67 q q q q (fun b17 off18 cap19 hv20 => ?_)
   obtain ⟨F21, hat22, hdup23⟩ := H13.atN (hp0) hx16 hv20
   refine XL_load_agg (t := ty1) us67 uo67 i67 hat22 q q q (fun cs24 hr25 => ?_)
   obtain ⟨c26, c27, F28, F29, rfl, eF32, hr30, hr31⟩ := hr25
   obtain ⟨rfl, _⟩ := hr30
   obtain ⟨rfl, _⟩ := hr31
   change XL _ _ _ _ _ ((21, .agg #[iV x15.1, iV x15.2]) :: _) _
   refine zq (cs := [iV 0, iV 0]) H13 z67 q q q (fun b33 w34 H35 => ?_)
   refine zl (cs' := [iV x15.1, iV x15.2]) H35 q il67 q q q q q (fun w37 H38 => ?_)
   refine B <| C <| rR <| qF uf67 fi67_0 nz3 q q q ?_
   have hB40 := R H38.p0
   refine l u3 q hB40 q q q q <| qM q q q <| A q (qt_leq q q) q q <| qM q q q ?_
   refine zh 5 31 (.bool ((decide (x15.1 ≤ s3)) || (decide (x15.1 ≥ p1)))) ?_ (fun md hmd hk => ?_)
   rotate_left
   ·obtain ⟨Q, rfl⟩ := Md.seq_of hmd
    rcases btf (decide (x15.1 ≤ s3)) with hc41 | hc41
    ·skip
     refine qS q hc41 q q <| qS q hc41 q q <| qS q hc41 q q <| qS q hc41 q q <| A q (ze q hc41 q) q q ?_
     exact hk _ (p (by rw [hc41]; rfl) (cfn 4 q (u)))
    skip
    refine qF uf67 fi67_0 nz3 (J q hc41) q q ?_
    have hB42 := R H38.p0
    refine l u3 q hB42 q (J q hc41) q q <| qM (J q hc41) q q <| A (J q hc41) (qt_geq q q) q q <| A q (zf q hc41 q) q q ?_
    exact hk _ (p (by rw [hc41]; rfl) (cfn 4 q (u)))
   refine qM q q q ?_
   refine zh 4 36 (.bool (((decide (x15.1 ≤ s3)) || (decide (x15.1 ≥ p1))) || (decide (x15.2 < 1)))) ?_ (fun md hmd hk => ?_)
   rotate_left
   ·obtain ⟨Q, rfl⟩ := Md.seq_of hmd
    rcases btf ((decide (x15.1 ≤ s3)) || (decide (x15.1 ≥ p1))) with hc43 | hc43
    ·skip
     refine qS q hc43 q q <| qS q hc43 q q <| qS q hc43 q q <| A q (ze q hc43 q) q q ?_
     exact hk _ (p (by rw [hc43]; rfl) (cfn 3 q (u)))
    skip
    refine qF uf67 fi67_1 nz3 (J q hc43) q q ?_
    have hB44 := R H38.p0
    refine l u3 q hB44 q (J q hc43) q q <| A (J q hc43) (qt_lss q q) q q <| A q (zf q hc43 q) q q ?_
    exact hk _ (p (by rw [hc43]; rfl) (cfn 3 q (u)))
   refine qM q q q ?_
   refine zh 4 41 (.bool ((((decide (x15.1 ≤ s3)) || (decide (x15.1 ≥ p1))) || (decide (x15.2 < 1))) || (decide (x15.2 > 6)))) ?_ (fun md hmd hk => ?_)
   rotate_left
   ·obtain ⟨Q, rfl⟩ := Md.seq_of hmd
    rcases btf (((decide (x15.1 ≤ s3)) || (decide (x15.1 ≥ p1))) || (decide (x15.2 < 1))) with hc45 | hc45
    ·skip
     refine qS q hc45 q q <| qS q hc45 q q <| qS q hc45 q q <| A q (ze q hc45 q) q q ?_
     exact hk _ (p (by rw [hc45]; rfl) (cfn 3 q (u)))
    skip
    refine qF uf67 fi67_1 nz3 (J q hc45) q q ?_
    have hB46 := R H38.p0
    refine l u3 q hB46 q (J q hc45) q q <| A (J q hc45) (qt_gtr q q) q q <| A q (zf q hc45 q) q q ?_
    exact hk _ (p (by rw [hc45]; rfl) (cfn 3 q (u)))
   refine B ?_
   refine Y q (fun hc47 => ?_) (fun hc47 => ?_)
   ·have hs10 := if_t hc47 hs10
    refine rR <| qA q q q <| B <| W fun a ha => ?_
    obtain rfl := L hs10
    have H48 := H38.q0
    exact m (zj (m (⟨ret_ne, q, ha.sub ⟨q, trivial⟩, H48⟩)))
   have hs10 := if_f hc47 hs10
   refine y <| Z <| qF uf67 fi67_0 nz3 q q q ?_
   have hB49 := R H38.p0
   refine l u3 q hB49 q q q q <| qA q q q <| WL_nil fun a ha => ?_
   refine zi (X (S ?_ ha))
   refine Z <| A q (qt_add q q) q q <| qM q q q <| WL_nil fun a ha => ?_
   obtain rfl := L hs10
   have H50 := H38.q0
   exact ⟨q, ha.sub ⟨q, q, q, q, q, trivial⟩, H50⟩
  have hs10 := if_f hc14 hs10
  refine WP_exit fun a ha => ?_
  obtain rfl := L hs10
  exact zo (⟨exit_ne, q, ha.sub trivial, H13⟩)
 intro e a7 w51 hO52
 rcases o5 with o5 | o5
 ·skip
  obtain ⟨rfl, hO54⟩ := hO52
  obtain ⟨ha, H53⟩ := hO54
  refine zn (X (S ?_ ha))
  refine rR <| qA q q q <| B <| W fun a ha => ?_
  obtain rfl := L h
  exact ret1 q ha q ⟨q, H53⟩
 skip
 obtain ⟨p55, rfl⟩ : ∃ z, z = o5 := ⟨o5, q⟩
 obtain ⟨rfl, hO57⟩ := hO52
 obtain ⟨ha, H56⟩ := hO57
 obtain rfl := L h
 exact zj (m (ret1 q ha q ⟨q, H56⟩))
theorem w_impl_itemValid (w : World) (G : List Res) (B0 : Int) (A1 : Value) (B1 : LP) (C1 : Has G ty1 A1 B1) (B2 : Int) (p1 : Int) (r : Bool) (h : impl_itemValidS B0 B1 B2 p1 = some r) (H : Ctx w G) : Calls Tryd.prog 74 #[.agg #[iV B0, A1, iV B2], iV p1] w fun e w' => e = .returned (.bool r) ∧ Holds M0 w w' [] G := by
 have H : Holds M0 w w [] G := zb H
 refine zg (args := [.agg #[iV B0, A1, iV B2], iV p1]) (n := 34) Tryd.func74 q q q ?_
 unfold impl_itemValidS at h
 refine C <| Z ?_
 refine WL_box (cs := [iV B0, A1, iV B2]) H q q q q (fun b1 w2 H3 => ?_)
 refine qA q q q <| B <| C <| rR <| qF uf70 fi70_2 nz3 q q q ?_
 have hB5 := R H3.p0
 refine l u3 q hB5 q q q q <| A q (qt_lss q q) q q <| qM q q q ?_
 refine zh 4 12 (.bool ((decide (B2 < 0)) || (decide (B2 > 31)))) ?_ (fun md hmd hk => ?_)
 rotate_left
 ·obtain ⟨Q, rfl⟩ := Md.seq_of hmd
  rcases btf (decide (B2 < 0)) with hc6 | hc6
  ·skip
   refine qS q hc6 q q <| qS q hc6 q q <| qS q hc6 q q <| A q (ze q hc6 q) q q ?_
   exact hk _ (p (by rw [hc6]; rfl) (cfn 3 q (u)))
  skip
  refine qF uf70 fi70_2 nz3 (J q hc6) q q ?_
  have hB7 := R H3.p0
  refine l u3 q hB7 q (J q hc6) q q <| A (J q hc6) (qt_gtr q q) q q <| A q (zf q hc6 q) q q ?_
  exact hk _ (p (by rw [hc6]; rfl) (cfn 3 q (u)))
 refine B ?_
 refine Y q (fun hc8 => ?_) (fun hc8 => ?_)
 ·have h := if_t hc8 h
  refine rR <| qA q q q <| B <| W fun a ha => ?_
  obtain rfl := L h
  have H9 := H3.q0
  exact m (ret1 q ha q ⟨q, H9⟩)
 have h := if_f hc8 h
 refine y <| C <| rR <| qF uf70 fi70_0 nz3 q q q ?_
 have hB10 := R H3.p0
 refine l u3 q hB10 q q q q <| A q (qt_eql q q) q q <| B ?_
 refine Y q (fun hc11 => ?_) (fun hc11 => ?_)
 ·have h := if_t hc11 h
  refine rR <| qF uf70 fi70_1 nz68 q q q ?_
  have hB12 := R H3.p0
  refine l u68 q hB12 q q q q <| za H3.ctx (t := ty1) (C1.c) u68 q q q <| A q (qt_eql q q) q q <| qA q q q <| B <| W fun a ha => ?_
  obtain rfl := L h
  have H13 := H3.q0
  exact m (ret1 q ha q ⟨q, H13⟩)
 have h := if_f hc11 h
 refine y <| C <| zk <| qF uf70 fi70_0 nz3 q q q ?_
 have hB14 := R H3.p0
 refine l u3 q hB14 q q q q <| A q (qt_geq q q) q q <| qM q q q ?_
 refine zh 4 27 (.bool ((decide (B0 ≥ 1)) && (decide (B0 ≤ 6)))) ?_ (fun md hmd hk => ?_)
 rotate_left
 ·obtain ⟨K, rfl⟩ := zr hmd
  rcases btf (decide (B0 ≥ 1)) with hc15 | hc15
  ·skip
   refine qF uf70 fi70_0 nz3 (J q hc15) q q ?_
   have hB16 := R H3.p0
   refine l u3 q hB16 q (J q hc15) q q <| A (J q hc15) (qt_leq q q) q q <| A q (ze q hc15 q) q q ?_
   exact hk _ (p (by rw [hc15]; rfl) (cfn 3 q (u)))
  skip
  refine qS q hc15 q q <| qS q hc15 q q <| qS q hc15 q q <| A q (zf q hc15 q) q q ?_
  exact hk _ (p (by rw [hc15]; rfl) (cfn 3 q (u)))
 refine qM q q q ?_
 obtain ⟨b17, hg18, h⟩ := D h
 refine zh 5 33 (.bool b17) ?_ (fun md hmd hk => ?_)
 rotate_left
 ·obtain ⟨K, rfl⟩ := zr hmd
  rcases btf ((decide (B0 ≥ 1)) && (decide (B0 ≤ 6))) with hc19 | hc19
  ·skip
   have hg18 := if_t hc19 hg18
   refine qF uf70 fi70_1 nz68 (J q hc19) q q ?_
   have hB20 := R H3.p0
   refine l u68 q hB20 q (J q hc19) q q <| qM (J q hc19) q q ?_
   obtain ⟨x21, hx22, hg18⟩ := D hg18
   refine QC (J q hc19) q c92 (fun w' hb => w_impl_partsValid w' _ A1 B1 (C1.c) p1 x21 hx22 (H3.grow hb).ctx) (by rfl) <| A q (ze q hc19 q) q q ?_
   exact hk _ (p (vb hg18) (cfn 4 q (u)))
  skip
  refine qS q hc19 q q <| qS q hc19 q q <| qS q hc19 q q <| qS q hc19 q q <| A q (zf q hc19 q) q q ?_
  exact hk _ (p (vb (if_f hc19 hg18)) (cfn 4 q (u)))
 refine qA q q q <| QL_nil fun a ha w23 hb24 => ?_
 have H25 := H3.grow hb24
 refine X (S ?_ ha)
 refine W fun a ha => ?_
 obtain rfl := L h
 have H26 := H25.q0
 exact ret1 q ha q ⟨q, H26⟩
theorem w_impl_ItemsValid (w : World) (G : List Res) (vp0 : Value) (p0 : LI) (hp0 : Has G ty5 vp0 p0) (r : Bool) (h : impl_ItemsValidS p0 = some r) (H : Ctx w G) : Calls Tryd.prog 66 #[vp0] w fun e w' => e = .returned (.bool r) ∧ Holds M0 w w' [] G := by
 have H : Holds M0 w w [] G := zb H
 refine zg (args := [vp0]) (n := 20) Tryd.func66 q q q ?_
 unfold impl_ItemsValidS at h
 refine rR <| qA q q q <| B <| C <| rR <| qM q q q <| za H.ctx (t := ty5) (hp0) u23 q q q <| A q (qt_gtr q q) q q ?_
 refine B ?_
 refine Y q (fun hc1 => ?_) (fun hc1 => ?_)
 ·have h := if_t hc1 h
  refine rR <| qA q q q <| B <| W fun a ha => ?_
  obtain rfl := L h
  exact m (ret1 q ha q ⟨q, H⟩)
 have h := if_f hc1 h
 refine y <| C <| rR <| qM q q q <| za H.ctx (t := ty5) (hp0) u23 q q q <| qM q q q <| B <| g ?_
 obtain ⟨o3, ho4, h⟩ := D h
 refine fun a5 ha6 => zp (I := fun s a w2 => match s with | s2 => (Fr a 20 [(8, vp0), (9, iV (List.length p0 : Int)), (10, iV s2)] ∧ Holds M0 w w2 [] G)) (O := fun o e a w2 => match o with | .inl _ => e = .exit 0 ∧ (Fr a 20 [] ∧ Holds M0 w w2 [] G) | .inr q0 => e = .ret ∧ (Fr a 20 [(2, .bool q0)] ∧ Holds M0 w w2 [] G)) ho4 ?_ ?_ ?_
 ·exact ⟨ha6.sub ⟨q, q, q, trivial⟩, H⟩
 ·clear ha6
  intro s o9 a w7 hs8 hI10
  obtain ⟨s2, rfl⟩ : ∃ z, z = s := ⟨s, q⟩
  obtain ⟨ha, H11⟩ := hI10
  refine S ?_ ha
  clear ha
  refine rR <| A q (qt_lss q q) q q <| B <| C ?_
  refine Y q (fun hc12 => ?_) (fun hc12 => ?_)
  ·have hs8 := if_t hc12 hs8
   refine y <| C <| g <| rR <| qM q q q ?_
   obtain ⟨x13, hx14, hs8⟩ := D hs8
   refine b H11.ctx (hp0) hx14 u23 i70 q q q q (fun b15 off16 cap17 hv18 => ?_)
   obtain ⟨F19, hat20, hdup21⟩ := H11.atN (hp0) hx14 hv18
   refine XL_load_agg (t := ty5) us70 uo70 i70 hat20 q q q (fun cs22 hr23 => ?_)
   obtain ⟨c24, c25, F26, F27, rfl, eF30, hr28, hr29⟩ := hr23
   obtain ⟨rfl, _⟩ := hr28
   obtain ⟨c31, c32, F33, F34, rfl, eF37, hr35, hr36⟩ := hr29
   obtain ⟨v38, rfl, hr39⟩ := Rep.sl_inv hr35
   obtain ⟨rfl, _⟩ := hr36
   have H40 : Holds _ w w7 [.ro ty1 v38 x13.2.1] G := hdup21 [.ro ty1 v38 x13.2.1] ⟨⟨_, _, _, _, q, hr39, (fun k h => (fun k h => (fun _ h => h) k (by rw [eF30]; exact zx _ h)) k (by rw [eF37]; exact List.mem_append_left _ h))⟩, trivial⟩
   change XL _ _ _ _ _ ((14, .agg #[iV x13.1, v38, iV x13.2.2]) :: _) _
   refine zq (cs := [iV 0, nS, iV 0]) H40 z70 q q q (fun b41 w42 H43 => ?_)
   refine qA q q q ?_
   refine zl (cs' := [iV x13.1, v38, iV x13.2.2]) H43 q il70 q (T q (T (H43.ctx.sliceOne hR1) (T q q))) q q q (fun w45 H46 => ?_)
   refine B <| C <| zk ?_
   have hB48 := R H46.p0
   refine zm (cs := [iV x13.1, v38, iV x13.2.2]) us70 uo70 il70 hB48 q q q ?_
   change XL _ _ _ _ _ ((15, .agg #[iV x13.1, v38, iV x13.2.2]) :: _) _
   refine qM q q q ?_
   obtain ⟨x49, hx50, hs8⟩ := D hs8
   refine QC q q c74 (fun w' hb => w_impl_itemValid w' _ x13.1 v38 x13.2.1 hR1 x13.2.2 s2 x49 hx50 (H46.grow hb).ctx) (by rfl) <| A q (qt_not q) q q <| QL_nil fun a ha w51 hb52 => ?_
   have H53 := H46.grow hb52
   refine X (S ?_ ha)
   refine Y q (fun hc54 => ?_) (fun hc54 => ?_)
   ·have hs8 := if_t hc54 hs8
    refine rR <| qA q q q <| B <| W fun a ha => ?_
    obtain rfl := L hs8
    have H55 := H53.q0.q0
    exact zj (m (⟨ret_ne, q, ha.sub ⟨q, trivial⟩, H55⟩))
   have hs8 := if_f hc54 hs8
   refine WP_skip fun a ha => ?_
   refine zi (X (S ?_ ha))
   refine Z <| A q (qt_add q q) q q <| qM q q q <| WL_nil fun a ha => ?_
   obtain rfl := L hs8
   have H56 := H53.q0.q0
   exact ⟨q, ha.sub ⟨q, q, q, trivial⟩, H56⟩
  have hs8 := if_f hc12 hs8
  refine WP_exit fun a ha => ?_
  obtain rfl := L hs8
  exact zo (⟨exit_ne, q, ha.sub trivial, H11⟩)
 intro e a5 w57 hO58
 rcases o3 with o3 | o3
 ·skip
  obtain ⟨rfl, hO60⟩ := hO58
  obtain ⟨ha, H59⟩ := hO60
  refine zn (X (S ?_ ha))
  refine rR <| qA q q q <| B <| W fun a ha => ?_
  obtain rfl := L h
  exact ret1 q ha q ⟨q, H59⟩
 skip
 obtain ⟨p61, rfl⟩ : ∃ z, z = o3 := ⟨o3, q⟩
 obtain ⟨rfl, hO63⟩ := hO58
 obtain ⟨ha, H62⟩ := hO63
 obtain rfl := L h
 exact zj (m (ret1 q ha q ⟨q, H62⟩))
theorem w_impl_amountsOk (w : World) (G : List Res) (vp0 : Value) (p0 : List Int) (hp0 : Has G tI vp0 p0) (p1 : Int) (p2 : Int) (r : Bool) (h : impl_amountsOkS p0 p1 p2 = some r) (H : Ctx w G) : Calls Tryd.prog 34 #[vp0, iV p1, iV p2] w fun e w' => e = .returned (.bool r) ∧ Holds M0 w w' [] G := by
 have H : Holds M0 w w [] G := zb H
 refine zg (args := [vp0, iV p1, iV p2]) (n := 27) Tryd.func34 q q q ?_
 unfold impl_amountsOkS at h
 refine rR <| qA q q q <| B <| C <| rR <| qM q q q <| za H.ctx (t := tI) (hp0) u24 q q q <| qM q q q ?_
 refine A q (qt_neq q q) q q <| B ?_
 refine Y q (fun hc1 => ?_) (fun hc1 => ?_)
 ·have h := if_t hc1 h
  refine rR <| qA q q q <| B <| W fun a ha => ?_
  obtain rfl := L h
  exact m (ret1 q ha q ⟨q, H⟩)
 have h := if_f hc1 h
 refine y <| C <| rR <| qM q q q <| za H.ctx (t := tI) (hp0) u24 q q q <| qM q q q <| B <| g ?_
 obtain ⟨o3, ho4, h⟩ := D h
 refine fun a5 ha6 => zp (I := fun s a w2 => match s with | s2 => (Fr a 27 [(2, iV p2), (13, vp0), (14, iV (List.length p0 : Int)), (15, iV s2)] ∧ Holds M0 w w2 [] G)) (O := fun o e a w2 => match o with | .inl _ => e = .exit 0 ∧ (Fr a 27 [] ∧ Holds M0 w w2 [] G) | .inr q0 => e = .ret ∧ (Fr a 27 [(6, .bool q0)] ∧ Holds M0 w w2 [] G)) ho4 ?_ ?_ ?_
 ·exact ⟨ha6.sub ⟨q, q, q, q, trivial⟩, H⟩
 ·clear ha6
  intro s o9 a w7 hs8 hI10
  obtain ⟨s2, rfl⟩ : ∃ z, z = s := ⟨s, q⟩
  obtain ⟨ha, H11⟩ := hI10
  refine S ?_ ha
  clear ha
  refine rR <| A q (qt_lss q q) q q <| B <| C ?_
  refine Y q (fun hc12 => ?_) (fun hc12 => ?_)
  ·have hs8 := if_t hc12 hs8
   refine y <| C <| g <| C <| Z ?_
   obtain ⟨x13, hx14, hs8⟩ := D hs8
   refine b H11.ctx (hp0) hx14 u24 i3 q q q q (fun b15 off16 cap17 hv18 => ?_)
   obtain ⟨F19, hat20, hdup21⟩ := H11.at (hp0) hx14 hv18
   refine zt (k := .i64) u3 q hat20 q q q <| qA q q q <| rN <| qM q q q <| A q (qt_lss q q) q q <| qM q q q ?_
   refine zh 4 25 (.bool ((decide (x13 < 0)) || (decide (x13 > p2)))) ?_ (fun md hmd hk => ?_)
   rotate_left
   ·obtain ⟨Q, rfl⟩ := Md.seq_of hmd
    rcases btf (decide (x13 < 0)) with hc22 | hc22
    ·skip
     refine qS q hc22 q q <| qS q hc22 q q <| qS q hc22 q q <| A q (ze q hc22 q) q q ?_
     exact hk _ (p (by rw [hc22]; rfl) (cfn 3 q (u)))
    skip
    refine qM (J q hc22) q q <| qM (J q hc22) q q <| A (J q hc22) (qt_gtr q q) q q <| A q (zf q hc22 q) q q ?_
    exact hk _ (p (by rw [hc22]; rfl) (cfn 3 q (u)))
   refine B ?_
   refine Y q (fun hc23 => ?_) (fun hc23 => ?_)
   ·have hs8 := if_t hc23 hs8
    refine rR <| qA q q q <| B <| W fun a ha => ?_
    obtain rfl := L hs8
    exact zj (m (⟨ret_ne, q, ha.sub ⟨q, trivial⟩, H11⟩))
   have hs8 := if_f hc23 hs8
   refine WP_skip fun a ha => ?_
   refine zi (X (S ?_ ha))
   refine Z <| A q (qt_add q q) q q <| qM q q q <| WL_nil fun a ha => ?_
   obtain rfl := L hs8
   exact ⟨q, ha.sub ⟨q, q, q, q, trivial⟩, H11⟩
  have hs8 := if_f hc12 hs8
  refine WP_exit fun a ha => ?_
  obtain rfl := L hs8
  exact zo (⟨exit_ne, q, ha.sub trivial, H11⟩)
 intro e a5 w24 hO25
 rcases o3 with o3 | o3
 ·skip
  obtain ⟨rfl, hO27⟩ := hO25
  obtain ⟨ha, H26⟩ := hO27
  refine zn (X (S ?_ ha))
  refine rR <| qA q q q <| B <| W fun a ha => ?_
  obtain rfl := L h
  exact ret1 q ha q ⟨q, H26⟩
 skip
 obtain ⟨p28, rfl⟩ : ∃ z, z = o3 := ⟨o3, q⟩
 obtain ⟨rfl, hO30⟩ := hO25
 obtain ⟨ha, H29⟩ := hO30
 obtain rfl := L h
 exact zj (m (ret1 q ha q ⟨q, H29⟩))
theorem w_impl_PricesValid (w : World) (G : List Res) (vp0 : Value) (p0 : LI) (hp0 : Has G ty5 vp0 p0) (vp1 : Value) (p1 : List Int) (hp1 : Has G tI vp1 p1) (r : Bool) (h : impl_PricesValidS p0 p1 = some r) (H : Ctx w G) : Calls Tryd.prog 33 #[vp0, vp1] w fun e w' => e = .returned (.bool r) ∧ Holds M0 w w' [] G := by
 have H : Holds M0 w w [] G := zb H
 refine zg (args := [vp0, vp1]) (n := 13) Tryd.func33 q q q ?_
 unfold impl_PricesValidS at h
 refine rR <| qA q q q <| B <| C <| zk <| qM q q q ?_
 obtain ⟨x1, hx2, h⟩ := D h
 refine QC q q c66 (fun w' hb => w_impl_ItemsValid w' G vp0 p0 (hp0) x1 hx2 (H.grow hb).ctx) (by rfl) <| qM q q q ?_
 obtain ⟨b3, hg4, h⟩ := D h
 refine zh 5 12 (.bool b3) ?_ (fun md hmd hk => ?_)
 rotate_left
 ·obtain ⟨K, rfl⟩ := zr hmd
  rcases btf x1 with hc5 | hc5
  ·skip
   have hg4 := if_t hc5 hg4
   refine qM (J q hc5) q q <| qM (J q hc5) q q <| za H.ctx (t := ty5) (hp0) u23 (J q hc5) q q ?_
   obtain ⟨x6, hx7, hg4⟩ := D hg4
   refine QC (J q hc5) q c34 (fun w' hb => w_impl_amountsOk w' G vp1 p1 (hp1) (List.length p0 : Int) 20 x6 hx7 (H.grow hb).ctx) (by rfl) <| A q (ze q hc5 q) q q ?_
   exact hk _ (p (vb hg4) (cfn 4 q (u)))
  skip
  refine qS q hc5 q q <| qS q hc5 q q <| qS q hc5 q q <| qS q hc5 q q <| A q (zf q hc5 q) q q ?_
  exact hk _ (p (vb (if_f hc5 hg4)) (cfn 4 q (u)))
 refine qA q q q <| QL_nil fun a ha w8 hb9 => ?_
 have H10 := H.grow hb9
 refine X (S ?_ ha)
 refine W fun a ha => ?_
 obtain rfl := L h
 exact ret1 q ha q ⟨q, H10⟩
theorem w_impl_finished (w : World) (G : List Res) (B0 : Int) (B1 : Int) (r : Bool) (h : impl_finishedS B0 B1 = some r) (H : Ctx w G) : Calls Tryd.prog 103 #[.agg #[iV B0, iV B1]] w fun e w' => e = .returned (.bool r) ∧ Holds M0 w w' [] G := by
 have H : Holds M0 w w [] G := zb H
 refine zg (args := [.agg #[iV B0, iV B1]]) (n := 11) Tryd.func103 q q q ?_
 unfold impl_finishedS at h
 refine C <| Z ?_
 refine WL_box (cs := [iV B0, iV B1]) H q q q q (fun b1 w2 H3 => ?_)
 refine qA q q q <| rN <| qF uf40 fi40_1 nz3 q q q ?_
 have hB5 := R H3.p0
 refine l u3 q hB5 q q q q <| A q (qt_eql q q) q q <| qM q q q ?_
 refine zh 4 10 (.bool ((B1 == 3) || (B1 == 4))) ?_ (fun md hmd hk => ?_)
 rotate_left
 ·obtain ⟨Q, rfl⟩ := Md.seq_of hmd
  rcases btf (B1 == 3) with hc6 | hc6
  ·skip
   refine qS q hc6 q q <| qS q hc6 q q <| qS q hc6 q q <| A q (ze q hc6 q) q q ?_
   exact hk _ (p (by rw [hc6]; rfl) (cfn 3 q (u)))
  skip
  refine qF uf40 fi40_1 nz3 (J q hc6) q q ?_
  have hB7 := R H3.p0
  refine l u3 q hB7 q (J q hc6) q q <| A (J q hc6) (qt_eql q q) q q <| A q (zf q hc6 q) q q ?_
  exact hk _ (p (by rw [hc6]; rfl) (cfn 3 q (u)))
 refine qA q q q <| B <| W fun a ha => ?_
 obtain rfl := L h
 have H8 := H3.q0
 exact ret1 q ha q ⟨q, H8⟩
theorem w_impl_reached (w : World) (G : List Res) (vp0 : Value) (p0 : LP) (hp0 : Has G ty1 vp0 p0) (p1 : Int) (r : Bool) (h : impl_reachedS p0 p1 = some r) (H : Ctx w G) : Calls Tryd.prog 87 #[vp0, iV p1] w fun e w' => e = .returned (.bool r) ∧ Holds M0 w w' [] G := by
 have H : Holds M0 w w [] G := zb H
 refine zg (args := [vp0, iV p1]) (n := 23) Tryd.func87 q q q ?_
 unfold impl_reachedS at h
 refine rR <| qA q q q <| B <| C <| rR <| qM q q q <| za H.ctx (t := ty1) (hp0) u31 q q q <| qM q q q ?_
 refine B <| g ?_
 obtain ⟨o2, ho3, h⟩ := D h
 refine fun a4 ha5 => zp (I := fun s a w2 => match s with | s1 => (Fr a 23 [(1, iV p1), (7, vp0), (8, iV (List.length p0 : Int)), (9, iV s1)] ∧ Holds M0 w w2 [] G)) (O := fun o e a w2 => match o with | .inl _ => e = .exit 0 ∧ (Fr a 23 [] ∧ Holds M0 w w2 [] G) | .inr q0 => e = .ret ∧ (Fr a 23 [(4, .bool q0)] ∧ Holds M0 w w2 [] G)) ho3 ?_ ?_ ?_
 ·exact ⟨ha5.sub ⟨q, q, q, q, trivial⟩, H⟩
 ·clear ha5
  intro s o8 a w6 hs7 hI9
  obtain ⟨s1, rfl⟩ : ∃ z, z = s := ⟨s, q⟩
  obtain ⟨ha, H10⟩ := hI9
  refine S ?_ ha
  clear ha
  refine rR <| A q (qt_lss q q) q q <| B <| C ?_
  refine Y q (fun hc11 => ?_) (fun hc11 => ?_)
  ·have hs7 := if_t hc11 hs7
   refine y <| C <| g <| C <| Z ?_
   obtain ⟨x12, hx13, hs7⟩ := D hs7
   refine b H10.ctx (hp0) hx13 u31 i40 q q q q (fun b14 off15 cap16 hv17 => ?_)
   obtain ⟨F18, hat19, hdup20⟩ := H10.atN (hp0) hx13 hv17
   refine XL_load_agg (t := ty1) us40 uo40 i40 hat19 q q q (fun cs21 hr22 => ?_)
   obtain ⟨c23, c24, F25, F26, rfl, eF29, hr27, hr28⟩ := hr22
   obtain ⟨rfl, _⟩ := hr27
   obtain ⟨rfl, _⟩ := hr28
   change XL _ _ _ _ _ ((12, .agg #[iV x12.1, iV x12.2]) :: _) _
   refine zq (cs := [iV 0, iV 0]) H10 z40 q q q (fun b30 w31 H32 => ?_)
   refine zl (cs' := [iV x12.1, iV x12.2]) H32 q il40 q q q q q (fun w34 H35 => ?_)
   refine B <| C <| zk <| qF uf40 fi40_0 nz3 q q q ?_
   have hB37 := R H35.p0
   refine l u3 q hB37 q q q q <| qM q q q <| A q (qt_lss q q) q q <| qM q q q ?_
   obtain ⟨b38, hg39, hs7⟩ := D hs7
   refine zh 4 21 (.bool b38) ?_ (fun md hmd hk => ?_)
   rotate_left
   ·obtain ⟨K, rfl⟩ := zr hmd
    rcases btf (decide (x12.1 < p1)) with hc40 | hc40
    ·skip
     have hg39 := if_t hc40 hg39
     have hB41 := R H35.p0
     refine zm (cs := [iV x12.1, iV x12.2]) us40 uo40 il40 hB41 (J q hc40) q q ?_
     change XL _ _ _ _ _ ((18, .agg #[iV x12.1, iV x12.2]) :: _) _
     obtain ⟨x42, hx43, hg39⟩ := D hg39
     refine QC (J q hc40) q c103 (fun w' hb => w_impl_finished w' _ x12.1 x12.2 x42 hx43 (H35.grow hb).ctx) (by rfl) <| A (J q hc40) (qt_not q) q q <| A q (ze q hc40 q) q q ?_
     exact hk _ (p (vb hg39) (cfn 3 q (u)))
    skip
    refine qS q hc40 q q <| qS q hc40 q q <| qS q hc40 q q <| A q (zf q hc40 q) q q ?_
    exact hk _ (p (vb (if_f hc40 hg39)) (cfn 3 q (u)))
   refine QL_nil fun a ha w44 hb45 => ?_
   have H46 := H35.grow hb45
   refine X (S ?_ ha)
   refine Y q (fun hc47 => ?_) (fun hc47 => ?_)
   ·have hs7 := if_t hc47 hs7
    refine rR <| qA q q q <| B <| W fun a ha => ?_
    obtain rfl := L hs7
    have H48 := H46.q0
    exact zj (m (⟨ret_ne, q, ha.sub ⟨q, trivial⟩, H48⟩))
   have hs7 := if_f hc47 hs7
   refine WP_skip fun a ha => ?_
   refine zi (X (S ?_ ha))
   refine Z <| A q (qt_add q q) q q <| qM q q q <| WL_nil fun a ha => ?_
   obtain rfl := L hs7
   have H49 := H46.q0
   exact ⟨q, ha.sub ⟨q, q, q, q, trivial⟩, H49⟩
  have hs7 := if_f hc11 hs7
  refine WP_exit fun a ha => ?_
  obtain rfl := L hs7
  exact zo (⟨exit_ne, q, ha.sub trivial, H10⟩)
 intro e a4 w50 hO51
 rcases o2 with o2 | o2
 ·skip
  obtain ⟨rfl, hO53⟩ := hO51
  obtain ⟨ha, H52⟩ := hO53
  refine zn (X (S ?_ ha))
  refine rR <| qA q q q <| B <| W fun a ha => ?_
  obtain rfl := L h
  exact ret1 q ha q ⟨q, H52⟩
 skip
 obtain ⟨p54, rfl⟩ : ∃ z, z = o2 := ⟨o2, q⟩
 obtain ⟨rfl, hO56⟩ := hO51
 obtain ⟨ha, H55⟩ := hO56
 obtain rfl := L h
 exact zj (m (ret1 q ha q ⟨q, H55⟩))
theorem w_impl_TicketValid (w : World) (G : List Res) (vp0 : Value) (p0 : LP) (hp0 : Has G ty1 vp0 p0) (r : Bool) (h : impl_TicketValidS p0 = some r) (H : Ctx w G) : Calls Tryd.prog 67 #[vp0] w fun e w' => e = .returned (.bool r) ∧ Holds M0 w w' [] G := by
 have H : Holds M0 w w [] G := zb H
 refine zg (args := [vp0]) (n := 57) Tryd.func67 q q q ?_
 unfold impl_TicketValidS at h
 refine rR <| qA q q q <| B <| C <| rR <| qM q q q <| za H.ctx (t := ty1) (hp0) u31 q q q <| A q (qt_gtr q q) q q ?_
 refine B ?_
 refine Y q (fun hc1 => ?_) (fun hc1 => ?_)
 ·have h := if_t hc1 h
  refine rR <| qA q q q <| B <| W fun a ha => ?_
  obtain rfl := L h
  exact m (ret1 q ha q ⟨q, H⟩)
 have h := if_f hc1 h
 refine y <| C <| rR <| qM q q q <| za H.ctx (t := ty1) (hp0) u31 q q q <| qM q q q <| B <| g ?_
 obtain ⟨o3, ho4, h⟩ := D h
 refine fun a5 ha6 => zp (I := fun s a w2 => match s with | s2 => (Fr a 57 [(0, vp0), (10, vp0), (11, iV (List.length p0 : Int)), (12, iV s2)] ∧ Holds M0 w w2 [] G)) (O := fun o e a w2 => match o with | .inl _ => e = .exit 0 ∧ (Fr a 57 [(0, vp0)] ∧ Holds M0 w w2 [] G) | .inr q0 => e = .ret ∧ (Fr a 57 [(2, .bool q0)] ∧ Holds M0 w w2 [] G)) ho4 ?_ ?_ ?_
 ·exact ⟨ha6.sub ⟨q, q, q, q, trivial⟩, H⟩
 ·clear ha6
  intro s o9 a w7 hs8 hI10
  obtain ⟨s2, rfl⟩ : ∃ z, z = s := ⟨s, q⟩
  obtain ⟨ha, H11⟩ := hI10
  refine S ?_ ha
  clear ha
  refine rR <| A q (qt_lss q q) q q <| B <| C ?_
  refine Y q (fun hc12 => ?_) (fun hc12 => ?_)
  ·have hs8 := if_t hc12 hs8
   refine y <| C <| g <| C <| Z ?_
   obtain ⟨x13, hx14, hs8⟩ := D hs8
   refine b H11.ctx (hp0) hx14 u31 i40 q q q q (fun b15 off16 cap17 hv18 => ?_)
   obtain ⟨F19, hat20, hdup21⟩ := H11.atN (hp0) hx14 hv18
   refine XL_load_agg (t := ty1) us40 uo40 i40 hat20 q q q (fun cs22 hr23 => ?_)
   obtain ⟨c24, c25, F26, F27, rfl, eF30, hr28, hr29⟩ := hr23
   obtain ⟨rfl, _⟩ := hr28
   obtain ⟨rfl, _⟩ := hr29
   change XL _ _ _ _ _ ((15, .agg #[iV x13.1, iV x13.2]) :: _) _
   refine zq (cs := [iV 0, iV 0]) H11 z40 q q q (fun b31 w32 H33 => ?_)
   refine zl (cs' := [iV x13.1, iV x13.2]) H33 q il40 q q q q q (fun w35 H36 => ?_)
   refine rN <| qF uf40 fi40_0 nz3 q q q ?_
   have hB38 := R H36.p0
   refine l u3 q hB38 q q q q <| A q (qt_lss q q) q q <| qM q q q ?_
   refine zh 4 23 (.bool ((decide (x13.1 < 0)) || (decide (x13.1 > 2)))) ?_ (fun md hmd hk => ?_)
   rotate_left
   ·obtain ⟨Q, rfl⟩ := Md.seq_of hmd
    rcases btf (decide (x13.1 < 0)) with hc39 | hc39
    ·skip
     refine qS q hc39 q q <| qS q hc39 q q <| qS q hc39 q q <| A q (ze q hc39 q) q q ?_
     exact hk _ (p (by rw [hc39]; rfl) (cfn 3 q (u)))
    skip
    refine qF uf40 fi40_0 nz3 (J q hc39) q q ?_
    have hB40 := R H36.p0
    refine l u3 q hB40 q (J q hc39) q q <| A (J q hc39) (qt_gtr q q) q q <| A q (zf q hc39 q) q q ?_
    exact hk _ (p (by rw [hc39]; rfl) (cfn 3 q (u)))
   refine qM q q q ?_
   refine zh 4 28 (.bool (((decide (x13.1 < 0)) || (decide (x13.1 > 2))) || (decide (x13.2 < 0)))) ?_ (fun md hmd hk => ?_)
   rotate_left
   ·obtain ⟨Q, rfl⟩ := Md.seq_of hmd
    rcases btf ((decide (x13.1 < 0)) || (decide (x13.1 > 2))) with hc41 | hc41
    ·skip
     refine qS q hc41 q q <| qS q hc41 q q <| qS q hc41 q q <| A q (ze q hc41 q) q q ?_
     exact hk _ (p (by rw [hc41]; rfl) (cfn 3 q (u)))
    skip
    refine qF uf40 fi40_1 nz3 (J q hc41) q q ?_
    have hB42 := R H36.p0
    refine l u3 q hB42 q (J q hc41) q q <| A (J q hc41) (qt_lss q q) q q <| A q (zf q hc41 q) q q ?_
    exact hk _ (p (by rw [hc41]; rfl) (cfn 3 q (u)))
   refine qM q q q ?_
   refine zh 4 33 (.bool ((((decide (x13.1 < 0)) || (decide (x13.1 > 2))) || (decide (x13.2 < 0))) || (decide (x13.2 > 4)))) ?_ (fun md hmd hk => ?_)
   rotate_left
   ·obtain ⟨Q, rfl⟩ := Md.seq_of hmd
    rcases btf (((decide (x13.1 < 0)) || (decide (x13.1 > 2))) || (decide (x13.2 < 0))) with hc43 | hc43
    ·skip
     refine qS q hc43 q q <| qS q hc43 q q <| qS q hc43 q q <| A q (ze q hc43 q) q q ?_
     exact hk _ (p (by rw [hc43]; rfl) (cfn 3 q (u)))
    skip
    refine qF uf40 fi40_1 nz3 (J q hc43) q q ?_
    have hB44 := R H36.p0
    refine l u3 q hB44 q (J q hc43) q q <| A (J q hc43) (qt_gtr q q) q q <| A q (zf q hc43 q) q q ?_
    exact hk _ (p (by rw [hc43]; rfl) (cfn 3 q (u)))
   refine B ?_
   refine Y q (fun hc45 => ?_) (fun hc45 => ?_)
   ·have hs8 := if_t hc45 hs8
    refine rR <| qA q q q <| B <| W fun a ha => ?_
    obtain rfl := L hs8
    have H46 := H36.q0
    exact zj (m (⟨ret_ne, q, ha.sub ⟨q, trivial⟩, H46⟩))
   have hs8 := if_f hc45 hs8
   refine WP_skip fun a ha => ?_
   refine zi (X (S ?_ ha))
   refine Z <| A q (qt_add q q) q q <| qM q q q <| WL_nil fun a ha => ?_
   obtain rfl := L hs8
   have H47 := H36.q0
   exact ⟨q, ha.sub ⟨q, q, q, q, trivial⟩, H47⟩
  have hs8 := if_f hc12 hs8
  refine WP_exit fun a ha => ?_
  obtain rfl := L hs8
  exact zo (⟨exit_ne, q, ha.sub ⟨q, trivial⟩, H11⟩)
 intro e a5 w48 hO49
 rcases o3 with o3 | o3
 ·skip
  obtain ⟨rfl, hO51⟩ := hO49
  obtain ⟨ha, H50⟩ := hO51
  refine zn (X (S ?_ ha))
  refine C <| rR <| qM q q q <| za H50.ctx (t := ty1) (hp0) u31 q q q <| qM q q q <| B <| g ?_
  obtain ⟨o53, ho54, h⟩ := D h
  refine fun a55 ha56 => zp (I := fun s a w2 => match s with | s52 => (Fr a 57 [(0, vp0), (35, vp0), (36, iV (List.length p0 : Int)), (37, iV s52)] ∧ Holds M0 w w2 [] G)) (O := fun o e a w2 => match o with | .inl _ => e = .exit 2 ∧ (Fr a 57 [] ∧ Holds M0 w w2 [] G) | .inr q0 => e = .ret ∧ (Fr a 57 [(2, .bool q0)] ∧ Holds M0 w w2 [] G)) ho54 ?_ ?_ ?_
  ·exact ⟨ha56.sub ⟨q, q, q, q, trivial⟩, H50⟩
  ·clear ha56
   intro s o59 a w57 hs58 hI60
   obtain ⟨s52, rfl⟩ : ∃ z, z = s := ⟨s, q⟩
   obtain ⟨ha, H61⟩ := hI60
   refine S ?_ ha
   clear ha
   refine rR <| A q (qt_lss q q) q q <| B <| C ?_
   refine Y q (fun hc62 => ?_) (fun hc62 => ?_)
   ·have hs58 := if_t hc62 hs58
    refine y <| C <| g <| C <| Z ?_
    obtain ⟨x63, hx64, hs58⟩ := D hs58
    refine b H61.ctx (hp0) hx64 u31 i40 q q q q (fun b65 off66 cap67 hv68 => ?_)
    obtain ⟨F69, hat70, hdup71⟩ := H61.atN (hp0) hx64 hv68
    refine XL_load_agg (t := ty1) us40 uo40 i40 hat70 q q q (fun cs72 hr73 => ?_)
    obtain ⟨c74, c75, F76, F77, rfl, eF80, hr78, hr79⟩ := hr73
    obtain ⟨rfl, _⟩ := hr78
    obtain ⟨rfl, _⟩ := hr79
    change XL _ _ _ _ _ ((40, .agg #[iV x63.1, iV x63.2]) :: _) _
    refine zq (cs := [iV 0, iV 0]) H61 z40 q q q (fun b81 w82 H83 => ?_)
    refine zl (cs' := [iV x63.1, iV x63.2]) H83 q il40 q q q q q (fun w85 H86 => ?_)
    refine B <| C <| zk <| qF uf40 fi40_1 nz3 q q q ?_
    have hB88 := R H86.p0
    refine l u3 q hB88 q q q q <| A q (qt_neq q q) q q <| qM q q q ?_
    refine zh 4 48 (.bool ((x63.2 != 0) && (x63.2 != 4))) ?_ (fun md hmd hk => ?_)
    rotate_left
    ·obtain ⟨K, rfl⟩ := zr hmd
     rcases btf (x63.2 != 0) with hc89 | hc89
     ·skip
      refine qF uf40 fi40_1 nz3 (J q hc89) q q ?_
      have hB90 := R H86.p0
      refine l u3 q hB90 q (J q hc89) q q <| A (J q hc89) (qt_neq q q) q q <| A q (ze q hc89 q) q q ?_
      exact hk _ (p (by rw [hc89]; rfl) (cfn 3 q (u)))
     skip
     refine qS q hc89 q q <| qS q hc89 q q <| qS q hc89 q q <| A q (zf q hc89 q) q q ?_
     exact hk _ (p (by rw [hc89]; rfl) (cfn 3 q (u)))
    refine qM q q q ?_
    obtain ⟨b91, hg92, hs58⟩ := D hs58
    refine zh 6 55 (.bool b91) ?_ (fun md hmd hk => ?_)
    rotate_left
    ·obtain ⟨K, rfl⟩ := zr hmd
     rcases btf ((x63.2 != 0) && (x63.2 != 4)) with hc93 | hc93
     ·skip
      have hg92 := if_t hc93 hg92
      refine qM (J q hc93) q q <| qF uf40 fi40_0 nz3 (J q hc93) q q ?_
      have hB94 := R H86.p0
      refine l u3 q hB94 q (J q hc93) q q ?_
      obtain ⟨x95, hx96, hg92⟩ := D hg92
      refine QC (J q hc93) q c87 (fun w' hb => w_impl_reached w' _ vp0 p0 (hp0.c) x63.1 x95 hx96 (H86.grow hb).ctx) (by rfl) <| A (J q hc93) (qt_not q) q q <| A q (ze q hc93 q) q q ?_
      exact hk _ (p (vb hg92) (cfn 5 q (u)))
     skip
     refine qS q hc93 q q <| qS q hc93 q q <| qS q hc93 q q <| qS q hc93 q q <| qS q hc93 q q <| A q (zf q hc93 q) q q ?_
     exact hk _ (p (vb (if_f hc93 hg92)) (cfn 5 q (u)))
    refine QL_nil fun a ha w97 hb98 => ?_
    have H99 := H86.grow hb98
    refine X (S ?_ ha)
    refine Y q (fun hc100 => ?_) (fun hc100 => ?_)
    ·have hs58 := if_t hc100 hs58
     refine rR <| qA q q q <| B <| W fun a ha => ?_
     obtain rfl := L hs58
     have H101 := H99.q0
     exact zj (m (⟨ret_ne, q, ha.sub ⟨q, trivial⟩, H101⟩))
    have hs58 := if_f hc100 hs58
    refine WP_skip fun a ha => ?_
    refine zi (X (S ?_ ha))
    refine Z <| A q (qt_add q q) q q <| qM q q q <| WL_nil fun a ha => ?_
    obtain rfl := L hs58
    have H102 := H99.q0
    exact ⟨q, ha.sub ⟨q, q, q, q, trivial⟩, H102⟩
   have hs58 := if_f hc62 hs58
   refine WP_exit fun a ha => ?_
   obtain rfl := L hs58
   exact zo (⟨exit_ne, q, ha.sub trivial, H61⟩)
  intro e a55 w103 hO104
  rcases o53 with o53 | o53
  ·skip
   obtain ⟨rfl, hO106⟩ := hO104
   obtain ⟨ha, H105⟩ := hO106
   refine zn (X (S ?_ ha))
   refine rR <| qA q q q <| B <| W fun a ha => ?_
   obtain rfl := L h
   exact ret1 q ha q ⟨q, H105⟩
  skip
  obtain ⟨p107, rfl⟩ : ∃ z, z = o53 := ⟨o53, q⟩
  obtain ⟨rfl, hO109⟩ := hO104
  obtain ⟨ha, H108⟩ := hO109
  obtain rfl := L h
  exact zj (m (ret1 q ha q ⟨q, H108⟩))
 skip
 obtain ⟨p110, rfl⟩ : ∃ z, z = o3 := ⟨o3, q⟩
 obtain ⟨rfl, hO112⟩ := hO49
 obtain ⟨ha, H111⟩ := hO112
 obtain rfl := L h
 exact zj (m (ret1 q ha q ⟨q, H111⟩))
theorem w_impl_UsesOf (w : World) (G : List Res) (vp0 : Value) (p0 : LI) (hp0 : Has G ty5 vp0 p0) (p1 : Int) (r : Int) (h : impl_UsesOfS p0 p1 = some r) (H : Ctx w G) : Calls Tryd.prog 43 #[vp0, iV p1] w fun e w' => e = .returned (iV r) ∧ Holds M0 w w' [] G := by
 have H : Holds M0 w w [] G := zb H
 refine zg (args := [vp0, iV p1]) (n := 51) Tryd.func43 q q q ?_
 unfold impl_UsesOfS at h
 refine rR <| qA q q q <| B <| C <| C <| zk <| qM q q q ?_
 obtain ⟨x1, hx2, h⟩ := D h
 refine QC q q c66 (fun w' hb => w_impl_ItemsValid w' G vp0 p0 (hp0) x1 hx2 (H.grow hb).ctx) (by rfl) <| A q (qt_not q) q q <| qM q q q ?_
 refine zh 3 15 (.bool ((!x1) || (decide (p1 < 0)))) ?_ (fun md hmd hk => ?_)
 rotate_left
 ·obtain ⟨K, rfl⟩ := zr hmd
  rcases btf (!x1) with hc3 | hc3
  ·skip
   refine qS q hc3 q q <| qS q hc3 q q <| A q (ze q hc3 q) q q ?_
   exact hk _ (p (by rw [hc3]; rfl) (cfn 2 q (u)))
  skip
  refine qM (J q hc3) q q <| A (J q hc3) (qt_lss q q) q q <| A q (zf q hc3 q) q q ?_
  exact hk _ (p (by rw [hc3]; rfl) (cfn 2 q (u)))
 refine qM q q q ?_
 refine zh 5 21 (.bool (((!x1) || (decide (p1 < 0))) || (decide (p1 ≥ (List.length p0 : Int))))) ?_ (fun md hmd hk => ?_)
 rotate_left
 ·obtain ⟨K, rfl⟩ := zr hmd
  rcases btf ((!x1) || (decide (p1 < 0))) with hc4 | hc4
  ·skip
   refine qS q hc4 q q <| qS q hc4 q q <| qS q hc4 q q <| qS q hc4 q q <| A q (ze q hc4 q) q q ?_
   exact hk _ (p (by rw [hc4]; rfl) (cfn 4 q (u)))
  skip
  refine qM (J q hc4) q q <| qM (J q hc4) q q <| za H.ctx (t := ty5) (hp0) u23 (J q hc4) q q <| A (J q hc4) (qt_geq q q) q q <| A q (zf q hc4 q) q q ?_
  exact hk _ (p (by rw [hc4]; rfl) (cfn 4 q (u)))
 refine QL_nil fun a ha w5 hb6 => ?_
 have H7 := H.grow hb6
 refine X (S ?_ ha)
 refine Y q (fun hc8 => ?_) (fun hc8 => ?_)
 ·have h := if_t hc8 h
  refine rR <| qA q q q <| B <| W fun a ha => ?_
  obtain rfl := L h
  exact m (ret1 q ha q ⟨q, H7⟩)
 have h := if_f hc8 h
 refine y <| rR <| qM q q q ?_
 obtain ⟨x9, hx10, h⟩ := D h
 refine A q (qt_shlO q q hx10) q q <| qA q q q <| B <| C <| rR <| qM q q q <| qA q q q <| B <| g ?_
 obtain ⟨o13, ho14, h⟩ := D h
 refine fun a15 ha16 => zp (I := fun s a w2 => match s with | (s11, s12) => (Fr a 51 [(0, vp0), (5, iV s11), (6, iV s12)] ∧ Holds M0 w w2 [] G)) (O := fun o e a w2 => match o with | q0 => e = .exit 0 ∧ (Fr a 51 [(5, iV q0)] ∧ Holds M0 w w2 [] G)) ho14 ?_ ?_ ?_
 ·exact ⟨ha16.sub ⟨q, q, q, trivial⟩, H7⟩
 ·clear ha16
  intro s o19 a w17 hs18 hI20
  obtain ⟨s11, s12⟩ := s
  obtain ⟨ha, H21⟩ := hI20
  refine S ?_ ha
  clear ha
  refine C <| rR <| qM q q q <| A q (qt_geq q q) q q <| B ?_
  refine Y q (fun hc22 => ?_) (fun hc22 => ?_)
  ·have hs18 := if_t hc22 hs18
   refine y <| C <| g <| C <| rR <| qM q q q <| qM q q q ?_
   obtain ⟨x23, hx24, hs18⟩ := D hs18
   refine A q (qt_shlO q q hx24) q q <| A q (qt_and q q) q q <| A q (qt_eql q q) q q <| B ?_
   refine Y q (fun hc25 => ?_) (fun hc25 => ?_)
   ·have hs18 := if_t hc25 hs18
    refine WP_exit fun a ha => ?_
    refine zo (zn (X (S ?_ ha)))
    refine Z <| qM q q q <| A q (qt_sub q q) q q <| qA q q q <| WL_nil fun a ha => ?_
    obtain rfl := L hs18
    exact ⟨q, ha.sub ⟨q, q, q, trivial⟩, H21⟩
   have hs18 := if_f hc25 hs18
   refine y <| rR <| qM q q q <| qM q q q ?_
   obtain ⟨x26, hx27, hs18⟩ := D hs18
   refine b H21.ctx (hp0) hx27 u23 i70 q q q q (fun b28 off29 cap30 hv31 => ?_)
   refine qF uf70 fi70_1 nz68 q q q ?_
   obtain ⟨F32, hat33, hdup34⟩ := H21.at (hp0) hx27 hv31
   obtain ⟨F35, hat36, hin37⟩ := AtP.snd hat33
   obtain ⟨F38, hat39, hin40⟩ := AtP.fst hat36
   refine XL_load (t := ty2) u68 q q hat39 q q q (fun v41 hr42 => ?_)
   have H43 : Holds _ w w17 [.ro ty1 v41 x26.2.1] G := hdup34 _ _ _ _ hr42 (fun k h => (fun k h => (fun _ h => h) k (hin37 k h)) k (hin40 k h))
   refine za H43.ctx (t := ty1) hR0 u68 q q q <| qM q q q <| B <| g ?_
   obtain ⟨o46, ho47, hs18⟩ := D hs18
   refine fun a48 ha49 => zp (I := fun s a w2 => match s with | (s44, s45) => (Fr a 51 [(0, vp0), (5, iV s44), (6, iV s12), (38, v41), (39, iV (List.length x26.2.1 : Int)), (40, iV s45)] ∧ Holds M0 w w2 [.ro ty1 v41 x26.2.1] G)) (O := fun o e a w2 => match o with | q0 => e = .exit 2 ∧ (Fr a 51 [(0, vp0), (5, iV q0), (6, iV s12)] ∧ Holds M0 w w2 [] G)) ho47 ?_ ?_ ?_
   ·exact ⟨ha49.sub ⟨q, q, q, q, q, q, trivial⟩, H43⟩
   ·clear ha49
    intro s o52 a w50 hs51 hI53
    obtain ⟨s44, s45⟩ := s
    obtain ⟨ha, H54⟩ := hI53
    refine S ?_ ha
    clear ha
    refine rR <| A q (qt_lss q q) q q <| B <| C ?_
    refine Y q (fun hc55 => ?_) (fun hc55 => ?_)
    ·have hs51 := if_t hc55 hs51
     refine y <| C <| g <| C <| Z ?_
     obtain ⟨x56, hx57, hs51⟩ := D hs51
     refine b H54.ctx hR0 hx57 u68 i67 q q q q (fun b58 off59 cap60 hv61 => ?_)
     obtain ⟨F62, hat63, hdup64⟩ := H54.atN hR0 hx57 hv61
     refine XL_load_agg (t := ty1) us67 uo67 i67 hat63 q q q (fun cs65 hr66 => ?_)
     obtain ⟨c67, c68, F69, F70, rfl, eF73, hr71, hr72⟩ := hr66
     obtain ⟨rfl, _⟩ := hr71
     obtain ⟨rfl, _⟩ := hr72
     change XL _ _ _ _ _ ((43, .agg #[iV x56.1, iV x56.2]) :: _) _
     refine zq (cs := [iV 0, iV 0]) H54 z67 q q q (fun b74 w75 H76 => ?_)
     refine zl (cs' := [iV x56.1, iV x56.2]) H76 q il67 q q q q q (fun w78 H79 => ?_)
     refine B <| Z <| qM q q q <| qF uf67 fi67_0 nz3 q q q ?_
     have hB81 := R H79.p0
     refine l u3 q hB81 q q q q ?_
     obtain ⟨x82, hx83, hs51⟩ := D hs51
     refine A q (qt_shlO q q hx83) q q <| A q (qt_or q q) q q <| qA q q q <| WL_nil fun a ha => ?_
     refine zi (X (S ?_ ha))
     refine Z <| A q (qt_add q q) q q <| qM q q q <| WL_nil fun a ha => ?_
     obtain rfl := L hs51
     have H84 := H79.q0
     exact ⟨q, ha.sub ⟨q, q, q, q, q, q, trivial⟩, H84⟩
    have hs51 := if_f hc55 hs51
    refine WP_exit fun a ha => ?_
    obtain rfl := L hs51
    have H85 := H54.q0
    exact zo (⟨exit_ne, q, ha.sub ⟨q, q, q, trivial⟩, H85⟩)
   intro e a48 w86 hO87
   obtain ⟨p88, rfl⟩ : ∃ z, z = o46 := ⟨o46, q⟩
   obtain ⟨rfl, hO90⟩ := hO87
   obtain ⟨ha, H89⟩ := hO90
   refine zn (zi (X (S ?_ ha)))
   refine Z <| qM q q q <| A q (qt_sub q q) q q <| qA q q q <| WL_nil fun a ha => ?_
   obtain rfl := L hs18
   exact ⟨q, ha.sub ⟨q, q, q, trivial⟩, H89⟩
  have hs18 := if_f hc22 hs18
  refine WP_exit fun a ha => ?_
  obtain rfl := L hs18
  exact zo (⟨exit_ne, q, ha.sub ⟨q, trivial⟩, H21⟩)
 intro e a15 w91 hO92
 obtain ⟨p93, rfl⟩ : ∃ z, z = o13 := ⟨o13, q⟩
 obtain ⟨rfl, hO95⟩ := hO92
 obtain ⟨ha, H94⟩ := hO95
 refine zn (X (S ?_ ha))
 refine rR <| qM q q q <| qA q q q <| B <| W fun a ha => ?_
 obtain rfl := L h
 exact ret1 q ha q ⟨q, H94⟩
theorem w_impl_MarksOf (w : World) (G : List Res) (vp0 : Value) (p0 : LI) (hp0 : Has G ty5 vp0 p0) (p1 : Int) (r : Int) (h : impl_MarksOfS p0 p1 = some r) (H : Ctx w G) : Calls Tryd.prog 13 #[vp0, iV p1] w fun e w' => e = .returned (iV r) ∧ Holds M0 w w' [] G := by
 have H : Holds M0 w w [] G := zb H
 refine zg (args := [vp0, iV p1]) (n := 32) Tryd.func13 q q q ?_
 unfold impl_MarksOfS at h
 refine rR <| qA q q q <| B <| C <| zk <| qM q q q <| qM q q q ?_
 obtain ⟨x1, hx2, h⟩ := D h
 refine QC q q c43 (fun w' hb => w_impl_UsesOf w' G vp0 p0 (hp0) p1 x1 hx2 (H.grow hb).ctx) (by rfl) <| qA q q q <| QL_nil fun a ha w3 hb4 => ?_
 have H5 := H.grow hb4
 refine X (S ?_ ha)
 refine C <| rR <| qM q q q <| A q (qt_lss q q) q q <| B ?_
 refine Y q (fun hc6 => ?_) (fun hc6 => ?_)
 ·have h := if_t hc6 h
  refine rR <| qA q q q <| B <| W fun a ha => ?_
  obtain rfl := L h
  exact m (ret1 q ha q ⟨q, H5⟩)
 have h := if_f hc6 h
 refine y <| rR <| qA q q q <| B <| C <| rR <| qM q q q <| za H5.ctx (t := ty5) (hp0) u23 q q q ?_
 refine qM q q q <| B <| g ?_
 obtain ⟨o9, ho10, h⟩ := D h
 refine fun a11 ha12 => zp (I := fun s a w2 => match s with | (s7, s8) => (Fr a 32 [(5, iV x1), (6, iV s7), (14, vp0), (15, iV (List.length p0 : Int)), (16, iV s8)] ∧ Holds M0 w w2 [] G)) (O := fun o e a w2 => match o with | q0 => e = .exit 0 ∧ (Fr a 32 [(6, iV q0)] ∧ Holds M0 w w2 [] G)) ho10 ?_ ?_ ?_
 ·exact ⟨ha12.sub ⟨q, q, q, q, q, trivial⟩, H5⟩
 ·clear ha12
  intro s o15 a w13 hs14 hI16
  obtain ⟨s7, s8⟩ := s
  obtain ⟨ha, H17⟩ := hI16
  refine S ?_ ha
  clear ha
  refine rR <| A q (qt_lss q q) q q <| B <| C ?_
  refine Y q (fun hc18 => ?_) (fun hc18 => ?_)
  ·have hs14 := if_t hc18 hs14
   refine y <| C <| g <| rR <| qM q q q ?_
   obtain ⟨x19, hx20, hs14⟩ := D hs14
   refine b H17.ctx (hp0) hx20 u23 i70 q q q q (fun b21 off22 cap23 hv24 => ?_)
   obtain ⟨F25, hat26, hdup27⟩ := H17.atN (hp0) hx20 hv24
   refine XL_load_agg (t := ty5) us70 uo70 i70 hat26 q q q (fun cs28 hr29 => ?_)
   obtain ⟨c30, c31, F32, F33, rfl, eF36, hr34, hr35⟩ := hr29
   obtain ⟨rfl, _⟩ := hr34
   obtain ⟨c37, c38, F39, F40, rfl, eF43, hr41, hr42⟩ := hr35
   obtain ⟨v44, rfl, hr45⟩ := Rep.sl_inv hr41
   obtain ⟨rfl, _⟩ := hr42
   have H46 : Holds _ w w13 [.ro ty1 v44 x19.2.1] G := hdup27 [.ro ty1 v44 x19.2.1] ⟨⟨_, _, _, _, q, hr45, (fun k h => (fun k h => (fun _ h => h) k (by rw [eF36]; exact zx _ h)) k (by rw [eF43]; exact List.mem_append_left _ h))⟩, trivial⟩
   change XL _ _ _ _ _ ((20, .agg #[iV x19.1, v44, iV x19.2.2]) :: _) _
   refine zq (cs := [iV 0, nS, iV 0]) H46 z70 q q q (fun b47 w48 H49 => ?_)
   refine qA q q q ?_
   refine zl (cs' := [iV x19.1, v44, iV x19.2.2]) H49 q il70 q (T q (T (H49.ctx.sliceOne hR1) (T q q))) q q q (fun w51 H52 => ?_)
   refine rN <| qM q q q <| qM q q q ?_
   obtain ⟨x54, hx55, hs14⟩ := D hs14
   refine A q (qt_shlO q q hx55) q q <| A q (qt_and q q) q q <| A q (qt_neq q q) q q <| B ?_
   refine Y q (fun hc56 => ?_) (fun hc56 => ?_)
   ·have hs14 := if_t hc56 hs14
    refine Z <| qM q q q <| qF uf70 fi70_2 nz3 q q q ?_
    have hB57 := R H52.p0
    refine l u3 q hB57 q q q q <| A q (qt_or q q) q q <| qA q q q <| WL_nil fun a ha => ?_
    refine zi (X (S ?_ ha))
    refine Z <| A q (qt_add q q) q q <| qM q q q <| WL_nil fun a ha => ?_
    obtain rfl := L hs14
    have H58 := H52.q0.q0
    exact ⟨q, ha.sub ⟨q, q, q, q, q, trivial⟩, H58⟩
   have hs14 := if_f hc56 hs14
   refine WP_skip fun a ha => ?_
   refine zi (X (S ?_ ha))
   refine Z <| A q (qt_add q q) q q <| qM q q q <| WL_nil fun a ha => ?_
   obtain rfl := L hs14
   have H59 := H52.q0.q0
   exact ⟨q, ha.sub ⟨q, q, q, q, q, trivial⟩, H59⟩
  have hs14 := if_f hc18 hs14
  refine WP_exit fun a ha => ?_
  obtain rfl := L hs14
  exact zo (⟨exit_ne, q, ha.sub ⟨q, trivial⟩, H17⟩)
 intro e a11 w60 hO61
 obtain ⟨p62, rfl⟩ : ∃ z, z = o9 := ⟨o9, q⟩
 obtain ⟨rfl, hO64⟩ := hO61
 obtain ⟨ha, H63⟩ := hO64
 refine zn (X (S ?_ ha))
 refine rR <| qM q q q <| qA q q q <| B <| W fun a ha => ?_
 obtain rfl := L h
 exact ret1 q ha q ⟨q, H63⟩
theorem w_impl_FreeOf (w : World) (G : List Res) (vp0 : Value) (p0 : LI) (hp0 : Has G ty5 vp0 p0) (p1 : Int) (r : (List Int)) (h : impl_FreeOfS p0 p1 = some r) (H : Ctx w G) : Calls Tryd.prog 68 #[vp0, iV p1] w fun e w' => ∃ (v1 : Value), e = .returned (v1) ∧ Holds M0 w w' [.sl 3 tI v1 r] G := by
 have H : Holds M0 w w [] G := zb H
 refine zg (args := [vp0, iV p1]) (n := 43) Tryd.func68 q q q ?_
 unfold impl_FreeOfS at h
 refine rR <| qA q q q <| B <| C <| C <| zk <| qM q q q ?_
 obtain ⟨x1, hx2, h⟩ := D h
 refine QC q q c66 (fun w' hb => w_impl_ItemsValid w' G vp0 p0 (hp0) x1 hx2 (H.grow hb).ctx) (by rfl) <| A q (qt_not q) q q <| qM q q q ?_
 refine zh 3 14 (.bool ((!x1) || (decide (p1 < 0)))) ?_ (fun md hmd hk => ?_)
 rotate_left
 ·obtain ⟨K, rfl⟩ := zr hmd
  rcases btf (!x1) with hc3 | hc3
  ·skip
   refine qS q hc3 q q <| qS q hc3 q q <| A q (ze q hc3 q) q q ?_
   exact hk _ (p (by rw [hc3]; rfl) (cfn 2 q (u)))
  skip
  refine qM (J q hc3) q q <| A (J q hc3) (qt_lss q q) q q <| A q (zf q hc3 q) q q ?_
  exact hk _ (p (by rw [hc3]; rfl) (cfn 2 q (u)))
 refine qM q q q ?_
 refine zh 3 18 (.bool (((!x1) || (decide (p1 < 0))) || (decide (p1 > 31)))) ?_ (fun md hmd hk => ?_)
 rotate_left
 ·obtain ⟨K, rfl⟩ := zr hmd
  rcases btf ((!x1) || (decide (p1 < 0))) with hc4 | hc4
  ·skip
   refine qS q hc4 q q <| qS q hc4 q q <| A q (ze q hc4 q) q q ?_
   exact hk _ (p (by rw [hc4]; rfl) (cfn 2 q (u)))
  skip
  refine qM (J q hc4) q q <| A (J q hc4) (qt_gtr q q) q q <| A q (zf q hc4 q) q q ?_
  exact hk _ (p (by rw [hc4]; rfl) (cfn 2 q (u)))
 refine QL_nil fun a ha w5 hb6 => ?_
 have H7 := H.grow hb6
 refine X (S ?_ ha)
 refine Y q (fun hc8 => ?_) (fun hc8 => ?_)
 ·have h := if_t hc8 h
  refine rR <| qA q q q <| B <| W fun a ha => ?_
  obtain rfl := L h
  have H9 := H7.nS 3 tI
  exact m (ret1 q ha q ⟨(nS), q, H9⟩)
 have h := if_f hc8 h
 refine y <| rR <| qA q q q <| B <| C <| rR <| qM q q q <| za H7.ctx (t := ty5) (hp0) u23 q q q ?_
 refine qM q q q <| B <| g ?_
 have H12 := H7.nS 3 tI
 obtain ⟨o13, ho14, h⟩ := D h
 refine fun a15 ha16 => zp (I := fun s a w2 => match s with | (s10, s11) => ∃ vs10, Fr a 43 [(0, vp0), (1, iV p1), (5, vs10), (19, vp0), (20, iV (List.length p0 : Int)), (21, iV s11)] ∧ Holds M0 w w2 [.sl 3 tI vs10 s10] G) (O := fun o e a w2 => match o with | q0 => e = .exit 0 ∧ ∃ vq0, Fr a 43 [(5, vq0)] ∧ Holds M0 w w2 [.sl 3 tI vq0 q0] G) ho14 ?_ ?_ ?_
 ·exact ⟨(nS), ha16.sub ⟨q, q, q, q, q, q, trivial⟩, H12⟩
 ·clear ha16
  intro s o19 a w17 hs18 hI20
  obtain ⟨s10, s11⟩ := s
  obtain ⟨vs10, ha, H21⟩ := hI20
  refine S ?_ ha
  clear ha
  refine rR <| A q (qt_lss q q) q q <| B <| C ?_
  refine Y q (fun hc22 => ?_) (fun hc22 => ?_)
  ·have hs18 := if_t hc22 hs18
   refine y <| C <| g <| rR <| qM q q q ?_
   obtain ⟨x23, hx24, hs18⟩ := D hs18
   refine b H21.ctx (hp0.c) hx24 u23 i70 q q q q (fun b25 off26 cap27 hv28 => ?_)
   obtain ⟨F29, hat30, hdup31⟩ := H21.atN (hp0.c) hx24 hv28
   refine XL_load_agg (t := ty5) us70 uo70 i70 hat30 q q q (fun cs32 hr33 => ?_)
   obtain ⟨c34, c35, F36, F37, rfl, eF40, hr38, hr39⟩ := hr33
   obtain ⟨rfl, _⟩ := hr38
   obtain ⟨c41, c42, F43, F44, rfl, eF47, hr45, hr46⟩ := hr39
   obtain ⟨v48, rfl, hr49⟩ := Rep.sl_inv hr45
   obtain ⟨rfl, _⟩ := hr46
   have H50 : Holds _ w w17 [.ro ty1 v48 x23.2.1, .sl 3 tI vs10 s10] G := hdup31 [.ro ty1 v48 x23.2.1] ⟨⟨_, _, _, _, q, hr49, (fun k h => (fun k h => (fun _ h => h) k (by rw [eF40]; exact zx _ h)) k (by rw [eF47]; exact List.mem_append_left _ h))⟩, trivial⟩
   change XL _ _ _ _ _ ((25, .agg #[iV x23.1, v48, iV x23.2.2]) :: _) _
   refine zq (cs := [iV 0, nS, iV 0]) H50 z70 q q q (fun b51 w52 H53 => ?_)
   refine qA q q q ?_
   refine zl (cs' := [iV x23.1, v48, iV x23.2.2]) H53 q il70 q (T q (T (H53.ctx.sliceOne hR1) (T q q))) q q q (fun w55 H56 => ?_)
   refine B <| C <| zk <| qF uf70 fi70_0 nz3 q q q ?_
   have hB58 := R H56.p0
   refine l u3 q hB58 q q q q <| A q (qt_gtr q q) q q <| qM q q q ?_
   obtain ⟨b59, hg60, hs18⟩ := D hs18
   refine zh 7 36 (.bool b59) ?_ (fun md hmd hk => ?_)
   rotate_left
   ·obtain ⟨K, rfl⟩ := zr hmd
    rcases btf (decide (x23.1 > 0)) with hc61 | hc61
    ·skip
     have hg60 := if_t hc61 hg60
     refine qM (J q hc61) q q <| qM (J q hc61) q q ?_
     obtain ⟨x62, hx63, hg60⟩ := D hg60
     refine QC (J q hc61) q c13 (fun w' hb => w_impl_MarksOf w' _ vp0 p0 (hp0.c.c.c) s11 x62 hx63 (H56.grow hb).ctx) (by rfl) <| qM (J q hc61) q q <| A (J q hc61) (qt_and q q) q q <| A (J q hc61) (qt_eql q q) q q <| A q (ze q hc61 q) q q ?_
     exact hk _ (p (vb hg60) (cfn 6 q (u)))
    skip
    refine qS q hc61 q q <| qS q hc61 q q <| qS q hc61 q q <| qS q hc61 q q <| qS q hc61 q q <| qS q hc61 q q <| A q (zf q hc61 q) q q ?_
    exact hk _ (p (vb (if_f hc61 hg60)) (cfn 6 q (u)))
   refine QL_nil fun a ha w64 hb65 => ?_
   have H66 := H56.grow hb65
   refine X (S ?_ ha)
   refine Y q (fun hc67 => ?_) (fun hc67 => ?_)
   ·have hs18 := if_t hc67 hs18
    refine Z <| qM q q q <| qM q q q ?_
    refine zs (t := tI) (args := [.tmp 38]) (xs := ([s11] : List Int)) H66 (BltL.cons (Blt.int) q (BltL.nil)) u24 j3 q q q q q q (fun v68 w69 H70 => ?_)
    have H72 := H70.p3
    obtain ⟨x73, hx74, hs18⟩ := D hs18
    refine zw H72 hS1 hx74 u24 j3 q q q q q q (fun v75 w76 H77 => ?_)
    refine qA q q q <| WL_nil fun a ha => ?_
    refine zi (X (S ?_ ha))
    refine Z <| A q (qt_add q q) q q <| qM q q q <| WL_nil fun a ha => ?_
    obtain rfl := L hs18
    have H79 := H77.q1.q1.q1
    exact ⟨q, v75, ha.sub ⟨q, q, q, q, q, q, trivial⟩, H79⟩
   have hs18 := if_f hc67 hs18
   refine WP_skip fun a ha => ?_
   refine zi (X (S ?_ ha))
   refine Z <| A q (qt_add q q) q q <| qM q q q <| WL_nil fun a ha => ?_
   obtain rfl := L hs18
   have H80 := H66.q0.q0
   exact ⟨q, vs10, ha.sub ⟨q, q, q, q, q, q, trivial⟩, H80⟩
  have hs18 := if_f hc22 hs18
  refine WP_exit fun a ha => ?_
  obtain rfl := L hs18
  exact zo (⟨exit_ne, q, vs10, ha.sub ⟨q, trivial⟩, H21⟩)
 intro e a15 w81 hO82
 obtain ⟨p83, rfl⟩ : ∃ z, z = o13 := ⟨o13, q⟩
 obtain ⟨rfl, hO85⟩ := hO82
 obtain ⟨vp83, ha, H84⟩ := hO85
 refine zn (X (S ?_ ha))
 refine rR <| qM q q q <| qA q q q <| B <| W fun a ha => ?_
 obtain rfl := L h
 exact ret1 q ha q ⟨vp83, q, H84⟩
theorem w_slices_Index___int_int (w : World) (G : List Res) (vp0 : Value) (p0 : List Int) (hp0 : Has G tI vp0 p0) (p1 : Int) (r : Int) (h : slices_Index___int_intS p0 p1 = some r) (H : Ctx w G) : Calls Tryd.prog 88 #[vp0, iV p1] w fun e w' => e = .returned (iV r) ∧ Holds M0 w w' [] G := by
 have H : Holds M0 w w [] G := zb H
 refine zg (args := [vp0, iV p1]) (n := 19) Tryd.func88 q q q ?_
 unfold slices_Index___int_intS at h
 refine rR <| qA q q q <| B <| C <| rR <| qM q q q <| za H.ctx (t := tI) (hp0) u24 q q q <| qM q q q ?_
 refine B <| g ?_
 obtain ⟨o2, ho3, h⟩ := D h
 refine fun a4 ha5 => zp (I := fun s a w2 => match s with | s1 => (Fr a 19 [(0, vp0), (1, iV p1), (7, iV (List.length p0 : Int)), (8, iV s1)] ∧ Holds M0 w w2 [] G)) (O := fun o e a w2 => match o with | .inl _ => e = .exit 0 ∧ (Fr a 19 [] ∧ Holds M0 w w2 [] G) | .inr q0 => e = .ret ∧ (Fr a 19 [(4, iV q0)] ∧ Holds M0 w w2 [] G)) ho3 ?_ ?_ ?_
 ·exact ⟨ha5.sub ⟨q, q, q, q, trivial⟩, H⟩
 ·clear ha5
  intro s o8 a w6 hs7 hI9
  obtain ⟨s1, rfl⟩ : ∃ z, z = s := ⟨s, q⟩
  obtain ⟨ha, H10⟩ := hI9
  refine S ?_ ha
  clear ha
  refine rR <| A q (qt_lss q q) q q <| B <| C ?_
  refine Y q (fun hc11 => ?_) (fun hc11 => ?_)
  ·have hs7 := if_t hc11 hs7
   refine y <| C <| g <| rR <| qM q q q <| qA q q q <| B <| C <| Z ?_
   refine qM q q q <| qM q q q <| qM q q q ?_
   obtain ⟨x12, hx13, hs7⟩ := D hs7
   refine b H10.ctx (hp0) hx13 u24 i3 q q q q (fun b14 off15 cap16 hv17 => ?_)
   obtain ⟨F18, hat19, hdup20⟩ := H10.at (hp0) hx13 hv17
   refine zt (k := .i64) u3 q hat19 q q q <| A q (qt_eql q q) q q <| B ?_
   refine Y q (fun hc21 => ?_) (fun hc21 => ?_)
   ·have hs7 := if_t hc21 hs7
    refine rR <| qM q q q <| qA q q q <| B <| W fun a ha => ?_
    obtain rfl := L hs7
    exact zj (m (⟨ret_ne, q, ha.sub ⟨q, trivial⟩, H10⟩))
   have hs7 := if_f hc21 hs7
   refine WP_skip fun a ha => ?_
   refine zi (X (S ?_ ha))
   refine Z <| A q (qt_add q q) q q <| qM q q q <| WL_nil fun a ha => ?_
   obtain rfl := L hs7
   exact ⟨q, ha.sub ⟨q, q, q, q, trivial⟩, H10⟩
  have hs7 := if_f hc11 hs7
  refine WP_exit fun a ha => ?_
  obtain rfl := L hs7
  exact zo (⟨exit_ne, q, ha.sub trivial, H10⟩)
 intro e a4 w22 hO23
 rcases o2 with o2 | o2
 ·skip
  obtain ⟨rfl, hO25⟩ := hO23
  obtain ⟨ha, H24⟩ := hO25
  refine zn (X (S ?_ ha))
  refine rR <| qA q q q <| B <| W fun a ha => ?_
  obtain rfl := L h
  exact ret1 q ha q ⟨q, H24⟩
 skip
 obtain ⟨p26, rfl⟩ : ∃ z, z = o2 := ⟨o2, q⟩
 obtain ⟨rfl, hO28⟩ := hO23
 obtain ⟨ha, H27⟩ := hO28
 obtain rfl := L h
 exact zj (m (ret1 q ha q ⟨q, H27⟩))
theorem w_slices_Contains___int_int (w : World) (G : List Res) (vp0 : Value) (p0 : List Int) (hp0 : Has G tI vp0 p0) (p1 : Int) (r : Bool) (h : slices_Contains___int_intS p0 p1 = some r) (H : Ctx w G) : Calls Tryd.prog 69 #[vp0, iV p1] w fun e w' => e = .returned (.bool r) ∧ Holds M0 w w' [] G := by
 have H : Holds M0 w w [] G := zb H
 refine zg (args := [vp0, iV p1]) (n := 9) Tryd.func69 q q q ?_
 unfold slices_Contains___int_intS at h
 refine rR <| qA q q q <| B <| C <| zk <| qM q q q <| qM q q q ?_
 obtain ⟨x1, hx2, h⟩ := D h
 refine QC q q c88 (fun w' hb => w_slices_Index___int_int w' G vp0 p0 (hp0) p1 x1 hx2 (H.grow hb).ctx) (by rfl) <| A q (qt_geq q q) q q <| qA q q q <| QL_nil fun a ha w3 hb4 => ?_
 have H5 := H.grow hb4
 refine X (S ?_ ha)
 refine W fun a ha => ?_
 obtain rfl := L h
 exact ret1 q ha q ⟨q, H5⟩
theorem w_impl_tableValid (w : World) (G : List Res) (vp0 : Value) (p0 : LI) (hp0 : Has G ty5 vp0 p0) (p1_0 : Int) (A1_1 : Value) (p1_1 : LP) (hp1_1 : Has G ty1 A1_1 p1_1) (A1_2 : Value) (p1_2 : List Int) (hp1_2 : Has G tI A1_2 p1_2) (r : Bool) (h : impl_tableValidS p0 p1_0 p1_1 p1_2 = some r) (H : Ctx w G) : Calls Tryd.prog 35 #[vp0, .agg #[iV p1_0, A1_1, A1_2]] w fun e w' => e = .returned (.bool r) ∧ Holds M0 w w' [] G := by
 have H : Holds M0 w w [] G := zb H
 refine zg (args := [vp0, .agg #[iV p1_0, A1_1, A1_2]]) (n := 47) Tryd.func35 q q q ?_
 unfold impl_tableValidS at h
 refine C <| Z ?_
 refine WL_box (cs := [iV p1_0, A1_1, A1_2]) H q q q q (fun b1 w2 H3 => ?_)
 refine qA q q q <| B <| C <| C <| zk <| qF uf33 fi33_0 nz3 q q q ?_
 have hB5 := R H3.p0
 refine l u3 q hB5 q q q q <| A q (qt_lss q q) q q <| qM q q q ?_
 refine zh 4 15 (.bool ((decide (p1_0 < 0)) || (decide (p1_0 > 31)))) ?_ (fun md hmd hk => ?_)
 rotate_left
 ·obtain ⟨K, rfl⟩ := zr hmd
  rcases btf (decide (p1_0 < 0)) with hc6 | hc6
  ·skip
   refine qS q hc6 q q <| qS q hc6 q q <| qS q hc6 q q <| A q (ze q hc6 q) q q ?_
   exact hk _ (p (by rw [hc6]; rfl) (cfn 3 q (u)))
  skip
  refine qF uf33 fi33_0 nz3 (J q hc6) q q ?_
  have hB7 := R H3.p0
  refine l u3 q hB7 q (J q hc6) q q <| A (J q hc6) (qt_gtr q q) q q <| A q (zf q hc6 q) q q ?_
  exact hk _ (p (by rw [hc6]; rfl) (cfn 3 q (u)))
 refine qM q q q ?_
 obtain ⟨b8, hg9, h⟩ := D h
 refine zh 5 21 (.bool b8) ?_ (fun md hmd hk => ?_)
 rotate_left
 ·obtain ⟨K, rfl⟩ := zr hmd
  rcases btf ((decide (p1_0 < 0)) || (decide (p1_0 > 31))) with hc10 | hc10
  ·skip
   refine qS q hc10 q q <| qS q hc10 q q <| qS q hc10 q q <| qS q hc10 q q <| A q (ze q hc10 q) q q ?_
   exact hk _ (p (vb (if_t hc10 hg9)) (cfn 4 q (u)))
  skip
  have hg9 := if_f hc10 hg9
  refine qF uf33 fi33_1 nz31 (J q hc10) q q ?_
  have hB11 := R H3.p0
  refine l u31 q hB11 q (J q hc10) q q ?_
  obtain ⟨x12, hx13, hg9⟩ := D hg9
  refine QC (J q hc10) q c67 (fun w' hb => w_impl_TicketValid w' _ A1_1 p1_1 (hp1_1.c) x12 hx13 (H3.grow hb).ctx) (by rfl) <| A (J q hc10) (qt_not q) q q <| A q (zf q hc10 q) q q ?_
  exact hk _ (p (vb hg9) (cfn 4 q (u)))
 refine qM q q q ?_
 refine zh 8 30 (.bool (b8 || ((List.length p1_2 : Int) != (List.length p1_1 : Int)))) ?_ (fun md hmd hk => ?_)
 rotate_left
 ·obtain ⟨K, rfl⟩ := zr hmd
  rcases btf b8 with hc14 | hc14
  ·skip
   refine qS q hc14 q q <| qS q hc14 q q <| qS q hc14 q q <| qS q hc14 q q <| qS q hc14 q q <| qS q hc14 q q <| qS q hc14 q q <| A q (ze q hc14 q) q q ?_
   exact hk _ (p (by rw [hc14]; rfl) (cfn 7 q (u)))
  skip
  refine qF uf33 fi33_2 nz24 (J q hc14) q q ?_
  have hB15 := R H3.p0
  refine l u24 q hB15 q (J q hc14) q q <| za H3.ctx (t := tI) (hp1_2.c) u24 (J q hc14) q q <| qF uf33 fi33_1 nz31 (J q hc14) q q ?_
  have hB16 := R H3.p0
  refine l u31 q hB16 q (J q hc14) q q <| za H3.ctx (t := ty1) (hp1_1.c) u31 (J q hc14) q q <| A (J q hc14) (qt_neq q q) q q <| A q (zf q hc14 q) q q ?_
  exact hk _ (p (by rw [hc14]; rfl) (cfn 7 q (u)))
 refine QL_nil fun a ha w17 hb18 => ?_
 have H19 := H3.grow hb18
 refine X (S ?_ ha)
 refine Y q (fun hc20 => ?_) (fun hc20 => ?_)
 ·have h := if_t hc20 h
  refine rR <| qA q q q <| B <| W fun a ha => ?_
  obtain rfl := L h
  have H21 := H19.q0
  exact m (ret1 q ha q ⟨q, H21⟩)
 have h := if_f hc20 h
 refine y <| rR <| qM q q q <| qF uf33 fi33_0 nz3 q q q ?_
 have hB22 := R H19.p0
 refine l u3 q hB22 q q q q ?_
 obtain ⟨x23, hx24, h⟩ := D h
 refine zd q q c68 (w_impl_FreeOf w17 _ vp0 p0 (hp0.c) p1_0 x23 hx24 H19.ctx) (by rfl) ?_
 rintro _ w25 ⟨v27, rfl, H26⟩; refine ⟨_, q, ?_⟩
 have H28 := H19.cN1 [] H26
 refine qA q q q <| B <| C <| rR <| qF uf33 fi33_2 nz24 q q q ?_
 have hB29 := R H28.p1
 refine l u24 q hB29 q q q q <| za H28.ctx (t := tI) (hp1_2.c.c) u24 q q q <| qM q q q <| B <| g ?_
 obtain ⟨o31, ho32, h⟩ := D h
 have H35 := H28.q1
 refine fun a33 ha34 => zp (I := fun s a w2 => match s with | s30 => (Fr a 47 [(5, v27), (36, A1_2), (37, iV (List.length p1_2 : Int)), (38, iV s30)] ∧ Holds M0 w w2 [.sl 3 tI v27 x23] G)) (O := fun o e a w2 => match o with | .inl _ => e = .exit 0 ∧ (Fr a 47 [] ∧ Holds M0 w w2 [] G) | .inr q0 => e = .ret ∧ (Fr a 47 [(4, .bool q0)] ∧ Holds M0 w w2 [] G)) ho32 ?_ ?_ ?_
 ·exact ⟨ha34.sub ⟨q, q, q, q, trivial⟩, H35⟩
 ·clear ha34
  intro s o38 a w36 hs37 hI39
  obtain ⟨s30, rfl⟩ : ∃ z, z = s := ⟨s, q⟩
  obtain ⟨ha, H40⟩ := hI39
  refine S ?_ ha
  clear ha
  refine rR <| A q (qt_lss q q) q q <| B <| C ?_
  refine Y q (fun hc41 => ?_) (fun hc41 => ?_)
  ·have hs37 := if_t hc41 hs37
   refine y <| C <| g <| C <| Z ?_
   obtain ⟨x42, hx43, hs37⟩ := D hs37
   refine b H40.ctx (hp1_2.c) hx43 u24 i3 q q q q (fun b44 off45 cap46 hv47 => ?_)
   obtain ⟨F48, hat49, hdup50⟩ := H40.at (hp1_2.c) hx43 hv47
   refine zt (k := .i64) u3 q hat49 q q q <| qA q q q <| B <| C <| zk <| qM q q q <| qM q q q ?_
   obtain ⟨x51, hx52, hs37⟩ := D hs37
   refine QC q q c69 (fun w' hb => w_slices_Contains___int_int w' _ v27 x23 hS0 x42 x51 hx52 (H40.grow hb).ctx) (by rfl) <| A q (qt_not q) q q <| QL_nil fun a ha w53 hb54 => ?_
   have H55 := H40.grow hb54
   refine X (S ?_ ha)
   refine Y q (fun hc56 => ?_) (fun hc56 => ?_)
   ·have hs37 := if_t hc56 hs37
    refine rR <| qA q q q <| B <| W fun a ha => ?_
    obtain rfl := L hs37
    have H57 := H55.q0
    exact zj (m (⟨ret_ne, q, ha.sub ⟨q, trivial⟩, H57⟩))
   have hs37 := if_f hc56 hs37
   refine WP_skip fun a ha => ?_
   refine zi (X (S ?_ ha))
   refine Z <| A q (qt_add q q) q q <| qM q q q <| WL_nil fun a ha => ?_
   obtain rfl := L hs37
   exact ⟨q, ha.sub ⟨q, q, q, q, trivial⟩, H55⟩
  have hs37 := if_f hc41 hs37
  refine WP_exit fun a ha => ?_
  obtain rfl := L hs37
  have H58 := H40.q0
  exact zo (⟨exit_ne, q, ha.sub trivial, H58⟩)
 intro e a33 w59 hO60
 rcases o31 with o31 | o31
 ·skip
  obtain ⟨rfl, hO62⟩ := hO60
  obtain ⟨ha, H61⟩ := hO62
  refine zn (X (S ?_ ha))
  refine rR <| qA q q q <| B <| W fun a ha => ?_
  obtain rfl := L h
  exact ret1 q ha q ⟨q, H61⟩
 skip
 obtain ⟨p63, rfl⟩ : ∃ z, z = o31 := ⟨o31, q⟩
 obtain ⟨rfl, hO65⟩ := hO60
 obtain ⟨ha, H64⟩ := hO65
 obtain rfl := L h
 exact zj (m (ret1 q ha q ⟨q, H64⟩))
theorem w_impl_HouseValid (w : World) (G : List Res) (A0 : Value) (B0 : LI) (C0 : Has G ty5 A0 B0) (A1 : Value) (B1 : List Int) (C1 : Has G tI A1 B1) (A2 : Value) (B2 : List Int) (C2 : Has G tI A2 B2) (B3 : Int) (A4 : Value) (B4 : LT) (C4 : Has G ty6 A4 B4) (r : Bool) (h : impl_HouseValidS B0 B1 B2 B3 B4 = some r) (H : Ctx w G) : Calls Tryd.prog 10 #[.agg #[A0, A1, A2, iV B3, A4]] w fun e w' => e = .returned (.bool r) ∧ Holds M0 w w' [] G := by
 have H : Holds M0 w w [] G := zb H
 refine zg (args := [.agg #[A0, A1, A2, iV B3, A4]]) (n := 47) Tryd.func10 q q q ?_
 unfold impl_HouseValidS at h
 refine C <| Z ?_
 refine WL_box (cs := [A0, A1, A2, iV B3, A4]) H q q q q (fun b1 w2 H3 => ?_)
 refine qA q q q <| B <| C <| C <| zk <| qF uf27 fi27_0 nz23 q q q ?_
 have hB5 := R H3.p0
 refine l u23 q hB5 q q q q <| qF uf27 fi27_1 nz24 q q q ?_
 have hB6 := R H3.p0
 refine l u24 q hB6 q q q q ?_
 obtain ⟨x7, hx8, h⟩ := D h
 refine QC q q c33 (fun w' hb => w_impl_PricesValid w' _ A0 B0 (C0.c) A1 B1 (C1.c) x7 hx8 (H3.grow hb).ctx) (by rfl) <| A q (qt_not q) q q <| qM q q q ?_
 obtain ⟨b9, hg10, h⟩ := D h
 refine zh 8 19 (.bool b9) ?_ (fun md hmd hk => ?_)
 rotate_left
 ·obtain ⟨K, rfl⟩ := zr hmd
  rcases btf (!x7) with hc11 | hc11
  ·skip
   refine qS q hc11 q q <| qS q hc11 q q <| qS q hc11 q q <| qS q hc11 q q <| qS q hc11 q q <| qS q hc11 q q <| qS q hc11 q q <| A q (ze q hc11 q) q q ?_
   exact hk _ (p (vb (if_t hc11 hg10)) (cfn 7 q (u)))
  skip
  have hg10 := if_f hc11 hg10
  refine qF uf27 fi27_2 nz24 (J q hc11) q q ?_
  have hB12 := R H3.p0
  refine l u24 q hB12 q (J q hc11) q q <| qF uf27 fi27_0 nz23 (J q hc11) q q ?_
  have hB13 := R H3.p0
  refine l u23 q hB13 q (J q hc11) q q <| za H3.ctx (t := ty5) (C0.c) u23 (J q hc11) q q ?_
  obtain ⟨x14, hx15, hg10⟩ := D hg10
  refine QC (J q hc11) q c34 (fun w' hb => w_impl_amountsOk w' _ A2 B2 (C2.c) (List.length B0 : Int) 50 x14 hx15 (H3.grow hb).ctx) (by rfl) <| A (J q hc11) (qt_not q) q q <| A q (zf q hc11 q) q q ?_
  exact hk _ (p (vb hg10) (cfn 7 q (u)))
 refine QL_nil fun a ha w16 hb17 => ?_
 have H18 := H3.grow hb17
 refine X (S ?_ ha)
 refine Y q (fun hc19 => ?_) (fun hc19 => ?_)
 ·have h := if_t hc19 h
  refine rR <| qA q q q <| B <| W fun a ha => ?_
  obtain rfl := L h
  have H20 := H18.q0
  exact m (ret1 q ha q ⟨q, H20⟩)
 have h := if_f hc19 h
 refine y <| C <| rR <| qF uf27 fi27_3 nz3 q q q ?_
 have hB21 := R H18.p0
 refine l u3 q hB21 q q q q <| A q (qt_lss q q) q q <| qM q q q ?_
 refine zh 4 27 (.bool ((decide (B3 < 0)) || (decide (B3 > 99999)))) ?_ (fun md hmd hk => ?_)
 rotate_left
 ·obtain ⟨Q, rfl⟩ := Md.seq_of hmd
  rcases btf (decide (B3 < 0)) with hc22 | hc22
  ·skip
   refine qS q hc22 q q <| qS q hc22 q q <| qS q hc22 q q <| A q (ze q hc22 q) q q ?_
   exact hk _ (p (by rw [hc22]; rfl) (cfn 3 q (u)))
  skip
  refine qF uf27 fi27_3 nz3 (J q hc22) q q ?_
  have hB23 := R H18.p0
  refine l u3 q hB23 q (J q hc22) q q <| A (J q hc22) (qt_gtr q q) q q <| A q (zf q hc22 q) q q ?_
  exact hk _ (p (by rw [hc22]; rfl) (cfn 3 q (u)))
 refine qM q q q ?_
 refine zh 5 33 (.bool (((decide (B3 < 0)) || (decide (B3 > 99999))) || (decide ((List.length B4 : Int) > 4)))) ?_ (fun md hmd hk => ?_)
 rotate_left
 ·obtain ⟨Q, rfl⟩ := Md.seq_of hmd
  rcases btf ((decide (B3 < 0)) || (decide (B3 > 99999))) with hc24 | hc24
  ·skip
   refine qS q hc24 q q <| qS q hc24 q q <| qS q hc24 q q <| qS q hc24 q q <| A q (ze q hc24 q) q q ?_
   exact hk _ (p (by rw [hc24]; rfl) (cfn 4 q (u)))
  skip
  refine qF uf27 fi27_4 nz25 (J q hc24) q q ?_
  have hB25 := R H18.p0
  refine l u25 q hB25 q (J q hc24) q q <| za H18.ctx (t := ty6) (C4.c) u25 (J q hc24) q q <| A (J q hc24) (qt_gtr q q) q q <| A q (zf q hc24 q) q q ?_
  exact hk _ (p (by rw [hc24]; rfl) (cfn 4 q (u)))
 refine B ?_
 refine Y q (fun hc26 => ?_) (fun hc26 => ?_)
 ·have h := if_t hc26 h
  refine rR <| qA q q q <| B <| W fun a ha => ?_
  obtain rfl := L h
  have H27 := H18.q0
  exact m (ret1 q ha q ⟨q, H27⟩)
 have h := if_f hc26 h
 refine y <| C <| rR <| qF uf27 fi27_4 nz25 q q q ?_
 have hB28 := R H18.p0
 refine l u25 q hB28 q q q q <| za H18.ctx (t := ty6) (C4.c) u25 q q q <| qM q q q <| B <| g ?_
 obtain ⟨o30, ho31, h⟩ := D h
 refine fun a32 ha33 => zp (I := fun s a w2 => match s with | s29 => (Fr a 47 [(1, pB b1), (35, A4), (36, iV (List.length B4 : Int)), (37, iV s29)] ∧ Holds M0 w w2 [.bx b1 27 [A0, A1, A2, iV B3, A4]] G)) (O := fun o e a w2 => match o with | .inl _ => e = .exit 0 ∧ (Fr a 47 [] ∧ Holds M0 w w2 [] G) | .inr q0 => e = .ret ∧ (Fr a 47 [(2, .bool q0)] ∧ Holds M0 w w2 [] G)) ho31 ?_ ?_ ?_
 ·exact ⟨ha33.sub ⟨q, q, q, q, trivial⟩, H18⟩
 ·clear ha33
  intro s o36 a w34 hs35 hI37
  obtain ⟨s29, rfl⟩ : ∃ z, z = s := ⟨s, q⟩
  obtain ⟨ha, H38⟩ := hI37
  refine S ?_ ha
  clear ha
  refine rR <| A q (qt_lss q q) q q <| B <| C ?_
  refine Y q (fun hc39 => ?_) (fun hc39 => ?_)
  ·have hs35 := if_t hc39 hs35
   refine y <| C <| g <| C <| Z ?_
   obtain ⟨x40, hx41, hs35⟩ := D hs35
   refine b H38.ctx (C4.c) hx41 u25 i33 q q q q (fun b42 off43 cap44 hv45 => ?_)
   obtain ⟨F46, hat47, hdup48⟩ := H38.atN (C4.c) hx41 hv45
   refine XL_load_agg (t := ty6) us33 uo33 i33 hat47 q q q (fun cs49 hr50 => ?_)
   obtain ⟨c51, c52, F53, F54, rfl, eF57, hr55, hr56⟩ := hr50
   obtain ⟨rfl, _⟩ := hr55
   obtain ⟨c58, c59, F60, F61, rfl, eF64, hr62, hr63⟩ := hr56
   obtain ⟨v65, rfl, hr66⟩ := Rep.sl_inv hr62
   obtain ⟨v67, rfl, hr68⟩ := Rep.sl_inv hr63
   have H69 : Holds _ w w34 [.ro ty1 v65 x40.2.1, .ro tI v67 x40.2.2, .bx b1 27 [A0, A1, A2, iV B3, A4]] G := hdup48 [.ro ty1 v65 x40.2.1, .ro tI v67 x40.2.2] ⟨⟨_, _, _, _, q, hr66, (fun k h => (fun k h => (fun _ h => h) k (by rw [eF57]; exact zx _ h)) k (by rw [eF64]; exact List.mem_append_left _ h))⟩, ⟨_, _, _, _, q, hr68, (fun k h => (fun k h => (fun _ h => h) k (by rw [eF57]; exact zx _ h)) k (by rw [eF64]; exact zx _ h))⟩, trivial⟩
   change XL _ _ _ _ _ ((40, .agg #[iV x40.1, v65, v67]) :: _) _
   refine zq (cs := [iV 0, nS, nS]) H69 z33 q q q (fun b70 w71 H72 => ?_)
   refine zl (cs' := [iV x40.1, v65, v67]) H72 q il33 q (T q (T (H72.ctx.sliceOne hR1) (T (H72.ctx.sliceOne hR2) q))) q q q (fun w74 H75 => ?_)
   refine B <| C <| zk <| qF uf27 fi27_0 nz23 q q q ?_
   have hB77 := R H75.p3
   refine l u23 q hB77 q q q q ?_
   have hB78 := R H75.p0
   refine zm (cs := [iV x40.1, v65, v67]) us33 uo33 il33 hB78 q q q ?_
   change XL _ _ _ _ _ ((43, .agg #[iV x40.1, v65, v67]) :: _) _
   obtain ⟨x79, hx80, hs35⟩ := D hs35
   refine QC q q c35 (fun w' hb => w_impl_tableValid w' _ A0 B0 (C0.c.c.c.c) x40.1 v65 x40.2.1 hR1 v67 x40.2.2 hR2 x79 hx80 (H75.grow hb).ctx) (by rfl) <| A q (qt_not q) q q <| QL_nil fun a ha w81 hb82 => ?_
   have H83 := H75.grow hb82
   refine X (S ?_ ha)
   refine Y q (fun hc84 => ?_) (fun hc84 => ?_)
   ·have hs35 := if_t hc84 hs35
    refine rR <| qA q q q <| B <| W fun a ha => ?_
    obtain rfl := L hs35
    have H85 := H83.q0.q0.q0.q0
    exact zj (m (⟨ret_ne, q, ha.sub ⟨q, trivial⟩, H85⟩))
   have hs35 := if_f hc84 hs35
   refine WP_skip fun a ha => ?_
   refine zi (X (S ?_ ha))
   refine Z <| A q (qt_add q q) q q <| qM q q q <| WL_nil fun a ha => ?_
   obtain rfl := L hs35
   have H86 := H83.q0.q0.q0
   exact ⟨q, ha.sub ⟨q, q, q, q, trivial⟩, H86⟩
  have hs35 := if_f hc39 hs35
  refine WP_exit fun a ha => ?_
  obtain rfl := L hs35
  have H87 := H38.q0
  exact zo (⟨exit_ne, q, ha.sub trivial, H87⟩)
 intro e a32 w88 hO89
 rcases o30 with o30 | o30
 ·skip
  obtain ⟨rfl, hO91⟩ := hO89
  obtain ⟨ha, H90⟩ := hO91
  refine zn (X (S ?_ ha))
  refine rR <| qA q q q <| B <| W fun a ha => ?_
  obtain rfl := L h
  exact ret1 q ha q ⟨q, H90⟩
 skip
 obtain ⟨p92, rfl⟩ : ∃ z, z = o30 := ⟨o30, q⟩
 obtain ⟨rfl, hO94⟩ := hO89
 obtain ⟨ha, H93⟩ := hO94
 obtain rfl := L h
 exact zj (m (ret1 q ha q ⟨q, H93⟩))
theorem w_laws_FnHouseValid (w : World) (G : List Res) (vp0 : Value) (p0 : List Int) (hp0 : HasRo G (.int .u8) vp0 p0) (r : Bool) (h : laws_FnHouseValidS p0 = some r) (H : Ctx w G) : Calls Tryd.prog 3 #[vp0] w fun e w' => e = .returned (.bool r) ∧ Holds M0 w w' [] G := by
 have H : Holds M0 w w [] G := zb H
 refine zg (args := [vp0]) (n := 88) Tryd.func3 q q q ?_
 unfold laws_FnHouseValidS at h
 refine rR <| qA q q q <| B <| C <| rR <| qM q q q <| za H.ctx (t := (.int .u8)) (hp0.has) u22 q q q <| A q (qt_gtr q q) q q ?_
 refine B ?_
 refine Y q (fun hc1 => ?_) (fun hc1 => ?_)
 ·have h := if_t hc1 h
  refine rR <| qA q q q <| B <| W fun a ha => ?_
  obtain rfl := L h
  exact m (ret1 q ha q ⟨q, H⟩)
 have h := if_f hc1 h
 refine y <| rR <| qM q q q ?_
 obtain ⟨x2, hx3, h⟩ := D h
 refine zd q q c9 (w_spec_DrawHouseValid w G vp0 p0 (hp0) x2 hx3 H.ctx) (by rfl) ?_
 rintro _ w4 ⟨v6, v7, v8, v9, rfl, H5⟩; refine ⟨_, q, ?_⟩
 have H10 := H.cN4 [] H5
 refine zq (cs := [nS, nS, nS, iV 0, nS]) H10 z27 q q q (fun b11 w12 H13 => ?_)
 refine zl (cs' := [v6, v7, v8, iV x2.2.2.2.1, v9]) H13 q il27 q (T (H13.ctx.sliceOne hS1) (T (H13.ctx.sliceOne hS2) (T (H13.ctx.sliceOne hS3) (T q (T (H13.ctx.sliceOne hS4) q))))) q q q (fun w15 H16 => ?_)
 refine B <| C <| zk ?_
 have hB18 := R H16.p0
 refine zm (cs := [v6, v7, v8, iV x2.2.2.2.1, v9]) us27 uo27 il27 hB18 q q q ?_
 change XL _ _ _ _ _ ((14, .agg #[v6, v7, v8, iV x2.2.2.2.1, v9]) :: _) _
 obtain ⟨x19, hx20, h⟩ := D h
 refine QC q q c10 (fun w' hb => w_impl_HouseValid w' _ v6 x2.1 hS1 v7 x2.2.1 hS2 v8 x2.2.2.1 hS3 x2.2.2.2.1 v9 x2.2.2.2.2 hS4 x19 hx20 (H16.grow hb).ctx) (by rfl) <| qA q q q <| QL_nil fun a ha w21 hb22 => ?_
 have H23 := H16.grow hb22
 refine X (S ?_ ha)
 refine C <| C <| zk <| qM q q q ?_
 have hB24 := R H23.p0
 refine zm (cs := [v6, v7, v8, iV x2.2.2.2.1, v9]) us27 uo27 il27 hB24 q q q ?_
 change XL _ _ _ _ _ ((17, .agg #[v6, v7, v8, iV x2.2.2.2.1, v9]) :: _) _
 obtain ⟨x25, hx26, h⟩ := D h
 refine QC q q c11 (fun w' hb => w_spec_HouseValid w' _ v6 x2.1 hS1 v7 x2.2.1 hS2 v8 x2.2.2.1 hS3 x2.2.2.2.1 v9 x2.2.2.2.2 hS4 x25 hx26 (H23.grow hb).ctx) (by rfl) <| A q (qt_bneq u4 q q) q q <| QL_nil fun a ha w27 hb28 => ?_
 have H29 := H23.grow hb28
 refine X (S ?_ ha)
 refine Y q (fun hc30 => ?_) (fun hc30 => ?_)
 ·have h := if_t hc30 h
  refine rR <| qA q q q <| B <| W fun a ha => ?_
  obtain rfl := L h
  have H31 := H29.q0.q0.q0.q0.q0
  exact m (ret1 q ha q ⟨q, H31⟩)
 have h := if_f hc30 h
 refine y <| C <| rR <| qM q q q <| A q (qt_not q) q q <| B ?_
 refine Y q (fun hc32 => ?_) (fun hc32 => ?_)
 ·have h := if_t hc32 h
  refine C <| zk ?_
  obtain ⟨x33, hx34, h⟩ := D h
  refine QC q q c12 (fun w' hb => w_laws_alive w' _  x33 hx34 (H29.grow hb).ctx) (by rfl) <| qA q q q <| QL_nil fun a ha w35 hb36 => ?_
  have H37 := H29.grow hb36
  refine X (S ?_ ha)
  refine W fun a ha => ?_
  obtain rfl := L h
  have H38 := H37.q0.q0.q0.q0.q0
  exact m (ret1 q ha q ⟨q, H38⟩)
 have h := if_f hc32 h
 refine y <| C <| rR <| qA q q q <| B <| g ?_
 obtain ⟨o40, ho41, h⟩ := D h
 have H44 := H29.p4.p4.p4.p4.p4
 refine fun a42 ha43 => zp (I := fun s a w2 => match s with | s39 => (Fr a 88 [(3, pB b11), (5, iV s39)] ∧ Holds M0 w w2 [.bx b11 27 [v6, v7, v8, iV x2.2.2.2.1, v9], .sl 70 ty5 v6 x2.1, .sl 3 tI v7 x2.2.1, .sl 3 tI v8 x2.2.2.1, .sl 33 ty6 v9 x2.2.2.2.2] G)) (O := fun o e a w2 => match o with | .inl _ => e = .exit 0 ∧ (Fr a 88 [(3, pB b11)] ∧ Holds M0 w w2 [.bx b11 27 [v6, v7, v8, iV x2.2.2.2.1, v9], .sl 70 ty5 v6 x2.1, .sl 3 tI v7 x2.2.1, .sl 3 tI v8 x2.2.2.1, .sl 33 ty6 v9 x2.2.2.2.2] G) | .inr q0 => e = .ret ∧ (Fr a 88 [(2, .bool q0)] ∧ Holds M0 w w2 [] G)) ho41 ?_ ?_ ?_
 ·exact ⟨ha43.sub ⟨q, q, trivial⟩, H44⟩
 ·clear ha43
  intro s o47 a w45 hs46 hI48
  obtain ⟨s39, rfl⟩ : ∃ z, z = s := ⟨s, q⟩
  obtain ⟨ha, H49⟩ := hI48
  refine S ?_ ha
  clear ha
  refine C <| rR <| qM q q q <| qF uf27 fi27_4 nz25 q q q ?_
  have hB50 := R H49.p0
  refine l u25 q hB50 q q q q <| za H49.ctx (t := ty6) hS4 u25 q q q <| A q (qt_lss q q) q q <| B ?_
  refine Y q (fun hc51 => ?_) (fun hc51 => ?_)
  ·have hs46 := if_t hc51 hs46
   refine y <| C <| g <| rR <| qA q q q <| B <| g ?_
   obtain ⟨o53, ho54, hs46⟩ := D hs46
   have H57 := H49.p4.p4.p4.p4.p4
   refine fun a55 ha56 => zp (I := fun s a w2 => match s with | s52 => (Fr a 88 [(3, pB b11), (5, iV s39), (6, iV s52)] ∧ Holds M0 w w2 [.bx b11 27 [v6, v7, v8, iV x2.2.2.2.1, v9], .sl 70 ty5 v6 x2.1, .sl 3 tI v7 x2.2.1, .sl 3 tI v8 x2.2.2.1, .sl 33 ty6 v9 x2.2.2.2.2] G)) (O := fun o e a w2 => match o with | .inl _ => e = .exit 2 ∧ (Fr a 88 [(3, pB b11), (5, iV s39)] ∧ Holds M0 w w2 [.bx b11 27 [v6, v7, v8, iV x2.2.2.2.1, v9], .sl 70 ty5 v6 x2.1, .sl 3 tI v7 x2.2.1, .sl 3 tI v8 x2.2.2.1, .sl 33 ty6 v9 x2.2.2.2.2] G) | .inr q0 => e = .ret ∧ (Fr a 88 [(2, .bool q0)] ∧ Holds M0 w w2 [] G)) ho54 ?_ ?_ ?_
   ·exact ⟨ha56.sub ⟨q, q, q, trivial⟩, H57⟩
   ·clear ha56
    intro s o60 a w58 hs59 hI61
    obtain ⟨s52, rfl⟩ : ∃ z, z = s := ⟨s, q⟩
    obtain ⟨ha, H62⟩ := hI61
    refine S ?_ ha
    clear ha
    refine C <| rR <| qM q q q <| qF uf27 fi27_4 nz25 q q q ?_
    have hB63 := R H62.p0
    refine l u25 q hB63 q q q q <| qM q q q ?_
    obtain ⟨x64, hx65, hs59⟩ := D hs59
    refine b H62.ctx hS4 hx65 u25 i33 q q q q (fun b66 off67 cap68 hv69 => ?_)
    refine qF uf33 fi33_2 nz24 q q q ?_
    obtain ⟨F70, hat71, hdup72⟩ := H62.at hS4 hx65 hv69
    obtain ⟨F73, hat74, hin75⟩ := AtP.snd hat71
    obtain ⟨F76, hat77, hin78⟩ := AtP.snd hat74
    refine XL_load (t := (.slice tI)) u24 q q hat77 q q q (fun v79 hr80 => ?_)
    have H81 : Holds _ w w58 [.ro tI v79 x64.2.2, .bx b11 27 [v6, v7, v8, iV x2.2.2.2.1, v9], .sl 70 ty5 v6 x2.1, .sl 3 tI v7 x2.2.1, .sl 3 tI v8 x2.2.2.1, .sl 33 ty6 v9 x2.2.2.2.2] G := hdup72 _ _ _ _ hr80 (fun k h => (fun k h => (fun _ h => h) k (hin75 k h)) k (hin78 k h))
    refine za H81.ctx (t := tI) hR0 u24 q q q <| A q (qt_lss q q) q q <| B ?_
    refine Y q (fun hc82 => ?_) (fun hc82 => ?_)
    ·have hs59 := if_t hc82 hs59
     refine y <| C <| g <| C <| WP_quiet (by kernel_rfl) (by kernel_rfl) <| qF uf27 fi27_0 nz23 q q q ?_
     have hB83 := R H81.p1
     refine l u23 q hB83 q q q q <| qF uf27 fi27_4 nz25 q q q ?_
     have hB84 := R H81.p1
     refine l u25 q hB84 q q q q <| qM q q q ?_
     obtain ⟨x85, hx86, hs59⟩ := D hs59
     refine b H81.ctx hS5 hx86 u25 i33 q q q q (fun b87 off88 cap89 hv90 => ?_)
     refine qF uf33 fi33_2 nz24 q q q ?_
     obtain ⟨F91, hat92, hdup93⟩ := H81.at hS5 hx86 hv90
     obtain ⟨F94, hat95, hin96⟩ := AtP.snd hat92
     obtain ⟨F97, hat98, hin99⟩ := AtP.snd hat95
     refine XL_load (t := (.slice tI)) u24 q q hat98 q q q (fun v100 hr101 => ?_)
     have H102 : Holds _ w w58 [.ro tI v100 x85.2.2, .ro tI v79 x64.2.2, .bx b11 27 [v6, v7, v8, iV x2.2.2.2.1, v9], .sl 70 ty5 v6 x2.1, .sl 3 tI v7 x2.2.1, .sl 3 tI v8 x2.2.2.1, .sl 33 ty6 v9 x2.2.2.2.2] G := hdup93 _ _ _ _ hr101 (fun k h => (fun k h => (fun _ h => h) k (hin96 k h)) k (hin99 k h))
     refine qM q q q ?_
     obtain ⟨x103, hx104, hs59⟩ := D hs59
     refine b H102.ctx hR0 hx104 u24 i3 q q q q (fun b105 off106 cap107 hv108 => ?_)
     obtain ⟨F109, hat110, hdup111⟩ := H102.at hR0 hx104 hv108
     refine zt (k := .i64) u3 q hat110 q q q ?_
     obtain ⟨x112, hx113, hs59⟩ := D hs59
     refine QC q q c13 (fun w' hb => w_impl_MarksOf w' _ v6 x2.1 hS3 x103 x112 hx113 (H102.grow hb).ctx) (by rfl) <| qA q q q <| QL_nil fun a ha w114 hb115 => ?_
     have H116 := H102.grow hb115
     refine X (S ?_ ha)
     refine rR <| qA q q q <| B <| g ?_
     obtain ⟨o118, ho119, hs59⟩ := D hs59
     have H122 := H116.q0.q0.p4.p4.p4.p4.p4
     refine fun a120 ha121 => zp (I := fun s a w2 => match s with | s117 => (Fr a 88 [(3, pB b11), (5, iV s39), (6, iV s52), (7, iV x112), (8, iV s117)] ∧ Holds M0 w w2 [.bx b11 27 [v6, v7, v8, iV x2.2.2.2.1, v9], .sl 70 ty5 v6 x2.1, .sl 3 tI v7 x2.2.1, .sl 3 tI v8 x2.2.2.1, .sl 33 ty6 v9 x2.2.2.2.2] G)) (O := fun o e a w2 => match o with | .inl _ => e = .exit 4 ∧ (Fr a 88 [(3, pB b11), (5, iV s39), (6, iV s52)] ∧ Holds M0 w w2 [.bx b11 27 [v6, v7, v8, iV x2.2.2.2.1, v9], .sl 70 ty5 v6 x2.1, .sl 3 tI v7 x2.2.1, .sl 3 tI v8 x2.2.2.1, .sl 33 ty6 v9 x2.2.2.2.2] G) | .inr q0 => e = .ret ∧ (Fr a 88 [(2, .bool q0)] ∧ Holds M0 w w2 [] G)) ho119 ?_ ?_ ?_
     ·exact ⟨ha121.sub ⟨q, q, q, q, q, trivial⟩, H122⟩
     ·clear ha121
      intro s o125 a w123 hs124 hI126
      obtain ⟨s117, rfl⟩ : ∃ z, z = s := ⟨s, q⟩
      obtain ⟨ha, H127⟩ := hI126
      refine S ?_ ha
      clear ha
      refine C <| rR <| qM q q q <| A q (qt_lss q q) q q <| B ?_
      refine Y q (fun hc128 => ?_) (fun hc128 => ?_)
      ·have hs124 := if_t hc128 hs124
       refine y <| C <| g <| rR <| qM q q q <| A q (qt_lss q q) q q <| qM q q q ?_
       obtain ⟨b129, hg130, hs124⟩ := D hs124
       refine zh 18 77 (.bool b129) ?_ (fun md hmd hk => ?_)
       rotate_left
       ·obtain ⟨Q, rfl⟩ := Md.seq_of hmd
        rcases btf (decide (x112 < 0)) with hc131 | hc131
        ·skip
         refine qS q hc131 q q <| qS q hc131 q q <| qS q hc131 q q <| qS q hc131 q q <| qS q hc131 q q <| qS q hc131 q q <| XL_skip q q q <| XL_skip q q q <| XL_skip q q q <| XL_skip q q q ?_
         refine XL_skip q q q <| XL_skip q q q <| XL_skip q q q <| XL_skip q q q <| XL_skip q q q <| XL_skip q q q <| qS q hc131 q q <| A q (ze q hc131 q) q q ?_
         exact hk _ (p (vb (if_t hc131 hg130)) (cfn 17 q (u)))
        skip
        have hg130 := if_f hc131 hg130
        refine qM (J q hc131) q q <| qM (J q hc131) q q ?_
        obtain ⟨x132, hx133, hg130⟩ := D hg130
        refine A (J q hc131) (qt_shrO q q hx133) q q <| A (J q hc131) (qt_rem q q (by decide)) q q <| A (J q hc131) (qt_eql q q) q q <| qM (J q hc131) q q ?_
        obtain ⟨b134, hg135, hg130⟩ := D hg130
        refine zh 11 76 (.bool b134) ?_ (fun md hmd hk => ?_)
        rotate_left
        ·obtain ⟨Q, rfl⟩ := Md.seq_of hmd
         rcases btf ((Int.tmod x132 2) == 1) with hc136 | hc136
         ·skip
          have hg135 := if_t hc136 hg135
          refine qF uf27 fi27_4 nz25 (J q hc136) q q ?_
          have hB137 := R H127.p0
          refine l u25 q hB137 q (J q hc136) q q <| qM (J q hc136) q q ?_
          obtain ⟨x138, hx139, hg135⟩ := D hg135
          refine b H127.ctx hS4 hx139 u25 i33 (J q hc136) q q q (fun b140 off141 cap142 hv143 => ?_)
          refine qF uf33 fi33_0 nz3 (J q hc136) q q ?_
          obtain ⟨F144, hat145, hdup146⟩ := H127.at hS4 hx139 hv143
          obtain ⟨F147, hat148, hin149⟩ := AtP.fst hat145
          refine zt (k := .i64) u3 q hat148 (J q hc136) q q <| qM (J q hc136) q q ?_
          obtain ⟨x150, hx151, hg135⟩ := D hg135
          refine A (J q hc136) (qt_shrO q q hx151) q q <| A (J q hc136) (qt_rem q q (by decide)) q q <| A (J q hc136) (qt_eql q q) q q <| A (J q hc131) (ze q hc136 q) q q ?_
          exact hk _ (p (vb hg135) (cfn 10 q (u)))
         skip
         refine qS q hc136 q q <| qS q hc136 q q <| qS q hc136 q q <| qS q hc136 q q <| qS q hc136 q q <| qS q hc136 q q <| qS q hc136 q q <| qS q hc136 q q <| qS q hc136 q q <| qS q hc136 q q ?_
         refine A (J q hc131) (zf q hc136 q) q q ?_
         exact hk _ (p (vb (if_f hc136 hg135)) (cfn 10 q (u)))
        refine A q (zf q hc131 q) q q ?_
        exact hk _ (p (vb hg130) (cfn 7 q (u)))
       refine B ?_
       refine Y q (fun hc152 => ?_) (fun hc152 => ?_)
       ·have hs124 := if_t hc152 hs124
        refine rR <| qA q q q <| B <| W fun a ha => ?_
        obtain rfl := L hs124
        have H153 := H127.q0.q0.q0.q0.q0
        exact zj (m (⟨ret_ne, q, ha.sub ⟨q, trivial⟩, H153⟩))
       have hs124 := if_f hc152 hs124
       refine WP_skip fun a ha => ?_
       refine zi (X (S ?_ ha))
       refine Z <| qM q q q <| A q (qt_add q q) q q <| qA q q q <| WL_nil fun a ha => ?_
       obtain rfl := L hs124
       have H154 := H127.p4.p4.p4.p4.p4
       exact ⟨q, ha.sub ⟨q, q, q, q, q, trivial⟩, H154⟩
      have hs124 := if_f hc128 hs124
      refine WP_exit fun a ha => ?_
      obtain rfl := L hs124
      have H155 := H127.p4.p4.p4.p4.p4
      exact zo (⟨exit_ne, q, ha.sub ⟨q, q, q, trivial⟩, H155⟩)
     intro e a120 w156 hO157
     rcases o118 with o118 | o118
     ·skip
      obtain ⟨rfl, hO159⟩ := hO157
      obtain ⟨ha, H158⟩ := hO159
      refine zn (zi (X (S ?_ ha)))
      refine Z <| qM q q q <| A q (qt_add q q) q q <| qA q q q <| WL_nil fun a ha => ?_
      obtain rfl := L hs59
      have H160 := H158.p4.p4.p4.p4.p4
      exact ⟨q, ha.sub ⟨q, q, q, trivial⟩, H160⟩
     skip
     obtain ⟨p161, rfl⟩ : ∃ z, z = o118 := ⟨o118, q⟩
     obtain ⟨rfl, hO163⟩ := hO157
     obtain ⟨ha, H162⟩ := hO163
     obtain rfl := L hs59
     exact zj (zj (m (⟨ret_ne, q, ha.sub ⟨q, trivial⟩, H162⟩)))
    have hs59 := if_f hc82 hs59
    refine WP_exit fun a ha => ?_
    obtain rfl := L hs59
    have H164 := H81.q0.p4.p4.p4.p4.p4
    exact zo (⟨exit_ne, q, ha.sub ⟨q, q, trivial⟩, H164⟩)
   intro e a55 w165 hO166
   rcases o53 with o53 | o53
   ·skip
    obtain ⟨rfl, hO168⟩ := hO166
    obtain ⟨ha, H167⟩ := hO168
    refine zn (zi (X (S ?_ ha)))
    refine Z <| qM q q q <| A q (qt_add q q) q q <| qA q q q <| WL_nil fun a ha => ?_
    obtain rfl := L hs46
    have H169 := H167.p4.p4.p4.p4.p4
    exact ⟨q, ha.sub ⟨q, q, trivial⟩, H169⟩
   skip
   obtain ⟨p170, rfl⟩ : ∃ z, z = o53 := ⟨o53, q⟩
   obtain ⟨rfl, hO172⟩ := hO166
   obtain ⟨ha, H171⟩ := hO172
   obtain rfl := L hs46
   exact zj (zj (m (⟨ret_ne, q, ha.sub ⟨q, trivial⟩, H171⟩)))
  have hs46 := if_f hc51 hs46
  refine WP_exit fun a ha => ?_
  obtain rfl := L hs46
  have H173 := H49.p4.p4.p4.p4.p4
  exact zo (⟨exit_ne, q, ha.sub ⟨q, trivial⟩, H173⟩)
 intro e a42 w174 hO175
 rcases o40 with o40 | o40
 ·skip
  obtain ⟨rfl, hO177⟩ := hO175
  obtain ⟨ha, H176⟩ := hO177
  refine zn (X (S ?_ ha))
  refine C <| zk <| qF uf27 fi27_0 nz23 q q q ?_
  have hB178 := R H176.p0
  refine l u23 q hB178 q q q q <| qF uf27 fi27_1 nz24 q q q ?_
  have hB179 := R H176.p0
  refine l u24 q hB179 q q q q <| qF uf27 fi27_2 nz24 q q q ?_
  have hB180 := R H176.p0
  refine l u24 q hB180 q q q q <| qF uf27 fi27_3 nz3 q q q ?_
  have hB181 := R H176.p0
  refine l u3 q hB181 q q q q <| A q (qt_build (args := [(0, .tmp 79), (1, .tmp 81), (2, .tmp 83), (3, .tmp 85)]) (css := [#[v6], #[v7], #[v8], #[iV x2.2.2.2.1]]) (cells := #[v6, v7, v8, iV x2.2.2.2.1, nS]) q ⟨(H176.ctx.sliceCells hS1), (H176.ctx.sliceCells hS2), (H176.ctx.sliceCells hS3), q, trivial⟩ (by kernel_rfl)) q q ?_
  obtain ⟨x182, hx183, h⟩ := D h
  refine QC q q c10 (fun w' hb => w_impl_HouseValid w' _ v6 x2.1 hS1 v7 x2.2.1 hS2 v8 x2.2.2.1 hS3 x2.2.2.2.1 (nS) ([] : LT) (HasRo.has HasRo.nil) x182 hx183 (H176.grow hb).ctx) (by rfl) <| qA q q q <| QL_nil fun a ha w184 hb185 => ?_
  have H186 := H176.grow hb185
  refine X (S ?_ ha)
  refine W fun a ha => ?_
  obtain rfl := L h
  have H187 := H186.q0.q0.q0.q0.q0
  exact ret1 q ha q ⟨q, H187⟩
 skip
 obtain ⟨p188, rfl⟩ : ∃ z, z = o40 := ⟨o40, q⟩
 obtain ⟨rfl, hO190⟩ := hO175
 obtain ⟨ha, H189⟩ := hO190
 obtain rfl := L h
 exact zj (m (ret1 q ha q ⟨q, H189⟩))
theorem w_spec_DrawTableBill (w : World) (G : List Res) (vp0 : Value) (p0 : List Int) (hp0 : HasRo G (.int .u8) vp0 p0) (r : (LI × (List Int) × (List Int) × Int × LT) × Int) (h : spec_DrawTableBillS p0 = some r) (H : Ctx w G) : Calls Tryd.prog 14 #[vp0] w fun e w' => ∃ (v1 : Value) (v2 : Value) (v3 : Value) (v4 : Value), e = .returned (.tuple #[.agg #[v1, v2, v3, iV r.1.2.2.2.1, v4], iV r.2]) ∧ Holds M0 w w' [.sl 70 ty5 v1 r.1.1, .sl 3 tI v2 r.1.2.1, .sl 3 tI v3 r.1.2.2.1, .sl 33 ty6 v4 r.1.2.2.2.2] G := by
 have H : Holds M0 w w [] G := zb H
 refine zg (args := [vp0]) (n := 21) Tryd.func14 q q q ?_
 unfold spec_DrawTableBillS at h
 refine C <| Z ?_
 refine zq (cs := [nS, nS, nS, iV 0, nS]) H z27 q q q (fun b1 w2 H3 => ?_)
 refine qA q q q <| rN <| qM q q q ?_
 obtain ⟨x5, hx6, h⟩ := D h
 refine zd q q c32 (w_spec_l20Open w2 _ vp0 p0 (hp0.c) x5 hx6 H3.ctx) (by rfl) ?_
 rintro _ w7 ⟨v9, b10, rfl, H8⟩; refine ⟨_, q, ?_⟩
 have H11 := H3.cN2 [] H8
 refine qA q q q <| rN <| qM q q q ?_
 have H14 := H11.p1
 obtain ⟨x12, hx13, h⟩ := D h
 refine zd q q c31 (w_spec_l20House w7 _ b10 v9 x5.1 hR0 x5.2 9 x12 hx13 H14.ctx) (by rfl) ?_
 rintro _ w15 ⟨v17, v18, v19, v20, rfl, H16⟩; refine ⟨_, q, ?_⟩
 have H21 := H14.cN5 [_] H16
 refine zq (cs := [nS, nS, nS, iV 0, nS]) H21 z27 q q q (fun b22 w23 H24 => ?_)
 refine zl (cs' := [v17, v18, v19, iV x12.2.2.2.2.1, v20]) H24 q il27 q (T (H24.ctx.sliceOne hS1) (T (H24.ctx.sliceOne hS2) (T (H24.ctx.sliceOne hS3) (T q (T (H24.ctx.sliceOne hS4) q))))) q q q (fun w26 H27 => ?_)
 refine B <| C ?_
 obtain ⟨x31, hx32, h⟩ := D h
 obtain ⟨x37, hx38, h⟩ := D h
 refine WP_join (M := fun a w2 => ∃ vz28_0 vz28_1 vz28_2 vz28_3, Fr a 21 [(2, pB b1), (3, iV (IntKind.wrap .i64 (x31.2 - (IntKind.wrap .i64 (Int.tdiv x37.2 19)))))] ∧ Holds M0 w w2 [.bx b1 27 [vz28_0, vz28_1, vz28_2, iV x12.2.2.2.2.1, vz28_3], .sl 70 ty5 vz28_0 x12.2.1, .sl 3 tI vz28_1 x12.2.2.1, .sl 3 tI vz28_2 x12.2.2.2.1, .sl 33 ty6 vz28_3 x12.2.2.2.2.2] G) ?_ ?_
 ·refine WP_ordersT (fun w1 w2 => Chg (([.bx b10 104 [v9, iV x12.1], .bx b1 27 [nS, nS, nS, iV 0, nS]] : List Res).flatMap Res.own) w1 w2) 12 (by kernel_rfl) (fun w229 hb230 => ?_)
  have H231 := H27.grow hb230
  have H232 := H231.p7
  have H233 := H232.p6
  have C234 : Ctx w229 ([.bx b10 104 [v9, iV x12.1], .bx b1 27 [nS, nS, nS, iV 0, nS]] ++ ([.bx b22 27 [v17, v18, v19, iV x12.2.2.2.2.1, v20], .sl 70 ty5 v17 x12.2.1, .sl 3 tI v18 x12.2.2.1, .sl 3 tI v19 x12.2.2.2.1, .sl 33 ty6 v20 x12.2.2.2.2.2, .ro (.int .u8) v9 x5.1] ++ G)) := H233.ctx
  have H235 : Holds _ w229 w229 [.bx b10 104 [v9, iV x12.1], .bx b1 27 [nS, nS, nS, iV 0, nS]] ([.bx b22 27 [v17, v18, v19, iV x12.2.2.2.2.1, v20], .sl 70 ty5 v17 x12.2.1, .sl 3 tI v18 x12.2.2.1, .sl 3 tI v19 x12.2.2.2.1, .sl 33 ty6 v20 x12.2.2.2.2.2, .ro (.int .u8) v9 x5.1] ++ G) := zb (Rs := [.bx b10 104 [v9, iV x12.1], .bx b1 27 [nS, nS, nS, iV 0, nS]]) C234
  have hB262 := HasB.bx (HasB.c (HasB.c (HasB.hd))) H235.ctx
  refine XT (i := 0) q (by kernel_rfl) q H235.chg q (qs_agg (cs := [v17, v18, v19, iV x12.2.2.2.2.1, v20]) us27 uo27 il27 q (fun j z hj => by rw [Nat.zero_add]; exact hB262.cell hj) H235.chg (Ctx.outB C234 (HasB.hd))) q q ?_
  change XC _ _ _ _ _ _ _ _ ((10, .agg #[v17, v18, v19, iV x12.2.2.2.2.1, v20]) :: _) _
  refine XQ (i := 1) q (by kernel_rfl) q H235.chg q (fun _ => qt_move q) q q <| XQ (i := 2) q (by kernel_rfl) q H235.chg q (fun _ => qt_fieldAddr uf27 fi27_4 nz25 q) q q ?_
  have hB263 := HasB.bx (HasB.c (HasB.c (HasB.hd))) H235.ctx
  refine XT (i := 3) q (by kernel_rfl) q H235.chg q (qs_cell u25 q q (hB263.cell (i := 4) q) H235.chg (Ctx.outB C234 (HasB.hd))) q q <| XT (i := 4) q (by kernel_rfl) q H235.chg q (qs_len (t := ty6) H235.ctx hS6 u25 q) q q <| XQ (i := 5) q (by kernel_rfl) q H235.chg q (fun _ => qt_add q q) q q <| XQ (i := 7) q (by kernel_rfl) q H235.chg q (fun _ => qt_move q) q q <| X1 6 (by kernel_rfl) q <| zd q q c44 (w_spec_l20Rd__pick w229 _ b10 v9 x5.1 hR6 x12.1 (IntKind.wrap .i64 ((List.length x12.2.2.2.2.2 : Int) + 1)) x31 hx32 H235.ctx) (by rfl) ?_
  rintro _ w264 ⟨rfl, H265⟩; refine ⟨_, q, ?_⟩
  have H266 := H235.cN1 [_] H265
  refine XN H266.chg <| X1 8 (by kernel_rfl) q <| zd q q c44 (w_spec_l20Rd__pick w264 _ b10 v9 x5.1 hR6 x31.1 20 x37 hx38 H266.ctx) (by rfl) ?_
  rintro _ w267 ⟨rfl, H268⟩; refine ⟨_, q, ?_⟩
  have H269 := H266.cN1 [_] H268
  refine XN H269.chg <| XQ (i := 9) q (by kernel_rfl) q H269.chg q (fun _ => qt_quo q q (by decide)) q q <| XQ (i := 10) q (by kernel_rfl) q H269.chg q (fun _ => qt_sub q q) q q <| X1 11 (by kernel_rfl) q ?_
  have H270 := H269.p1
  refine zl (cs' := [v17, v18, v19, iV x12.2.2.2.2.1, v20]) H270 q il27 q (T (H270.ctx.sliceOne hS3) (T (H270.ctx.sliceOne hS4) (T (H270.ctx.sliceOne hS5) (T q (T (H270.ctx.sliceOne hS6) q))))) q q q (fun w271 H272 => ?_)
  refine XN H272.chg ?_
  have H274 := H233.cN2 [_, _] H272
  refine X1 12 (by kernel_rfl) q <| qA q q q <| XE q ?_
  refine XC_done (by kernel_rfl) (fun a ha => ?_)
  have H275 := H274.q1.q1.q5.p4.p4.p4.p4.p4
  exact ⟨v17, v18, v19, v20, ha.sub ⟨q, q, trivial⟩, H275⟩
 intro a w276 hI277
 obtain ⟨vz28_0, vz28_1, vz28_2, vz28_3, ha, H278⟩ := hI277
 refine S ?_ ha
 clear ha
 refine W fun a ha => ?_
 obtain rfl := L h
 have hB279 := R H278.p0
 have H280 := H278.q0.p3.p3.p3.p3
 exact retct q ha q q (run_loadVar_bx (cs := [vz28_0, vz28_1, vz28_2, iV x12.2.2.2.2.1, vz28_3]) us27 uo27 il27 hB279) ⟨vz28_0, vz28_1, vz28_2, vz28_3, q, H280⟩
theorem w_impl_TableBill (w : World) (G : List Res) (A0 : Value) (B0 : LI) (C0 : Has G ty5 A0 B0) (A1 : Value) (B1 : List Int) (C1 : Has G tI A1 B1) (A2 : Value) (B2 : List Int) (C2 : Has G tI A2 B2) (B3 : Int) (A4 : Value) (B4 : LT) (C4 : Has G ty6 A4 B4) (p1 : Int) (r : Int) (h : impl_TableBillS B0 B1 B2 B3 B4 p1 = some r) (H : Ctx w G) : Calls Tryd.prog 15 #[.agg #[A0, A1, A2, iV B3, A4], iV p1] w fun e w' => e = .returned (iV r) ∧ Holds M0 w w' [] G := by
 have H : Holds M0 w w [] G := zb H
 refine zg (args := [.agg #[A0, A1, A2, iV B3, A4], iV p1]) (n := 54) Tryd.func15 q q q ?_
 unfold impl_TableBillS at h
 refine C <| Z ?_
 refine WL_box (cs := [A0, A1, A2, iV B3, A4]) H q q q q (fun b1 w2 H3 => ?_)
 refine qA q q q <| B <| C <| C <| zk ?_
 have hB5 := R H3.p0
 refine zm (cs := [A0, A1, A2, iV B3, A4]) us27 uo27 il27 hB5 q q q ?_
 change XL _ _ _ _ _ ((8, .agg #[A0, A1, A2, iV B3, A4]) :: _) _
 obtain ⟨x6, hx7, h⟩ := D h
 refine QC q q c10 (fun w' hb => w_impl_HouseValid w' _ A0 B0 (C0.c) A1 B1 (C1.c) A2 B2 (C2.c) B3 A4 B4 (C4.c) x6 hx7 (H3.grow hb).ctx) (by rfl) <| A q (qt_not q) q q <| qM q q q ?_
 refine zh 3 14 (.bool ((!x6) || (decide (p1 < 0)))) ?_ (fun md hmd hk => ?_)
 rotate_left
 ·obtain ⟨K, rfl⟩ := zr hmd
  rcases btf (!x6) with hc8 | hc8
  ·skip
   refine qS q hc8 q q <| qS q hc8 q q <| A q (ze q hc8 q) q q ?_
   exact hk _ (p (by rw [hc8]; rfl) (cfn 2 q (u)))
  skip
  refine qM (J q hc8) q q <| A (J q hc8) (qt_lss q q) q q <| A q (zf q hc8 q) q q ?_
  exact hk _ (p (by rw [hc8]; rfl) (cfn 2 q (u)))
 refine qM q q q ?_
 refine zh 6 21 (.bool (((!x6) || (decide (p1 < 0))) || (decide (p1 ≥ (List.length B4 : Int))))) ?_ (fun md hmd hk => ?_)
 rotate_left
 ·obtain ⟨K, rfl⟩ := zr hmd
  rcases btf ((!x6) || (decide (p1 < 0))) with hc9 | hc9
  ·skip
   refine qS q hc9 q q <| qS q hc9 q q <| qS q hc9 q q <| qS q hc9 q q <| qS q hc9 q q <| A q (ze q hc9 q) q q ?_
   exact hk _ (p (by rw [hc9]; rfl) (cfn 5 q (u)))
  skip
  refine qM (J q hc9) q q <| qF uf27 fi27_4 nz25 (J q hc9) q q ?_
  have hB10 := R H3.p0
  refine l u25 q hB10 q (J q hc9) q q <| za H3.ctx (t := ty6) (C4.c) u25 (J q hc9) q q <| A (J q hc9) (qt_geq q q) q q <| A q (zf q hc9 q) q q ?_
  exact hk _ (p (by rw [hc9]; rfl) (cfn 5 q (u)))
 refine QL_nil fun a ha w11 hb12 => ?_
 have H13 := H3.grow hb12
 refine X (S ?_ ha)
 refine Y q (fun hc14 => ?_) (fun hc14 => ?_)
 ·have h := if_t hc14 h
  refine rR <| qA q q q <| B <| W fun a ha => ?_
  obtain rfl := L h
  have H15 := H13.q0
  exact m (ret1 q ha q ⟨q, H15⟩)
 have h := if_f hc14 h
 refine y <| rR <| qA q q q <| B <| C <| rR <| qF uf27 fi27_4 nz25 q q q ?_
 have hB16 := R H13.p0
 refine l u25 q hB16 q q q q <| qM q q q ?_
 obtain ⟨x17, hx18, h⟩ := D h
 refine b H13.ctx (C4.c) hx18 u25 i33 q q q q (fun b19 off20 cap21 hv22 => ?_)
 refine qF uf33 fi33_1 nz31 q q q ?_
 obtain ⟨F23, hat24, hdup25⟩ := H13.at (C4.c) hx18 hv22
 obtain ⟨F26, hat27, hin28⟩ := AtP.snd hat24
 obtain ⟨F29, hat30, hin31⟩ := AtP.fst hat27
 refine XL_load (t := ty2) u31 q q hat30 q q q (fun v32 hr33 => ?_)
 have H34 : Holds _ w w11 [.ro ty1 v32 x17.2.1, .bx b1 27 [A0, A1, A2, iV B3, A4]] G := hdup25 _ _ _ _ hr33 (fun k h => (fun k h => (fun _ h => h) k (hin28 k h)) k (hin31 k h))
 refine za H34.ctx (t := ty1) hR0 u31 q q q <| qM q q q <| B <| g ?_
 obtain ⟨o37, ho38, h⟩ := D h
 have H41 := H34.p1
 refine fun a39 ha40 => zp (I := fun s a w2 => match s with | (s35, s36) => (Fr a 54 [(1, iV p1), (2, pB b1), (5, iV s35), (27, v32), (28, iV (List.length x17.2.1 : Int)), (29, iV s36)] ∧ Holds M0 w w2 [.bx b1 27 [A0, A1, A2, iV B3, A4], .ro ty1 v32 x17.2.1] G)) (O := fun o e a w2 => match o with | q0 => e = .exit 0 ∧ (Fr a 54 [(5, iV q0)] ∧ Holds M0 w w2 [] G)) ho38 ?_ ?_ ?_
 ·exact ⟨ha40.sub ⟨q, q, q, q, q, q, trivial⟩, H41⟩
 ·clear ha40
  intro s o44 a w42 hs43 hI45
  obtain ⟨s35, s36⟩ := s
  obtain ⟨ha, H46⟩ := hI45
  refine S ?_ ha
  clear ha
  refine rR <| A q (qt_lss q q) q q <| B <| C ?_
  refine Y q (fun hc47 => ?_) (fun hc47 => ?_)
  ·have hs43 := if_t hc47 hs43
   refine y <| C <| g <| rR <| qM q q q ?_
   obtain ⟨x48, hx49, hs43⟩ := D hs43
   refine b H46.ctx hR1 hx49 u31 i40 q q q q (fun b50 off51 cap52 hv53 => ?_)
   obtain ⟨F54, hat55, hdup56⟩ := H46.atN hR1 hx49 hv53
   refine XL_load_agg (t := ty1) us40 uo40 i40 hat55 q q q (fun cs57 hr58 => ?_)
   obtain ⟨c59, c60, F61, F62, rfl, eF65, hr63, hr64⟩ := hr58
   obtain ⟨rfl, _⟩ := hr63
   obtain ⟨rfl, _⟩ := hr64
   change XL _ _ _ _ _ ((33, .agg #[iV x48.1, iV x48.2]) :: _) _
   refine zq (cs := [iV 0, iV 0]) H46 z40 q q q (fun b66 w67 H68 => ?_)
   refine qA q q q ?_
   refine zl (cs' := [iV x48.1, iV x48.2]) H68 q il40 q q q q q (fun w70 H71 => ?_)
   refine rN <| qF uf40 fi40_1 nz3 q q q ?_
   have hB73 := R H71.p0
   refine l u3 q hB73 q q q q <| A q (qt_eql q q) q q <| B ?_
   refine Y q (fun hc74 => ?_) (fun hc74 => ?_)
   ·have hs43 := if_t hc74 hs43
    refine WP_quiet (by kernel_rfl) (by kernel_rfl) <| qM q q q <| qF uf27 fi27_1 nz24 q q q ?_
    have hB75 := R H71.p1
    refine l u24 q hB75 q q q q <| qF uf27 fi27_4 nz25 q q q ?_
    have hB76 := R H71.p1
    refine l u25 q hB76 q q q q <| qM q q q ?_
    obtain ⟨x77, hx78, hs43⟩ := D hs43
    refine b H71.ctx (C4.c.c.c) hx78 u25 i33 q q q q (fun b79 off80 cap81 hv82 => ?_)
    refine qF uf33 fi33_2 nz24 q q q ?_
    obtain ⟨F83, hat84, hdup85⟩ := H71.at (C4.c.c.c) hx78 hv82
    obtain ⟨F86, hat87, hin88⟩ := AtP.snd hat84
    obtain ⟨F89, hat90, hin91⟩ := AtP.snd hat87
    refine XL_load (t := (.slice tI)) u24 q q hat90 q q q (fun v92 hr93 => ?_)
    have H94 : Holds _ w w70 [.ro tI v92 x77.2.2, .bx b66 40 [iV x48.1, iV x48.2], .bx b1 27 [A0, A1, A2, iV B3, A4], .ro ty1 v32 x17.2.1] G := hdup85 _ _ _ _ hr93 (fun k h => (fun k h => (fun _ h => h) k (hin88 k h)) k (hin91 k h))
    refine qM q q q ?_
    obtain ⟨x95, hx96, hs43⟩ := D hs43
    refine b H94.ctx hR0 hx96 u24 i3 q q q q (fun b97 off98 cap99 hv100 => ?_)
    obtain ⟨F101, hat102, hdup103⟩ := H94.at hR0 hx96 hv100
    refine zt (k := .i64) u3 q hat102 q q q ?_
    obtain ⟨x104, hx105, hs43⟩ := D hs43
    refine b H94.ctx (C1.c.c.c.c) hx105 u24 i3 q q q q (fun b106 off107 cap108 hv109 => ?_)
    obtain ⟨F110, hat111, hdup112⟩ := H94.at (C1.c.c.c.c) hx105 hv109
    refine zt (k := .i64) u3 q hat111 q q q <| A q (qt_add q q) q q <| qA q q q <| QL_nil fun a ha w113 hb114 => ?_
    have H115 := H94.grow hb114
    refine zi (X (S ?_ ha))
    refine Z <| A q (qt_add q q) q q <| qM q q q <| WL_nil fun a ha => ?_
    obtain rfl := L hs43
    have H116 := H115.q0.q0.p1.p1
    exact ⟨q, ha.sub ⟨q, q, q, q, q, q, trivial⟩, H116⟩
   have hs43 := if_f hc74 hs43
   refine WP_skip fun a ha => ?_
   refine zi (X (S ?_ ha))
   refine Z <| A q (qt_add q q) q q <| qM q q q <| WL_nil fun a ha => ?_
   obtain rfl := L hs43
   have H117 := H71.q0.p1.p1
   exact ⟨q, ha.sub ⟨q, q, q, q, q, q, trivial⟩, H117⟩
  have hs43 := if_f hc47 hs43
  refine WP_exit fun a ha => ?_
  obtain rfl := L hs43
  have H118 := H46.q0.q0
  exact zo (⟨exit_ne, q, ha.sub ⟨q, trivial⟩, H118⟩)
 intro e a39 w119 hO120
 obtain ⟨p121, rfl⟩ : ∃ z, z = o37 := ⟨o37, q⟩
 obtain ⟨rfl, hO123⟩ := hO120
 obtain ⟨ha, H122⟩ := hO123
 refine zn (X (S ?_ ha))
 refine rR <| qM q q q <| qA q q q <| B <| W fun a ha => ?_
 obtain rfl := L h
 exact ret1 q ha q ⟨q, H122⟩
theorem w_laws_FnTableBill (w : World) (G : List Res) (vp0 : Value) (p0 : List Int) (hp0 : HasRo G (.int .u8) vp0 p0) (r : Bool) (h : laws_FnTableBillS p0 = some r) (H : Ctx w G) : Calls Tryd.prog 4 #[vp0] w fun e w' => e = .returned (.bool r) ∧ Holds M0 w w' [] G := by
 have H : Holds M0 w w [] G := zb H
 refine zg (args := [vp0]) (n := 82) Tryd.func4 q q q ?_
 unfold laws_FnTableBillS at h
 refine rR <| qA q q q <| B <| C <| rR <| qM q q q <| za H.ctx (t := (.int .u8)) (hp0.has) u22 q q q <| A q (qt_gtr q q) q q ?_
 refine B ?_
 refine Y q (fun hc1 => ?_) (fun hc1 => ?_)
 ·have h := if_t hc1 h
  refine rR <| qA q q q <| B <| W fun a ha => ?_
  obtain rfl := L h
  exact m (ret1 q ha q ⟨q, H⟩)
 have h := if_f hc1 h
 refine y <| rR <| qM q q q ?_
 obtain ⟨x2, hx3, h⟩ := D h
 refine zd q q c14 (w_spec_DrawTableBill w G vp0 p0 (hp0) x2 hx3 H.ctx) (by rfl) ?_
 rintro _ w4 ⟨v6, v7, v8, v9, rfl, H5⟩; refine ⟨_, q, ?_⟩
 have H10 := H.cN4 [] H5
 refine qM q q q <| A q (zv q q) q q <| A q (zv q q) q q ?_
 refine zq (cs := [nS, nS, nS, iV 0, nS]) H10 z27 q q q (fun b11 w12 H13 => ?_)
 refine zl (cs' := [v6, v7, v8, iV x2.1.2.2.2.1, v9]) H13 q il27 q (T (H13.ctx.sliceOne hS1) (T (H13.ctx.sliceOne hS2) (T (H13.ctx.sliceOne hS3) (T q (T (H13.ctx.sliceOne hS4) q))))) q q q (fun w15 H16 => ?_)
 refine qA q q q <| B <| C <| zk ?_
 have hB18 := R H16.p0
 refine zm (cs := [v6, v7, v8, iV x2.1.2.2.2.1, v9]) us27 uo27 il27 hB18 q q q ?_
 change XL _ _ _ _ _ ((17, .agg #[v6, v7, v8, iV x2.1.2.2.2.1, v9]) :: _) _
 refine qM q q q ?_
 obtain ⟨x19, hx20, h⟩ := D h
 refine QC q q c15 (fun w' hb => w_impl_TableBill w' _ v6 x2.1.1 hS1 v7 x2.1.2.1 hS2 v8 x2.1.2.2.1 hS3 x2.1.2.2.2.1 v9 x2.1.2.2.2.2 hS4 x2.2 x19 hx20 (H16.grow hb).ctx) (by rfl) <| qA q q q <| QL_nil fun a ha w21 hb22 => ?_
 have H23 := H16.grow hb22
 refine X (S ?_ ha)
 refine C <| C <| zk <| qM q q q ?_
 have hB24 := R H23.p0
 refine zm (cs := [v6, v7, v8, iV x2.1.2.2.2.1, v9]) us27 uo27 il27 hB24 q q q ?_
 change XL _ _ _ _ _ ((21, .agg #[v6, v7, v8, iV x2.1.2.2.2.1, v9]) :: _) _
 refine qM q q q ?_
 obtain ⟨x25, hx26, h⟩ := D h
 refine QC q q c16 (fun w' hb => w_spec_TableBill w' _ v6 x2.1.1 hS1 v7 x2.1.2.1 hS2 v8 x2.1.2.2.1 hS3 x2.1.2.2.2.1 v9 x2.1.2.2.2.2 hS4 x2.2 x25 hx26 (H23.grow hb).ctx) (by rfl) <| A q (qt_neq q q) q q <| QL_nil fun a ha w27 hb28 => ?_
 have H29 := H23.grow hb28
 refine X (S ?_ ha)
 refine Y q (fun hc30 => ?_) (fun hc30 => ?_)
 ·have h := if_t hc30 h
  refine rR <| qA q q q <| B <| W fun a ha => ?_
  obtain rfl := L h
  have H31 := H29.q0.q0.q0.q0.q0
  exact m (ret1 q ha q ⟨q, H31⟩)
 have h := if_f hc30 h
 refine y <| C <| rR <| qM q q q <| A q (qt_lss q q) q q <| B ?_
 refine Y q (fun hc32 => ?_) (fun hc32 => ?_)
 ·have h := if_t hc32 h
  refine C <| zk <| qM q q q <| A q (qt_eql q q) q q <| qM q q q ?_
  obtain ⟨b33, hg34, h⟩ := D h
  refine zh 2 31 (.bool b33) ?_ (fun md hmd hk => ?_)
  rotate_left
  ·obtain ⟨K, rfl⟩ := zr hmd
   rcases btf (x19 == (-1)) with hc35 | hc35
   ·skip
    have hg34 := if_t hc35 hg34
    obtain ⟨x36, hx37, hg34⟩ := D hg34
    refine QC (J q hc35) q c12 (fun w' hb => w_laws_alive w' _  x36 hx37 (H29.grow hb).ctx) (by rfl) <| A q (ze q hc35 q) q q ?_
    exact hk _ (p (vb hg34) (Cov.fresh q (u)))
   skip
   refine qS q hc35 q q <| A q (zf q hc35 q) q q ?_
   exact hk _ (p (vb (if_f hc35 hg34)) (Cov.fresh q (u)))
  refine qA q q q <| QL_nil fun a ha w38 hb39 => ?_
  have H40 := H29.grow hb39
  refine X (S ?_ ha)
  refine W fun a ha => ?_
  obtain rfl := L h
  have H41 := H40.q0.q0.q0.q0.q0
  exact m (ret1 q ha q ⟨q, H41⟩)
 have h := if_f hc32 h
 refine y <| rR <| qA q q q <| rN <| qA q q q <| B <| C ?_
 refine rR <| qA q q q <| B <| g ?_
 obtain ⟨o45, ho46, h⟩ := D h
 have H49 := H29.p4.p4.p4.p4.p4
 refine fun a47 ha48 => zp (I := fun s a w2 => match s with | (s42, s43, s44) => (Fr a 82 [(3, pB b11), (4, iV x2.2), (5, iV x19), (6, iV s42), (7, .bool s43), (8, iV s44)] ∧ Holds M0 w w2 [.bx b11 27 [v6, v7, v8, iV x2.1.2.2.2.1, v9], .sl 70 ty5 v6 x2.1.1, .sl 3 tI v7 x2.1.2.1, .sl 3 tI v8 x2.1.2.2.1, .sl 33 ty6 v9 x2.1.2.2.2.2] G)) (O := fun o e a w2 => match o with | (q0, q1) => e = .exit 0 ∧ (Fr a 82 [(5, iV x19), (6, iV q0), (7, .bool q1)] ∧ Holds M0 w w2 [] G)) ho46 ?_ ?_ ?_
 ·exact ⟨ha48.sub ⟨q, q, q, q, q, q, trivial⟩, H49⟩
 ·clear ha48
  intro s o52 a w50 hs51 hI53
  obtain ⟨s42, s43, s44⟩ := s
  obtain ⟨ha, H54⟩ := hI53
  refine S ?_ ha
  clear ha
  refine C <| rR <| qM q q q <| qF uf27 fi27_4 nz25 q q q ?_
  have hB55 := R H54.p0
  refine l u25 q hB55 q q q q <| qM q q q ?_
  obtain ⟨x56, hx57, hs51⟩ := D hs51
  refine b H54.ctx hS4 hx57 u25 i33 q q q q (fun b58 off59 cap60 hv61 => ?_)
  refine qF uf33 fi33_1 nz31 q q q ?_
  obtain ⟨F62, hat63, hdup64⟩ := H54.at hS4 hx57 hv61
  obtain ⟨F65, hat66, hin67⟩ := AtP.snd hat63
  obtain ⟨F68, hat69, hin70⟩ := AtP.fst hat66
  refine XL_load (t := ty2) u31 q q hat69 q q q (fun v71 hr72 => ?_)
  have H73 : Holds _ w w50 [.ro ty1 v71 x56.2.1, .bx b11 27 [v6, v7, v8, iV x2.1.2.2.2.1, v9], .sl 70 ty5 v6 x2.1.1, .sl 3 tI v7 x2.1.2.1, .sl 3 tI v8 x2.1.2.2.1, .sl 33 ty6 v9 x2.1.2.2.2.2] G := hdup64 _ _ _ _ hr72 (fun k h => (fun k h => (fun _ h => h) k (hin67 k h)) k (hin70 k h))
  refine za H73.ctx (t := ty1) hR0 u31 q q q <| A q (qt_lss q q) q q <| B ?_
  refine Y q (fun hc74 => ?_) (fun hc74 => ?_)
  ·have hs51 := if_t hc74 hs51
   refine y <| C <| g <| C <| WP_quiet (by kernel_rfl) (by kernel_rfl) <| qM q q q <| qF uf27 fi27_1 nz24 q q q ?_
   have hB75 := R H73.p1
   refine l u24 q hB75 q q q q <| qF uf27 fi27_4 nz25 q q q ?_
   have hB76 := R H73.p1
   refine l u25 q hB76 q q q q <| qM q q q ?_
   obtain ⟨x77, hx78, hs51⟩ := D hs51
   refine b H73.ctx hS5 hx78 u25 i33 q q q q (fun b79 off80 cap81 hv82 => ?_)
   refine qF uf33 fi33_2 nz24 q q q ?_
   obtain ⟨F83, hat84, hdup85⟩ := H73.at hS5 hx78 hv82
   obtain ⟨F86, hat87, hin88⟩ := AtP.snd hat84
   obtain ⟨F89, hat90, hin91⟩ := AtP.snd hat87
   refine XL_load (t := (.slice tI)) u24 q q hat90 q q q (fun v92 hr93 => ?_)
   have H94 : Holds _ w w50 [.ro tI v92 x77.2.2, .ro ty1 v71 x56.2.1, .bx b11 27 [v6, v7, v8, iV x2.1.2.2.2.1, v9], .sl 70 ty5 v6 x2.1.1, .sl 3 tI v7 x2.1.2.1, .sl 3 tI v8 x2.1.2.2.1, .sl 33 ty6 v9 x2.1.2.2.2.2] G := hdup85 _ _ _ _ hr93 (fun k h => (fun k h => (fun _ h => h) k (hin88 k h)) k (hin91 k h))
   refine qM q q q ?_
   obtain ⟨x95, hx96, hs51⟩ := D hs51
   refine b H94.ctx hR0 hx96 u24 i3 q q q q (fun b97 off98 cap99 hv100 => ?_)
   obtain ⟨F101, hat102, hdup103⟩ := H94.at hR0 hx96 hv100
   refine zt (k := .i64) u3 q hat102 q q q ?_
   obtain ⟨x104, hx105, hs51⟩ := D hs51
   refine b H94.ctx hS4 hx105 u24 i3 q q q q (fun b106 off107 cap108 hv109 => ?_)
   obtain ⟨F110, hat111, hdup112⟩ := H94.at hS4 hx105 hv109
   refine zt (k := .i64) u3 q hat111 q q q <| A q (qt_add q q) q q <| qA q q q <| QL_nil fun a ha w113 hb114 => ?_
   have H115 := H94.grow hb114
   refine X (S ?_ ha)
   refine Z <| qM q q q <| qM q q q ?_
   obtain ⟨b116, hg117, hs51⟩ := D hs51
   refine zh 12 71 (.bool b116) ?_ (fun md hmd hk => ?_)
   rotate_left
   ·obtain ⟨Q, rfl⟩ := Md.seq_of hmd
    rcases btf s43 with hc118 | hc118
    ·skip
     refine qS q hc118 q q <| qS q hc118 q q <| qS q hc118 q q <| qS q hc118 q q <| qS q hc118 q q <| qS q hc118 q q <| qS q hc118 q q <| qS q hc118 q q <| qS q hc118 q q <| qS q hc118 q q ?_
     refine qS q hc118 q q <| A q (ze q hc118 q) q q ?_
     exact hk _ (p (vb (if_t hc118 hg117)) (cfn 11 q (u)))
    skip
    have hg117 := if_f hc118 hg117
    refine qF uf27 fi27_4 nz25 (J q hc118) q q ?_
    have hB119 := R H115.p2
    refine l u25 q hB119 q (J q hc118) q q <| qM (J q hc118) q q ?_
    obtain ⟨x120, hx121, hg117⟩ := D hg117
    refine b H115.ctx hS6 hx121 u25 i33 (J q hc118) q q q (fun b122 off123 cap124 hv125 => ?_)
    refine qF uf33 fi33_1 nz31 (J q hc118) q q ?_
    obtain ⟨F126, hat127, hdup128⟩ := H115.at hS6 hx121 hv125
    obtain ⟨F129, hat130, hin131⟩ := AtP.snd hat127
    obtain ⟨F132, hat133, hin134⟩ := AtP.fst hat130
    refine XL_load (t := ty2) u31 q q hat133 (J q hc118) q q (fun v135 hr136 => ?_)
    have H137 : Holds _ w w113 [.ro ty1 v135 x120.2.1, .ro tI v92 x77.2.2, .ro ty1 v71 x56.2.1, .bx b11 27 [v6, v7, v8, iV x2.1.2.2.2.1, v9], .sl 70 ty5 v6 x2.1.1, .sl 3 tI v7 x2.1.2.1, .sl 3 tI v8 x2.1.2.2.1, .sl 33 ty6 v9 x2.1.2.2.2.2] G := hdup128 _ _ _ _ hr136 (fun k h => (fun k h => (fun _ h => h) k (hin131 k h)) k (hin134 k h))
    refine qM (J q hc118) q q ?_
    obtain ⟨x138, hx139, hg117⟩ := D hg117
    refine b H137.ctx hR0 hx139 u31 i40 (J q hc118) q q q (fun b140 off141 cap142 hv143 => ?_)
    refine qF uf40 fi40_1 nz3 (J q hc118) q q ?_
    obtain ⟨F144, hat145, hdup146⟩ := H137.at hR0 hx139 hv143
    obtain ⟨F147, hat148, hin149⟩ := AtP.snd hat145
    refine zt (k := .i64) u3 q hat148 (J q hc118) q q <| A (J q hc118) (qt_eql q q) q q <| A q (zf q hc118 q) q q ?_
    exact hk _ (p (vb hg117) (cfn 11 q (u)))
   refine qA q q q <| WL_nil fun a ha => ?_
   refine zi (X (S ?_ ha))
   refine Z <| qM q q q <| A q (qt_add q q) q q <| qA q q q <| WL_nil fun a ha => ?_
   obtain rfl := L hs51
   have H150 := H115.q0.q0.p4.p4.p4.p4.p4
   exact ⟨q, ha.sub ⟨q, q, q, q, q, q, trivial⟩, H150⟩
  have hs51 := if_f hc74 hs51
  refine WP_exit fun a ha => ?_
  obtain rfl := L hs51
  have H151 := H73.q0.q0.q0.q0.q0.q0
  exact zo (⟨exit_ne, q, ha.sub ⟨q, q, q, trivial⟩, H151⟩)
 intro e a47 w152 hO153
 obtain ⟨p154, p155⟩ := o45
 obtain ⟨rfl, hO157⟩ := hO153
 obtain ⟨ha, H156⟩ := hO157
 refine zn (X (S ?_ ha))
 refine rR <| qM q q q <| qM q q q <| A q (qt_leq q q) q q <| qM q q q ?_
 refine zh 6 81 (.bool ((decide (x19 ≤ p154)) && (p155 || (x19 == 0)))) ?_ (fun md hmd hk => ?_)
 rotate_left
 ·obtain ⟨Q, rfl⟩ := Md.seq_of hmd
  rcases btf (decide (x19 ≤ p154)) with hc158 | hc158
  ·skip
   refine qM (J q hc158) q q <| qM (J q hc158) q q ?_
   refine zh 3 80 (.bool (p155 || (x19 == 0))) ?_ (fun md hmd hk => ?_)
   rotate_left
   ·obtain ⟨Q, rfl⟩ := Md.seq_of hmd
    rcases btf p155 with hc159 | hc159
    ·skip
     refine qS q hc159 q q <| qS q hc159 q q <| A (J q hc158) (ze q hc159 q) q q ?_
     exact hk _ (p (by rw [hc159]; rfl) (cfn 2 q (u)))
    skip
    refine qM (J q hc159) q q <| A (J q hc159) (qt_eql q q) q q <| A (J q hc158) (zf q hc159 q) q q ?_
    exact hk _ (p (by rw [hc159]; rfl) (cfn 2 q (u)))
   refine A q (ze q hc158 q) q q ?_
   exact hk _ (p (by rw [hc158]; rfl) (cfn 3 q (u)))
  skip
  refine qS q hc158 q q <| qS q hc158 q q <| XL_skip q q q <| XL_skip q q q <| qS q hc158 q q <| A q (zf q hc158 q) q q ?_
  exact hk _ (p (by rw [hc158]; rfl) (cfn 5 q (u)))
 refine qA q q q <| B <| W fun a ha => ?_
 obtain rfl := L h
 exact ret1 q ha q ⟨q, H156⟩
theorem w_spec_DrawHouseWorth (w : World) (G : List Res) (vp0 : Value) (p0 : List Int) (hp0 : HasRo G (.int .u8) vp0 p0) (r : (LI × (List Int) × (List Int) × Int × LT)) (h : spec_DrawHouseWorthS p0 = some r) (H : Ctx w G) : Calls Tryd.prog 17 #[vp0] w fun e w' => ∃ (v1 : Value) (v2 : Value) (v3 : Value) (v4 : Value), e = .returned (.agg #[v1, v2, v3, iV r.2.2.2.1, v4]) ∧ Holds M0 w w' [.sl 70 ty5 v1 r.1, .sl 3 tI v2 r.2.1, .sl 3 tI v3 r.2.2.1, .sl 33 ty6 v4 r.2.2.2.2] G := by
 have H : Holds M0 w w [] G := zb H
 refine zg (args := [vp0]) (n := 6) Tryd.func17 q q q ?_
 unfold spec_DrawHouseWorthS at h
 refine C <| Z ?_
 refine zq (cs := [nS, nS, nS, iV 0, nS]) H z27 q q q (fun b1 w2 H3 => ?_)
 refine rN <| qM q q q ?_
 obtain ⟨x5, hx6, h⟩ := D h
 refine zd q q c32 (w_spec_l20Open w2 _ vp0 p0 (hp0.c) x5 hx6 H3.ctx) (by rfl) ?_
 rintro _ w7 ⟨v9, b10, rfl, H8⟩; refine ⟨_, q, ?_⟩
 have H11 := H3.cN2 [] H8
 have H14 := H11.p1
 obtain ⟨x12, hx13, h⟩ := D h
 refine zd q q c31 (w_spec_l20House w7 _ b10 v9 x5.1 hR0 x5.2 9 x12 hx13 H14.ctx) (by rfl) ?_
 rintro _ w15 ⟨v17, v18, v19, v20, rfl, H16⟩; refine ⟨_, q, ?_⟩
 have H21 := H14.cN5 [_] H16
 have H22 := H21.p6
 refine zl (cs' := [v17, v18, v19, iV x12.2.2.2.2.1, v20]) H22 q il27 q (T (H22.ctx.sliceOne hS1) (T (H22.ctx.sliceOne hS2) (T (H22.ctx.sliceOne hS3) (T q (T (H22.ctx.sliceOne hS4) q))))) q q q (fun w23 H24 => ?_)
 refine B <| W fun a ha => ?_
 obtain rfl := L h
 have hB26 := R H24.p0
 have H27 := H24.q0.q4.q4.p3.p3.p3.p3
 exact retc q ha q (run_loadVar_bx (cs := [v17, v18, v19, iV x12.2.2.2.2.1, v20]) us27 uo27 il27 hB26) ⟨v17, v18, v19, v20, q, H27⟩
end Go.Proofs.YthofjabphcheeaaDoor
