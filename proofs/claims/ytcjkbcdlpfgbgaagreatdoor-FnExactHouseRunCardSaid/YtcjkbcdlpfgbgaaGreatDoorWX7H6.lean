/- The walks: each Go function computes its shallow function. Printed by a program. -/
import Derived.Test.YtcjkbcdlpfgbgaaGreatDoorWX7H5
set_option linter.unusedVariables false
set_option maxRecDepth 10000
namespace Go.Proofs.YtcjkbcdlpfgbgaaGreatDoor
open Go Go.RowKit
theorem w_impl_FreeOf (w : World) (G : List Res) (vp0 : Value) (p0 : LI) (hp0 : Has G ty10 vp0 p0) (p1 : Int) (r : (List Int)) (h : impl_FreeOfS p0 p1 = some r) (H : Ctx w G) : Calls Tryz.prog 104 #[vp0, iV p1] w fun e w' => ∃ (v1 : Value), e = .returned (v1) ∧ Holds M0 w w' [.sl 3 tI v1 r] G := by
 have H : Holds M0 w w [] G := zb H
 refine zg (args := [vp0, iV p1]) (n := 43) Tryz.func104 q q q ?_
 unfold impl_FreeOfS at h
 refine rR <| qA q q q <| B <| C <| C <| zk <| qM q q q ?_
 obtain ⟨x1, hx2, h⟩ := D h
 refine QC q q c129 (fun w' hb => w_impl_ItemsValid w' G vp0 p0 (hp0) x1 hx2 (H.grow hb).ctx) (by rfl) <| A q (qt_not q) q q <| qM q q q ?_
 refine zh 3 14 (.bool ((!x1) || (decide (p1 < 0)))) ?_ (fun md hmd hk => ?_)
 rotate_left
 ·obtain ⟨K, rfl⟩ := zr hmd
  rcases btf (!x1) with hc3 | hc3
  ·skip
   refine qS q hc3 q q <| qS q hc3 q q <| A q (ze q hc3 q) q q ?_
   exact hk _ (p (by rw [hc3]; rfl) (cfn 2 q (u)))
  skip
  refine qM (J q hc3) q q <| A (J q hc3) (qt_lss q q) q q <| A q (zf q hc3 q) q q ?_
  exact hk _ (p (by rw [hc3]; rfl) (cfn 2 q (u)))
 refine qM q q q ?_
 refine zh 3 18 (.bool (((!x1) || (decide (p1 < 0))) || (decide (p1 > 31)))) ?_ (fun md hmd hk => ?_)
 rotate_left
 ·obtain ⟨K, rfl⟩ := zr hmd
  rcases btf ((!x1) || (decide (p1 < 0))) with hc4 | hc4
  ·skip
   refine qS q hc4 q q <| qS q hc4 q q <| A q (ze q hc4 q) q q ?_
   exact hk _ (p (by rw [hc4]; rfl) (cfn 2 q (u)))
  skip
  refine qM (J q hc4) q q <| A (J q hc4) (qt_gtr q q) q q <| A q (zf q hc4 q) q q ?_
  exact hk _ (p (by rw [hc4]; rfl) (cfn 2 q (u)))
 refine QL_nil fun a ha w5 hb6 => ?_
 have H7 := H.grow hb6
 refine X (S ?_ ha)
 refine Y q (fun hc8 => ?_) (fun hc8 => ?_)
 ·have h := if_t hc8 h
  refine rR <| qA q q q <| B <| W fun a ha => ?_
  obtain rfl := L h
  have H9 := H7.nS 3 tI
  exact m (ret1 q ha q ⟨(nS), q, H9⟩)
 have h := if_f hc8 h
 refine y <| rR <| qA q q q <| B <| C <| rR <| qM q q q <| za H7.ctx (t := ty10) (hp0) u28 q q q ?_
 refine qM q q q <| B <| g ?_
 have H12 := H7.nS 3 tI
 obtain ⟨o13, ho14, h⟩ := D h
 refine fun a15 ha16 => zp (I := fun s a w2 => match s with | (s10, s11) => ∃ vs10, Fr a 43 [(0, vp0), (1, iV p1), (5, vs10), (19, vp0), (20, iV (List.length p0 : Int)), (21, iV s11)] ∧ Holds M0 w w2 [.sl 3 tI vs10 s10] G) (O := fun o e a w2 => match o with | q0 => e = .exit 0 ∧ ∃ vq0, Fr a 43 [(5, vq0)] ∧ Holds M0 w w2 [.sl 3 tI vq0 q0] G) ho14 ?_ ?_ ?_
 ·exact ⟨(nS), ha16.sub ⟨q, q, q, q, q, q, trivial⟩, H12⟩
 ·clear ha16
  intro s o19 a w17 hs18 hI20
  obtain ⟨s10, s11⟩ := s
  obtain ⟨vs10, ha, H21⟩ := hI20
  refine S ?_ ha
  clear ha
  refine rR <| A q (qt_lss q q) q q <| B <| C ?_
  refine Y q (fun hc22 => ?_) (fun hc22 => ?_)
  ·have hs18 := if_t hc22 hs18
   refine y <| C <| g <| rR <| qM q q q ?_
   obtain ⟨x23, hx24, hs18⟩ := D hs18
   refine b H21.ctx (hp0.c) hx24 u28 i115 q q q q (fun b25 off26 cap27 hv28 => ?_)
   obtain ⟨F29, hat30, hdup31⟩ := H21.atN (hp0.c) hx24 hv28
   refine XL_load_agg (t := ty10) us115 uo115 i115 hat30 q q q (fun cs32 hr33 => ?_)
   obtain ⟨c34, c35, F36, F37, rfl, eF40, hr38, hr39⟩ := hr33
   obtain ⟨rfl, _⟩ := hr38
   obtain ⟨c41, c42, F43, F44, rfl, eF47, hr45, hr46⟩ := hr39
   obtain ⟨v48, rfl, hr49⟩ := Rep.sl_inv hr45
   obtain ⟨rfl, _⟩ := hr46
   have H50 : Holds _ w w17 [.ro ty2 v48 x23.2.1, .sl 3 tI vs10 s10] G := hdup31 [.ro ty2 v48 x23.2.1] ⟨⟨_, _, _, _, q, hr49, (fun k h => (fun k h => (fun _ h => h) k (by rw [eF40]; exact zx _ h)) k (by rw [eF47]; exact List.mem_append_left _ h))⟩, trivial⟩
   change XL _ _ _ _ _ ((25, .agg #[iV x23.1, v48, iV x23.2.2]) :: _) _
   refine zq (cs := [iV 0, nS, iV 0]) H50 z115 q q q (fun b51 w52 H53 => ?_)
   refine qA q q q ?_
   refine zl (cs' := [iV x23.1, v48, iV x23.2.2]) H53 q il115 q (T q (T (H53.ctx.sliceOne hR1) (T q q))) q q q (fun w55 H56 => ?_)
   refine B <| C <| zk <| qF uf115 fi115_0 nz3 q q q ?_
   have hB58 := R H56.p0
   refine l u3 q hB58 q q q q <| A q (qt_gtr q q) q q <| qM q q q ?_
   obtain ⟨b59, hg60, hs18⟩ := D hs18
   refine zh 7 36 (.bool b59) ?_ (fun md hmd hk => ?_)
   rotate_left
   ·obtain ⟨K, rfl⟩ := zr hmd
    rcases btf (decide (x23.1 > 0)) with hc61 | hc61
    ·skip
     have hg60 := if_t hc61 hg60
     refine qM (J q hc61) q q <| qM (J q hc61) q q ?_
     obtain ⟨x62, hx63, hg60⟩ := D hg60
     refine QC (J q hc61) q c137 (fun w' hb => w_impl_MarksOf w' _ vp0 p0 (hp0.c.c.c) s11 x62 hx63 (H56.grow hb).ctx) (by rfl) <| qM (J q hc61) q q <| A (J q hc61) (qt_and q q) q q <| A (J q hc61) (qt_eql q q) q q <| A q (ze q hc61 q) q q ?_
     exact hk _ (p (vb hg60) (cfn 6 q (u)))
    skip
    refine qS q hc61 q q <| qS q hc61 q q <| qS q hc61 q q <| qS q hc61 q q <| qS q hc61 q q <| qS q hc61 q q <| A q (zf q hc61 q) q q ?_
    exact hk _ (p (vb (if_f hc61 hg60)) (cfn 6 q (u)))
   refine QL_nil fun a ha w64 hb65 => ?_
   have H66 := H56.grow hb65
   refine X (S ?_ ha)
   refine Y q (fun hc67 => ?_) (fun hc67 => ?_)
   ·have hs18 := if_t hc67 hs18
    refine Z <| qM q q q <| qM q q q ?_
    refine zs (t := tI) (args := [.tmp 38]) (xs := ([s11] : List Int)) H66 (BltL.cons (Blt.int) q (BltL.nil)) u23 j3 q q q q q q (fun v68 w69 H70 => ?_)
    have H72 := H70.p3
    obtain ⟨x73, hx74, hs18⟩ := D hs18
    refine zw H72 hS1 hx74 u23 j3 q q q q q q (fun v75 w76 H77 => ?_)
    refine qA q q q <| WL_nil fun a ha => ?_
    refine zi (X (S ?_ ha))
    refine Z <| A q (qt_add q q) q q <| qM q q q <| WL_nil fun a ha => ?_
    obtain rfl := L hs18
    have H79 := H77.q1.q1.q1
    exact ⟨q, v75, ha.sub ⟨q, q, q, q, q, q, trivial⟩, H79⟩
   have hs18 := if_f hc67 hs18
   refine WP_skip fun a ha => ?_
   refine zi (X (S ?_ ha))
   refine Z <| A q (qt_add q q) q q <| qM q q q <| WL_nil fun a ha => ?_
   obtain rfl := L hs18
   have H80 := H66.q0.q0
   exact ⟨q, vs10, ha.sub ⟨q, q, q, q, q, q, trivial⟩, H80⟩
  have hs18 := if_f hc22 hs18
  refine WP_exit fun a ha => ?_
  obtain rfl := L hs18
  exact zo (⟨exit_ne, q, vs10, ha.sub ⟨q, trivial⟩, H21⟩)
 intro e a15 w81 hO82
 obtain ⟨p83, rfl⟩ : ∃ z, z = o13 := ⟨o13, q⟩
 obtain ⟨rfl, hO85⟩ := hO82
 obtain ⟨vp83, ha, H84⟩ := hO85
 refine zn (X (S ?_ ha))
 refine rR <| qM q q q <| qA q q q <| B <| W fun a ha => ?_
 obtain rfl := L h
 exact ret1 q ha q ⟨vp83, q, H84⟩
theorem w_slices_Index___int_int (w : World) (G : List Res) (vp0 : Value) (p0 : List Int) (hp0 : Has G tI vp0 p0) (p1 : Int) (r : Int) (h : slices_Index___int_intS p0 p1 = some r) (H : Ctx w G) : Calls Tryz.prog 145 #[vp0, iV p1] w fun e w' => e = .returned (iV r) ∧ Holds M0 w w' [] G := by
 have H : Holds M0 w w [] G := zb H
 refine zg (args := [vp0, iV p1]) (n := 19) Tryz.func145 q q q ?_
 unfold slices_Index___int_intS at h
 refine rR <| qA q q q <| B <| C <| rR <| qM q q q <| za H.ctx (t := tI) (hp0) u23 q q q <| qM q q q ?_
 refine B <| g ?_
 obtain ⟨o2, ho3, h⟩ := D h
 refine fun a4 ha5 => zp (I := fun s a w2 => match s with | s1 => (Fr a 19 [(0, vp0), (1, iV p1), (7, iV (List.length p0 : Int)), (8, iV s1)] ∧ Holds M0 w w2 [] G)) (O := fun o e a w2 => match o with | .inl _ => e = .exit 0 ∧ (Fr a 19 [] ∧ Holds M0 w w2 [] G) | .inr q0 => e = .ret ∧ (Fr a 19 [(4, iV q0)] ∧ Holds M0 w w2 [] G)) ho3 ?_ ?_ ?_
 ·exact ⟨ha5.sub ⟨q, q, q, q, trivial⟩, H⟩
 ·clear ha5
  intro s o8 a w6 hs7 hI9
  obtain ⟨s1, rfl⟩ : ∃ z, z = s := ⟨s, q⟩
  obtain ⟨ha, H10⟩ := hI9
  refine S ?_ ha
  clear ha
  refine rR <| A q (qt_lss q q) q q <| B <| C ?_
  refine Y q (fun hc11 => ?_) (fun hc11 => ?_)
  ·have hs7 := if_t hc11 hs7
   refine y <| C <| g <| rR <| qM q q q <| qA q q q <| B <| C <| Z ?_
   refine qM q q q <| qM q q q <| qM q q q ?_
   obtain ⟨x12, hx13, hs7⟩ := D hs7
   refine b H10.ctx (hp0) hx13 u23 i3 q q q q (fun b14 off15 cap16 hv17 => ?_)
   obtain ⟨F18, hat19, hdup20⟩ := H10.at (hp0) hx13 hv17
   refine zt (k := .i64) u3 q hat19 q q q <| A q (qt_eql q q) q q <| B ?_
   refine Y q (fun hc21 => ?_) (fun hc21 => ?_)
   ·have hs7 := if_t hc21 hs7
    refine rR <| qM q q q <| qA q q q <| B <| W fun a ha => ?_
    obtain rfl := L hs7
    exact zj (m (⟨ret_ne, q, ha.sub ⟨q, trivial⟩, H10⟩))
   have hs7 := if_f hc21 hs7
   refine WP_skip fun a ha => ?_
   refine zi (X (S ?_ ha))
   refine Z <| A q (qt_add q q) q q <| qM q q q <| WL_nil fun a ha => ?_
   obtain rfl := L hs7
   exact ⟨q, ha.sub ⟨q, q, q, q, trivial⟩, H10⟩
  have hs7 := if_f hc11 hs7
  refine WP_exit fun a ha => ?_
  obtain rfl := L hs7
  exact zo (⟨exit_ne, q, ha.sub trivial, H10⟩)
 intro e a4 w22 hO23
 rcases o2 with o2 | o2
 ·skip
  obtain ⟨rfl, hO25⟩ := hO23
  obtain ⟨ha, H24⟩ := hO25
  refine zn (X (S ?_ ha))
  refine rR <| qA q q q <| B <| W fun a ha => ?_
  obtain rfl := L h
  exact ret1 q ha q ⟨q, H24⟩
 skip
 obtain ⟨p26, rfl⟩ : ∃ z, z = o2 := ⟨o2, q⟩
 obtain ⟨rfl, hO28⟩ := hO23
 obtain ⟨ha, H27⟩ := hO28
 obtain rfl := L h
 exact zj (m (ret1 q ha q ⟨q, H27⟩))
theorem w_slices_Contains___int_int (w : World) (G : List Res) (vp0 : Value) (p0 : List Int) (hp0 : Has G tI vp0 p0) (p1 : Int) (r : Bool) (h : slices_Contains___int_intS p0 p1 = some r) (H : Ctx w G) : Calls Tryz.prog 116 #[vp0, iV p1] w fun e w' => e = .returned (.bool r) ∧ Holds M0 w w' [] G := by
 have H : Holds M0 w w [] G := zb H
 refine zg (args := [vp0, iV p1]) (n := 9) Tryz.func116 q q q ?_
 unfold slices_Contains___int_intS at h
 refine rR <| qA q q q <| B <| C <| zk <| qM q q q <| qM q q q ?_
 obtain ⟨x1, hx2, h⟩ := D h
 refine QC q q c145 (fun w' hb => w_slices_Index___int_int w' G vp0 p0 (hp0) p1 x1 hx2 (H.grow hb).ctx) (by rfl) <| A q (qt_geq q q) q q <| qA q q q <| QL_nil fun a ha w3 hb4 => ?_
 have H5 := H.grow hb4
 refine X (S ?_ ha)
 refine W fun a ha => ?_
 obtain rfl := L h
 exact ret1 q ha q ⟨q, H5⟩
theorem w_impl_tableValid (w : World) (G : List Res) (vp0 : Value) (p0 : LI) (hp0 : Has G ty10 vp0 p0) (p1_0 : Int) (A1_1 : Value) (p1_1 : LP) (hp1_1 : Has G ty2 A1_1 p1_1) (A1_2 : Value) (p1_2 : List Int) (hp1_2 : Has G tI A1_2 p1_2) (r : Bool) (h : impl_tableValidS p0 p1_0 p1_1 p1_2 = some r) (H : Ctx w G) : Calls Tryz.prog 92 #[vp0, .agg #[iV p1_0, A1_1, A1_2]] w fun e w' => e = .returned (.bool r) ∧ Holds M0 w w' [] G := by
 have H : Holds M0 w w [] G := zb H
 refine zg (args := [vp0, .agg #[iV p1_0, A1_1, A1_2]]) (n := 47) Tryz.func92 q q q ?_
 unfold impl_tableValidS at h
 refine C <| Z ?_
 refine WL_box (cs := [iV p1_0, A1_1, A1_2]) H q q q q (fun b1 w2 H3 => ?_)
 refine qA q q q <| B <| C <| C <| zk <| qF uf89 fi89_0 nz3 q q q ?_
 have hB5 := R H3.p0
 refine l u3 q hB5 q q q q <| A q (qt_lss q q) q q <| qM q q q ?_
 refine zh 4 15 (.bool ((decide (p1_0 < 0)) || (decide (p1_0 > 31)))) ?_ (fun md hmd hk => ?_)
 rotate_left
 ·obtain ⟨K, rfl⟩ := zr hmd
  rcases btf (decide (p1_0 < 0)) with hc6 | hc6
  ·skip
   refine qS q hc6 q q <| qS q hc6 q q <| qS q hc6 q q <| A q (ze q hc6 q) q q ?_
   exact hk _ (p (by rw [hc6]; rfl) (cfn 3 q (u)))
  skip
  refine qF uf89 fi89_0 nz3 (J q hc6) q q ?_
  have hB7 := R H3.p0
  refine l u3 q hB7 q (J q hc6) q q <| A (J q hc6) (qt_gtr q q) q q <| A q (zf q hc6 q) q q ?_
  exact hk _ (p (by rw [hc6]; rfl) (cfn 3 q (u)))
 refine qM q q q ?_
 obtain ⟨b8, hg9, h⟩ := D h
 refine zh 5 21 (.bool b8) ?_ (fun md hmd hk => ?_)
 rotate_left
 ·obtain ⟨K, rfl⟩ := zr hmd
  rcases btf ((decide (p1_0 < 0)) || (decide (p1_0 > 31))) with hc10 | hc10
  ·skip
   refine qS q hc10 q q <| qS q hc10 q q <| qS q hc10 q q <| qS q hc10 q q <| A q (ze q hc10 q) q q ?_
   exact hk _ (p (vb (if_t hc10 hg9)) (cfn 4 q (u)))
  skip
  have hg9 := if_f hc10 hg9
  refine qF uf89 fi89_1 nz87 (J q hc10) q q ?_
  have hB11 := R H3.p0
  refine l u87 q hB11 q (J q hc10) q q ?_
  obtain ⟨x12, hx13, hg9⟩ := D hg9
  refine QC (J q hc10) q c130 (fun w' hb => w_impl_TicketValid w' _ A1_1 p1_1 (hp1_1.c) x12 hx13 (H3.grow hb).ctx) (by rfl) <| A (J q hc10) (qt_not q) q q <| A q (zf q hc10 q) q q ?_
  exact hk _ (p (vb hg9) (cfn 4 q (u)))
 refine qM q q q ?_
 refine zh 8 30 (.bool (b8 || ((List.length p1_2 : Int) != (List.length p1_1 : Int)))) ?_ (fun md hmd hk => ?_)
 rotate_left
 ·obtain ⟨K, rfl⟩ := zr hmd
  rcases btf b8 with hc14 | hc14
  ·skip
   refine qS q hc14 q q <| qS q hc14 q q <| qS q hc14 q q <| qS q hc14 q q <| qS q hc14 q q <| qS q hc14 q q <| qS q hc14 q q <| A q (ze q hc14 q) q q ?_
   exact hk _ (p (by rw [hc14]; rfl) (cfn 7 q (u)))
  skip
  refine qF uf89 fi89_2 nz23 (J q hc14) q q ?_
  have hB15 := R H3.p0
  refine l u23 q hB15 q (J q hc14) q q <| za H3.ctx (t := tI) (hp1_2.c) u23 (J q hc14) q q <| qF uf89 fi89_1 nz87 (J q hc14) q q ?_
  have hB16 := R H3.p0
  refine l u87 q hB16 q (J q hc14) q q <| za H3.ctx (t := ty2) (hp1_1.c) u87 (J q hc14) q q <| A (J q hc14) (qt_neq q q) q q <| A q (zf q hc14 q) q q ?_
  exact hk _ (p (by rw [hc14]; rfl) (cfn 7 q (u)))
 refine QL_nil fun a ha w17 hb18 => ?_
 have H19 := H3.grow hb18
 refine X (S ?_ ha)
 refine Y q (fun hc20 => ?_) (fun hc20 => ?_)
 ·have h := if_t hc20 h
  refine rR <| qA q q q <| B <| W fun a ha => ?_
  obtain rfl := L h
  have H21 := H19.q0
  exact m (ret1 q ha q ⟨q, H21⟩)
 have h := if_f hc20 h
 refine y <| rR <| qM q q q <| qF uf89 fi89_0 nz3 q q q ?_
 have hB22 := R H19.p0
 refine l u3 q hB22 q q q q ?_
 obtain ⟨x23, hx24, h⟩ := D h
 refine zd q q c104 (w_impl_FreeOf w17 _ vp0 p0 (hp0.c) p1_0 x23 hx24 H19.ctx) (by rfl) ?_
 rintro _ w25 ⟨v27, rfl, H26⟩; refine ⟨_, q, ?_⟩
 have H28 := H19.cN1 [] H26
 refine qA q q q <| B <| C <| rR <| qF uf89 fi89_2 nz23 q q q ?_
 have hB29 := R H28.p1
 refine l u23 q hB29 q q q q <| za H28.ctx (t := tI) (hp1_2.c.c) u23 q q q <| qM q q q <| B <| g ?_
 obtain ⟨o31, ho32, h⟩ := D h
 have H35 := H28.q1
 refine fun a33 ha34 => zp (I := fun s a w2 => match s with | s30 => (Fr a 47 [(5, v27), (36, A1_2), (37, iV (List.length p1_2 : Int)), (38, iV s30)] ∧ Holds M0 w w2 [.sl 3 tI v27 x23] G)) (O := fun o e a w2 => match o with | .inl _ => e = .exit 0 ∧ (Fr a 47 [] ∧ Holds M0 w w2 [] G) | .inr q0 => e = .ret ∧ (Fr a 47 [(4, .bool q0)] ∧ Holds M0 w w2 [] G)) ho32 ?_ ?_ ?_
 ·exact ⟨ha34.sub ⟨q, q, q, q, trivial⟩, H35⟩
 ·clear ha34
  intro s o38 a w36 hs37 hI39
  obtain ⟨s30, rfl⟩ : ∃ z, z = s := ⟨s, q⟩
  obtain ⟨ha, H40⟩ := hI39
  refine S ?_ ha
  clear ha
  refine rR <| A q (qt_lss q q) q q <| B <| C ?_
  refine Y q (fun hc41 => ?_) (fun hc41 => ?_)
  ·have hs37 := if_t hc41 hs37
   refine y <| C <| g <| C <| Z ?_
   obtain ⟨x42, hx43, hs37⟩ := D hs37
   refine b H40.ctx (hp1_2.c) hx43 u23 i3 q q q q (fun b44 off45 cap46 hv47 => ?_)
   obtain ⟨F48, hat49, hdup50⟩ := H40.at (hp1_2.c) hx43 hv47
   refine zt (k := .i64) u3 q hat49 q q q <| qA q q q <| B <| C <| zk <| qM q q q <| qM q q q ?_
   obtain ⟨x51, hx52, hs37⟩ := D hs37
   refine QC q q c116 (fun w' hb => w_slices_Contains___int_int w' _ v27 x23 hS0 x42 x51 hx52 (H40.grow hb).ctx) (by rfl) <| A q (qt_not q) q q <| QL_nil fun a ha w53 hb54 => ?_
   have H55 := H40.grow hb54
   refine X (S ?_ ha)
   refine Y q (fun hc56 => ?_) (fun hc56 => ?_)
   ·have hs37 := if_t hc56 hs37
    refine rR <| qA q q q <| B <| W fun a ha => ?_
    obtain rfl := L hs37
    have H57 := H55.q0
    exact zj (m (⟨ret_ne, q, ha.sub ⟨q, trivial⟩, H57⟩))
   have hs37 := if_f hc56 hs37
   refine WP_skip fun a ha => ?_
   refine zi (X (S ?_ ha))
   refine Z <| A q (qt_add q q) q q <| qM q q q <| WL_nil fun a ha => ?_
   obtain rfl := L hs37
   exact ⟨q, ha.sub ⟨q, q, q, q, trivial⟩, H55⟩
  have hs37 := if_f hc41 hs37
  refine WP_exit fun a ha => ?_
  obtain rfl := L hs37
  have H58 := H40.q0
  exact zo (⟨exit_ne, q, ha.sub trivial, H58⟩)
 intro e a33 w59 hO60
 rcases o31 with o31 | o31
 ·skip
  obtain ⟨rfl, hO62⟩ := hO60
  obtain ⟨ha, H61⟩ := hO62
  refine zn (X (S ?_ ha))
  refine rR <| qA q q q <| B <| W fun a ha => ?_
  obtain rfl := L h
  exact ret1 q ha q ⟨q, H61⟩
 skip
 obtain ⟨p63, rfl⟩ : ∃ z, z = o31 := ⟨o31, q⟩
 obtain ⟨rfl, hO65⟩ := hO60
 obtain ⟨ha, H64⟩ := hO65
 obtain rfl := L h
 exact zj (m (ret1 q ha q ⟨q, H64⟩))
theorem w_impl_HouseValid (w : World) (G : List Res) (A0 : Value) (B0 : LI) (C0 : Has G ty10 A0 B0) (A1 : Value) (B1 : List Int) (C1 : Has G tI A1 B1) (A2 : Value) (B2 : List Int) (C2 : Has G tI A2 B2) (B3 : Int) (A4 : Value) (B4 : LT) (C4 : Has G ty12 A4 B4) (r : Bool) (h : impl_HouseValidS B0 B1 B2 B3 B4 = some r) (H : Ctx w G) : Calls Tryz.prog 48 #[.agg #[A0, A1, A2, iV B3, A4]] w fun e w' => e = .returned (.bool r) ∧ Holds M0 w w' [] G := by
 have H : Holds M0 w w [] G := zb H
 refine zg (args := [.agg #[A0, A1, A2, iV B3, A4]]) (n := 47) Tryz.func48 q q q ?_
 unfold impl_HouseValidS at h
 refine C <| Z ?_
 refine WL_box (cs := [A0, A1, A2, iV B3, A4]) H q q q q (fun b1 w2 H3 => ?_)
 refine qA q q q <| B <| C <| C <| zk <| qF uf31 fi31_0 nz28 q q q ?_
 have hB5 := R H3.p0
 refine l u28 q hB5 q q q q <| qF uf31 fi31_1 nz23 q q q ?_
 have hB6 := R H3.p0
 refine l u23 q hB6 q q q q ?_
 obtain ⟨x7, hx8, h⟩ := D h
 refine QC q q c90 (fun w' hb => w_impl_PricesValid w' _ A0 B0 (C0.c) A1 B1 (C1.c) x7 hx8 (H3.grow hb).ctx) (by rfl) <| A q (qt_not q) q q <| qM q q q ?_
 obtain ⟨b9, hg10, h⟩ := D h
 refine zh 8 19 (.bool b9) ?_ (fun md hmd hk => ?_)
 rotate_left
 ·obtain ⟨K, rfl⟩ := zr hmd
  rcases btf (!x7) with hc11 | hc11
  ·skip
   refine qS q hc11 q q <| qS q hc11 q q <| qS q hc11 q q <| qS q hc11 q q <| qS q hc11 q q <| qS q hc11 q q <| qS q hc11 q q <| A q (ze q hc11 q) q q ?_
   exact hk _ (p (vb (if_t hc11 hg10)) (cfn 7 q (u)))
  skip
  have hg10 := if_f hc11 hg10
  refine qF uf31 fi31_2 nz23 (J q hc11) q q ?_
  have hB12 := R H3.p0
  refine l u23 q hB12 q (J q hc11) q q <| qF uf31 fi31_0 nz28 (J q hc11) q q ?_
  have hB13 := R H3.p0
  refine l u28 q hB13 q (J q hc11) q q <| za H3.ctx (t := ty10) (C0.c) u28 (J q hc11) q q ?_
  obtain ⟨x14, hx15, hg10⟩ := D hg10
  refine QC (J q hc11) q c91 (fun w' hb => w_impl_amountsOk w' _ A2 B2 (C2.c) (List.length B0 : Int) 50 x14 hx15 (H3.grow hb).ctx) (by rfl) <| A (J q hc11) (qt_not q) q q <| A q (zf q hc11 q) q q ?_
  exact hk _ (p (vb hg10) (cfn 7 q (u)))
 refine QL_nil fun a ha w16 hb17 => ?_
 have H18 := H3.grow hb17
 refine X (S ?_ ha)
 refine Y q (fun hc19 => ?_) (fun hc19 => ?_)
 ·have h := if_t hc19 h
  refine rR <| qA q q q <| B <| W fun a ha => ?_
  obtain rfl := L h
  have H20 := H18.q0
  exact m (ret1 q ha q ⟨q, H20⟩)
 have h := if_f hc19 h
 refine y <| C <| rR <| qF uf31 fi31_3 nz3 q q q ?_
 have hB21 := R H18.p0
 refine l u3 q hB21 q q q q <| A q (qt_lss q q) q q <| qM q q q ?_
 refine zh 4 27 (.bool ((decide (B3 < 0)) || (decide (B3 > 99999)))) ?_ (fun md hmd hk => ?_)
 rotate_left
 ·obtain ⟨Q, rfl⟩ := Md.seq_of hmd
  rcases btf (decide (B3 < 0)) with hc22 | hc22
  ·skip
   refine qS q hc22 q q <| qS q hc22 q q <| qS q hc22 q q <| A q (ze q hc22 q) q q ?_
   exact hk _ (p (by rw [hc22]; rfl) (cfn 3 q (u)))
  skip
  refine qF uf31 fi31_3 nz3 (J q hc22) q q ?_
  have hB23 := R H18.p0
  refine l u3 q hB23 q (J q hc22) q q <| A (J q hc22) (qt_gtr q q) q q <| A q (zf q hc22 q) q q ?_
  exact hk _ (p (by rw [hc22]; rfl) (cfn 3 q (u)))
 refine qM q q q ?_
 refine zh 5 33 (.bool (((decide (B3 < 0)) || (decide (B3 > 99999))) || (decide ((List.length B4 : Int) > 4)))) ?_ (fun md hmd hk => ?_)
 rotate_left
 ·obtain ⟨Q, rfl⟩ := Md.seq_of hmd
  rcases btf ((decide (B3 < 0)) || (decide (B3 > 99999))) with hc24 | hc24
  ·skip
   refine qS q hc24 q q <| qS q hc24 q q <| qS q hc24 q q <| qS q hc24 q q <| A q (ze q hc24 q) q q ?_
   exact hk _ (p (by rw [hc24]; rfl) (cfn 4 q (u)))
  skip
  refine qF uf31 fi31_4 nz29 (J q hc24) q q ?_
  have hB25 := R H18.p0
  refine l u29 q hB25 q (J q hc24) q q <| za H18.ctx (t := ty12) (C4.c) u29 (J q hc24) q q <| A (J q hc24) (qt_gtr q q) q q <| A q (zf q hc24 q) q q ?_
  exact hk _ (p (by rw [hc24]; rfl) (cfn 4 q (u)))
 refine B ?_
 refine Y q (fun hc26 => ?_) (fun hc26 => ?_)
 ·have h := if_t hc26 h
  refine rR <| qA q q q <| B <| W fun a ha => ?_
  obtain rfl := L h
  have H27 := H18.q0
  exact m (ret1 q ha q ⟨q, H27⟩)
 have h := if_f hc26 h
 refine y <| C <| rR <| qF uf31 fi31_4 nz29 q q q ?_
 have hB28 := R H18.p0
 refine l u29 q hB28 q q q q <| za H18.ctx (t := ty12) (C4.c) u29 q q q <| qM q q q <| B <| g ?_
 obtain ⟨o30, ho31, h⟩ := D h
 refine fun a32 ha33 => zp (I := fun s a w2 => match s with | s29 => (Fr a 47 [(1, pB b1), (35, A4), (36, iV (List.length B4 : Int)), (37, iV s29)] ∧ Holds M0 w w2 [.bx b1 31 [A0, A1, A2, iV B3, A4]] G)) (O := fun o e a w2 => match o with | .inl _ => e = .exit 0 ∧ (Fr a 47 [] ∧ Holds M0 w w2 [] G) | .inr q0 => e = .ret ∧ (Fr a 47 [(2, .bool q0)] ∧ Holds M0 w w2 [] G)) ho31 ?_ ?_ ?_
 ·exact ⟨ha33.sub ⟨q, q, q, q, trivial⟩, H18⟩
 ·clear ha33
  intro s o36 a w34 hs35 hI37
  obtain ⟨s29, rfl⟩ : ∃ z, z = s := ⟨s, q⟩
  obtain ⟨ha, H38⟩ := hI37
  refine S ?_ ha
  clear ha
  refine rR <| A q (qt_lss q q) q q <| B <| C ?_
  refine Y q (fun hc39 => ?_) (fun hc39 => ?_)
  ·have hs35 := if_t hc39 hs35
   refine y <| C <| g <| C <| Z ?_
   obtain ⟨x40, hx41, hs35⟩ := D hs35
   refine b H38.ctx (C4.c) hx41 u29 i89 q q q q (fun b42 off43 cap44 hv45 => ?_)
   obtain ⟨F46, hat47, hdup48⟩ := H38.atN (C4.c) hx41 hv45
   refine XL_load_agg (t := ty12) us89 uo89 i89 hat47 q q q (fun cs49 hr50 => ?_)
   obtain ⟨c51, c52, F53, F54, rfl, eF57, hr55, hr56⟩ := hr50
   obtain ⟨rfl, _⟩ := hr55
   obtain ⟨c58, c59, F60, F61, rfl, eF64, hr62, hr63⟩ := hr56
   obtain ⟨v65, rfl, hr66⟩ := Rep.sl_inv hr62
   obtain ⟨v67, rfl, hr68⟩ := Rep.sl_inv hr63
   have H69 : Holds _ w w34 [.ro ty2 v65 x40.2.1, .ro tI v67 x40.2.2, .bx b1 31 [A0, A1, A2, iV B3, A4]] G := hdup48 [.ro ty2 v65 x40.2.1, .ro tI v67 x40.2.2] ⟨⟨_, _, _, _, q, hr66, (fun k h => (fun k h => (fun _ h => h) k (by rw [eF57]; exact zx _ h)) k (by rw [eF64]; exact List.mem_append_left _ h))⟩, ⟨_, _, _, _, q, hr68, (fun k h => (fun k h => (fun _ h => h) k (by rw [eF57]; exact zx _ h)) k (by rw [eF64]; exact zx _ h))⟩, trivial⟩
   change XL _ _ _ _ _ ((40, .agg #[iV x40.1, v65, v67]) :: _) _
   refine zq (cs := [iV 0, nS, nS]) H69 z89 q q q (fun b70 w71 H72 => ?_)
   refine zl (cs' := [iV x40.1, v65, v67]) H72 q il89 q (T q (T (H72.ctx.sliceOne hR1) (T (H72.ctx.sliceOne hR2) q))) q q q (fun w74 H75 => ?_)
   refine B <| C <| zk <| qF uf31 fi31_0 nz28 q q q ?_
   have hB77 := R H75.p3
   refine l u28 q hB77 q q q q ?_
   have hB78 := R H75.p0
   refine zm (cs := [iV x40.1, v65, v67]) us89 uo89 il89 hB78 q q q ?_
   change XL _ _ _ _ _ ((43, .agg #[iV x40.1, v65, v67]) :: _) _
   obtain ⟨x79, hx80, hs35⟩ := D hs35
   refine QC q q c92 (fun w' hb => w_impl_tableValid w' _ A0 B0 (C0.c.c.c.c) x40.1 v65 x40.2.1 hR1 v67 x40.2.2 hR2 x79 hx80 (H75.grow hb).ctx) (by rfl) <| A q (qt_not q) q q <| QL_nil fun a ha w81 hb82 => ?_
   have H83 := H75.grow hb82
   refine X (S ?_ ha)
   refine Y q (fun hc84 => ?_) (fun hc84 => ?_)
   ·have hs35 := if_t hc84 hs35
    refine rR <| qA q q q <| B <| W fun a ha => ?_
    obtain rfl := L hs35
    have H85 := H83.q0.q0.q0.q0
    exact zj (m (⟨ret_ne, q, ha.sub ⟨q, trivial⟩, H85⟩))
   have hs35 := if_f hc84 hs35
   refine WP_skip fun a ha => ?_
   refine zi (X (S ?_ ha))
   refine Z <| A q (qt_add q q) q q <| qM q q q <| WL_nil fun a ha => ?_
   obtain rfl := L hs35
   have H86 := H83.q0.q0.q0
   exact ⟨q, ha.sub ⟨q, q, q, q, trivial⟩, H86⟩
  have hs35 := if_f hc39 hs35
  refine WP_exit fun a ha => ?_
  obtain rfl := L hs35
  have H87 := H38.q0
  exact zo (⟨exit_ne, q, ha.sub trivial, H87⟩)
 intro e a32 w88 hO89
 rcases o30 with o30 | o30
 ·skip
  obtain ⟨rfl, hO91⟩ := hO89
  obtain ⟨ha, H90⟩ := hO91
  refine zn (X (S ?_ ha))
  refine rR <| qA q q q <| B <| W fun a ha => ?_
  obtain rfl := L h
  exact ret1 q ha q ⟨q, H90⟩
 skip
 obtain ⟨p92, rfl⟩ : ∃ z, z = o30 := ⟨o30, q⟩
 obtain ⟨rfl, hO94⟩ := hO89
 obtain ⟨ha, H93⟩ := hO94
 obtain rfl := L h
 exact zj (m (ret1 q ha q ⟨q, H93⟩))
theorem w_impl_onlyNamed (w : World) (G : List Res) (hGl : Glob G) (B0 : Int) (B1 : Int) (B2 : Int) (B3 : Int) (r : Bool) (h : impl_onlyNamedS B0 B1 B2 B3 = some r) (H : Ctx w G) : Calls Tryz.prog 68 #[.agg #[iV B0, iV B1, iV B2, iV B3]] w fun e w' => e = .returned (.bool r) ∧ Holds M0 w w' [] G := by
 have H : Holds M0 w w [] G := zb H
 refine zg (args := [.agg #[iV B0, iV B1, iV B2, iV B3]]) (n := 34) Tryz.func68 q q q ?_
 unfold impl_onlyNamedS at h
 refine C <| Z ?_
 refine WL_box (cs := [iV B0, iV B1, iV B2, iV B3]) H q q q q (fun b1 w2 H3 => ?_)
 refine qA q q q <| B <| C <| rR <| qF uf49 fi49_0 nz3 q q q ?_
 have hB5 := R H3.p0
 refine l u3 q hB5 q q q q <| A q (qt_lss q q) q q <| qM q q q ?_
 refine zh 4 13 (.bool ((decide (B0 < 0)) || (decide (B0 > 5)))) ?_ (fun md hmd hk => ?_)
 rotate_left
 ·obtain ⟨Q, rfl⟩ := Md.seq_of hmd
  rcases btf (decide (B0 < 0)) with hc6 | hc6
  ·skip
   refine qS q hc6 q q <| qS q hc6 q q <| qS q hc6 q q <| A q (ze q hc6 q) q q ?_
   exact hk _ (p (by rw [hc6]; rfl) (cfn 3 q (u)))
  skip
  refine qF uf49 fi49_0 nz3 (J q hc6) q q ?_
  have hB7 := R H3.p0
  refine l u3 q hB7 q (J q hc6) q q <| A (J q hc6) (qt_gtr q q) q q <| A q (zf q hc6 q) q q ?_
  exact hk _ (p (by rw [hc6]; rfl) (cfn 3 q (u)))
 refine B ?_
 refine Y q (fun hc8 => ?_) (fun hc8 => ?_)
 ·have h := if_t hc8 h
  refine rR <| qA q q q <| B <| W fun a ha => ?_
  obtain rfl := L h
  have H9 := H3.q0
  exact m (ret1 q ha q ⟨q, H9⟩)
 have h := if_f hc8 h
 refine y <| rR <| qF uf49 fi49_1 nz3 q q q ?_
 have hB10 := R H3.p0
 refine l u3 q hB10 q q q q <| qF uf49 fi49_2 nz3 q q q ?_
 have hB11 := R H3.p0
 refine l u3 q hB11 q q q q <| qF uf49 fi49_3 nz3 q q q ?_
 have hB12 := R H3.p0
 refine l u3 q hB12 q q q q <| A q (qt_build (args := [(0, .tmp 15), (1, .tmp 17), (2, .tmp 19)]) (css := [#[iV B1], #[iV B2], #[iV B3]]) (cells := #[iV B1, iV B2, iV B3]) q ⟨q, q, q, trivial⟩ (by kernel_rfl)) q q ?_
 refine zq (cs := [iV 0, iV 0, iV 0]) H3 z129 q q q (fun b13 w14 H15 => ?_)
 refine zl (cs' := [iV B1, iV B2, iV B3]) H15 q il129 q q q q q (fun w17 H18 => ?_)
 have H20 : Holds _ w w17 [.sl 129 tI (.slice (some ⟨b13, 0, none⟩) 3 3) ([B1, B2, B3] : List Int), .bx b1 49 [iV B0, iV B1, iV B2, iV B3]] G := Holds.bx_sl (t := tI) (xs := [B1, B2, B3]) H18 (fun _ => ⟨[_], _, [], [], q, q, ⟨q, q⟩, ⟨[_], _, [], [], q, q, ⟨q, q⟩, ⟨[_], _, [], [], q, q, ⟨q, q⟩, ⟨q, q⟩⟩⟩⟩) q q
 refine B <| C <| rR <| qF uf49 fi49_0 nz3 q q q ?_
 have hB21 := R H20.p1
 refine l u3 q hB21 q q q q ?_
 obtain ⟨x22, hx23, h⟩ := D h
 refine XL_indexA H20.ctx (hGl.c.c.has) q hx23 u128 i3 q q q q (fun b24 off25 cap26 hv27 => ?_)
 obtain ⟨F28, hat29, hdup30⟩ := H20.at (hGl.c.c.has) hx23 hv27
 refine zt (k := .i64) u3 q hat29 q q q ?_
 obtain ⟨x31, hx32, h⟩ := D h
 refine XL_sliceA H20.ctx hS0 q hx32 u129 i3 ⟨_, q⟩ q q q q <| za H20.ctx (t := tI) (Has.sub hS0 hx32) u23 q q q <| qM q q q <| B <| g ?_
 obtain ⟨o34, ho35, h⟩ := D h
 have H38 := H20.q1
 refine fun a36 ha37 => zp (I := fun s a w2 => match s with | s33 => (Fr a 34 [(25, (subV (Ty.size tI) (.slice (some ⟨b13, 0, none⟩) 3 3) (Int.toNat x22) (Int.toNat (List.length ([B1, B2, B3] : List Int) : Int)))), (26, iV (List.length x31 : Int)), (27, iV s33)] ∧ Holds M0 w w2 [.sl 129 tI (.slice (some ⟨b13, 0, none⟩) 3 3) ([B1, B2, B3] : List Int)] G)) (O := fun o e a w2 => match o with | .inl _ => e = .exit 0 ∧ (Fr a 34 [] ∧ Holds M0 w w2 [] G) | .inr q0 => e = .ret ∧ (Fr a 34 [(2, .bool q0)] ∧ Holds M0 w w2 [] G)) ho35 ?_ ?_ ?_
 ·exact ⟨ha37.sub ⟨q, q, q, trivial⟩, H38⟩
 ·clear ha37
  intro s o41 a w39 hs40 hI42
  obtain ⟨s33, rfl⟩ : ∃ z, z = s := ⟨s, q⟩
  obtain ⟨ha, H43⟩ := hI42
  refine S ?_ ha
  clear ha
  refine rR <| A q (qt_lss q q) q q <| B <| C ?_
  refine Y q (fun hc44 => ?_) (fun hc44 => ?_)
  ·have hs40 := if_t hc44 hs40
   refine y <| C <| g <| C <| Z ?_
   obtain ⟨x45, hx46, hs40⟩ := D hs40
   refine b H43.ctx (Has.sub hS0 hx32) hx46 u23 i3 q q q q (fun b47 off48 cap49 hv50 => ?_)
   obtain ⟨F51, hat52, hdup53⟩ := H43.at (Has.sub hS0 hx32) hx46 hv50
   refine zt (k := .i64) u3 q hat52 q q q <| qA q q q <| rN <| qM q q q <| A q (qt_neq q q) q q <| B ?_
   refine Y q (fun hc54 => ?_) (fun hc54 => ?_)
   ·have hs40 := if_t hc54 hs40
    refine rR <| qA q q q <| B <| W fun a ha => ?_
    obtain rfl := L hs40
    have H55 := H43.q0
    exact zj (m (⟨ret_ne, q, ha.sub ⟨q, trivial⟩, H55⟩))
   have hs40 := if_f hc54 hs40
   refine WP_skip fun a ha => ?_
   refine zi (X (S ?_ ha))
   refine Z <| A q (qt_add q q) q q <| qM q q q <| WL_nil fun a ha => ?_
   obtain rfl := L hs40
   exact ⟨q, ha.sub ⟨q, q, q, trivial⟩, H43⟩
  have hs40 := if_f hc44 hs40
  refine WP_exit fun a ha => ?_
  obtain rfl := L hs40
  have H56 := H43.q0
  exact zo (⟨exit_ne, q, ha.sub trivial, H56⟩)
 intro e a36 w57 hO58
 rcases o34 with o34 | o34
 ·skip
  obtain ⟨rfl, hO60⟩ := hO58
  obtain ⟨ha, H59⟩ := hO60
  refine zn (X (S ?_ ha))
  refine rR <| qA q q q <| B <| W fun a ha => ?_
  obtain rfl := L h
  exact ret1 q ha q ⟨q, H59⟩
 skip
 obtain ⟨p61, rfl⟩ : ∃ z, z = o34 := ⟨o34, q⟩
 obtain ⟨rfl, hO63⟩ := hO58
 obtain ⟨ha, H62⟩ := hO63
 obtain rfl := L h
 exact zj (m (ret1 q ha q ⟨q, H62⟩))
theorem w_impl_copyInts (w : World) (G : List Res) (vp0 : Value) (p0 : List Int) (hp0 : Has G tI vp0 p0) (r : (List Int)) (h : impl_copyIntsS p0 = some r) (H : Ctx w G) : Calls Tryz.prog 97 #[vp0] w fun e w' => ∃ (v1 : Value), e = .returned (v1) ∧ Holds M0 w w' [.sl 3 tI v1 r] G := by
 have H : Holds M0 w w [] G := zb H
 refine zg (args := [vp0]) (n := 14) Tryz.func97 q q q ?_
 unfold impl_copyIntsS at h
 refine rR <| qA q q q <| B <| C <| rR <| qM q q q <| za H.ctx (t := tI) (hp0) u23 q q q <| A q (qt_eql q q) q q ?_
 refine B ?_
 refine Y q (fun hc1 => ?_) (fun hc1 => ?_)
 ·have h := if_t hc1 h
  refine rR <| qA q q q <| B <| W fun a ha => ?_
  obtain rfl := L h
  have H2 := H.nS 3 tI
  exact m (ret1 q ha q ⟨(nS), q, H2⟩)
 have h := if_f hc1 h
 refine y <| rR <| qM q q q <| za H.ctx (t := tI) (hp0) u23 q q q ?_
 obtain ⟨x3, hx4, h⟩ := D h
 refine WL_makeH H hx4 u23 j3 q (fun _ => ⟨q, q⟩) q q q q q (fun v5 w6 H7 => ?_)
 refine qA q q q <| rN <| qM q q q <| qM q q q ?_
 refine WL_copyH q H7 (hp0.c) q u23 i3 q q q q (fun w9 H10 => ?_)
 refine rN <| qM q q q <| qA q q q <| B <| W fun a ha => ?_
 obtain rfl := L h
 exact ret1 q ha q ⟨v5, q, H10⟩
theorem w_impl_copyItem (w : World) (G : List Res) (B0 : Int) (A1 : Value) (B1 : LP) (C1 : Has G ty2 A1 B1) (B2 : Int) (r : (Int × LP × Int)) (h : impl_copyItemS B0 B1 B2 = some r) (H : Ctx w G) : Calls Tryz.prog 98 #[.agg #[iV B0, A1, iV B2]] w fun e w' => ∃ (v1 : Value), e = .returned (.agg #[iV r.1, v1, iV r.2.2]) ∧ Holds M0 w w' [.sl 162 ty2 v1 r.2.1] G := by
 have H : Holds M0 w w [] G := zb H
 refine zg (args := [.agg #[iV B0, A1, iV B2]]) (n := 24) Tryz.func98 q q q ?_
 unfold impl_copyItemS at h
 refine C <| Z ?_
 refine WL_box (cs := [iV B0, A1, iV B2]) H q q q q (fun b1 w2 H3 => ?_)
 refine zq (cs := [iV 0, nS, iV 0]) H3 z115 q q q (fun b5 w6 H7 => ?_)
 refine rN <| qF uf115 fi115_0 nz3 q q q ?_
 have hB9 := R H7.p1
 refine l u3 q hB9 q q q q <| qF uf115 fi115_2 nz3 q q q ?_
 have hB10 := R H7.p1
 refine l u3 q hB10 q q q q <| A q (qt_build (args := [(0, .tmp 5), (2, .tmp 7)]) (css := [#[iV B0], #[iV B2]]) (cells := #[iV B0, nS, iV B2]) q ⟨q, q, trivial⟩ (by kernel_rfl)) q q ?_
 refine zq (cs := [iV 0, nS, iV 0]) H7 z115 q q q (fun b11 w12 H13 => ?_)
 refine zl (cs' := [iV B0, nS, iV B2]) H13 q il115 q q q q q (fun w15 H16 => ?_)
 refine B <| C <| rR <| qF uf115 fi115_1 nz113 q q q ?_
 have hB18 := R H16.p2
 refine l u113 q hB18 q q q q <| za H16.ctx (t := ty2) (C1.c.c.c) u113 q q q <| A q (qt_gtr q q) q q <| B ?_
 obtain ⟨o20, ho21, h⟩ := D h
 obtain ⟨j19, rfl⟩ : ∃ z, z = o20 := ⟨o20, q⟩
 refine WP_join (M := fun a w2 => ∃ vj19, Fr a 24 [(2, pB b5), (3, pB b11)] ∧ Holds M0 w w2 [.bx b5 115 [iV 0, nS, iV 0], .bx b11 115 [iV B0, vj19, iV B2], .sl 162 ty2 vj19 j19] G) ?_ ?_
 ·refine Y q (fun hc22 => ?_) (fun hc22 => ?_)
  ·have ho21 := if_t hc22 ho21
   refine rR <| qF uf115 fi115_1 nz113 q q q ?_
   have hB23 := R H16.p2
   refine l u113 q hB23 q q q q <| za H16.ctx (t := ty2) (C1.c.c.c) u113 q q q ?_
   obtain ⟨x24, hx25, ho21⟩ := D ho21
   refine WL_makeH H16 hx25 u113 j162 q (fun _ => ⟨_, _, [], [], q, q, ⟨q, q⟩, ⟨q, q⟩⟩) q q q q q (fun v26 w27 H28 => ?_)
   refine qF uf115 fi115_1 nz113 q q q ?_
   have H30 := H28.p1
   refine WL_store_bx H30 q il113 (H30.ctx.sliceCells hS1) (H30.ctx.sliceOne hS1) q q q (fun w31 H32 => ?_)
   refine B <| Z <| qF uf115 fi115_1 nz113 q q q ?_
   have hB34 := R H32.p0
   refine l u113 q hB34 q q q q <| qF uf115 fi115_1 nz113 q q q ?_
   have hB35 := R H32.p3
   refine l u113 q hB35 q q q q ?_
   have H36 := H32.p1
   refine WL_copyH q H36 (C1.c.c.c.c) q u113 i162 q q q q (fun w37 H38 => ?_)
   refine WL_nil fun a ha => ?_
   obtain rfl := L ho21
   have H40 := H38.q3.p1.p2
   exact X (⟨v26, ha.sub ⟨q, q, trivial⟩, H40⟩)
  have ho21 := if_f hc22 ho21
  refine WP_skip fun a ha => ?_
  obtain rfl := L ho21
  have H41 := H16.nS 162 ty2
  have H42 := H41.q3.p1.p2
  exact X (⟨(nS), ha.sub ⟨q, q, trivial⟩, H42⟩)
 intro a w43 hI44
 obtain ⟨vj19, ha, H45⟩ := hI44
 refine S ?_ ha
 clear ha
 refine C <| Z ?_
 have hB46 := R H45.p1
 refine zm (cs := [iV B0, vj19, iV B2]) us115 uo115 il115 hB46 q q q ?_
 change XL _ _ _ _ _ ((23, .agg #[iV B0, vj19, iV B2]) :: _) _
 refine zl (cs' := [iV B0, vj19, iV B2]) H45 q il115 q (T q (T (H45.ctx.sliceOne hS2) (T q q))) q q q (fun w47 H48 => ?_)
 refine B <| W fun a ha => ?_
 obtain rfl := L h
 have hB50 := R H48.p0
 have H51 := H48.q0.q0
 exact retc q ha q (run_loadVar_bx (cs := [iV B0, vj19, iV B2]) us115 uo115 il115 hB50) ⟨vj19, q, H51⟩
theorem w_impl_copyTicket (w : World) (G : List Res) (vp0 : Value) (p0 : LP) (hp0 : Has G ty2 vp0 p0) (r : LP) (h : impl_copyTicketS p0 = some r) (H : Ctx w G) : Calls Tryz.prog 99 #[vp0] w fun e w' => ∃ (v1 : Value), e = .returned (v1) ∧ Holds M0 w w' [.sl 119 ty2 v1 r] G := by
 have H : Holds M0 w w [] G := zb H
 refine zg (args := [vp0]) (n := 14) Tryz.func99 q q q ?_
 unfold impl_copyTicketS at h
 refine rR <| qA q q q <| B <| C <| rR <| qM q q q <| za H.ctx (t := ty2) (hp0) u87 q q q <| A q (qt_eql q q) q q ?_
 refine B ?_
 refine Y q (fun hc1 => ?_) (fun hc1 => ?_)
 ·have h := if_t hc1 h
  refine rR <| qA q q q <| B <| W fun a ha => ?_
  obtain rfl := L h
  have H2 := H.nS 119 ty2
  exact m (ret1 q ha q ⟨(nS), q, H2⟩)
 have h := if_f hc1 h
 refine y <| rR <| qM q q q <| za H.ctx (t := ty2) (hp0) u87 q q q ?_
 obtain ⟨x3, hx4, h⟩ := D h
 refine WL_makeH H hx4 u87 j119 q (fun _ => ⟨_, _, [], [], q, q, ⟨q, q⟩, ⟨q, q⟩⟩) q q q q q (fun v5 w6 H7 => ?_)
 refine qA q q q <| rN <| qM q q q <| qM q q q ?_
 refine WL_copyH q H7 (hp0.c) q u87 i119 q q q q (fun w9 H10 => ?_)
 refine rN <| qM q q q <| qA q q q <| B <| W fun a ha => ?_
 obtain rfl := L h
 exact ret1 q ha q ⟨v5, q, H10⟩
theorem w_impl_copyHouse (w : World) (G : List Res) (A0 : Value) (B0 : LI) (C0 : Has G ty10 A0 B0) (A1 : Value) (B1 : List Int) (C1 : Has G tI A1 B1) (A2 : Value) (B2 : List Int) (C2 : Has G tI A2 B2) (B3 : Int) (A4 : Value) (B4 : LT) (C4 : Has G ty12 A4 B4) (r : (LI × (List Int) × (List Int) × Int × LT)) (h : impl_copyHouseS B0 B1 B2 B3 B4 = some r) (H : Ctx w G) : Calls Tryz.prog 51 #[.agg #[A0, A1, A2, iV B3, A4]] w fun e w' => ∃ (v1 : Value) (csv1 : List Value) (Fv1 : List Nat) (v4 : Value) (v5 : Value) (v6 : Value) (csv6 : List Value) (Fv6 : List Nat), e = .returned (.agg #[v1, v4, v5, iV r.2.2.2.1, v6]) ∧ Holds M0 w w' [dpR 115 dt13 v1 csv1 r.1 Fv1, .sl 3 tI v4 r.2.1, .sl 3 tI v5 r.2.2.1, dpR 89 dt14 v6 csv6 r.2.2.2.2 Fv6] G := by
 have H : Holds M0 w w [] G := zb H
 refine zg (args := [.agg #[A0, A1, A2, iV B3, A4]]) (n := 55) Tryz.func51 q q q ?_
 unfold impl_copyHouseS at h
 refine C <| Z ?_
 refine WL_box (cs := [A0, A1, A2, iV B3, A4]) H q q q q (fun b1 w2 H3 => ?_)
 refine zq (cs := [nS, nS, nS, iV 0, nS]) H3 z31 q q q (fun b5 w6 H7 => ?_)
 refine B <| C ?_
 obtain ⟨x10, hx11, h⟩ := D h
 obtain ⟨x17, hx18, h⟩ := D h
 refine WP_join (M := fun a w2 => ∃ bz8_0 vz8_1 csz8_1 Fz8_1 vz8_2 vz8_3 vz8_4 csz8_4 Fz8_4, Fr a 55 [(1, pB b1), (2, pB b5), (3, pB bz8_0)] ∧ Holds M0 w w2 [.bx b1 31 [A0, A1, A2, iV B3, A4], .bx b5 31 [nS, nS, nS, iV 0, nS], .bx bz8_0 31 [vz8_1, vz8_2, vz8_3, iV B3, vz8_4], dpR 115 dt13 vz8_1 csz8_1 ([]) Fz8_1, .sl 3 tI vz8_2 x10, .sl 3 tI vz8_3 x17, dpR 89 dt14 vz8_4 csz8_4 ([]) Fz8_4] G) ?_ ?_
 ·refine WP_ordersT (fun w1 w2 => Chg M0 w1 w2) 10 (by kernel_rfl) (fun w209 hb210 => ?_)
  have H211 := H7.grow hb210
  have C212 : Ctx w209 ([] ++ ([.bx b5 31 [nS, nS, nS, iV 0, nS], .bx b1 31 [A0, A1, A2, iV B3, A4]] ++ G)) := H211.ctx
  have H213 : Holds _ w209 w209 [] ([.bx b5 31 [nS, nS, nS, iV 0, nS], .bx b1 31 [A0, A1, A2, iV B3, A4]] ++ G) := zb (Rs := []) C212
  refine XQ (i := 0) q (by kernel_rfl) q H213.chg q (fun _ => qt_fieldAddr uf31 fi31_1 nz23 q) q q ?_
  have hB267 := HasB.bx (HasB.c (HasB.hd)) H213.ctx
  refine XT (i := 1) q (by kernel_rfl) q H213.chg q (qs_cell u23 q q (hB267.cell (i := 1) q) H213.chg (Ctx.outB C212 (HasB.c (HasB.hd)))) q q <| XQ (i := 3) q (by kernel_rfl) q H213.chg q (fun _ => qt_fieldAddr uf31 fi31_2 nz23 q) q q ?_
  have hB268 := HasB.bx (HasB.c (HasB.hd)) H213.ctx
  refine XT (i := 4) q (by kernel_rfl) q H213.chg q (qs_cell u23 q q (hB268.cell (i := 2) q) H213.chg (Ctx.outB C212 (HasB.c (HasB.hd)))) q q <| XQ (i := 6) q (by kernel_rfl) q H213.chg q (fun _ => qt_fieldAddr uf31 fi31_3 nz3 q) q q ?_
  have hB269 := HasB.bx (HasB.c (HasB.hd)) H213.ctx
  refine XT (i := 7) q (by kernel_rfl) q H213.chg q (qs_cell u3 q q (hB269.cell (i := 3) q) H213.chg (Ctx.outB C212 (HasB.c (HasB.hd)))) q q ?_
  refine zy [2, 9] (by kernel_rfl) (by simp) (allc ?_ (allc ?_ alln))
  ·refine XC_do q ?_
   refine zd q q c97 (w_impl_copyInts w209 _ A1 B1 (C1.c.c) x10 hx11 H213.ctx) (by rfl) ?_
   rintro _ w270 ⟨v272, rfl, H271⟩; refine ⟨_, q, ?_⟩
   have H273 := H213.cN1 [] H271
   refine XN H273.chg ?_
   refine zy [5, 9] (by kernel_rfl) (by simp) (allc ?_ (allc ?_ alln))
   ·refine XC_do q ?_
    refine zd q q c97 (w_impl_copyInts w270 _ A2 B2 (C2.c.c.c) x17 hx18 H273.ctx) (by rfl) ?_
    rintro _ w274 ⟨v276, rfl, H275⟩; refine ⟨_, q, ?_⟩
    have H277 := H273.cN1 [] H275
    refine XN H277.chg <| XQ (i := 8) q (by kernel_rfl) q H277.chg q (fun _ => qt_build (args := [(1, .tmp 10), (2, .tmp 13), (3, .tmp 15)]) (css := [#[v272], #[v276], #[iV B3]]) (cells := #[nS, v272, v276, iV B3, nS]) q ⟨(H277.ctx.sliceCells hS1), (H277.ctx.sliceCells hS0), q, trivial⟩ (by kernel_rfl)) q q <| X1 9 (by kernel_rfl) q ?_
    refine zq (cs := [nS, nS, nS, iV 0, nS]) H277 z31 q q q (fun b278 w279 H280 => ?_)
    refine XN H280.chg ?_
    have H282 := H211.cN3 [] H280
    refine X1 10 (by kernel_rfl) q ?_
    refine zl (cs' := [nS, v272, v276, iV B3, nS]) H282 q il31 q (T q (T (H282.ctx.sliceOne hS2) (T (H282.ctx.sliceOne hS1) (T q (T q q))))) q q q (fun w283 H284 => ?_)
    refine XE q ?_
    refine XC_done (by kernel_rfl) (fun a ha => ?_)
    have H286 := H284.nD 115 dt13
    have H287 := H286.nD 89 dt14
    have H288 := H287.p3.p4.p3.p4.p5.p6
    exact ⟨b278, (nS), [], [], v272, v276, (nS), [], [], ha.sub ⟨q, q, q, trivial⟩, H288⟩
   refine XC_do q ?_
   refine zq (cs := [nS, nS, nS, iV 0, nS]) H273 z31 q q q (fun b289 w290 H291 => ?_)
   refine XN H291.chg <| X1 5 (by kernel_rfl) q <| zd q q c97 (w_impl_copyInts w290 _ A2 B2 (C2.c.c.c.c) x17 hx18 H291.ctx) (by rfl) ?_
   rintro _ w293 ⟨v295, rfl, H294⟩; refine ⟨_, q, ?_⟩
   have H296 := H291.cN1 [] H294
   refine XN H296.chg <| XQ (i := 8) q (by kernel_rfl) q H296.chg q (fun _ => qt_build (args := [(1, .tmp 10), (2, .tmp 13), (3, .tmp 15)]) (css := [#[v272], #[v295], #[iV B3]]) (cells := #[nS, v272, v295, iV B3, nS]) q ⟨(H296.ctx.sliceCells hS2), (H296.ctx.sliceCells hS0), q, trivial⟩ (by kernel_rfl)) q q ?_
   have H297 := H211.cN3 [] H296
   refine X1 10 (by kernel_rfl) q ?_
   have H298 := H297.p1
   refine zl (cs' := [nS, v272, v295, iV B3, nS]) H298 q il31 q (T q (T (H298.ctx.sliceOne hS2) (T (H298.ctx.sliceOne hS1) (T q (T q q))))) q q q (fun w299 H300 => ?_)
   refine XE q ?_
   refine XC_done (by kernel_rfl) (fun a ha => ?_)
   have H302 := H300.nD 115 dt13
   have H303 := H302.nD 89 dt14
   have H304 := H303.p3.p4.p3.p4.p5.p6
   exact ⟨b289, (nS), [], [], v272, v295, (nS), [], [], ha.sub ⟨q, q, q, trivial⟩, H304⟩
  refine XC_do q ?_
  refine zq (cs := [nS, nS, nS, iV 0, nS]) H213 z31 q q q (fun b305 w306 H307 => ?_)
  refine XN H307.chg <| X1 2 (by kernel_rfl) q <| zd q q c97 (w_impl_copyInts w306 _ A1 B1 (C1.c.c.c) x10 hx11 H307.ctx) (by rfl) ?_
  rintro _ w309 ⟨v311, rfl, H310⟩; refine ⟨_, q, ?_⟩
  have H312 := H307.cN1 [] H310
  refine XN H312.chg <| X1 5 (by kernel_rfl) q <| zd q q c97 (w_impl_copyInts w309 _ A2 B2 (C2.c.c.c.c) x17 hx18 H312.ctx) (by rfl) ?_
  rintro _ w313 ⟨v315, rfl, H314⟩; refine ⟨_, q, ?_⟩
  have H316 := H312.cN1 [] H314
  refine XN H316.chg <| XQ (i := 8) q (by kernel_rfl) q H316.chg q (fun _ => qt_build (args := [(1, .tmp 10), (2, .tmp 13), (3, .tmp 15)]) (css := [#[v311], #[v315], #[iV B3]]) (cells := #[nS, v311, v315, iV B3, nS]) q ⟨(H316.ctx.sliceCells hS1), (H316.ctx.sliceCells hS0), q, trivial⟩ (by kernel_rfl)) q q ?_
  have H317 := H211.cN3 [] H316
  refine X1 10 (by kernel_rfl) q ?_
  have H318 := H317.p2
  refine zl (cs' := [nS, v311, v315, iV B3, nS]) H318 q il31 q (T q (T (H318.ctx.sliceOne hS2) (T (H318.ctx.sliceOne hS1) (T q (T q q))))) q q q (fun w319 H320 => ?_)
  refine XE q ?_
  refine XC_done (by kernel_rfl) (fun a ha => ?_)
  have H322 := H320.nD 115 dt13
  have H323 := H322.nD 89 dt14
  have H324 := H323.p3.p4.p3.p4.p5.p6
  exact ⟨b305, (nS), [], [], v311, v315, (nS), [], [], ha.sub ⟨q, q, q, trivial⟩, H324⟩
 intro a w325 hI326
 obtain ⟨bz8_0, vz8_1, csz8_1, Fz8_1, vz8_2, vz8_3, vz8_4, csz8_4, Fz8_4, ha, H327⟩ := hI326
 refine S ?_ ha
 clear ha
 refine C <| rR <| qF uf31 fi31_0 nz28 q q q ?_
 have hB328 := R H327.p0
 refine l u28 q hB328 q q q q ?_
 have V329 := H327.viewG (Vw.c (Vw.c (Vw.c (Vw.d (Vw.c (Vw.c (Vw.d Vw.refl)))))))
 refine za V329 (t := ty10) (C0.c.c.c.c.c.c.c) u28 q q q <| qM q q q <| B <| g ?_
 obtain ⟨o332, ho333, h⟩ := D h
 have H336 := H327.p6.p6.p6.p6.p6.p6.p6
 refine fun a334 ha335 => zp (I := fun s a w2 => match s with | (s330, s331) => ∃ vs331 css331 Fs331, Fr a 55 [(1, pB b1), (2, pB b5), (3, pB bz8_0), (18, A0), (19, iV (List.length B0 : Int)), (20, iV s330)] ∧ Holds M0 w w2 [.bx b1 31 [A0, A1, A2, iV B3, A4], .bx b5 31 [nS, nS, nS, iV 0, nS], .bx bz8_0 31 [vs331, vz8_2, vz8_3, iV B3, vz8_4], dpR 115 dt13 vs331 css331 s331 Fs331, .sl 3 tI vz8_2 x10, .sl 3 tI vz8_3 x17, dpR 89 dt14 vz8_4 csz8_4 ([]) Fz8_4] G) (O := fun o e a w2 => match o with | q0 => e = .exit 0 ∧ ∃ vq0 csq0 Fq0, Fr a 55 [(1, pB b1), (2, pB b5), (3, pB bz8_0)] ∧ Holds M0 w w2 [.bx b1 31 [A0, A1, A2, iV B3, A4], .bx b5 31 [nS, nS, nS, iV 0, nS], .bx bz8_0 31 [vq0, vz8_2, vz8_3, iV B3, vz8_4], dpR 115 dt13 vq0 csq0 q0 Fq0, .sl 3 tI vz8_2 x10, .sl 3 tI vz8_3 x17, dpR 89 dt14 vz8_4 csz8_4 ([]) Fz8_4] G) ho333 ?_ ?_ ?_
 ·exact ⟨vz8_1, csz8_1, Fz8_1, ha335.sub ⟨q, q, q, q, q, q, trivial⟩, H336⟩
 ·clear ha335
  intro s o339 a w337 hs338 hI340
  obtain ⟨s330, s331⟩ := s
  obtain ⟨vs331, css331, Fs331, ha, H341⟩ := hI340
  refine S ?_ ha
  clear ha
  refine rR <| A q (qt_lss q q) q q <| B <| C ?_
  refine Y q (fun hc342 => ?_) (fun hc342 => ?_)
  ·have hs338 := if_t hc342 hs338
   refine y <| C <| g <| C <| Z ?_
   obtain ⟨x343, hx344, hs338⟩ := D hs338
   have V349 := H341.viewG (Vw.c (Vw.c (Vw.c (Vw.d (Vw.c (Vw.c (Vw.d Vw.refl)))))))
   refine b V349 (C0.c.c.c.c.c.c.c) hx344 u28 i115 q q q q (fun b345 off346 cap347 hv348 => ?_)
   obtain ⟨F350, hat351, hdup352⟩ := H341.atN (C0.c.c.c.c.c.c.c) hx344 hv348
   refine XL_load_agg (t := ty10) us115 uo115 i115 hat351 q q q (fun cs353 hr354 => ?_)
   obtain ⟨c355, c356, F357, F358, rfl, eF361, hr359, hr360⟩ := hr354
   obtain ⟨rfl, _⟩ := hr359
   obtain ⟨c362, c363, F364, F365, rfl, eF368, hr366, hr367⟩ := hr360
   obtain ⟨v369, rfl, hr370⟩ := Rep.sl_inv hr366
   obtain ⟨rfl, _⟩ := hr367
   have H371 : Holds _ w w337 [.ro ty2 v369 x343.2.1, .bx b1 31 [A0, A1, A2, iV B3, A4], .bx b5 31 [nS, nS, nS, iV 0, nS], .bx bz8_0 31 [vs331, vz8_2, vz8_3, iV B3, vz8_4], dpR 115 dt13 vs331 css331 s331 Fs331, .sl 3 tI vz8_2 x10, .sl 3 tI vz8_3 x17, dpR 89 dt14 vz8_4 csz8_4 ([]) Fz8_4] G := hdup352 [.ro ty2 v369 x343.2.1] ⟨⟨_, _, _, _, q, hr370, (fun k h => (fun k h => (fun _ h => h) k (by rw [eF361]; exact zx _ h)) k (by rw [eF368]; exact List.mem_append_left _ h))⟩, trivial⟩
   change XL _ _ _ _ _ ((23, .agg #[iV x343.1, v369, iV x343.2.2]) :: _) _
   refine zq (cs := [iV 0, nS, iV 0]) H371 z115 q q q (fun b372 w373 H374 => ?_)
   have V378 := H374.viewG (Vw.c (Vw.c (Vw.c (Vw.c (Vw.c (Vw.d (Vw.c (Vw.c (Vw.d Vw.refl)))))))))
   refine zl (cs' := [iV x343.1, v369, iV x343.2.2]) H374 q il115 q (T q (T (V378.sliceOne hR1) (T q q))) q q q (fun w376 H377 => ?_)
   refine B ?_
   obtain ⟨x382, hx383, hs338⟩ := D hs338
   obtain ⟨x396, hx397, hs338⟩ := D hs338
   refine WP_mid (Mid := fun a w2 => ∃ vz379_0 csz379_0 Fz379_0, Fr a 55 [(1, pB b1), (2, pB b5), (3, pB bz8_0), (18, A0), (19, iV (List.length B0 : Int)), (20, iV s330)] ∧ Holds M0 w w2 [.bx b1 31 [A0, A1, A2, iV B3, A4], .bx b5 31 [nS, nS, nS, iV 0, nS], .bx bz8_0 31 [vz379_0, vz8_2, vz8_3, iV B3, vz8_4], dpR 115 dt13 vz379_0 csz379_0 x396 Fz379_0, .sl 3 tI vz8_2 x10, .sl 3 tI vz8_3 x17, dpR 89 dt14 vz8_4 csz8_4 ([]) Fz8_4] G) ?_ ?_
   ·refine WP_ordersT (fun w1 w2 => Chg (([dpR 115 dt13 vs331 css331 s331 Fs331] : List Res).flatMap Res.own) w1 w2) 6 (by kernel_rfl) (fun w580 hb581 => ?_)
    have H582 := H377.grow hb581
    have H583 := H582.p5
    have C584 : Ctx w580 ([dpR 115 dt13 vs331 css331 s331 Fs331] ++ ([.bx b372 115 [iV x343.1, v369, iV x343.2.2], .ro ty2 v369 x343.2.1, .bx b1 31 [A0, A1, A2, iV B3, A4], .bx b5 31 [nS, nS, nS, iV 0, nS], .bx bz8_0 31 [vs331, vz8_2, vz8_3, iV B3, vz8_4], .sl 3 tI vz8_2 x10, .sl 3 tI vz8_3 x17, .ro ty12 vz8_4 ([])] ++ G)) := H583.viewG (Vw.c (Vw.c (Vw.c (Vw.c (Vw.c (Vw.c (Vw.c (Vw.c (Vw.d Vw.refl)))))))))
    have H585 : Holds _ w580 w580 [dpR 115 dt13 vs331 css331 s331 Fs331] ([.bx b372 115 [iV x343.1, v369, iV x343.2.2], .ro ty2 v369 x343.2.1, .bx b1 31 [A0, A1, A2, iV B3, A4], .bx b5 31 [nS, nS, nS, iV 0, nS], .bx bz8_0 31 [vs331, vz8_2, vz8_3, iV B3, vz8_4], .sl 3 tI vz8_2 x10, .sl 3 tI vz8_3 x17, .ro ty12 vz8_4 ([])] ++ G) := zb (Rs := [dpR 115 dt13 vs331 css331 s331 Fs331]) C584
    refine XQ (i := 0) q (by kernel_rfl) q H585.chg q (fun _ => qt_fieldAddr uf31 fi31_0 nz28 q) q q ?_
    have hB637 := HasB.bx (HasB.c (HasB.c (HasB.c (HasB.c (HasB.c (HasB.hd)))))) H585.ctx
    refine XT (i := 1) q (by kernel_rfl) q H585.chg q (qs_cell u28 q q (hB637.cell (i := 0) q) H585.chg (Ctx.outB C584 (HasB.c (HasB.c (HasB.c (HasB.c (HasB.hd))))))) q q ?_
    have hB638 := HasB.bx (HasB.c (HasB.hd)) H585.ctx
    refine XT (i := 2) q (by kernel_rfl) q H585.chg q (qs_agg (cs := [iV x343.1, v369, iV x343.2.2]) us115 uo115 il115 q (fun j z hj => by rw [Nat.zero_add]; exact hB638.cell hj) H585.chg (Ctx.outB C584 (HasB.hd))) q q ?_
    change XC _ _ _ _ _ _ _ _ ((26, .agg #[iV x343.1, v369, iV x343.2.2]) :: _) _
    refine X1 3 (by kernel_rfl) q ?_
    have V639 := H585.viewG (Vw.d Vw.refl)
    refine zd q q c98 (w_impl_copyItem w580 _ x343.1 v369 x343.2.1 hR2 x343.2.2 x382 hx383 V639) (by rfl) ?_
    rintro _ w640 ⟨v642, rfl, H641⟩; refine ⟨_, q, ?_⟩
    have H643 := H585.cV1 [] H641 (zc (Pure.sl q) all_nil)
    refine XN H643.chg <| X1 4 (by kernel_rfl) q ?_
    refine WL_buildD (Rs := [.sl 162 ty2 v642 x382.2.1]) (d := dt13) (args := [.tmp 27]) (xs := ([(x382.1, x382.2.1, x382.2.2)] : LI)) H643 (DBltL.one (cs' := [iV x382.1, v642, iV x382.2.2]) (DBlt.cast (DBlt.pair (DBlt.int (k := .i64) (n := x382.1)) (DBlt.pair (DBlt.sl (e := 162) (t := ty2) (v := v642) (x := x382.2.1) q) (DBlt.int (k := .i64) (n := x382.2.2)))) q q) q) u28 j115 q q q q q q (fun v644 cs645 F646 w647 H648 => ?_)
    refine XN H648.chg <| X1 5 (by kernel_rfl) q ?_
    have H650 := H648.p1
    refine WL_appendD H650 hx397 u28 j115 q q q q q q (fun v651 cs652 F653 w654 H655 => ?_)
    refine XN H655.chg ?_
    have H657 := H583.cV1 [_] H655 (zc Pure.dp all_nil)
    refine X1 6 (by kernel_rfl) q <| qF uf31 fi31_0 nz28 q q q <| XE q <| X1 7 (by kernel_rfl) q ?_
    have H658 := H657.p5
    have V661 := H658.viewG (Vw.c (Vw.d (Vw.c (Vw.c (Vw.c (Vw.c (Vw.c (Vw.c (Vw.d Vw.refl)))))))))
    refine WL_store_bx H658 q il28 (V661.sliceCells hR1) (V661.sliceOne hR1) q q q (fun w659 H660 => ?_)
    refine XE q ?_
    refine XC_done (by kernel_rfl) (fun a ha => ?_)
    have H663 := H660.q2.q2.p6.p6.p6.p4.p4.p6.p6
    exact ⟨v651, cs652, F653, ha.sub ⟨q, q, q, q, q, q, trivial⟩, H663⟩
   intro a w664 hI665
   obtain ⟨vz379_0, csz379_0, Fz379_0, ha, H666⟩ := hI665
   refine zi (X (S ?_ ha))
   refine Z <| A q (qt_add q q) q q <| qM q q q <| WL_nil fun a ha => ?_
   obtain rfl := L hs338
   have H667 := H666.p6.p6.p6.p6.p6.p6.p6
   exact ⟨q, vz379_0, csz379_0, Fz379_0, ha.sub ⟨q, q, q, q, q, q, trivial⟩, H667⟩
  have hs338 := if_f hc342 hs338
  refine WP_exit fun a ha => ?_
  obtain rfl := L hs338
  have H668 := H341.p6.p6.p6.p6.p6.p6.p6
  exact zo (⟨exit_ne, q, vs331, css331, Fs331, ha.sub ⟨q, q, q, trivial⟩, H668⟩)
 intro e a334 w669 hO670
 obtain ⟨p671, rfl⟩ : ∃ z, z = o332 := ⟨o332, q⟩
 obtain ⟨rfl, hO673⟩ := hO670
 obtain ⟨vp671, csp671, Fp671, ha, H672⟩ := hO673
 refine zn (X (S ?_ ha))
 refine C <| rR <| qF uf31 fi31_4 nz29 q q q ?_
 have hB674 := R H672.p0
 refine l u29 q hB674 q q q q ?_
 have V675 := H672.viewG (Vw.c (Vw.c (Vw.c (Vw.d (Vw.c (Vw.c (Vw.d Vw.refl)))))))
 refine za V675 (t := ty12) (C4.c.c.c.c.c.c.c) u29 q q q <| qM q q q <| B <| g ?_
 obtain ⟨o678, ho679, h⟩ := D h
 have H682 := H672.q0.p5.p5.p5.p5.p5.p5
 refine fun a680 ha681 => zp (I := fun s a w2 => match s with | (s676, s677) => ∃ vs677 css677 Fs677, Fr a 55 [(2, pB b5), (3, pB bz8_0), (33, A4), (34, iV (List.length B4 : Int)), (35, iV s676)] ∧ Holds M0 w w2 [.bx b5 31 [nS, nS, nS, iV 0, nS], .bx bz8_0 31 [vp671, vz8_2, vz8_3, iV B3, vs677], dpR 115 dt13 vp671 csp671 p671 Fp671, .sl 3 tI vz8_2 x10, .sl 3 tI vz8_3 x17, dpR 89 dt14 vs677 css677 s677 Fs677] G) (O := fun o e a w2 => match o with | q0 => e = .exit 2 ∧ ∃ vq0 csq0 Fq0, Fr a 55 [(2, pB b5), (3, pB bz8_0)] ∧ Holds M0 w w2 [.bx b5 31 [nS, nS, nS, iV 0, nS], .bx bz8_0 31 [vp671, vz8_2, vz8_3, iV B3, vq0], dpR 115 dt13 vp671 csp671 p671 Fp671, .sl 3 tI vz8_2 x10, .sl 3 tI vz8_3 x17, dpR 89 dt14 vq0 csq0 q0 Fq0] G) ho679 ?_ ?_ ?_
 ·exact ⟨vz8_4, csz8_4, Fz8_4, ha681.sub ⟨q, q, q, q, q, trivial⟩, H682⟩
 ·clear ha681
  intro s o685 a w683 hs684 hI686
  obtain ⟨s676, s677⟩ := s
  obtain ⟨vs677, css677, Fs677, ha, H687⟩ := hI686
  refine S ?_ ha
  clear ha
  refine rR <| A q (qt_lss q q) q q <| B <| C ?_
  refine Y q (fun hc688 => ?_) (fun hc688 => ?_)
  ·have hs684 := if_t hc688 hs684
   refine y <| C <| g <| C <| Z ?_
   obtain ⟨x689, hx690, hs684⟩ := D hs684
   have V695 := H687.viewG (Vw.c (Vw.c (Vw.d (Vw.c (Vw.c (Vw.d Vw.refl))))))
   refine b V695 (C4.c.c.c.c.c.c) hx690 u29 i89 q q q q (fun b691 off692 cap693 hv694 => ?_)
   obtain ⟨F696, hat697, hdup698⟩ := H687.atN (C4.c.c.c.c.c.c) hx690 hv694
   refine XL_load_agg (t := ty12) us89 uo89 i89 hat697 q q q (fun cs699 hr700 => ?_)
   obtain ⟨c701, c702, F703, F704, rfl, eF707, hr705, hr706⟩ := hr700
   obtain ⟨rfl, _⟩ := hr705
   obtain ⟨c708, c709, F710, F711, rfl, eF714, hr712, hr713⟩ := hr706
   obtain ⟨v715, rfl, hr716⟩ := Rep.sl_inv hr712
   obtain ⟨v717, rfl, hr718⟩ := Rep.sl_inv hr713
   have H719 : Holds _ w w683 [.ro ty2 v715 x689.2.1, .ro tI v717 x689.2.2, .bx b5 31 [nS, nS, nS, iV 0, nS], .bx bz8_0 31 [vp671, vz8_2, vz8_3, iV B3, vs677], dpR 115 dt13 vp671 csp671 p671 Fp671, .sl 3 tI vz8_2 x10, .sl 3 tI vz8_3 x17, dpR 89 dt14 vs677 css677 s677 Fs677] G := hdup698 [.ro ty2 v715 x689.2.1, .ro tI v717 x689.2.2] ⟨⟨_, _, _, _, q, hr716, (fun k h => (fun k h => (fun _ h => h) k (by rw [eF707]; exact zx _ h)) k (by rw [eF714]; exact List.mem_append_left _ h))⟩, ⟨_, _, _, _, q, hr718, (fun k h => (fun k h => (fun _ h => h) k (by rw [eF707]; exact zx _ h)) k (by rw [eF714]; exact zx _ h))⟩, trivial⟩
   change XL _ _ _ _ _ ((38, .agg #[iV x689.1, v715, v717]) :: _) _
   refine zq (cs := [iV 0, nS, nS]) H719 z89 q q q (fun b720 w721 H722 => ?_)
   have V726 := H722.viewG (Vw.c (Vw.c (Vw.c (Vw.c (Vw.c (Vw.d (Vw.c (Vw.c (Vw.d Vw.refl)))))))))
   refine zl (cs' := [iV x689.1, v715, v717]) H722 q il89 q (T q (T (V726.sliceOne hR1) (T (V726.sliceOne hR2) q))) q q q (fun w724 H725 => ?_)
   refine B ?_
   obtain ⟨x731, hx732, hs684⟩ := D hs684
   obtain ⟨x739, hx740, hs684⟩ := D hs684
   obtain ⟨x755, hx756, hs684⟩ := D hs684
   refine WP_mid (Mid := fun a w2 => ∃ vz727_0 csz727_0 Fz727_0, Fr a 55 [(2, pB b5), (3, pB bz8_0), (33, A4), (34, iV (List.length B4 : Int)), (35, iV s676)] ∧ Holds M0 w w2 [.bx b5 31 [nS, nS, nS, iV 0, nS], .bx bz8_0 31 [vp671, vz8_2, vz8_3, iV B3, vz727_0], dpR 115 dt13 vp671 csp671 p671 Fp671, .sl 3 tI vz8_2 x10, .sl 3 tI vz8_3 x17, dpR 89 dt14 vz727_0 csz727_0 x755 Fz727_0] G) ?_ ?_
   ·refine WP_ordersT (fun w1 w2 => Chg (([dpR 89 dt14 vs677 css677 s677 Fs677] : List Res).flatMap Res.own) w1 w2) 13 (by kernel_rfl) (fun w928 hb929 => ?_)
    have H930 := H725.grow hb929
    have H931 := H930.p8
    have C932 : Ctx w928 ([dpR 89 dt14 vs677 css677 s677 Fs677] ++ ([.bx b720 89 [iV x689.1, v715, v717], .ro ty2 v715 x689.2.1, .ro tI v717 x689.2.2, .bx b5 31 [nS, nS, nS, iV 0, nS], .bx bz8_0 31 [vp671, vz8_2, vz8_3, iV B3, vs677], .ro ty10 vp671 p671, .sl 3 tI vz8_2 x10, .sl 3 tI vz8_3 x17] ++ G)) := H931.viewG (Vw.c (Vw.c (Vw.c (Vw.c (Vw.c (Vw.c (Vw.d (Vw.c (Vw.c Vw.refl)))))))))
    have H933 : Holds _ w928 w928 [dpR 89 dt14 vs677 css677 s677 Fs677] ([.bx b720 89 [iV x689.1, v715, v717], .ro ty2 v715 x689.2.1, .ro tI v717 x689.2.2, .bx b5 31 [nS, nS, nS, iV 0, nS], .bx bz8_0 31 [vp671, vz8_2, vz8_3, iV B3, vs677], .ro ty10 vp671 p671, .sl 3 tI vz8_2 x10, .sl 3 tI vz8_3 x17] ++ G) := zb (Rs := [dpR 89 dt14 vs677 css677 s677 Fs677]) C932
    refine XQ (i := 0) q (by kernel_rfl) q H933.chg q (fun _ => qt_fieldAddr uf31 fi31_4 nz29 q) q q ?_
    have hB1003 := HasB.bx (HasB.c (HasB.c (HasB.c (HasB.c (HasB.c (HasB.hd)))))) H933.ctx
    refine XT (i := 1) q (by kernel_rfl) q H933.chg q (qs_cell u29 q q (hB1003.cell (i := 4) q) H933.chg (Ctx.outB C932 (HasB.c (HasB.c (HasB.c (HasB.c (HasB.hd))))))) q q <| XQ (i := 2) q (by kernel_rfl) q H933.chg q (fun _ => qt_fieldAddr uf89 fi89_0 nz3 q) q q ?_
    have hB1004 := HasB.bx (HasB.c (HasB.hd)) H933.ctx
    refine XT (i := 3) q (by kernel_rfl) q H933.chg q (qs_cell u3 q q (hB1004.cell (i := 0) q) H933.chg (Ctx.outB C932 (HasB.hd))) q q <| XQ (i := 4) q (by kernel_rfl) q H933.chg q (fun _ => qt_fieldAddr uf89 fi89_1 nz87 q) q q ?_
    have hB1005 := HasB.bx (HasB.c (HasB.hd)) H933.ctx
    refine XT (i := 5) q (by kernel_rfl) q H933.chg q (qs_cell u87 q q (hB1005.cell (i := 1) q) H933.chg (Ctx.outB C932 (HasB.hd))) q q <| XQ (i := 7) q (by kernel_rfl) q H933.chg q (fun _ => qt_fieldAddr uf89 fi89_2 nz23 q) q q ?_
    have hB1006 := HasB.bx (HasB.c (HasB.hd)) H933.ctx
    refine XT (i := 8) q (by kernel_rfl) q H933.chg q (qs_cell u23 q q (hB1006.cell (i := 2) q) H933.chg (Ctx.outB C932 (HasB.hd))) q q <| X1 6 (by kernel_rfl) q ?_
    have V1007 := H933.viewG (Vw.d Vw.refl)
    refine zd q q c99 (w_impl_copyTicket w928 _ v715 x689.2.1 hR2 x731 hx732 V1007) (by rfl) ?_
    rintro _ w1008 ⟨v1010, rfl, H1009⟩; refine ⟨_, q, ?_⟩
    have H1011 := H933.cV1 [] H1009 (zc (Pure.sl q) all_nil)
    refine XN H1011.chg <| X1 9 (by kernel_rfl) q ?_
    have V1012 := H1011.viewG (Vw.c (Vw.d Vw.refl))
    refine zd q q c97 (w_impl_copyInts w1008 _ v717 x689.2.2 hR4 x739 hx740 V1012) (by rfl) ?_
    rintro _ w1013 ⟨v1015, rfl, H1014⟩; refine ⟨_, q, ?_⟩
    have H1016 := H1011.cV1 [] H1014 (zc (Pure.sl q) all_nil)
    refine XN H1016.chg ?_
    have V1017 := H1016.viewG (Vw.c (Vw.c (Vw.d Vw.refl)))
    refine XQ (i := 10) q (by kernel_rfl) q H1016.chg q (fun _ => qt_build (args := [(0, .tmp 42), (1, .tmp 45), (2, .tmp 48)]) (css := [#[iV x689.1], #[v1010], #[v1015]]) (cells := #[iV x689.1, v1010, v1015]) q ⟨q, (V1017.sliceCells hS1), (V1017.sliceCells hS0), trivial⟩ (by kernel_rfl)) q q <| X1 11 (by kernel_rfl) q ?_
    have H1023 := H1016.p1
    refine WL_buildD (Rs := [.sl 119 ty2 v1010 x731, .sl 3 tI v1015 x739]) (d := dt14) (args := [.tmp 49]) (xs := ([(x689.1, x731, x739)] : LT)) H1023 (DBltL.one (cs' := [iV x689.1, v1010, v1015]) (DBlt.cast (DBlt.pair (DBlt.int (k := .i64) (n := x689.1)) (DBlt.pair (DBlt.sl (e := 119) (t := ty2) (v := v1010) (x := x731) q) (DBlt.sl (e := 3) (t := tI) (v := v1015) (x := x739) q))) q q) q) u29 j89 q q q q q q (fun v1018 cs1019 F1020 w1021 H1022 => ?_)
    refine XN H1022.chg <| X1 12 (by kernel_rfl) q ?_
    have H1025 := H1022.p1
    refine WL_appendD H1025 hx756 u29 j89 q q q q q q (fun v1026 cs1027 F1028 w1029 H1030 => ?_)
    refine XN H1030.chg ?_
    have H1032 := H931.cV1 [_] H1030 (zc Pure.dp all_nil)
    refine X1 13 (by kernel_rfl) q <| qF uf31 fi31_4 nz29 q q q <| XE q <| X1 14 (by kernel_rfl) q ?_
    have H1033 := H1032.p5
    have V1036 := H1033.viewG (Vw.c (Vw.d (Vw.c (Vw.c (Vw.c (Vw.c (Vw.d (Vw.c (Vw.c Vw.refl)))))))))
    refine WL_store_bx H1033 q il29 (V1036.sliceCells hR1) (V1036.sliceOne hR1) q q q (fun w1034 H1035 => ?_)
    refine XE q ?_
    refine XC_done (by kernel_rfl) (fun a ha => ?_)
    have H1038 := H1035.q2.q2.q2.p1.p5.p5.p5.p4.p5
    exact ⟨v1026, cs1027, F1028, ha.sub ⟨q, q, q, q, q, trivial⟩, H1038⟩
   intro a w1039 hI1040
   obtain ⟨vz727_0, csz727_0, Fz727_0, ha, H1041⟩ := hI1040
   refine zi (X (S ?_ ha))
   refine Z <| A q (qt_add q q) q q <| qM q q q <| WL_nil fun a ha => ?_
   obtain rfl := L hs684
   have H1042 := H1041.p5.p5.p5.p5.p5.p5
   exact ⟨q, vz727_0, csz727_0, Fz727_0, ha.sub ⟨q, q, q, q, q, trivial⟩, H1042⟩
  have hs684 := if_f hc688 hs684
  refine WP_exit fun a ha => ?_
  obtain rfl := L hs684
  have H1043 := H687.p5.p5.p5.p5.p5.p5
  exact zo (⟨exit_ne, q, vs677, css677, Fs677, ha.sub ⟨q, q, trivial⟩, H1043⟩)
 intro e a680 w1044 hO1045
 obtain ⟨p1046, rfl⟩ : ∃ z, z = o678 := ⟨o678, q⟩
 obtain ⟨rfl, hO1048⟩ := hO1045
 obtain ⟨vp1046, csp1046, Fp1046, ha, H1047⟩ := hO1048
 refine zn (X (S ?_ ha))
 refine C <| Z ?_
 have hB1049 := R H1047.p1
 refine zm (cs := [vp671, vz8_2, vz8_3, iV B3, vp1046]) us31 uo31 il31 hB1049 q q q ?_
 change XL _ _ _ _ _ ((54, .agg #[vp671, vz8_2, vz8_3, iV B3, vp1046]) :: _) _
 have V1052 := H1047.viewG (Vw.c (Vw.c (Vw.d (Vw.c (Vw.c (Vw.d Vw.refl))))))
 refine zl (cs' := [vp671, vz8_2, vz8_3, iV B3, vp1046]) H1047 q il31 q (T (V1052.sliceOne hR2) (T (V1052.sliceOne hS3) (T (V1052.sliceOne hS4) (T q (T (V1052.sliceOne hR5) q))))) q q q (fun w1050 H1051 => ?_)
 refine B <| W fun a ha => ?_
 obtain rfl := L h
 have hB1054 := R H1051.p0
 have H1055 := H1051.q0.q0.p3.p3.p3.p3
 exact retc q ha q (run_loadVar_bx (cs := [vp671, vz8_2, vz8_3, iV B3, vp1046]) us31 uo31 il31 hB1054) ⟨vp671, csp671, Fp671, vz8_2, vz8_3, vp1046, csp1046, Fp1046, q, H1055⟩
theorem w_impl_isItem (w : World) (G : List Res) (bp0 : Nat) (A0 : Value) (B0 : LI) (C0 : Has G ty10 A0 B0) (A1 : Value) (B1 : List Int) (C1 : Has G tI A1 B1) (A2 : Value) (B2 : List Int) (C2 : Has G tI A2 B2) (B3 : Int) (A4 : Value) (B4 : LT) (C4 : Has G ty12 A4 B4) (p1 : Int) (p2 : Bool) (r : Bool) (h : impl_isItemS B0 B1 B2 B3 B4 p1 p2 = some r) (H : Ctx w ([.bx bp0 31 [A0, A1, A2, iV B3, A4]] ++ G)) : Calls Tryz.prog 114 #[pB bp0, iV p1, .bool p2] w fun e w' => e = .returned (.bool r) ∧ Holds (([.bx bp0 31 [A0, A1, A2, iV B3, A4]] : List Res).flatMap Res.own) w w' [.bx bp0 31 [A0, A1, A2, iV B3, A4]] G := by
 have H : Holds (([.bx bp0 31 [A0, A1, A2, iV B3, A4]] : List Res).flatMap Res.own) w w [.bx bp0 31 [A0, A1, A2, iV B3, A4]] G := zb H
 refine zg (args := [pB bp0, iV p1, .bool p2]) (n := 31) Tryz.func114 q q q ?_
 unfold impl_isItemS at h
 refine rR <| qA q q q <| rN <| qM q q q <| A q (qt_geq q q) q q <| qM q q q ?_
 refine zh 8 17 (.bool ((decide (p1 ≥ 0)) && (decide (p1 < (List.length B0 : Int))))) ?_ (fun md hmd hk => ?_)
 rotate_left
 ·obtain ⟨Q, rfl⟩ := Md.seq_of hmd
  rcases btf (decide (p1 ≥ 0)) with hc1 | hc1
  ·skip
   refine qM (J q hc1) q q <| qM (J q hc1) q q <| qN (J q hc1) q q <| qF uf31 fi31_0 nz28 (J q hc1) q q ?_
   have hB2 := R H.p0
   refine l u28 q hB2 q (J q hc1) q q <| za H.ctx (t := ty10) (C0.c) u28 (J q hc1) q q <| A (J q hc1) (qt_lss q q) q q <| A q (ze q hc1 q) q q ?_
   exact hk _ (p (by rw [hc1]; rfl) (cfn 7 q (u)))
  skip
  refine qS q hc1 q q <| qS q hc1 q q <| qS q hc1 q q <| qS q hc1 q q <| qS q hc1 q q <| qS q hc1 q q <| qS q hc1 q q <| A q (zf q hc1 q) q q ?_
  exact hk _ (p (by rw [hc1]; rfl) (cfn 7 q (u)))
 refine qM q q q ?_
 obtain ⟨b3, hg4, h⟩ := D h
 refine zh 12 30 (.bool b3) ?_ (fun md hmd hk => ?_)
 rotate_left
 ·obtain ⟨Q, rfl⟩ := Md.seq_of hmd
  rcases btf ((decide (p1 ≥ 0)) && (decide (p1 < (List.length B0 : Int)))) with hc5 | hc5
  ·skip
   have hg4 := if_t hc5 hg4
   refine qM (J q hc5) q q <| qN (J q hc5) q q <| qF uf31 fi31_0 nz28 (J q hc5) q q ?_
   have hB6 := R H.p0
   refine l u28 q hB6 q (J q hc5) q q <| qM (J q hc5) q q ?_
   obtain ⟨x7, hx8, hg4⟩ := D hg4
   refine b H.ctx (C0.c) hx8 u28 i115 (J q hc5) q q q (fun b9 off10 cap11 hv12 => ?_)
   refine qF uf115 fi115_0 nz3 (J q hc5) q q ?_
   obtain ⟨F13, hat14, hdup15⟩ := H.at (C0.c) hx8 hv12
   obtain ⟨F16, hat17, hin18⟩ := AtP.fst hat14
   refine zt (k := .i64) u3 q hat17 (J q hc5) q q <| A (J q hc5) (qt_gtr q q) q q <| qM (J q hc5) q q <| A (J q hc5) (qt_beql u4 q q) q q <| A q (ze q hc5 q) q q ?_
   exact hk _ (p (vb hg4) (cfn 11 q (u)))
  skip
  refine qS q hc5 q q <| qS q hc5 q q <| qS q hc5 q q <| qS q hc5 q q <| qS q hc5 q q <| qS q hc5 q q <| qS q hc5 q q <| qS q hc5 q q <| qS q hc5 q q <| qS q hc5 q q ?_
  refine qS q hc5 q q <| A q (zf q hc5 q) q q ?_
  exact hk _ (p (vb (if_f hc5 hg4)) (cfn 11 q (u)))
 refine qA q q q <| B <| W fun a ha => ?_
 obtain rfl := L h
 exact ret1 q ha q ⟨q, H⟩
theorem w_impl_doBuy (w : World) (G : List Res) (bp0 : Nat) (A0 : Value) (B0 : LI) (csp0_0 : List Value) (Fp0_0 : List Nat) (A1 : Value) (B1 : List Int) (A2 : Value) (B2 : List Int) (B3 : Int) (A4 : Value) (B4 : LT) (csp0_4 : List Value) (Fp0_4 : List Nat) (p1 : Int) (p2 : Int) (r : (List Int) × Int × Bool) (h : impl_doBuyS B0 B1 B2 B3 B4 p1 p2 = some r) (H : Ctx w ([.bx bp0 31 [A0, A1, A2, iV B3, A4], dpR 115 dt13 A0 csp0_0 B0 Fp0_0, .sl 3 tI A1 B1, .sl 3 tI A2 B2, dpR 89 dt14 A4 csp0_4 B4 Fp0_4] ++ G)) : Calls Tryz.prog 69 #[pB bp0, iV p1, iV p2] w fun e w' => e = .returned (.bool r.2.2) ∧ Holds (([.bx bp0 31 [A0, A1, A2, iV B3, A4], dpR 115 dt13 A0 csp0_0 B0 Fp0_0, .sl 3 tI A1 B1, .sl 3 tI A2 B2, dpR 89 dt14 A4 csp0_4 B4 Fp0_4] : List Res).flatMap Res.own) w w' [.bx bp0 31 [A0, A1, A2, iV r.2.1, A4], dpR 115 dt13 A0 csp0_0 B0 Fp0_0, .sl 3 tI A1 B1, .sl 3 tI A2 r.1, dpR 89 dt14 A4 csp0_4 B4 Fp0_4] G := by
 have H : Holds (([.bx bp0 31 [A0, A1, A2, iV B3, A4], dpR 115 dt13 A0 csp0_0 B0 Fp0_0, .sl 3 tI A1 B1, .sl 3 tI A2 B2, dpR 89 dt14 A4 csp0_4 B4 Fp0_4] : List Res).flatMap Res.own) w w [.bx bp0 31 [A0, A1, A2, iV B3, A4], dpR 115 dt13 A0 csp0_0 B0 Fp0_0, .sl 3 tI A1 B1, .sl 3 tI A2 B2, dpR 89 dt14 A4 csp0_4 B4 Fp0_4] G := zb H
 refine zg (args := [pB bp0, iV p1, iV p2]) (n := 45) Tryz.func69 q q q ?_
 unfold impl_doBuyS at h
 refine rR <| qA q q q <| B <| C <| rR <| qM q q q <| qM q q q ?_
 obtain ⟨x1, hx2, h⟩ := D h
 have V3 := H.viewG (Vw.c (Vw.d (Vw.c (Vw.c (Vw.d Vw.refl)))))
 refine zd q q c114 (w_impl_isItem w _ bp0 A0 B0 hR0 A1 B1 hS1 A2 B2 hS2 B3 A4 B4 hR3 p1 false x1 hx2 V3) (by rfl) ?_
 rintro _ w4 ⟨rfl, H5⟩; refine ⟨_, q, ?_⟩
 have H6 := H.cV1 [_] H5 (zc Pure.bx all_nil)
 refine A q (qt_not q) q q <| qM q q q ?_
 refine zh 3 14 (.bool ((!x1) || (decide (p2 < 1)))) ?_ (fun md hmd hk => ?_)
 rotate_left
 ·obtain ⟨Q, rfl⟩ := Md.seq_of hmd
  rcases btf (!x1) with hc7 | hc7
  ·skip
   refine qS q hc7 q q <| qS q hc7 q q <| A q (ze q hc7 q) q q ?_
   exact hk _ (p (by rw [hc7]; rfl) (cfn 2 q (u)))
  skip
  refine qM (J q hc7) q q <| A (J q hc7) (qt_lss q q) q q <| A q (zf q hc7 q) q q ?_
  exact hk _ (p (by rw [hc7]; rfl) (cfn 2 q (u)))
 refine qM q q q ?_
 refine zh 3 18 (.bool (((!x1) || (decide (p2 < 1))) || (decide (p2 > 50)))) ?_ (fun md hmd hk => ?_)
 rotate_left
 ·obtain ⟨Q, rfl⟩ := Md.seq_of hmd
  rcases btf ((!x1) || (decide (p2 < 1))) with hc8 | hc8
  ·skip
   refine qS q hc8 q q <| qS q hc8 q q <| A q (ze q hc8 q) q q ?_
   exact hk _ (p (by rw [hc8]; rfl) (cfn 2 q (u)))
  skip
  refine qM (J q hc8) q q <| A (J q hc8) (qt_gtr q q) q q <| A q (zf q hc8 q) q q ?_
  exact hk _ (p (by rw [hc8]; rfl) (cfn 2 q (u)))
 refine B ?_
 refine Y q (fun hc9 => ?_) (fun hc9 => ?_)
 ·have h := if_t hc9 h
  refine rR <| qA q q q <| B <| W fun a ha => ?_
  obtain rfl := L h
  have H10 := H6.p4.p4.p4.p4.p4
  exact m (ret1 q ha q ⟨q, H10⟩)
 have h := if_f hc9 h
 refine y <| C ?_
 refine WP_tail 13 (by kernel_rfl) (by kernel_rfl) (fun w11 hb12 => ?_)
 have H13 := H6.grow hb12
 refine qM q q q <| qN q q q <| qF uf31 fi31_3 nz3 q q q ?_
 have hB14 := R H13.p0
 refine l u3 q hB14 q q q q <| qM q q q <| qM q q q <| qN q q q <| qF uf31 fi31_1 nz23 q q q ?_
 have hB15 := R H13.p0
 refine l u23 q hB15 q q q q <| qM q q q ?_
 obtain ⟨x16, hx17, h⟩ := D h
 have V22 := H13.viewG (Vw.c (Vw.d (Vw.c (Vw.c (Vw.d Vw.refl)))))
 refine b V22 hS2 hx17 u23 i3 q q q q (fun b18 off19 cap20 hv21 => ?_)
 obtain ⟨F23, hat24, hdup25⟩ := H13.at hS2 hx17 hv21
 refine zt (k := .i64) u3 q hat24 q q q <| A q (qt_mul q q) q q <| SL_nil <| A q (qt_sub q q) q q <| qN q q q <| qF uf31 fi31_3 nz3 q q q ?_
 refine WL_store_bx H13 q il3 q q q q q (fun w26 H27 => ?_)
 refine rN <| qM q q q <| qN q q q <| qF uf31 fi31_2 nz23 q q q ?_
 have hB29 := R H27.p0
 refine l u23 q hB29 q q q q <| qM q q q ?_
 obtain ⟨x30, hx31, h⟩ := D h
 have V36 := H27.viewG (Vw.c (Vw.d (Vw.c (Vw.c (Vw.d Vw.refl)))))
 refine b V36 hS3 hx31 u23 i3 q q q q (fun b32 off33 cap34 hv35 => ?_)
 obtain ⟨F37, hat38, hdup39⟩ := H27.at hS3 hx31 hv35
 refine zt (k := .i64) u3 q hat38 q q q <| qM q q q <| A q (qt_add q q) q q ?_
 obtain ⟨x40, hx41, h⟩ := D h
 refine b V36 hS3 hx41 u23 i3 q q q q (fun b42 off43 cap44 hv45 => ?_)
 have H46 := H27.p3
 refine WL_storeH (fo := 0) (cs' := [iV (IntKind.wrap .i64 (x30 + p2))]) H46 hx41 hv45 (Upd.whole (Blt.int)) q il3 q q q q (fun w47 H48 => ?_)
 refine rN <| qA q q q <| B <| W fun a ha => ?_
 obtain rfl := L h
 have H50 := H48.p4.p1.p4.p4.p4
 exact ret1 q ha q ⟨q, H50⟩
theorem w_impl_runMakes (w : World) (G : List Res) (B0 : Int) (A1 : Value) (B1 : LP) (C1 : Has G ty2 A1 B1) (B2 : Int) (r : Int) (h : impl_runMakesS B0 B1 B2 = some r) (H : Ctx w G) : Calls Tryz.prog 144 #[.agg #[iV B0, A1, iV B2]] w fun e w' => e = .returned (iV r) ∧ Holds M0 w w' [] G := by
 have H : Holds M0 w w [] G := zb H
 refine zg (args := [.agg #[iV B0, A1, iV B2]]) (n := 8) Tryz.func144 q q q ?_
 unfold impl_runMakesS at h
 refine C <| Z ?_
 refine WL_box (cs := [iV B0, A1, iV B2]) H q q q q (fun b1 w2 H3 => ?_)
 refine qA q q q <| B <| C <| rR <| qF uf115 fi115_0 nz3 q q q ?_
 have hB5 := R H3.p0
 refine l u3 q hB5 q q q q <| A q (qt_eql q q) q q <| B ?_
 refine Y q (fun hc6 => ?_) (fun hc6 => ?_)
 ·have h := if_t hc6 h
  refine rR <| qA q q q <| B <| W fun a ha => ?_
  obtain rfl := L h
  have H7 := H3.q0
  exact m (ret1 q ha q ⟨q, H7⟩)
 have h := if_f hc6 h
 refine y <| rR <| qF uf115 fi115_0 nz3 q q q ?_
 have hB8 := R H3.p0
 refine l u3 q hB8 q q q q <| qA q q q <| B <| W fun a ha => ?_
 obtain rfl := L h
 have H9 := H3.q0
 exact ret1 q ha q ⟨q, H9⟩
theorem w_impl_MakeRun (w : World) (G : List Res) (vp0 : Value) (p0 : LI) (hp0 : Has G ty10 vp0 p0) (vp1 : Value) (p1 : List Int) (hp1 : Has G tI vp1 p1) (A2_0 : Value) (p2_0 : List Int) (hp2_0 : Has G tI A2_0 p2_0) (A2_1 : Value) (p2_1 : List Int) (hp2_1 : Has G tI A2_1 p2_1) (r : (List Int) × Bool) (h : impl_MakeRunS p0 p1 p2_0 p2_1 = some r) (H : Ctx w G) : Calls Tryz.prog 115 #[vp0, vp1, .agg #[A2_0, A2_1]] w fun e w' => ∃ (v1 : Value), e = .returned (.tuple #[v1, .bool r.2]) ∧ Holds M0 w w' [.sl 3 tI v1 r.1] G := by
 have H : Holds M0 w w [] G := zb H
 refine zg (args := [vp0, vp1, .agg #[A2_0, A2_1]]) (n := 85) Tryz.func115 q q q ?_
 unfold impl_MakeRunS at h
 refine C <| Z ?_
 refine WL_box (cs := [A2_0, A2_1]) H q q q q (fun b1 w2 H3 => ?_)
 refine qA q q q <| qA q q q <| B <| C <| C <| zk <| qM q q q ?_
 obtain ⟨x5, hx6, h⟩ := D h
 refine QC q q c129 (fun w' hb => w_impl_ItemsValid w' _ vp0 p0 (hp0.c) x5 hx6 (H3.grow hb).ctx) (by rfl) <| A q (qt_not q) q q <| qM q q q ?_
 obtain ⟨b7, hg8, h⟩ := D h
 refine zh 6 22 (.bool b7) ?_ (fun md hmd hk => ?_)
 rotate_left
 ·obtain ⟨K, rfl⟩ := zr hmd
  rcases btf (!x5) with hc9 | hc9
  ·skip
   refine qS q hc9 q q <| qS q hc9 q q <| qS q hc9 q q <| qS q hc9 q q <| qS q hc9 q q <| A q (ze q hc9 q) q q ?_
   exact hk _ (p (vb (if_t hc9 hg8)) (cfn 5 q (u)))
  skip
  have hg8 := if_f hc9 hg8
  refine qM (J q hc9) q q <| qM (J q hc9) q q <| za H3.ctx (t := ty10) (hp0.c) u28 (J q hc9) q q ?_
  obtain ⟨x10, hx11, hg8⟩ := D hg8
  refine QC (J q hc9) q c91 (fun w' hb => w_impl_amountsOk w' _ vp1 p1 (hp1.c) (List.length p0 : Int) 50 x10 hx11 (H3.grow hb).ctx) (by rfl) <| A (J q hc9) (qt_not q) q q <| A q (zf q hc9 q) q q ?_
  exact hk _ (p (vb hg8) (cfn 5 q (u)))
 refine qM q q q ?_
 obtain ⟨b12, hg13, h⟩ := D h
 refine zh 7 30 (.bool b12) ?_ (fun md hmd hk => ?_)
 rotate_left
 ·obtain ⟨K, rfl⟩ := zr hmd
  rcases btf b7 with hc14 | hc14
  ·skip
   refine qS q hc14 q q <| qS q hc14 q q <| qS q hc14 q q <| qS q hc14 q q <| qS q hc14 q q <| qS q hc14 q q <| A q (ze q hc14 q) q q ?_
   exact hk _ (p (vb (if_t hc14 hg13)) (cfn 6 q (u)))
  skip
  have hg13 := if_f hc14 hg13
  refine qF uf143 fi143_0 nz23 (J q hc14) q q ?_
  have hB15 := R H3.p0
  refine l u23 q hB15 q (J q hc14) q q <| qM (J q hc14) q q <| za H3.ctx (t := ty10) (hp0.c) u28 (J q hc14) q q ?_
  obtain ⟨x16, hx17, hg13⟩ := D hg13
  refine QC (J q hc14) q c91 (fun w' hb => w_impl_amountsOk w' _ A2_0 p2_0 (hp2_0.c) (List.length p0 : Int) 9999999 x16 hx17 (H3.grow hb).ctx) (by rfl) <| A (J q hc14) (qt_not q) q q <| A q (zf q hc14 q) q q ?_
  exact hk _ (p (vb hg13) (cfn 6 q (u)))
 refine QL_nil fun a ha w18 hb19 => ?_
 have H20 := H3.grow hb19
 refine X (S ?_ ha)
 refine Y q (fun hc21 => ?_) (fun hc21 => ?_)
 ·have h := if_t hc21 h
  refine rR <| qA q q q <| qA q q q <| B <| W fun a ha => ?_
  obtain rfl := L h
  have H22 := H20.nS 3 tI
  have H23 := H22.q1
  exact m (ret2 q ha q q ⟨(nS), q, H23⟩)
 have h := if_f hc21 h
 refine y <| rR <| qM q q q ?_
 obtain ⟨x24, hx25, h⟩ := D h
 refine zd q q c97 (w_impl_copyInts w18 _ vp1 p1 (hp1.c) x24 hx25 H20.ctx) (by rfl) ?_
 rintro _ w26 ⟨v28, rfl, H27⟩; refine ⟨_, q, ?_⟩
 have H29 := H20.cN1 [] H27
 refine qA q q q <| B <| C <| rR <| qM q q q <| za H29.ctx (t := ty10) (hp0.c.c) u28 q q q <| qM q q q <| B <| g ?_
 obtain ⟨o32, ho33, h⟩ := D h
 have H36 := H29.p1
 refine fun a34 ha35 => zp (I := fun s a w2 => match s with | (s30, s31) => (Fr a 85 [(5, pB b1), (8, v28), (33, vp0), (34, iV (List.length p0 : Int)), (35, iV s30)] ∧ Holds M0 w w2 [.bx b1 143 [A2_0, A2_1], .sl 3 tI v28 s31] G)) (O := fun o e a w2 => match o with | .inl q0 => e = .exit 0 ∧ (Fr a 85 [(8, v28)] ∧ Holds M0 w w2 [.sl 3 tI v28 q0] G) | .inr (q0, q1, q2) => e = .ret ∧ ∃ vq0, Fr a 85 [(6, vq0), (7, .bool q1)] ∧ Holds M0 w w2 [.sl 3 tI vq0 q0] G) ho33 ?_ ?_ ?_
 ·exact ⟨ha35.sub ⟨q, q, q, q, q, trivial⟩, H36⟩
 ·clear ha35
  intro s o39 a w37 hs38 hI40
  obtain ⟨s30, s31⟩ := s
  obtain ⟨ha, H41⟩ := hI40
  refine S ?_ ha
  clear ha
  refine rR <| A q (qt_lss q q) q q <| B <| C ?_
  refine Y q (fun hc42 => ?_) (fun hc42 => ?_)
  ·have hs38 := if_t hc42 hs38
   refine y <| C <| g <| rR <| qM q q q ?_
   obtain ⟨x43, hx44, hs38⟩ := D hs38
   refine b H41.ctx (hp0.c.c) hx44 u28 i115 q q q q (fun b45 off46 cap47 hv48 => ?_)
   obtain ⟨F49, hat50, hdup51⟩ := H41.atN (hp0.c.c) hx44 hv48
   refine XL_load_agg (t := ty10) us115 uo115 i115 hat50 q q q (fun cs52 hr53 => ?_)
   obtain ⟨c54, c55, F56, F57, rfl, eF60, hr58, hr59⟩ := hr53
   obtain ⟨rfl, _⟩ := hr58
   obtain ⟨c61, c62, F63, F64, rfl, eF67, hr65, hr66⟩ := hr59
   obtain ⟨v68, rfl, hr69⟩ := Rep.sl_inv hr65
   obtain ⟨rfl, _⟩ := hr66
   have H70 : Holds _ w w37 [.ro ty2 v68 x43.2.1, .bx b1 143 [A2_0, A2_1], .sl 3 tI v28 s31] G := hdup51 [.ro ty2 v68 x43.2.1] ⟨⟨_, _, _, _, q, hr69, (fun k h => (fun k h => (fun _ h => h) k (by rw [eF60]; exact zx _ h)) k (by rw [eF67]; exact List.mem_append_left _ h))⟩, trivial⟩
   change XL _ _ _ _ _ ((39, .agg #[iV x43.1, v68, iV x43.2.2]) :: _) _
   refine zq (cs := [iV 0, nS, iV 0]) H70 z115 q q q (fun b71 w72 H73 => ?_)
   refine qA q q q ?_
   refine zl (cs' := [iV x43.1, v68, iV x43.2.2]) H73 q il115 q (T q (T (H73.ctx.sliceOne hR1) (T q q))) q q q (fun w75 H76 => ?_)
   refine B <| C <| rR <| qF uf115 fi115_1 nz113 q q q ?_
   have hB78 := R H76.p0
   refine l u113 q hB78 q q q q <| za H76.ctx (t := ty2) hR1 u113 q q q <| qM q q q <| B <| g ?_
   obtain ⟨o81, ho82, hs38⟩ := D hs38
   have H85 := H76.p1.p1.p3.p3
   refine fun a83 ha84 => zp (I := fun s a w2 => match s with | (s79, s80) => (Fr a 85 [(5, pB b1), (8, v28), (9, iV s30), (10, pB b71), (33, vp0), (34, iV (List.length p0 : Int)), (35, iV s30), (41, v68), (42, iV (List.length x43.2.1 : Int)), (43, iV s79)] ∧ Holds M0 w w2 [.bx b1 143 [A2_0, A2_1], .sl 3 tI v28 s80, .bx b71 115 [iV x43.1, v68, iV x43.2.2], .ro ty2 v68 x43.2.1] G)) (O := fun o e a w2 => match o with | .inl q0 => e = .exit 2 ∧ (Fr a 85 [(5, pB b1), (8, v28), (9, iV s30), (10, pB b71), (33, vp0), (34, iV (List.length p0 : Int)), (35, iV s30)] ∧ Holds M0 w w2 [.bx b1 143 [A2_0, A2_1], .sl 3 tI v28 q0, .bx b71 115 [iV x43.1, v68, iV x43.2.2], .ro ty2 v68 x43.2.1] G) | .inr (q0, q1, q2) => e = .ret ∧ ∃ vq0, Fr a 85 [(6, vq0), (7, .bool q1)] ∧ Holds M0 w w2 [.sl 3 tI vq0 q0] G) ho82 ?_ ?_ ?_
   ·exact ⟨ha84.sub ⟨q, q, q, q, q, q, q, q, q, q, trivial⟩, H85⟩
   ·clear ha84
    intro s o88 a w86 hs87 hI89
    obtain ⟨s79, s80⟩ := s
    obtain ⟨ha, H90⟩ := hI89
    refine S ?_ ha
    clear ha
    refine rR <| A q (qt_lss q q) q q <| B <| C ?_
    refine Y q (fun hc91 => ?_) (fun hc91 => ?_)
    ·have hs87 := if_t hc91 hs87
     refine y <| C <| g <| C <| Z ?_
     obtain ⟨x92, hx93, hs87⟩ := D hs87
     refine b H90.ctx hR3 hx93 u113 i162 q q q q (fun b94 off95 cap96 hv97 => ?_)
     obtain ⟨F98, hat99, hdup100⟩ := H90.atN hR3 hx93 hv97
     refine XL_load_agg (t := ty2) us162 uo162 i162 hat99 q q q (fun cs101 hr102 => ?_)
     obtain ⟨c103, c104, F105, F106, rfl, eF109, hr107, hr108⟩ := hr102
     obtain ⟨rfl, _⟩ := hr107
     obtain ⟨rfl, _⟩ := hr108
     change XL _ _ _ _ _ ((46, .agg #[iV x92.1, iV x92.2]) :: _) _
     refine zq (cs := [iV 0, iV 0]) H90 z162 q q q (fun b110 w111 H112 => ?_)
     refine zl (cs' := [iV x92.1, iV x92.2]) H112 q il162 q q q q q (fun w114 H115 => ?_)
     refine B <| C ?_
     refine WP_tail 13 (by kernel_rfl) (by kernel_rfl) (fun w117 hb118 => ?_)
     have H119 := H115.grow hb118
     refine qM q q q <| qF uf162 fi162_0 nz3 q q q ?_
     have hB120 := R H119.p0
     refine l u3 q hB120 q q q q ?_
     obtain ⟨x121, hx122, hs87⟩ := D hs87
     refine b H119.ctx hS2 hx122 u23 i3 q q q q (fun b123 off124 cap125 hv126 => ?_)
     obtain ⟨F127, hat128, hdup129⟩ := H119.at hS2 hx122 hv126
     refine zt (k := .i64) u3 q hat128 q q q <| qF uf143 fi143_0 nz23 q q q ?_
     have hB130 := R H119.p1
     refine l u23 q hB130 q q q q <| qM q q q ?_
     obtain ⟨x131, hx132, hs87⟩ := D hs87
     refine b H119.ctx (hp2_0.c.c.c.c.c) hx132 u23 i3 q q q q (fun b133 off134 cap135 hv136 => ?_)
     obtain ⟨F137, hat138, hdup139⟩ := H119.at (hp2_0.c.c.c.c.c) hx132 hv136
     refine zt (k := .i64) u3 q hat138 q q q <| qF uf162 fi162_1 nz3 q q q ?_
     have hB140 := R H119.p0
     refine l u3 q hB140 q q q q <| A q (qt_mul q q) q q <| SL_nil <| A q (qt_sub q q) q q ?_
     obtain ⟨x141, hx142, hs87⟩ := D hs87
     refine b H119.ctx hS2 hx142 u23 i3 q q q q (fun b143 off144 cap145 hv146 => ?_)
     have H147 := H119.p2
     refine WL_storeH (fo := 0) (cs' := [iV (IntKind.wrap .i64 (x121 - (IntKind.wrap .i64 (x131 * x92.2))))]) H147 hx142 hv146 (Upd.whole (Blt.int)) q il3 q q q q (fun w148 H149 => ?_)
     refine rN <| qM q q q <| qF uf162 fi162_0 nz3 q q q ?_
     have hB151 := R H149.p1
     refine l u3 q hB151 q q q q ?_
     obtain ⟨x152, hx153, hs87⟩ := D hs87
     refine b H149.ctx hS0 hx153 u23 i3 q q q q (fun b154 off155 cap156 hv157 => ?_)
     obtain ⟨F158, hat159, hdup160⟩ := H149.at hS0 hx153 hv157
     refine zt (k := .i64) u3 q hat159 q q q <| A q (qt_lss q q) q q <| B ?_
     refine Y q (fun hc161 => ?_) (fun hc161 => ?_)
     ·have hs87 := if_t hc161 hs87
      refine rR <| qA q q q <| qA q q q <| B <| W fun a ha => ?_
      obtain rfl := L hs87
      have H162 := H149.nS 3 tI
      have H163 := H162.q1.q1.q1.q1.q1
      exact zj (m (⟨ret_ne, q, (nS), ha.sub ⟨q, q, trivial⟩, H163⟩))
     have hs87 := if_f hc161 hs87
     refine WP_skip fun a ha => ?_
     refine zi (X (S ?_ ha))
     refine Z <| A q (qt_add q q) q q <| qM q q q <| WL_nil fun a ha => ?_
     obtain rfl := L hs87
     have H164 := H149.q1.p3.p3.p2.p3
     exact ⟨q, ha.sub ⟨q, q, q, q, q, q, q, q, q, q, trivial⟩, H164⟩
    have hs87 := if_f hc91 hs87
    refine WP_exit fun a ha => ?_
    obtain rfl := L hs87
    have H165 := H90.p3.p3.p3.p3
    exact zo (⟨exit_ne, q, ha.sub ⟨q, q, q, q, q, q, q, trivial⟩, H165⟩)
   intro e a83 w166 hO167
   rcases o81 with o81 | o81
   ·skip
    obtain ⟨p168, rfl⟩ : ∃ z, z = o81 := ⟨o81, q⟩
    obtain ⟨rfl, hO170⟩ := hO167
    obtain ⟨ha, H169⟩ := hO170
    refine zn (X (S ?_ ha))
    obtain ⟨x171, hx172, hs38⟩ := D hs38
    obtain ⟨x181, hx182, hs38⟩ := D hs38
    obtain ⟨x191, hx192, hs38⟩ := D hs38
    obtain ⟨x196, hx197, hs38⟩ := D hs38
    refine WP_mid (Mid := fun a w2 => (Fr a 85 [(5, pB b1), (8, v28), (33, vp0), (34, iV (List.length p0 : Int)), (35, iV s30)] ∧ Holds M0 w w2 [.bx b1 143 [A2_0, A2_1], .sl 3 tI v28 (List.set p168 (Int.toNat s30) (IntKind.wrap .i64 (x171 + (IntKind.wrap .i64 (x181 * x191)))))] G)) ?_ ?_
    ·refine WP_ordersT (fun w1 w2 => Chg M0 w1 w2) 13 (by kernel_rfl) (fun w371 hb372 => ?_)
     have H373 := H169.grow hb372
     have C374 : Ctx w371 ([] ++ ([.bx b1 143 [A2_0, A2_1], .sl 3 tI v28 p168, .bx b71 115 [iV x43.1, v68, iV x43.2.2], .ro ty2 v68 x43.2.1] ++ G)) := H373.ctx
     have H375 : Holds _ w371 w371 [] ([.bx b1 143 [A2_0, A2_1], .sl 3 tI v28 p168, .bx b71 115 [iV x43.1, v68, iV x43.2.2], .ro ty2 v68 x43.2.1] ++ G) := zb (Rs := []) C374
     refine XQ (i := 0) q (by kernel_rfl) q H375.chg q (fun _ => qt_move q) q q <| XQ (i := 1) q (by kernel_rfl) q H375.chg q (fun _ => qt_move q) q q ?_
     obtain ⟨b431, off432, cap433, hv434⟩ := Ctx.isAt H375.ctx hS1 hx172
     refine XT (i := 2) q (by kernel_rfl) q H375.chg q (qs_index hx172 hv434 u23 i3 q q) q q ?_
     obtain ⟨F435, hat436, hdup437⟩ := H375.at hS1 hx172 hv434
     refine XT (i := 3) q (by kernel_rfl) q H375.chg q (qs_cell u3 q q (AtP.cInt hat436) H375.chg (Ctx.outHas C374 hS1 hx172 hv434)) q q <| XQ (i := 4) q (by kernel_rfl) q H375.chg q (fun _ => qt_fieldAddr uf143 fi143_0 nz23 q) q q ?_
     have hB438 := HasB.bx (HasB.hd) H375.ctx
     refine XT (i := 5) q (by kernel_rfl) q H375.chg q (qs_cell u23 q q (hB438.cell (i := 0) q) H375.chg (Ctx.outB C374 (HasB.hd))) q q <| XQ (i := 6) q (by kernel_rfl) q H375.chg q (fun _ => qt_move q) q q ?_
     obtain ⟨b439, off440, cap441, hv442⟩ := Ctx.isAt H375.ctx (hp2_0.c.c.c.c) hx182
     refine XT (i := 7) q (by kernel_rfl) q H375.chg q (qs_index hx182 hv442 u23 i3 q q) q q ?_
     obtain ⟨F443, hat444, hdup445⟩ := H375.at (hp2_0.c.c.c.c) hx182 hv442
     refine XT (i := 8) q (by kernel_rfl) q H375.chg q (qs_cell u3 q q (AtP.cInt hat444) H375.chg (Ctx.outHas C374 (hp2_0.c.c.c.c) hx182 hv442)) q q ?_
     have hB446 := HasB.bx (HasB.c (HasB.c (HasB.hd))) H375.ctx
     refine XT (i := 9) q (by kernel_rfl) q H375.chg q (qs_agg (cs := [iV x43.1, v68, iV x43.2.2]) us115 uo115 il115 q (fun j z hj => by rw [Nat.zero_add]; exact hB446.cell hj) H375.chg (Ctx.outB C374 (HasB.c (HasB.c (HasB.hd))))) q q ?_
     change XC _ _ _ _ _ _ _ _ ((78, .agg #[iV x43.1, v68, iV x43.2.2]) :: _) _
     refine X1 10 (by kernel_rfl) q <| zd q q c144 (w_impl_runMakes w371 _ x43.1 v68 x43.2.1 hR3 x43.2.2 x191 hx192 H375.ctx) (by rfl) ?_
     rintro _ w447 ⟨rfl, H448⟩; refine ⟨_, q, ?_⟩
     have H449 := H375.cN0 [] H448
     refine XN H449.chg <| XQ (i := 11) q (by kernel_rfl) q H449.chg q (fun _ => qt_mul q q) q q <| XQ (i := 12) q (by kernel_rfl) q H449.chg q (fun _ => qt_add q q) q q ?_
     have H450 := H373.cN0 [] H449
     refine X1 13 (by kernel_rfl) q ?_
     refine b H450.ctx hS1 hx197 u23 i3 q q q q (fun b451 off452 cap453 hv454 => ?_)
     refine XE q <| X1 14 (by kernel_rfl) q ?_
     have H455 := H450.p1
     refine WL_storeH (fo := 0) (cs' := [iV (IntKind.wrap .i64 (x171 + (IntKind.wrap .i64 (x181 * x191))))]) H455 hx197 hv454 (Upd.whole (Blt.int)) q il3 q q q q (fun w456 H457 => ?_)
     refine XE q ?_
     refine XC_done (by kernel_rfl) (fun a ha => ?_)
     have H459 := H457.q2.q2.p1
     exact ⟨ha.sub ⟨q, q, q, q, q, trivial⟩, H459⟩
    intro a w460 hI461
    obtain ⟨ha, H462⟩ := hI461
    refine zi (X (S ?_ ha))
    refine Z <| A q (qt_add q q) q q <| qM q q q <| WL_nil fun a ha => ?_
    obtain rfl := L hs38
    have H463 := H462.p1.p1
    exact ⟨q, ha.sub ⟨q, q, q, q, q, trivial⟩, H463⟩
   skip
   obtain ⟨p464, p465, p466⟩ := o81
   obtain ⟨rfl, hO468⟩ := hO167
   obtain ⟨vp464, ha, H467⟩ := hO468
   obtain rfl := L hs38
   exact zj (m (zj (m (⟨ret_ne, q, vp464, ha.sub ⟨q, q, trivial⟩, H467⟩))))
  have hs38 := if_f hc42 hs38
  refine WP_exit fun a ha => ?_
  obtain rfl := L hs38
  have H469 := H41.q0
  exact zo (⟨exit_ne, q, ha.sub ⟨q, trivial⟩, H469⟩)
 intro e a34 w470 hO471
 rcases o32 with o32 | o32
 ·skip
  obtain ⟨p472, rfl⟩ : ∃ z, z = o32 := ⟨o32, q⟩
  obtain ⟨rfl, hO474⟩ := hO471
  obtain ⟨ha, H473⟩ := hO474
  refine zn (X (S ?_ ha))
  refine rR <| qM q q q <| qA q q q <| qA q q q <| B <| W fun a ha => ?_
  obtain rfl := L h
  exact ret2 q ha q q ⟨v28, q, H473⟩
 skip
 obtain ⟨p475, p476, p477⟩ := o32
 obtain ⟨rfl, hO479⟩ := hO471
 obtain ⟨vp475, ha, H478⟩ := hO479
 obtain rfl := L h
 exact zj (m (ret2 q ha q q ⟨vp475, q, H478⟩))
theorem w_impl_doMake (w : World) (G : List Res) (bp0 : Nat) (A0 : Value) (B0 : LI) (csp0_0 : List Value) (Fp0_0 : List Nat) (A1 : Value) (B1 : List Int) (A2 : Value) (B2 : List Int) (B3 : Int) (A4 : Value) (B4 : LT) (csp0_4 : List Value) (Fp0_4 : List Nat) (p1 : Int) (p2 : Int) (r : (List Int) × Bool) (h : impl_doMakeS B0 B1 B2 B3 B4 p1 p2 = some r) (H : Ctx w ([.bx bp0 31 [A0, A1, A2, iV B3, A4], dpR 115 dt13 A0 csp0_0 B0 Fp0_0, .sl 3 tI A1 B1, .sl 3 tI A2 B2, dpR 89 dt14 A4 csp0_4 B4 Fp0_4] ++ G)) : Calls Tryz.prog 70 #[pB bp0, iV p1, iV p2] w fun e w' => ∃ (wp0_2 : Value), e = .returned (.bool r.2) ∧ Holds (([.bx bp0 31 [A0, A1, A2, iV B3, A4], dpR 115 dt13 A0 csp0_0 B0 Fp0_0, .sl 3 tI A1 B1, .sl 3 tI A2 B2, dpR 89 dt14 A4 csp0_4 B4 Fp0_4] : List Res).flatMap Res.own) w w' [.bx bp0 31 [A0, A1, wp0_2, iV B3, A4], dpR 115 dt13 A0 csp0_0 B0 Fp0_0, .sl 3 tI A1 B1, .sl 3 tI wp0_2 r.1, dpR 89 dt14 A4 csp0_4 B4 Fp0_4] G := by
 have H : Holds (([.bx bp0 31 [A0, A1, A2, iV B3, A4], dpR 115 dt13 A0 csp0_0 B0 Fp0_0, .sl 3 tI A1 B1, .sl 3 tI A2 B2, dpR 89 dt14 A4 csp0_4 B4 Fp0_4] : List Res).flatMap Res.own) w w [.bx bp0 31 [A0, A1, A2, iV B3, A4], dpR 115 dt13 A0 csp0_0 B0 Fp0_0, .sl 3 tI A1 B1, .sl 3 tI A2 B2, dpR 89 dt14 A4 csp0_4 B4 Fp0_4] G := zb H
 refine zg (args := [pB bp0, iV p1, iV p2]) (n := 53) Tryz.func70 q q q ?_
 unfold impl_doMakeS at h
 refine rR <| qA q q q <| B <| C <| rR <| qM q q q <| qM q q q ?_
 obtain ⟨x1, hx2, h⟩ := D h
 have V3 := H.viewG (Vw.c (Vw.d (Vw.c (Vw.c (Vw.d Vw.refl)))))
 refine zd q q c114 (w_impl_isItem w _ bp0 A0 B0 hR0 A1 B1 hS1 A2 B2 hS2 B3 A4 B4 hR3 p1 true x1 hx2 V3) (by rfl) ?_
 rintro _ w4 ⟨rfl, H5⟩; refine ⟨_, q, ?_⟩
 have H6 := H.cV1 [_] H5 (zc Pure.bx all_nil)
 refine A q (qt_not q) q q <| qM q q q ?_
 refine zh 3 17 (.bool ((!x1) || (decide (p2 < 1)))) ?_ (fun md hmd hk => ?_)
 rotate_left
 ·obtain ⟨Q, rfl⟩ := Md.seq_of hmd
  rcases btf (!x1) with hc7 | hc7
  ·skip
   refine qS q hc7 q q <| qS q hc7 q q <| A q (ze q hc7 q) q q ?_
   exact hk _ (p (by rw [hc7]; rfl) (cfn 2 q (u)))
  skip
  refine qM (J q hc7) q q <| A (J q hc7) (qt_lss q q) q q <| A q (zf q hc7 q) q q ?_
  exact hk _ (p (by rw [hc7]; rfl) (cfn 2 q (u)))
 refine qM q q q ?_
 refine zh 3 21 (.bool (((!x1) || (decide (p2 < 1))) || (decide (p2 > 50)))) ?_ (fun md hmd hk => ?_)
 rotate_left
 ·obtain ⟨Q, rfl⟩ := Md.seq_of hmd
  rcases btf ((!x1) || (decide (p2 < 1))) with hc8 | hc8
  ·skip
   refine qS q hc8 q q <| qS q hc8 q q <| A q (ze q hc8 q) q q ?_
   exact hk _ (p (by rw [hc8]; rfl) (cfn 2 q (u)))
  skip
  refine qM (J q hc8) q q <| A (J q hc8) (qt_gtr q q) q q <| A q (zf q hc8 q) q q ?_
  exact hk _ (p (by rw [hc8]; rfl) (cfn 2 q (u)))
 refine B ?_
 refine Y q (fun hc9 => ?_) (fun hc9 => ?_)
 ·have h := if_t hc9 h
  refine rR <| qA q q q <| B <| W fun a ha => ?_
  obtain rfl := L h
  have H10 := H6.p4.p4.p4.p4.p4
  exact m (ret1 q ha q ⟨A2, q, H10⟩)
 have h := if_f hc9 h
 refine y <| rR <| qM q q q <| qN q q q <| qF uf31 fi31_0 nz28 q q q ?_
 have hB11 := R H6.p0
 refine l u28 q hB11 q q q q ?_
 have V12 := H6.viewG (Vw.c (Vw.d (Vw.c (Vw.c (Vw.d Vw.refl)))))
 refine za V12 (t := ty10) hR1 u28 q q q ?_
 obtain ⟨x13, hx14, h⟩ := D h
 refine WL_makeH H6 hx14 u23 j3 q (fun _ => ⟨q, q⟩) q q q q q (fun v15 w16 H17 => ?_)
 have V19 := H17.viewG (Vw.c (Vw.c (Vw.d (Vw.c (Vw.c (Vw.d Vw.refl))))))
 refine A q (qt_build (args := [(0, .tmp 27)]) (css := [#[v15]]) (cells := #[v15, nS]) q ⟨(V19.sliceCells hS0), trivial⟩ (by kernel_rfl)) q q ?_
 refine zq (cs := [nS, nS]) H17 z143 q q q (fun b20 w21 H22 => ?_)
 have V26 := H22.viewG (Vw.c (Vw.c (Vw.c (Vw.d (Vw.c (Vw.c (Vw.d Vw.refl)))))))
 refine zl (cs' := [v15, nS]) H22 q il143 q (T (V26.sliceOne hS1) (T q q)) q q q (fun w24 H25 => ?_)
 refine rN <| qF uf143 fi143_0 nz23 q q q ?_
 have hB28 := R H25.p0
 refine l u23 q hB28 q q q q <| qM q q q <| qM q q q ?_
 obtain ⟨x29, hx30, h⟩ := D h
 have V35 := H25.viewG (Vw.c (Vw.c (Vw.c (Vw.d (Vw.c (Vw.c (Vw.d Vw.refl)))))))
 refine b V35 hS1 hx30 u23 i3 q q q q (fun b31 off32 cap33 hv34 => ?_)
 have H36 := H25.p1
 refine WL_storeH (fo := 0) (cs' := [iV p2]) H36 hx30 hv34 (Upd.whole (Blt.int)) q il3 q q q q (fun w37 H38 => ?_)
 refine B <| C ?_
 obtain ⟨x43, hx44, h⟩ := D h
 refine WP_join (M := fun a w2 => ∃ vz39_0, Fr a 53 [(0, pB bp0), (8, vz39_0), (9, .bool x43.2)] ∧ Holds (([.bx bp0 31 [A0, A1, A2, iV B3, A4], dpR 115 dt13 A0 csp0_0 B0 Fp0_0, .sl 3 tI A1 B1, .sl 3 tI A2 B2, dpR 89 dt14 A4 csp0_4 B4 Fp0_4] : List Res).flatMap Res.own) w w2 [.bx bp0 31 [A0, A1, A2, iV B3, A4], dpR 115 dt13 A0 csp0_0 B0 Fp0_0, .sl 3 tI A1 B1, .sl 3 tI A2 B2, dpR 89 dt14 A4 csp0_4 B4 Fp0_4, .sl 3 tI vz39_0 x43.1] G) ?_ ?_
 ·refine WP_ordersT (fun w1 w2 => Chg M0 w1 w2) 14 (by kernel_rfl) (fun w240 hb241 => ?_)
  have H242 := H38.grow hb241
  have C243 : Ctx w240 ([] ++ ([.sl 3 tI v15 (List.set x13 (Int.toNat p1) p2), .bx b20 143 [v15, nS], .bx bp0 31 [A0, A1, A2, iV B3, A4], .ro ty10 A0 B0, .sl 3 tI A1 B1, .sl 3 tI A2 B2, .ro ty12 A4 B4] ++ G)) := H242.viewG (Vw.c (Vw.c (Vw.c (Vw.d (Vw.c (Vw.c (Vw.d Vw.refl)))))))
  have H244 : Holds _ w240 w240 [] ([.sl 3 tI v15 (List.set x13 (Int.toNat p1) p2), .bx b20 143 [v15, nS], .bx bp0 31 [A0, A1, A2, iV B3, A4], .ro ty10 A0 B0, .sl 3 tI A1 B1, .sl 3 tI A2 B2, .ro ty12 A4 B4] ++ G) := zb (Rs := []) C243
  refine XQ (i := 0) q (by kernel_rfl) q H244.chg q (fun _ => qt_move q) q q <| XQ (i := 1) q (by kernel_rfl) q H244.chg q (fun _ => qt_nilCheck q) q q <| XQ (i := 2) q (by kernel_rfl) q H244.chg q (fun _ => qt_fieldAddr uf31 fi31_0 nz28 q) q q ?_
  have hB261 := HasB.bx (HasB.c (HasB.c (HasB.hd))) H244.ctx
  refine XT (i := 3) q (by kernel_rfl) q H244.chg q (qs_cell u28 q q (hB261.cell (i := 0) q) H244.chg (Ctx.outB C243 (HasB.c (HasB.c (HasB.hd))))) q q <| XQ (i := 4) q (by kernel_rfl) q H244.chg q (fun _ => qt_move q) q q <| XQ (i := 5) q (by kernel_rfl) q H244.chg q (fun _ => qt_nilCheck q) q q <| XQ (i := 6) q (by kernel_rfl) q H244.chg q (fun _ => qt_fieldAddr uf31 fi31_2 nz23 q) q q ?_
  have hB262 := HasB.bx (HasB.c (HasB.c (HasB.hd))) H244.ctx
  refine XT (i := 7) q (by kernel_rfl) q H244.chg q (qs_cell u23 q q (hB262.cell (i := 2) q) H244.chg (Ctx.outB C243 (HasB.c (HasB.c (HasB.hd))))) q q ?_
  have hB263 := HasB.bx (HasB.c (HasB.hd)) H244.ctx
  refine XT (i := 8) q (by kernel_rfl) q H244.chg q (qs_agg (cs := [v15, nS]) us143 uo143 il143 q (fun j z hj => by rw [Nat.zero_add]; exact hB263.cell hj) H244.chg (Ctx.outB C243 (HasB.c (HasB.hd)))) q q ?_
  change XC _ _ _ _ _ _ _ _ ((43, .agg #[v15, nS]) :: _) _
  refine X1 9 (by kernel_rfl) q <| zd q q c115 (w_impl_MakeRun w240 _ A0 B0 hR3 A2 B2 hS5 v15 (List.set x13 (Int.toNat p1) p2) hS0 (nS) ([] : List Int) (HasRo.has HasRo.nil) x43 hx44 H244.ctx) (by rfl) ?_
  rintro _ w264 ⟨v266, rfl, H265⟩; refine ⟨_, q, ?_⟩
  have H267 := H244.cN1 [] H265
  refine XN H267.chg <| XQ (i := 10) q (by kernel_rfl) q H267.chg q (fun _ => qt_move q) q q <| XQ (i := 11) q (by kernel_rfl) q H267.chg q (fun _ => zv q q) q q <| XQ (i := 12) q (by kernel_rfl) q H267.chg q (fun _ => zv q q) q q <| XQ (i := 13) q (by kernel_rfl) q H267.chg q (fun _ => qt_assign q) q q ?_
  have H268 := H242.cV1 [] H267 (zc (Pure.sl q) all_nil)
  refine X1 14 (by kernel_rfl) q <| qA q q q <| XE q ?_
  refine XC_done (by kernel_rfl) (fun a ha => ?_)
  have H269 := H268.q1.q1.p5.p5.p5.p5.p5
  exact ⟨v266, ha.sub ⟨q, q, q, trivial⟩, H269⟩
 intro a w270 hI271
 obtain ⟨vz39_0, ha, H272⟩ := hI271
 refine S ?_ ha
 clear ha
 refine C <| rR <| qM q q q <| B ?_
 obtain ⟨o274, ho275, h⟩ := D h
 obtain ⟨j273, rfl⟩ : ∃ z, z = o274 := ⟨o274, q⟩
 refine WP_join (M := fun a w2 => ∃ vj273, Fr a 53 [(0, pB bp0), (9, .bool x43.2)] ∧ Holds (([.bx bp0 31 [A0, A1, A2, iV B3, A4], dpR 115 dt13 A0 csp0_0 B0 Fp0_0, .sl 3 tI A1 B1, .sl 3 tI A2 B2, dpR 89 dt14 A4 csp0_4 B4 Fp0_4] : List Res).flatMap Res.own) w w2 [.bx bp0 31 [A0, A1, vj273, iV B3, A4], dpR 115 dt13 A0 csp0_0 B0 Fp0_0, .sl 3 tI A1 B1, .sl 3 tI vj273 j273, dpR 89 dt14 A4 csp0_4 B4 Fp0_4] G) ?_ ?_
 ·refine Y q (fun hc276 => ?_) (fun hc276 => ?_)
  ·have ho275 := if_t hc276 ho275
   refine Z <| qM q q q <| qM q q q <| qN q q q <| qF uf31 fi31_2 nz23 q q q ?_
   have V279 := H272.viewG (Vw.c (Vw.d (Vw.c (Vw.c (Vw.d (Vw.c Vw.refl))))))
   refine WL_store_bx H272 q il23 (V279.sliceCells hS5) (V279.sliceOne hS5) q q q (fun w277 H278 => ?_)
   refine WL_nil fun a ha => ?_
   obtain rfl := L ho275
   have H281 := H278.q3.p3.p4.p4.p4.p4
   exact X (⟨vz39_0, ha.sub ⟨q, q, trivial⟩, H281⟩)
  have ho275 := if_f hc276 ho275
  refine WP_skip fun a ha => ?_
  obtain rfl := L ho275
  have H282 := H272.q5.p4.p4.p4.p4.p4
  exact X (⟨A2, ha.sub ⟨q, q, trivial⟩, H282⟩)
 intro a w283 hI284
 obtain ⟨vj273, ha, H285⟩ := hI284
 refine S ?_ ha
 clear ha
 refine rR <| qM q q q <| qA q q q <| B <| W fun a ha => ?_
 obtain rfl := L h
 have H286 := H285.p4.p4.p4.p4.p4
 exact ret1 q ha q ⟨vj273, q, H286⟩
end Go.Proofs.YtcjkbcdlpfgbgaaGreatDoor
