/- The walks: each Go function computes its shallow function. Printed by a program. -/
import Derived.Test.YthofjabphcheeaaDoorWS7H8
set_option linter.unusedVariables false
set_option maxRecDepth 10000
namespace Go.Proofs.YthofjabphcheeaaDoor
open Go Go.RowKit
theorem w_impl_HouseWorth (w : World) (G : List Res) (A0 : Value) (B0 : LI) (C0 : Has G ty5 A0 B0) (A1 : Value) (B1 : List Int) (C1 : Has G tI A1 B1) (A2 : Value) (B2 : List Int) (C2 : Has G tI A2 B2) (B3 : Int) (A4 : Value) (B4 : LT) (C4 : Has G ty6 A4 B4) (r : Int) (h : impl_HouseWorthS B0 B1 B2 B3 B4 = some r) (H : Ctx w G) : Calls Tryd.prog 18 #[.agg #[A0, A1, A2, iV B3, A4]] w fun e w' => e = .returned (iV r) ∧ Holds M0 w w' [] G := by
 have H : Holds M0 w w [] G := zb H
 refine zg (args := [.agg #[A0, A1, A2, iV B3, A4]]) (n := 23) Tryd.func18 q q q ?_
 unfold impl_HouseWorthS at h
 refine C <| Z ?_
 refine WL_box (cs := [A0, A1, A2, iV B3, A4]) H q q q q (fun b1 w2 H3 => ?_)
 refine qA q q q <| B <| C <| C <| zk ?_
 have hB5 := R H3.p0
 refine zm (cs := [A0, A1, A2, iV B3, A4]) us27 uo27 il27 hB5 q q q ?_
 change XL _ _ _ _ _ ((5, .agg #[A0, A1, A2, iV B3, A4]) :: _) _
 obtain ⟨x6, hx7, h⟩ := D h
 refine QC q q c10 (fun w' hb => w_impl_HouseValid w' _ A0 B0 (C0.c) A1 B1 (C1.c) A2 B2 (C2.c) B3 A4 B4 (C4.c) x6 hx7 (H3.grow hb).ctx) (by rfl) <| A q (qt_not q) q q <| QL_nil fun a ha w8 hb9 => ?_
 have H10 := H3.grow hb9
 refine X (S ?_ ha)
 refine Y q (fun hc11 => ?_) (fun hc11 => ?_)
 ·have h := if_t hc11 h
  refine rR <| qA q q q <| B <| W fun a ha => ?_
  obtain rfl := L h
  have H12 := H10.q0
  exact m (ret1 q ha q ⟨q, H12⟩)
 have h := if_f hc11 h
 refine y <| rR <| qF uf27 fi27_3 nz3 q q q ?_
 have hB13 := R H10.p0
 refine l u3 q hB13 q q q q <| qA q q q <| B <| C <| rR <| qF uf27 fi27_4 nz25 q q q ?_
 have hB14 := R H10.p0
 refine l u25 q hB14 q q q q <| za H10.ctx (t := ty6) (C4.c) u25 q q q <| qM q q q <| B <| g ?_
 obtain ⟨o17, ho18, h⟩ := D h
 refine fun a19 ha20 => zp (I := fun s a w2 => match s with | (s15, s16) => (Fr a 23 [(1, pB b1), (3, iV s15), (12, iV (List.length B4 : Int)), (13, iV s16)] ∧ Holds M0 w w2 [.bx b1 27 [A0, A1, A2, iV B3, A4]] G)) (O := fun o e a w2 => match o with | q0 => e = .exit 0 ∧ (Fr a 23 [(3, iV q0)] ∧ Holds M0 w w2 [] G)) ho18 ?_ ?_ ?_
 ·exact ⟨ha20.sub ⟨q, q, q, q, trivial⟩, H10⟩
 ·clear ha20
  intro s o23 a w21 hs22 hI24
  obtain ⟨s15, s16⟩ := s
  obtain ⟨ha, H25⟩ := hI24
  refine S ?_ ha
  clear ha
  refine rR <| A q (qt_lss q q) q q <| B <| C ?_
  refine Y q (fun hc26 => ?_) (fun hc26 => ?_)
  ·have hs22 := if_t hc26 hs22
   refine y <| C <| g <| rR <| qM q q q <| qA q q q <| B <| zk <| qM q q q ?_
   have hB27 := R H25.p0
   refine zm (cs := [A0, A1, A2, iV B3, A4]) us27 uo27 il27 hB27 q q q ?_
   change XL _ _ _ _ _ ((17, .agg #[A0, A1, A2, iV B3, A4]) :: _) _
   refine qM q q q ?_
   obtain ⟨x28, hx29, hs22⟩ := D hs22
   refine QC q q c15 (fun w' hb => w_impl_TableBill w' _ A0 B0 (C0.c) A1 B1 (C1.c) A2 B2 (C2.c) B3 A4 B4 (C4.c) s16 x28 hx29 (H25.grow hb).ctx) (by rfl) <| A q (qt_add q q) q q <| qA q q q <| QL_nil fun a ha w30 hb31 => ?_
   have H32 := H25.grow hb31
   refine zi (X (S ?_ ha))
   refine Z <| A q (qt_add q q) q q <| qM q q q <| WL_nil fun a ha => ?_
   obtain rfl := L hs22
   exact ⟨q, ha.sub ⟨q, q, q, q, trivial⟩, H32⟩
  have hs22 := if_f hc26 hs22
  refine WP_exit fun a ha => ?_
  obtain rfl := L hs22
  have H33 := H25.q0
  exact zo (⟨exit_ne, q, ha.sub ⟨q, trivial⟩, H33⟩)
 intro e a19 w34 hO35
 obtain ⟨p36, rfl⟩ : ∃ z, z = o17 := ⟨o17, q⟩
 obtain ⟨rfl, hO38⟩ := hO35
 obtain ⟨ha, H37⟩ := hO38
 refine zn (X (S ?_ ha))
 refine rR <| qM q q q <| qA q q q <| B <| W fun a ha => ?_
 obtain rfl := L h
 exact ret1 q ha q ⟨q, H37⟩
theorem w_spec_HouseWorth (w : World) (G : List Res) (A0 : Value) (B0 : LI) (C0 : Has G ty5 A0 B0) (A1 : Value) (B1 : List Int) (C1 : Has G tI A1 B1) (A2 : Value) (B2 : List Int) (C2 : Has G tI A2 B2) (B3 : Int) (A4 : Value) (B4 : LT) (C4 : Has G ty6 A4 B4) (r : Int) (h : spec_HouseWorthS B0 B1 B2 B3 B4 = some r) (H : Ctx w G) : Calls Tryd.prog 19 #[.agg #[A0, A1, A2, iV B3, A4]] w fun e w' => e = .returned (iV r) ∧ Holds M0 w w' [] G := by
 have H : Holds M0 w w [] G := zb H
 refine zg (args := [.agg #[A0, A1, A2, iV B3, A4]]) (n := 23) Tryd.func19 q q q ?_
 unfold spec_HouseWorthS at h
 refine C <| Z ?_
 refine WL_box (cs := [A0, A1, A2, iV B3, A4]) H q q q q (fun b1 w2 H3 => ?_)
 refine qA q q q <| B <| C <| C <| zk ?_
 have hB5 := R H3.p0
 refine zm (cs := [A0, A1, A2, iV B3, A4]) us27 uo27 il27 hB5 q q q ?_
 change XL _ _ _ _ _ ((5, .agg #[A0, A1, A2, iV B3, A4]) :: _) _
 obtain ⟨x6, hx7, h⟩ := D h
 refine QC q q c11 (fun w' hb => w_spec_HouseValid w' _ A0 B0 (C0.c) A1 B1 (C1.c) A2 B2 (C2.c) B3 A4 B4 (C4.c) x6 hx7 (H3.grow hb).ctx) (by rfl) <| A q (qt_not q) q q <| QL_nil fun a ha w8 hb9 => ?_
 have H10 := H3.grow hb9
 refine X (S ?_ ha)
 refine Y q (fun hc11 => ?_) (fun hc11 => ?_)
 ·have h := if_t hc11 h
  refine rR <| qA q q q <| B <| W fun a ha => ?_
  obtain rfl := L h
  have H12 := H10.q0
  exact m (ret1 q ha q ⟨q, H12⟩)
 have h := if_f hc11 h
 refine y <| rR <| qF uf27 fi27_3 nz3 q q q ?_
 have hB13 := R H10.p0
 refine l u3 q hB13 q q q q <| qA q q q <| B <| C <| rR <| qA q q q <| B <| g ?_
 obtain ⟨o16, ho17, h⟩ := D h
 refine fun a18 ha19 => zp (I := fun s a w2 => match s with | (s14, s15) => (Fr a 23 [(1, pB b1), (3, iV s14), (4, iV s15)] ∧ Holds M0 w w2 [.bx b1 27 [A0, A1, A2, iV B3, A4]] G)) (O := fun o e a w2 => match o with | q0 => e = .exit 0 ∧ (Fr a 23 [(3, iV q0)] ∧ Holds M0 w w2 [] G)) ho17 ?_ ?_ ?_
 ·exact ⟨ha19.sub ⟨q, q, q, trivial⟩, H10⟩
 ·clear ha19
  intro s o22 a w20 hs21 hI23
  obtain ⟨s14, s15⟩ := s
  obtain ⟨ha, H24⟩ := hI23
  refine S ?_ ha
  clear ha
  refine C <| rR <| qM q q q <| qF uf27 fi27_4 nz25 q q q ?_
  have hB25 := R H24.p0
  refine l u25 q hB25 q q q q <| za H24.ctx (t := ty6) (C4.c) u25 q q q <| A q (qt_lss q q) q q <| B ?_
  refine Y q (fun hc26 => ?_) (fun hc26 => ?_)
  ·have hs21 := if_t hc26 hs21
   refine y <| C <| g <| zk <| qM q q q ?_
   have hB27 := R H24.p0
   refine zm (cs := [A0, A1, A2, iV B3, A4]) us27 uo27 il27 hB27 q q q ?_
   change XL _ _ _ _ _ ((18, .agg #[A0, A1, A2, iV B3, A4]) :: _) _
   refine qM q q q ?_
   obtain ⟨x28, hx29, hs21⟩ := D hs21
   refine QC q q c16 (fun w' hb => w_spec_TableBill w' _ A0 B0 (C0.c) A1 B1 (C1.c) A2 B2 (C2.c) B3 A4 B4 (C4.c) s15 x28 hx29 (H24.grow hb).ctx) (by rfl) <| A q (qt_add q q) q q <| qA q q q <| QL_nil fun a ha w30 hb31 => ?_
   have H32 := H24.grow hb31
   refine zi (X (S ?_ ha))
   refine Z <| qM q q q <| A q (qt_add q q) q q <| qA q q q <| WL_nil fun a ha => ?_
   obtain rfl := L hs21
   exact ⟨q, ha.sub ⟨q, q, q, trivial⟩, H32⟩
  have hs21 := if_f hc26 hs21
  refine WP_exit fun a ha => ?_
  obtain rfl := L hs21
  have H33 := H24.q0
  exact zo (⟨exit_ne, q, ha.sub ⟨q, trivial⟩, H33⟩)
 intro e a18 w34 hO35
 obtain ⟨p36, rfl⟩ : ∃ z, z = o16 := ⟨o16, q⟩
 obtain ⟨rfl, hO38⟩ := hO35
 obtain ⟨ha, H37⟩ := hO38
 refine zn (X (S ?_ ha))
 refine rR <| qM q q q <| qA q q q <| B <| W fun a ha => ?_
 obtain rfl := L h
 exact ret1 q ha q ⟨q, H37⟩
theorem w_laws_FnHouseWorth (w : World) (G : List Res) (vp0 : Value) (p0 : List Int) (hp0 : HasRo G (.int .u8) vp0 p0) (r : Bool) (h : laws_FnHouseWorthS p0 = some r) (H : Ctx w G) : Calls Tryd.prog 5 #[vp0] w fun e w' => e = .returned (.bool r) ∧ Holds M0 w w' [] G := by
 have H : Holds M0 w w [] G := zb H
 refine zg (args := [vp0]) (n := 44) Tryd.func5 q q q ?_
 unfold laws_FnHouseWorthS at h
 refine rR <| qA q q q <| B <| C <| rR <| qM q q q <| za H.ctx (t := (.int .u8)) (hp0.has) u22 q q q <| A q (qt_gtr q q) q q ?_
 refine B ?_
 refine Y q (fun hc1 => ?_) (fun hc1 => ?_)
 ·have h := if_t hc1 h
  refine rR <| qA q q q <| B <| W fun a ha => ?_
  obtain rfl := L h
  exact m (ret1 q ha q ⟨q, H⟩)
 have h := if_f hc1 h
 refine y <| rR <| qM q q q ?_
 obtain ⟨x2, hx3, h⟩ := D h
 refine zd q q c17 (w_spec_DrawHouseWorth w G vp0 p0 (hp0) x2 hx3 H.ctx) (by rfl) ?_
 rintro _ w4 ⟨v6, v7, v8, v9, rfl, H5⟩; refine ⟨_, q, ?_⟩
 have H10 := H.cN4 [] H5
 refine zq (cs := [nS, nS, nS, iV 0, nS]) H10 z27 q q q (fun b11 w12 H13 => ?_)
 refine zl (cs' := [v6, v7, v8, iV x2.2.2.2.1, v9]) H13 q il27 q (T (H13.ctx.sliceOne hS1) (T (H13.ctx.sliceOne hS2) (T (H13.ctx.sliceOne hS3) (T q (T (H13.ctx.sliceOne hS4) q))))) q q q (fun w15 H16 => ?_)
 refine B <| C <| zk ?_
 have hB18 := R H16.p0
 refine zm (cs := [v6, v7, v8, iV x2.2.2.2.1, v9]) us27 uo27 il27 hB18 q q q ?_
 change XL _ _ _ _ _ ((10, .agg #[v6, v7, v8, iV x2.2.2.2.1, v9]) :: _) _
 obtain ⟨x19, hx20, h⟩ := D h
 refine QC q q c18 (fun w' hb => w_impl_HouseWorth w' _ v6 x2.1 hS1 v7 x2.2.1 hS2 v8 x2.2.2.1 hS3 x2.2.2.2.1 v9 x2.2.2.2.2 hS4 x19 hx20 (H16.grow hb).ctx) (by rfl) <| qA q q q <| QL_nil fun a ha w21 hb22 => ?_
 have H23 := H16.grow hb22
 refine X (S ?_ ha)
 refine C <| C <| zk <| qM q q q ?_
 have hB24 := R H23.p0
 refine zm (cs := [v6, v7, v8, iV x2.2.2.2.1, v9]) us27 uo27 il27 hB24 q q q ?_
 change XL _ _ _ _ _ ((13, .agg #[v6, v7, v8, iV x2.2.2.2.1, v9]) :: _) _
 obtain ⟨x25, hx26, h⟩ := D h
 refine QC q q c19 (fun w' hb => w_spec_HouseWorth w' _ v6 x2.1 hS1 v7 x2.2.1 hS2 v8 x2.2.2.1 hS3 x2.2.2.2.1 v9 x2.2.2.2.2 hS4 x25 hx26 (H23.grow hb).ctx) (by rfl) <| A q (qt_neq q q) q q <| QL_nil fun a ha w27 hb28 => ?_
 have H29 := H23.grow hb28
 refine X (S ?_ ha)
 refine Y q (fun hc30 => ?_) (fun hc30 => ?_)
 ·have h := if_t hc30 h
  refine rR <| qA q q q <| B <| W fun a ha => ?_
  obtain rfl := L h
  have H31 := H29.q0.q0.q0.q0.q0
  exact m (ret1 q ha q ⟨q, H31⟩)
 have h := if_f hc30 h
 refine y <| C <| rR <| qM q q q <| A q (qt_lss q q) q q <| B ?_
 refine Y q (fun hc32 => ?_) (fun hc32 => ?_)
 ·have h := if_t hc32 h
  refine C <| zk <| qM q q q <| A q (qt_eql q q) q q <| qM q q q ?_
  obtain ⟨b33, hg34, h⟩ := D h
  refine zh 4 24 (.bool b33) ?_ (fun md hmd hk => ?_)
  rotate_left
  ·obtain ⟨K, rfl⟩ := zr hmd
   rcases btf (x19 == (-1)) with hc35 | hc35
   ·skip
    have hg34 := if_t hc35 hg34
    have hB36 := R H29.p0
    refine zm (cs := [v6, v7, v8, iV x2.2.2.2.1, v9]) us27 uo27 il27 hB36 (J q hc35) q q ?_
    change XL _ _ _ _ _ ((21, .agg #[v6, v7, v8, iV x2.2.2.2.1, v9]) :: _) _
    obtain ⟨x37, hx38, hg34⟩ := D hg34
    refine QC (J q hc35) q c10 (fun w' hb => w_impl_HouseValid w' _ v6 x2.1 hS1 v7 x2.2.1 hS2 v8 x2.2.2.1 hS3 x2.2.2.2.1 v9 x2.2.2.2.2 hS4 x37 hx38 (H29.grow hb).ctx) (by rfl) <| A (J q hc35) (qt_not q) q q <| A q (ze q hc35 q) q q ?_
    exact hk _ (p (vb hg34) (cfn 3 q (u)))
   skip
   refine qS q hc35 q q <| qS q hc35 q q <| qS q hc35 q q <| A q (zf q hc35 q) q q ?_
   exact hk _ (p (vb (if_f hc35 hg34)) (cfn 3 q (u)))
  refine qM q q q ?_
  obtain ⟨b39, hg40, h⟩ := D h
  refine zh 2 27 (.bool b39) ?_ (fun md hmd hk => ?_)
  rotate_left
  ·obtain ⟨K, rfl⟩ := zr hmd
   rcases btf b33 with hc41 | hc41
   ·skip
    have hg40 := if_t hc41 hg40
    obtain ⟨x42, hx43, hg40⟩ := D hg40
    refine QC (J q hc41) q c12 (fun w' hb => w_laws_alive w' _  x42 hx43 (H29.grow hb).ctx) (by rfl) <| A q (ze q hc41 q) q q ?_
    exact hk _ (p (vb hg40) (Cov.fresh q (u)))
   skip
   refine qS q hc41 q q <| A q (zf q hc41 q) q q ?_
   exact hk _ (p (vb (if_f hc41 hg40)) (Cov.fresh q (u)))
  refine qA q q q <| QL_nil fun a ha w44 hb45 => ?_
  have H46 := H29.grow hb45
  refine X (S ?_ ha)
  refine W fun a ha => ?_
  obtain rfl := L h
  have H47 := H46.q0.q0.q0.q0.q0
  exact m (ret1 q ha q ⟨q, H47⟩)
 have h := if_f hc32 h
 refine y <| rR <| qM q q q <| qF uf27 fi27_3 nz3 q q q ?_
 have hB48 := R H29.p0
 refine l u3 q hB48 q q q q <| A q (qt_geq q q) q q <| qM q q q ?_
 refine zh 11 43 (.bool ((decide (x19 ≥ x2.2.2.2.1)) && ((decide ((List.length x2.2.2.2.2 : Int) > 0)) || (x19 == x2.2.2.2.1)))) ?_ (fun md hmd hk => ?_)
 rotate_left
 ·obtain ⟨Q, rfl⟩ := Md.seq_of hmd
  rcases btf (decide (x19 ≥ x2.2.2.2.1)) with hc49 | hc49
  ·skip
   refine qF uf27 fi27_4 nz25 (J q hc49) q q ?_
   have hB50 := R H29.p0
   refine l u25 q hB50 q (J q hc49) q q <| za H29.ctx (t := ty6) hS4 u25 (J q hc49) q q <| A (J q hc49) (qt_gtr q q) q q <| qM (J q hc49) q q ?_
   refine zh 5 42 (.bool ((decide ((List.length x2.2.2.2.2 : Int) > 0)) || (x19 == x2.2.2.2.1))) ?_ (fun md hmd hk => ?_)
   rotate_left
   ·obtain ⟨Q, rfl⟩ := Md.seq_of hmd
    rcases btf (decide ((List.length x2.2.2.2.2 : Int) > 0)) with hc51 | hc51
    ·skip
     refine qS q hc51 q q <| qS q hc51 q q <| qS q hc51 q q <| qS q hc51 q q <| A (J q hc49) (ze q hc51 q) q q ?_
     exact hk _ (p (by rw [hc51]; rfl) (cfn 4 q (u)))
    skip
    refine qM (J q hc51) q q <| qF uf27 fi27_3 nz3 (J q hc51) q q ?_
    have hB52 := R H29.p0
    refine l u3 q hB52 q (J q hc51) q q <| A (J q hc51) (qt_eql q q) q q <| A (J q hc49) (zf q hc51 q) q q ?_
    exact hk _ (p (by rw [hc51]; rfl) (cfn 4 q (u)))
   refine A q (ze q hc49 q) q q ?_
   exact hk _ (p (by rw [hc49]; rfl) (cfn 6 q (u)))
  skip
  refine qS q hc49 q q <| qS q hc49 q q <| qS q hc49 q q <| qS q hc49 q q <| qS q hc49 q q <| XL_skip q q q <| XL_skip q q q <| XL_skip q q q <| XL_skip q q q <| qS q hc49 q q ?_
  refine A q (zf q hc49 q) q q ?_
  exact hk _ (p (by rw [hc49]; rfl) (cfn 10 q (u)))
 refine qA q q q <| B <| W fun a ha => ?_
 obtain rfl := L h
 have H53 := H29.q0.q0.q0.q0.q0
 exact ret1 q ha q ⟨q, H53⟩
end Go.Proofs.YthofjabphcheeaaDoor
