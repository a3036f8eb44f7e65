/- The walks: each Go function computes its shallow function. Printed by a program. -/
import Derived.Test.YtpabogkcmbkffaaGreatDoorWS7B10
set_option linter.unusedVariables false
set_option maxRecDepth 10000
namespace Go.Proofs.YtpabogkcmbkffaaGreatDoor
open Go Go.RowKit
theorem w_impl_EndDeeds (w : World) (G : List Res) (A0 : Value) (B0 : LI) (C0 : Has G ty12 A0 B0) (A1 : Value) (B1 : List Int) (C1 : Has G tI A1 B1) (A2 : Value) (B2 : List Int) (C2 : Has G tI A2 B2) (B3 : Int) (A4 : Value) (B4 : LT) (C4 : Has G ty14 A4 B4) (r : (List (Int × Int × Int × Int))) (h : impl_EndDeedsS B0 B1 B2 B3 B4 = some r) (H : Ctx w G) : Calls Tryz.prog 14 #[.agg #[A0, A1, A2, iV B3, A4]] w fun e w' => ∃ (v1 : Value), e = .returned (v1) ∧ Holds M0 w w' [.sl 29 ty10 v1 r] G := by
 have H : Holds M0 w w [] G := zb H
 refine zg (args := [.agg #[A0, A1, A2, iV B3, A4]]) (n := 28) Tryz.func14 q q q ?_
 unfold impl_EndDeedsS at h
 refine C <| Z ?_
 refine WL_box (cs := [A0, A1, A2, iV B3, A4]) H q q q q (fun b1 w2 H3 => ?_)
 refine qA q q q <| B <| C <| C <| zk ?_
 have aA := R H3.p0
 refine zm (cs := [A0, A1, A2, iV B3, A4]) us27 uo27 il27 aA q q q ?_
 change XL _ _ _ _ _ ((4, .agg #[A0, A1, A2, iV B3, A4]) :: _) _
 obtain ⟨x6, aB, h⟩ := D h
 refine QC q q c10 (fun w' hb => w_impl_HouseValid w' _ A0 B0 (C0.c) A1 B1 (C1.c) A2 B2 (C2.c) B3 A4 B4 (C4.c) x6 aB (H3.grow hb).ctx) (by rfl) <| A q (qt_not q) q q <| QL_nil fun a ha w8 aC => ?_
 have ae := H3.grow aC
 refine X (S ?_ ha)
 refine Y q (fun ah => ?_) (fun ah => ?_)
 ·have h := if_t ah h
  refine rR <| qA q q q <| B <| W fun a ha => ?_
  obtain rfl := L h
  have aD := ae.nS 29 ty10
  have aE := aD.q1
  exact m (ret1 q ha q ⟨(nS), q, aE⟩)
 have h := if_f ah h
 refine y <| rR <| qA q q q <| B <| C <| C <| Z ?_
 have aF := R ae.p0
 refine zm (cs := [A0, A1, A2, iV B3, A4]) us27 uo27 il27 aF q q q ?_
 change XL _ _ _ _ _ ((7, .agg #[A0, A1, A2, iV B3, A4]) :: _) _
 obtain ⟨al, aG, h⟩ := D h
 refine zd q q c47 (w_impl_kitchenOf w8 _ A0 B0 (C0.c) A1 B1 (C1.c) A2 B2 (C2.c) B3 A4 B4 (C4.c) al aG ae.ctx) (by rfl) ?_
 rintro _ aH ⟨aI, bi, bj, rfl, aJ⟩; refine ⟨_, q, ?_⟩
 have am := ae.cN1 [] aJ
 obtain ⟨an, aK, h⟩ := D h
 have aL := am.viewG (Vw.d (Vw.c Vw.refl))
 refine zd q q c46 (w_impl_WorkLeft aH _ aI al hR0 an aK aL) (by rfl) ?_
 rintro _ bk ⟨rfl, aM⟩; refine ⟨_, q, ?_⟩
 have aN := am.cV0 [] aM all_nil
 refine qM q q q <| B <| g ?_
 have aO := aN.nS 29 ty10
 obtain ⟨ao, aP, h⟩ := D h
 have aQ := aO.q1.p1
 refine fun aR ap => zp (I := fun s a w2 => match s with | (aq, ar) => ∃ af, Fr a 28 [(1, pB b1), (3, af), (9, iV an), (10, iV ar)] ∧ Holds M0 w w2 [.bx b1 27 [A0, A1, A2, iV B3, A4], .sl 29 ty10 af aq] G) (O := fun o e a w2 => match o with | q0 => e = .exit 0 ∧ ∃ ad, Fr a 28 [(1, pB b1), (3, ad)] ∧ Holds M0 w w2 [.bx b1 27 [A0, A1, A2, iV B3, A4], .sl 29 ty10 ad q0] G) aP ?_ ?_ ?_
 ·exact ⟨(nS), ap.sub ⟨q, q, q, q, trivial⟩, aQ⟩
 ·clear ap
  intro s bl a bm aa aS
  obtain ⟨aq, ar⟩ := s
  obtain ⟨af, ha, au⟩ := aS
  refine S ?_ ha
  clear ha
  refine rR <| A q (qt_lss q q) q q <| B <| C ?_
  refine Y q (fun ai => ?_) (fun ai => ?_)
  ·have aa := if_t ai aa
   refine y <| C <| g <| Z <| qM q q q <| A q (qt_build (args := [(0, .const (iV 4))]) (css := [#[iV 4]]) (cells := #[iV 4, iV 0, iV 0, iV 0]) q ⟨q, trivial⟩ (by kernel_rfl)) q q ?_
   refine zs (t := ty10) (args := [.tmp 13]) (xs := ([(4, 0, 0, 0)] : List (Int × Int × Int × Int))) au (BltL.cons (Blt.pair (Blt.int) (Blt.pair (Blt.int) (Blt.pair (Blt.int) (Blt.int)))) q (BltL.nil)) u40 j29 q q q q q q (fun bn bo aT => ?_)
   have aU := aT.p2
   obtain ⟨bp, aV, aa⟩ := D aa
   refine zw aU hS1 aV u40 j29 q q q q q q (fun aW bq aX => ?_)
   refine qA q q q <| WL_nil fun a ha => ?_
   refine zi (X (S ?_ ha))
   refine Z <| A q (qt_add q q) q q <| qM q q q <| WL_nil fun a ha => ?_
   obtain rfl := L aa
   have aY := aX.q1.p1
   exact ⟨q, aW, ha.sub ⟨q, q, q, q, trivial⟩, aY⟩
  have aa := if_f ai aa
  refine WP_exit fun a ha => ?_
  obtain rfl := L aa
  have aZ := au.p1.p1
  exact zo (⟨exit_ne, q, af, ha.sub ⟨q, q, trivial⟩, aZ⟩)
 intro e aR br a0
 obtain ⟨bs, rfl⟩ : ∃ z, z = ao := ⟨ao, q⟩
 obtain ⟨rfl, a1⟩ := a0
 obtain ⟨a2, ha, aj⟩ := a1
 refine zn (X (S ?_ ha))
 refine C <| rR <| qF uf27 fi27_4 nz25 q q q ?_
 have a3 := R aj.p0
 refine l u25 q a3 q q q q <| za aj.ctx (t := ty14) (C4.c.c) u25 q q q <| qM q q q <| B <| g ?_
 obtain ⟨av, a4, h⟩ := D h
 have a5 := aj.q0
 refine fun a6 aw => zp (I := fun s a w2 => match s with | (ax, ay) => ∃ ag, Fr a 28 [(3, ag), (19, iV (List.length B4 : Int)), (20, iV ay)] ∧ Holds M0 w w2 [.sl 29 ty10 ag ax] G) (O := fun o e a w2 => match o with | q0 => e = .exit 2 ∧ ∃ ad, Fr a 28 [(3, ad)] ∧ Holds M0 w w2 [.sl 29 ty10 ad q0] G) a4 ?_ ?_ ?_
 ·exact ⟨a2, aw.sub ⟨q, q, q, trivial⟩, a5⟩
 ·clear aw
  intro s bt a bu ab a7
  obtain ⟨ax, ay⟩ := s
  obtain ⟨ag, ha, az⟩ := a7
  refine S ?_ ha
  clear ha
  refine rR <| A q (qt_lss q q) q q <| B <| C ?_
  refine Y q (fun ak => ?_) (fun ak => ?_)
  ·have ab := if_t ak ab
   refine y <| C <| g <| Z <| qM q q q <| A q (qt_build (args := [(0, .const (iV 5))]) (css := [#[iV 5]]) (cells := #[iV 5, iV 0, iV 0, iV 0]) q ⟨q, trivial⟩ (by kernel_rfl)) q q ?_
   refine zs (t := ty10) (args := [.tmp 23]) (xs := ([(5, 0, 0, 0)] : List (Int × Int × Int × Int))) az (BltL.cons (Blt.pair (Blt.int) (Blt.pair (Blt.int) (Blt.pair (Blt.int) (Blt.int)))) q (BltL.nil)) u40 j29 q q q q q q (fun bv bw a8 => ?_)
   have a9 := a8.p1
   obtain ⟨bz, ba, ab⟩ := D ab
   refine zw a9 hS1 ba u40 j29 q q q q q q (fun bb bA bc => ?_)
   refine qA q q q <| WL_nil fun a ha => ?_
   refine zi (X (S ?_ ha))
   refine Z <| A q (qt_add q q) q q <| qM q q q <| WL_nil fun a ha => ?_
   obtain rfl := L ab
   have bd := bc.q1
   exact ⟨q, bb, ha.sub ⟨q, q, q, trivial⟩, bd⟩
  have ab := if_f ak ab
  refine WP_exit fun a ha => ?_
  obtain rfl := L ab
  exact zo (⟨exit_ne, q, ag, ha.sub ⟨q, trivial⟩, az⟩)
 intro e a6 bB be
 obtain ⟨bC, rfl⟩ : ∃ z, z = av := ⟨av, q⟩
 obtain ⟨rfl, bf⟩ := be
 obtain ⟨bg, ha, bh⟩ := bf
 refine zn (X (S ?_ ha))
 refine rR <| qM q q q <| qA q q q <| B <| W fun a ha => ?_
 obtain rfl := L h
 exact ret1 q ha q ⟨bg, q, bh⟩
theorem w_spec_WorkLeft (w : World) (G : List Res) (vp0 : Value) (p0 : List LP) (hp0 : Has G ty4 vp0 p0) (r : Int) (h : spec_WorkLeftS p0 = some r) (H : Ctx w G) : Calls Tryz.prog 48 #[vp0] w fun e w' => e = .returned (iV r) ∧ Holds M0 w w' [] G := by
 have H : Holds M0 w w [] G := zb H
 refine zg (args := [vp0]) (n := 37) Tryz.func48 q q q ?_
 unfold spec_WorkLeftS at h
 refine rR <| qA q q q <| B <| C <| C <| zk <| qM q q q ?_
 obtain ⟨x1, ax, h⟩ := D h
 refine QC q q c85 (fun w' hb => w_spec_KitchenValid w' G vp0 p0 (hp0) x1 ax (H.grow hb).ctx) (by rfl) <| A q (qt_not q) q q <| QL_nil fun a ha w3 ay => ?_
 have H5 := H.grow ay
 refine X (S ?_ ha)
 refine Y q (fun ae => ?_) (fun ae => ?_)
 ·have h := if_t ae h
  refine rR <| qA q q q <| B <| W fun a ha => ?_
  obtain rfl := L h
  exact m (ret1 q ha q ⟨q, H5⟩)
 have h := if_f ae h
 refine y <| rR <| qA q q q <| B <| C <| rR <| qA q q q <| B ?_
 refine g ?_
 obtain ⟨o9, az, h⟩ := D h
 refine fun aA aj => zp (I := fun s a w2 => match s with | (s7, s8) => (Fr a 37 [(0, vp0), (3, iV s7), (4, iV s8)] ∧ Holds M0 w w2 [] G)) (O := fun o e a w2 => match o with | q0 => e = .exit 0 ∧ (Fr a 37 [(3, iV q0)] ∧ Holds M0 w w2 [] G)) az ?_ ?_ ?_
 ·exact ⟨aj.sub ⟨q, q, q, trivial⟩, H5⟩
 ·clear aj
  intro s a0 a a1 ab aB
  obtain ⟨s7, s8⟩ := s
  obtain ⟨ha, af⟩ := aB
  refine S ?_ ha
  clear ha
  refine C <| rR <| qM q q q <| qM q q q <| za af.ctx (t := ty4) (hp0) u81 q q q <| A q (qt_lss q q) q q <| B ?_
  refine Y q (fun ag => ?_) (fun ag => ?_)
  ·have ab := if_t ag ab
   refine y <| C <| g <| rR <| qA q q q <| B <| g ?_
   obtain ⟨ak, aC, ab⟩ := D ab
   refine fun aD al => zp (I := fun s a w2 => match s with | (am, an) => (Fr a 37 [(0, vp0), (3, iV am), (4, iV s8), (5, iV an)] ∧ Holds M0 w w2 [] G)) (O := fun o e a w2 => match o with | q0 => e = .exit 2 ∧ (Fr a 37 [(0, vp0), (3, iV q0), (4, iV s8)] ∧ Holds M0 w w2 [] G)) aC ?_ ?_ ?_
   ·exact ⟨al.sub ⟨q, q, q, q, trivial⟩, af⟩
   ·clear al
    intro s a2 a ao aa aE
    obtain ⟨am, an⟩ := s
    obtain ⟨ha, ap⟩ := aE
    refine S ?_ ha
    clear ha
    refine C <| rR <| qM q q q <| qM q q q <| qM q q q ?_
    obtain ⟨aq, ar, aa⟩ := D aa
    refine b ap.ctx (hp0) ar u81 i45 q q q q (fun a3 a4 a5 aF => ?_)
    obtain ⟨a6, aG, aH⟩ := ap.at (hp0) ar aF
    refine XL_load (t := ty4) u45 q q aG q q q (fun au aI => ?_)
    have ad : Holds _ w ao [.ro ty2 au aq] G := aH _ _ _ _ aI (fun _ h => h)
    refine za ad.ctx (t := ty2) hR0 u45 q q q <| A q (qt_lss q q) q q <| B ?_
    refine Y q (fun ah => ?_) (fun ah => ?_)
    ·have aa := if_t ah aa
     refine y <| C <| g <| Z <| qM q q q <| qM q q q <| qM q q q ?_
     obtain ⟨aJ, av, aa⟩ := D aa
     refine b ad.ctx (hp0.c) av u81 i45 q q q q (fun a7 a8 a9 aK => ?_)
     obtain ⟨ba, aL, aM⟩ := ad.at (hp0.c) av aK
     refine XL_load (t := ty4) u45 q q aL q q q (fun aN aO => ?_)
     have ai : Holds _ w ao [.ro ty2 aN aJ, .ro ty2 au aq] G := aM _ _ _ _ aO (fun _ h => h)
     refine qM q q q ?_
     obtain ⟨bb, aw, aa⟩ := D aa
     refine b ai.ctx hR0 aw u45 i49 q q q q (fun bc bd be aP => ?_)
     refine qF uf49 fi49_1 nz3 q q q ?_
     obtain ⟨bf, aQ, bg⟩ := ai.at hR0 aw aP
     obtain ⟨bh, aR, bi⟩ := AtP.snd aQ
     refine zt (k := .i64) u3 q aR q q q <| A q (qt_sub q q) q q <| A q (qt_max q q) q q <| A q (qt_add q q) q q <| qA q q q <| WL_nil fun a ha => ?_
     refine zi (X (S ?_ ha))
     refine Z <| qM q q q <| A q (qt_add q q) q q <| qA q q q <| WL_nil fun a ha => ?_
     obtain rfl := L aa
     have aS := ai.q0.q0
     exact ⟨q, ha.sub ⟨q, q, q, q, trivial⟩, aS⟩
    have aa := if_f ah aa
    refine WP_exit fun a ha => ?_
    obtain rfl := L aa
    have aT := ad.q0
    exact zo (⟨exit_ne, q, ha.sub ⟨q, q, q, trivial⟩, aT⟩)
   intro e aD bj aU
   obtain ⟨bk, rfl⟩ : ∃ z, z = ak := ⟨ak, q⟩
   obtain ⟨rfl, aV⟩ := aU
   obtain ⟨ha, aW⟩ := aV
   refine zn (zi (X (S ?_ ha)))
   refine Z <| qM q q q <| A q (qt_add q q) q q <| qA q q q <| WL_nil fun a ha => ?_
   obtain rfl := L ab
   exact ⟨q, ha.sub ⟨q, q, q, trivial⟩, aW⟩
  have ab := if_f ag ab
  refine WP_exit fun a ha => ?_
  obtain rfl := L ab
  exact zo (⟨exit_ne, q, ha.sub ⟨q, trivial⟩, af⟩)
 intro e aA bl aX
 obtain ⟨bm, rfl⟩ : ∃ z, z = o9 := ⟨o9, q⟩
 obtain ⟨rfl, aY⟩ := aX
 obtain ⟨ha, aZ⟩ := aY
 refine zn (X (S ?_ ha))
 refine rR <| qM q q q <| qA q q q <| B <| W fun a ha => ?_
 obtain rfl := L h
 exact ret1 q ha q ⟨q, aZ⟩
theorem w_spec_EndDeeds (w : World) (G : List Res) (A0 : Value) (B0 : LI) (C0 : Has G ty12 A0 B0) (A1 : Value) (B1 : List Int) (C1 : Has G tI A1 B1) (A2 : Value) (B2 : List Int) (C2 : Has G tI A2 B2) (B3 : Int) (A4 : Value) (B4 : LT) (C4 : Has G ty14 A4 B4) (r : (List (Int × Int × Int × Int))) (h : spec_EndDeedsS B0 B1 B2 B3 B4 = some r) (H : Ctx w G) : Calls Tryz.prog 16 #[.agg #[A0, A1, A2, iV B3, A4]] w fun e w' => ∃ (v1 : Value), e = .returned (v1) ∧ Holds M0 w w' [.sl 29 ty10 v1 r] G := by
 have H : Holds M0 w w [] G := zb H
 refine zg (args := [.agg #[A0, A1, A2, iV B3, A4]]) (n := 34) Tryz.func16 q q q ?_
 unfold spec_EndDeedsS at h
 refine C <| Z ?_
 refine WL_box (cs := [A0, A1, A2, iV B3, A4]) H q q q q (fun b1 w2 H3 => ?_)
 refine qA q q q <| B <| C <| Z ?_
 refine zs (t := ty10) (args := []) (xs := ([] : List (Int × Int × Int × Int))) H3 (BltL.nil) u40 j29 q q q q q q (fun v5 w6 H7 => ?_)
 refine qA q q q <| B <| C <| C <| zk ?_
 have ay := R H7.p1
 refine zm (cs := [A0, A1, A2, iV B3, A4]) us27 uo27 il27 ay q q q ?_
 change XL _ _ _ _ _ ((7, .agg #[A0, A1, A2, iV B3, A4]) :: _) _
 obtain ⟨az, aA, h⟩ := D h
 refine QC q q c17 (fun w' hb => w_spec_HouseValid w' _ A0 B0 (C0.c.c) A1 B1 (C1.c.c) A2 B2 (C2.c.c) B3 A4 B4 (C4.c.c) az aA (H7.grow hb).ctx) (by rfl) <| A q (qt_not q) q q <| QL_nil fun a ha aB aC => ?_
 have ae := H7.grow aC
 refine X (S ?_ ha)
 refine Y q (fun ai => ?_) (fun ai => ?_)
 ·have h := if_t ai h
  refine rR <| qM q q q <| qA q q q <| B <| W fun a ha => ?_
  obtain rfl := L h
  have aD := ae.q1
  exact m (ret1 q ha q ⟨v5, q, aD⟩)
 have h := if_f ai h
 refine y <| C <| C <| Z ?_
 have aE := R ae.p1
 refine zm (cs := [A0, A1, A2, iV B3, A4]) us27 uo27 il27 aE q q q ?_
 change XL _ _ _ _ _ ((11, .agg #[A0, A1, A2, iV B3, A4]) :: _) _
 obtain ⟨al, aF, h⟩ := D h
 refine zd q q c49 (w_spec_l7Tickets aB _ A0 B0 (C0.c.c) A1 B1 (C1.c.c) A2 B2 (C2.c.c) B3 A4 B4 (C4.c.c) al aF ae.ctx) (by rfl) ?_
 rintro _ aG ⟨aH, rfl, aI⟩; refine ⟨_, q, ?_⟩
 have am := ae.cN1 [] aI
 obtain ⟨aJ, aK, h⟩ := D h
 refine zd q q c48 (w_spec_WorkLeft aG _ aH al hS0 aJ aK am.ctx) (by rfl) ?_
 rintro _ bi ⟨rfl, aL⟩; refine ⟨_, q, ?_⟩
 have aM := am.cN0 [] aL
 refine qA q q q <| B <| g ?_
 obtain ⟨an, aN, h⟩ := D h
 have aO := aM.q0.p1
 refine fun aP ao => zp (I := fun s a w2 => match s with | (ap, aq) => ∃ af, Fr a 34 [(1, pB b1), (3, af), (4, iV aq)] ∧ Holds M0 w w2 [.bx b1 27 [A0, A1, A2, iV B3, A4], .sl 29 ty10 af ap] G) (O := fun o e a w2 => match o with | q0 => e = .exit 0 ∧ ∃ ad, Fr a 34 [(1, pB b1), (3, ad)] ∧ Holds M0 w w2 [.bx b1 27 [A0, A1, A2, iV B3, A4], .sl 29 ty10 ad q0] G) aN ?_ ?_ ?_
 ·exact ⟨v5, ao.sub ⟨q, q, q, trivial⟩, aO⟩
 ·clear ao
  intro s bj a bk aa aQ
  obtain ⟨ap, aq⟩ := s
  obtain ⟨af, ha, ar⟩ := aQ
  refine S ?_ ha
  clear ha
  refine C <| rR <| qM q q q <| A q (qt_gtr q q) q q <| B ?_
  refine Y q (fun aj => ?_) (fun aj => ?_)
  ·have aa := if_t aj aa
   refine y <| C <| g <| Z <| qM q q q <| A q (qt_build (args := [(0, .const (iV 4))]) (css := [#[iV 4]]) (cells := #[iV 4, iV 0, iV 0, iV 0]) q ⟨q, trivial⟩ (by kernel_rfl)) q q ?_
   refine zs (t := ty10) (args := [.tmp 19]) (xs := ([(4, 0, 0, 0)] : List (Int × Int × Int × Int))) ar (BltL.cons (Blt.pair (Blt.int) (Blt.pair (Blt.int) (Blt.pair (Blt.int) (Blt.int)))) q (BltL.nil)) u40 j29 q q q q q q (fun bl bm aR => ?_)
   have aS := aR.p2
   obtain ⟨bn, aT, aa⟩ := D aa
   refine zw aS hS1 aT u40 j29 q q q q q q (fun aU bo aV => ?_)
   refine qA q q q <| WL_nil fun a ha => ?_
   refine zi (X (S ?_ ha))
   refine Z <| qM q q q <| A q (qt_sub q q) q q <| qA q q q <| WL_nil fun a ha => ?_
   obtain rfl := L aa
   have aW := aV.q1.p1
   exact ⟨q, aU, ha.sub ⟨q, q, q, trivial⟩, aW⟩
  have aa := if_f aj aa
  refine WP_exit fun a ha => ?_
  obtain rfl := L aa
  have aX := ar.p1.p1
  exact zo (⟨exit_ne, q, af, ha.sub ⟨q, q, trivial⟩, aX⟩)
 intro e aP bp aY
 obtain ⟨bq, rfl⟩ : ∃ z, z = an := ⟨an, q⟩
 obtain ⟨rfl, aZ⟩ := aY
 obtain ⟨a0, ha, a1⟩ := aZ
 refine zn (X (S ?_ ha))
 refine C <| rR <| qA q q q <| B <| g ?_
 obtain ⟨au, a2, h⟩ := D h
 have a3 := a1.p1.p1
 refine fun a4 av => zp (I := fun s a w2 => match s with | (aw, ax) => ∃ ag, Fr a 34 [(1, pB b1), (3, ag), (5, iV ax)] ∧ Holds M0 w w2 [.bx b1 27 [A0, A1, A2, iV B3, A4], .sl 29 ty10 ag aw] G) (O := fun o e a w2 => match o with | q0 => e = .exit 2 ∧ ∃ ad, Fr a 34 [(3, ad)] ∧ Holds M0 w w2 [.sl 29 ty10 ad q0] G) a2 ?_ ?_ ?_
 ·exact ⟨a0, av.sub ⟨q, q, q, trivial⟩, a3⟩
 ·clear av
  intro s br a bs ab a5
  obtain ⟨aw, ax⟩ := s
  obtain ⟨ag, ha, ah⟩ := a5
  refine S ?_ ha
  clear ha
  refine C <| rR <| qM q q q <| qF uf27 fi27_4 nz25 q q q ?_
  have a6 := R ah.p0
  refine l u25 q a6 q q q q <| za ah.ctx (t := ty14) (C4.c.c) u25 q q q <| A q (qt_lss q q) q q <| B ?_
  refine Y q (fun ak => ?_) (fun ak => ?_)
  ·have ab := if_t ak ab
   refine y <| C <| g <| Z <| qM q q q <| A q (qt_build (args := [(0, .const (iV 5))]) (css := [#[iV 5]]) (cells := #[iV 5, iV 0, iV 0, iV 0]) q ⟨q, trivial⟩ (by kernel_rfl)) q q ?_
   refine zs (t := ty10) (args := [.tmp 30]) (xs := ([(5, 0, 0, 0)] : List (Int × Int × Int × Int))) ah (BltL.cons (Blt.pair (Blt.int) (Blt.pair (Blt.int) (Blt.pair (Blt.int) (Blt.int)))) q (BltL.nil)) u40 j29 q q q q q q (fun bt bu a7 => ?_)
   have a8 := a7.p2
   obtain ⟨bv, a9, ab⟩ := D ab
   refine zw a8 hS1 a9 u40 j29 q q q q q q (fun ba bw bb => ?_)
   refine qA q q q <| WL_nil fun a ha => ?_
   refine zi (X (S ?_ ha))
   refine Z <| qM q q q <| A q (qt_add q q) q q <| qA q q q <| WL_nil fun a ha => ?_
   obtain rfl := L ab
   have bc := bb.q1.p1
   exact ⟨q, ba, ha.sub ⟨q, q, q, trivial⟩, bc⟩
  have ab := if_f ak ab
  refine WP_exit fun a ha => ?_
  obtain rfl := L ab
  have bd := ah.q0
  exact zo (⟨exit_ne, q, ag, ha.sub ⟨q, trivial⟩, bd⟩)
 intro e a4 bz be
 obtain ⟨bA, rfl⟩ : ∃ z, z = au := ⟨au, q⟩
 obtain ⟨rfl, bf⟩ := be
 obtain ⟨bg, ha, bh⟩ := bf
 refine zn (X (S ?_ ha))
 refine rR <| qM q q q <| qA q q q <| B <| W fun a ha => ?_
 obtain rfl := L h
 exact ret1 q ha q ⟨bg, q, bh⟩
theorem w_laws_sameDeeds (w : World) (G : List Res) (vp0 : Value) (p0 : List (Int × Int × Int × Int)) (hp0 : Has G ty10 vp0 p0) (vp1 : Value) (p1 : List (Int × Int × Int × Int)) (hp1 : Has G ty10 vp1 p1) (r : Bool) (h : laws_sameDeedsS p0 p1 = some r) (H : Ctx w G) : Calls Tryz.prog 15 #[vp0, vp1] w fun e w' => e = .returned (.bool r) ∧ Holds M0 w w' [] G := by
 have H : Holds M0 w w [] G := zb H
 refine zg (args := [vp0, vp1]) (n := 26) Tryz.func15 q q q ?_
 unfold laws_sameDeedsS at h
 refine rR <| qA q q q <| B <| C <| rR <| qM q q q <| za H.ctx (t := ty10) (hp0) u40 q q q <| qM q q q ?_
 refine za H.ctx (t := ty10) (hp1) u40 q q q <| A q (qt_neq q q) q q <| B ?_
 refine Y q (fun af => ?_) (fun af => ?_)
 ·have h := if_t af h
  refine rR <| qA q q q <| B <| W fun a ha => ?_
  obtain rfl := L h
  exact m (ret1 q ha q ⟨q, H⟩)
 have h := if_f af h
 refine y <| C <| rR <| qA q q q <| B <| g ?_
 obtain ⟨o3, an, h⟩ := D h
 refine fun a5 ai => zp (I := fun s a w2 => match s with | s2 => (Fr a 26 [(0, vp0), (1, vp1), (5, iV s2)] ∧ Holds M0 w w2 [] G)) (O := fun o e a w2 => match o with | .inl _ => e = .exit 0 ∧ (Fr a 26 [] ∧ Holds M0 w w2 [] G) | .inr q0 => e = .ret ∧ (Fr a 26 [(4, .bool q0)] ∧ Holds M0 w w2 [] G)) an ?_ ?_ ?_
 ·exact ⟨ai.sub ⟨q, q, q, trivial⟩, H⟩
 ·clear ai
  intro s o9 a w7 aa ao
  obtain ⟨s2, rfl⟩ : ∃ z, z = s := ⟨s, q⟩
  obtain ⟨ha, ae⟩ := ao
  refine S ?_ ha
  clear ha
  refine C <| rR <| qM q q q <| qM q q q <| za ae.ctx (t := ty10) (hp0) u40 q q q <| A q (qt_lss q q) q q <| B ?_
  refine Y q (fun ag => ?_) (fun ag => ?_)
  ·have aa := if_t ag aa
   refine y <| C <| g <| C <| WP_quiet (by kernel_rfl) (by kernel_rfl) <| qM q q q <| qM q q q ?_
   obtain ⟨ab, aj, aa⟩ := D aa
   refine b ae.ctx (hp0) aj u40 i29 q q q q (fun aO aP aQ ap => ?_)
   obtain ⟨aR, aq, aS⟩ := ae.atN (hp0) aj ap
   refine XL_load_agg (t := ty10) us29 uo29 i29 aq q q q (fun aT ar => ?_)
   obtain ⟨c24, c25, aU, aV, rfl, aW, au, av⟩ := ar
   obtain ⟨rfl, _⟩ := au
   obtain ⟨c31, c32, aX, aY, rfl, aZ, aw, ax⟩ := av
   obtain ⟨rfl, _⟩ := aw
   obtain ⟨c38, c39, a0, a1, rfl, a2, ay, az⟩ := ax
   obtain ⟨rfl, _⟩ := ay
   obtain ⟨rfl, _⟩ := az
   change XL _ _ _ _ _ ((20, .agg #[iV ab.1, iV ab.2.1, iV ab.2.2.1, iV ab.2.2.2]) :: _) _
   refine qM q q q <| qM q q q ?_
   obtain ⟨ad, ak, aa⟩ := D aa
   refine b ae.ctx (hp1) ak u40 i29 q q q q (fun a3 a4 a6 aA => ?_)
   obtain ⟨a7, aB, a8⟩ := ae.atN (hp1) ak aA
   refine XL_load_agg (t := ty10) us29 uo29 i29 aB q q q (fun a9 aC => ?_)
   obtain ⟨c56, c57, ba, bb, rfl, bc, aD, aE⟩ := aC
   obtain ⟨rfl, _⟩ := aD
   obtain ⟨c63, c64, bd, be, rfl, bf, aF, aG⟩ := aE
   obtain ⟨rfl, _⟩ := aF
   obtain ⟨c70, c71, bg, bh, rfl, bi, aH, aI⟩ := aG
   obtain ⟨rfl, _⟩ := aH
   obtain ⟨rfl, _⟩ := aI
   change XL _ _ _ _ _ ((24, .agg #[iV ad.1, iV ad.2.1, iV ad.2.2.1, iV ad.2.2.2]) :: _) _
   refine A q (qt_neqA q q (by kernel_rfl) (eqs29 ab.1 ad.1 ab.2.1 ad.2.1 ab.2.2.1 ad.2.2.1 ab.2.2.2 ad.2.2.2)) q q <| QL_nil fun a ha bj aJ => ?_
   have al := ae.grow aJ
   refine X (S ?_ ha)
   refine Y q (fun ah => ?_) (fun ah => ?_)
   ·have aa := if_t ah aa
    refine rR <| qA q q q <| B <| W fun a ha => ?_
    obtain rfl := L aa
    exact zj (m (⟨ret_ne, q, ha.sub ⟨q, trivial⟩, al⟩))
   have aa := if_f ah aa
   refine WP_skip fun a ha => ?_
   refine zi (X (S ?_ ha))
   refine Z <| qM q q q <| A q (qt_add q q) q q <| qA q q q <| WL_nil fun a ha => ?_
   obtain rfl := L aa
   exact ⟨q, ha.sub ⟨q, q, q, trivial⟩, al⟩
  have aa := if_f ag aa
  refine WP_exit fun a ha => ?_
  obtain rfl := L aa
  exact zo (⟨exit_ne, q, ha.sub trivial, ae⟩)
 intro e a5 bk am
 rcases o3 with o3 | o3
 ·skip
  obtain ⟨rfl, aK⟩ := am
  obtain ⟨ha, aL⟩ := aK
  refine zn (X (S ?_ ha))
  refine rR <| qA q q q <| B <| W fun a ha => ?_
  obtain rfl := L h
  exact ret1 q ha q ⟨q, aL⟩
 skip
 obtain ⟨bl, rfl⟩ : ∃ z, z = o3 := ⟨o3, q⟩
 obtain ⟨rfl, aM⟩ := am
 obtain ⟨ha, aN⟩ := aM
 obtain rfl := L h
 exact zj (m (ret1 q ha q ⟨q, aN⟩))
theorem w_impl_HouseRun (w : World) (G : List Res) (hGl : Glob G) (A0 : Value) (B0 : LI) (C0 : Has G ty12 A0 B0) (A1 : Value) (B1 : List Int) (C1 : Has G tI A1 B1) (A2 : Value) (B2 : List Int) (C2 : Has G tI A2 B2) (B3 : Int) (A4 : Value) (B4 : LT) (C4 : Has G ty14 A4 B4) (vp1 : Value) (p1 : List (Int × Int × Int × Int)) (hp1 : Has G ty10 vp1 p1) (r : (LI × (List Int) × (List Int) × Int × LT) × Int) (h : impl_HouseRunS B0 B1 B2 B3 B4 p1 = some r) (H : Ctx w G) : Calls Tryz.prog 18 #[.agg #[A0, A1, A2, iV B3, A4], vp1] w fun e w' => ∃ (v1 : Value) (csv1 : List Value) (Fv1 : List Nat) (v4 : Value) (v5 : Value) (v6 : Value) (csv6 : List Value) (Fv6 : List Nat), e = .returned (.tuple #[.agg #[v1, v4, v5, iV r.1.2.2.2.1, v6], iV r.2]) ∧ Holds M0 w w' [dpR 55 dt15 v1 csv1 r.1.1 Fv1, .sl 3 tI v4 r.1.2.1, .sl 3 tI v5 r.1.2.2.1, dpR 47 dt16 v6 csv6 r.1.2.2.2.2 Fv6] G := by
 have H : Holds M0 w w [] G := zb H
 refine zg (args := [.agg #[A0, A1, A2, iV B3, A4], vp1]) (n := 37) Tryz.func18 q q q ?_
 unfold impl_HouseRunS at h
 refine C <| Z ?_
 refine WL_box (cs := [A0, A1, A2, iV B3, A4]) H q q q q (fun b1 w2 H3 => ?_)
 refine zq (cs := [nS, nS, nS, iV 0, nS]) H3 z27 q q q (fun b5 w6 H7 => ?_)
 refine qA q q q <| B <| C <| C <| zk ?_
 have bd := R H7.p1
 refine zm (cs := [A0, A1, A2, iV B3, A4]) us27 uo27 il27 bd q q q ?_
 change XL _ _ _ _ _ ((12, .agg #[A0, A1, A2, iV B3, A4]) :: _) _
 obtain ⟨be, bf, h⟩ := D h
 refine QC q q c10 (fun w' hb => w_impl_HouseValid w' _ A0 B0 (C0.c.c) A1 B1 (C1.c.c) A2 B2 (C2.c.c) B3 A4 B4 (C4.c.c) be bf (H7.grow hb).ctx) (by rfl) <| A q (qt_not q) q q <| QL_nil fun a ha bg bh => ?_
 have ar := H7.grow bh
 refine X (S ?_ ha)
 refine Y q (fun aC => ?_) (fun aC => ?_)
 ·have h := if_t aC h
  refine rR <| A q (qt_build (args := []) (css := []) (cells := #[nS, nS, nS, iV 0, nS]) q trivial (by kernel_rfl)) q q ?_
  refine zl (cs' := [nS, nS, nS, iV 0, nS]) ar q il27 q q q q q (fun ch aO => ?_)
  refine qA q q q <| B <| W fun a ha => ?_
  obtain rfl := L h
  have bi := R aO.p0
  have bj := aO.nD 55 dt15
  have bk := bj.nS 3 tI
  have bl := bk.nS 3 tI
  have bm := bl.nD 47 dt16
  have bn := bm.q4.q4.p1.p2.p3
  exact m (retct q ha q q (run_loadVar_bx (cs := [nS, nS, nS, iV 0, nS]) us27 uo27 il27 bi) ⟨(nS), [], [], (nS), (nS), (nS), [], [], q, bn⟩)
 have h := if_f aC h
 refine y <| C <| Z ?_
 have bo := R ar.p1
 refine zm (cs := [A0, A1, A2, iV B3, A4]) us27 uo27 il27 bo q q q ?_
 change XL _ _ _ _ _ ((16, .agg #[A0, A1, A2, iV B3, A4]) :: _) _
 obtain ⟨aP, bp, h⟩ := D h
 refine zd q q c27 (w_impl_copyHouse bg _ A0 B0 (C0.c.c) A1 B1 (C1.c.c) A2 B2 (C2.c.c) B3 A4 B4 (C4.c.c) aP bp ar.ctx) (by rfl) ?_
 rintro _ ci ⟨aQ, bq, br, aR, aS, aT, bs, bt, rfl, bu⟩; refine ⟨_, q, ?_⟩
 have bv := ar.cN4 [] bu
 refine zq (cs := [nS, nS, nS, iV 0, nS]) bv z27 q q q (fun au cj aU => ?_)
 have av := aU.viewG (Vw.c (Vw.d (Vw.c (Vw.c (Vw.d (Vw.c (Vw.c Vw.refl)))))))
 refine zl (cs' := [aQ, aR, aS, iV aP.2.2.2.1, aT]) aU q il27 q (T (av.sliceOne hR1) (T (av.sliceOne hS2) (T (av.sliceOne hS3) (T q (T (av.sliceOne hR4) q))))) q q q (fun ck aV => ?_)
 refine rN <| qA q q q <| B <| C <| rR <| qM q q q ?_
 have bw := aV.viewG (Vw.c (Vw.d (Vw.c (Vw.c (Vw.d (Vw.c (Vw.c Vw.refl)))))))
 refine za bw (t := ty10) (hp1.c.c.c.c.c.c.c) u40 q q q <| qM q q q <| B <| g ?_
 obtain ⟨bz, bA, h⟩ := D h
 have bB := aV.q6.p4.p4.p4.p4.p4.p5
 refine fun bC aW => zp (I := fun s a w2 => match s with | (aX, aY, aD, aE, aF, al, aG) => ∃ ad aH aI ae af ag aJ aK, Fr a 37 [(4, pB b5), (6, pB au), (7, iV aX), (18, vp1), (19, iV (List.length p1 : Int)), (20, iV aY)] ∧ Holds M0 w w2 [.bx b5 27 [nS, nS, nS, iV 0, nS], .bx au 27 [ad, ae, af, iV al, ag], dpR 55 dt15 ad aH aD aI, .sl 3 tI ae aE, .sl 3 tI af aF, dpR 47 dt16 ag aJ aG aK] G) (O := fun o e a w2 => match o with | (q0, q1, q2, q3, q4, q5) => e = .exit 0 ∧ ∃ aZ bD bE a0 a1 a2 bF bG, Fr a 37 [(4, pB b5), (6, pB au), (7, iV q0)] ∧ Holds M0 w w2 [.bx b5 27 [nS, nS, nS, iV 0, nS], .bx au 27 [aZ, a0, a1, iV q4, a2], dpR 55 dt15 aZ bD q1 bE, .sl 3 tI a0 q2, .sl 3 tI a1 q3, dpR 47 dt16 a2 bF q5 bG] G) bA ?_ ?_ ?_
 ·exact ⟨aQ, bq, br, aR, aS, aT, bs, bt, aW.sub ⟨q, q, q, q, q, q, trivial⟩, bB⟩
 ·clear aW
  intro s cl a cm ab bH
  obtain ⟨aX, aY, aD, aE, aF, al, aG⟩ := s
  obtain ⟨ad, aH, aI, ae, af, ag, aJ, aK, ha, aw⟩ := bH
  refine S ?_ ha
  clear ha
  refine rR <| A q (qt_lss q q) q q <| B <| C ?_
  refine Y q (fun aL => ?_) (fun aL => ?_)
  ·have ab := if_t aL ab
   refine y <| C <| g <| C <| Z ?_
   obtain ⟨aa, a3, ab⟩ := D ab
   have bI := aw.viewG (Vw.c (Vw.c (Vw.d (Vw.c (Vw.c (Vw.d Vw.refl))))))
   refine b bI (hp1.c.c.c.c.c.c) a3 u40 i29 q q q q (fun cn co cp bJ => ?_)
   obtain ⟨cq, bK, cr⟩ := aw.atN (hp1.c.c.c.c.c.c) a3 bJ
   refine XL_load_agg (t := ty10) us29 uo29 i29 bK q q q (fun ct bL => ?_)
   obtain ⟨c78, cu, cv, cw, rfl, cx, bM, bN⟩ := bL
   obtain ⟨rfl, _⟩ := bM
   obtain ⟨c85, c86, cy, cz, rfl, cA, bO, bP⟩ := bN
   obtain ⟨rfl, _⟩ := bO
   obtain ⟨c92, c93, cB, cC, rfl, cD, bQ, bR⟩ := bP
   obtain ⟨rfl, _⟩ := bQ
   obtain ⟨rfl, _⟩ := bR
   change XL _ _ _ _ _ ((23, .agg #[iV aa.1, iV aa.2.1, iV aa.2.2.1, iV aa.2.2.2]) :: _) _
   refine zq (cs := [iV 0, iV 0, iV 0, iV 0]) aw z29 q q q (fun cE cF bS => ?_)
   refine zl (cs' := [iV aa.1, iV aa.2.1, iV aa.2.2.1, iV aa.2.2.2]) bS q il29 q q q q q (fun bT ax => ?_)
   refine B <| C <| Z ?_
   have bU := R ax.p2
   refine zm (cs := [ad, ae, af, iV al, ag]) us27 uo27 il27 bU q q q ?_
   change XL _ _ _ _ _ ((25, .agg #[ad, ae, af, iV al, ag]) :: _) _
   have bV := R ax.p0
   refine zm (cs := [iV aa.1, iV aa.2.1, iV aa.2.2.1, iV aa.2.2.2]) us29 uo29 il29 bV q q q ?_
   change XL _ _ _ _ _ ((26, .agg #[iV aa.1, iV aa.2.1, iV aa.2.2.1, iV aa.2.2.2]) :: _) _
   obtain ⟨am, bW, ab⟩ := D ab
   have bX := ax.viewG (Vw.c (Vw.c (Vw.c (Vw.d (Vw.c (Vw.c (Vw.d Vw.refl)))))))
   refine zd q q c7 (w_impl_HouseDo bT _ hGl.c.c.c.c.c.c.c ad aD hR3 ae aE hS4 af aF hS5 al ag aG hR6 aa.1 aa.2.1 aa.2.2.1 aa.2.2.2 am bW bX) (by rfl) ?_
   rintro _ cG ⟨ah, a4, a5, ai, aj, ak, a6, a7, rfl, bY⟩; refine ⟨_, q, ?_⟩
   have bZ := ax.cV4 [] bY (zc Pure.dp (zc (Pure.sl q) (zc (Pure.sl q) (zc Pure.dp all_nil))))
   refine qM q q q <| A q (zv q q) q q <| A q (zv q q) q q ?_
   refine zq (cs := [nS, nS, nS, iV 0, nS]) bZ z27 q q q (fun cH cI a8 => ?_)
   have ay := a8.viewG (Vw.c (Vw.d (Vw.c (Vw.c (Vw.d (Vw.c (Vw.c (Vw.c (Vw.d (Vw.c (Vw.c (Vw.d Vw.refl))))))))))))
   refine zl (cs' := [ah, ai, aj, iV am.1.2.2.2.1, ak]) a8 q il27 q (T (ay.sliceOne hR1) (T (ay.sliceOne hS2) (T (ay.sliceOne hS3) (T q (T (ay.sliceOne hR4) q))))) q q q (fun cJ a9 => ?_)
   refine qA q q q <| B <| C <| Z ?_
   have b0 := R a9.p0
   refine zm (cs := [ah, ai, aj, iV am.1.2.2.2.1, ak]) us27 uo27 il27 b0 q q q ?_
   change XL _ _ _ _ _ ((30, .agg #[ah, ai, aj, iV am.1.2.2.2.1, ak]) :: _) _
   have ba := a9.p7
   have az := ba.viewG (Vw.c (Vw.c (Vw.d (Vw.c (Vw.c (Vw.d (Vw.c (Vw.c (Vw.d (Vw.c (Vw.c (Vw.d Vw.refl))))))))))))
   refine zl (cs' := [ah, ai, aj, iV am.1.2.2.2.1, ak]) ba q il27 q (T (az.sliceOne hR2) (T (az.sliceOne hS3) (T (az.sliceOne hS4) (T q (T (az.sliceOne hR5) q))))) q q q (fun cK bb => ?_)
   refine rN <| qM q q q <| B ?_
   refine Y q (fun aM => ?_) (fun aM => ?_)
   ·have ab := if_t aM ab
    refine Z <| qM q q q <| A q (qt_add q q) q q <| qA q q q <| WL_nil fun a ha => ?_
    refine zi (X (S ?_ ha))
    refine Z <| A q (qt_add q q) q q <| qM q q q <| WL_nil fun a ha => ?_
    obtain rfl := L ab
    have b4 := bb.q1.q5.q6.q6.q6.q6.p4.p4.p4.p4.p4.p5
    exact ⟨q, ah, a4, a5, ai, aj, ak, a6, a7, ha.sub ⟨q, q, q, q, q, q, trivial⟩, b4⟩
   have ab := if_f aM ab
   refine WP_skip fun a ha => ?_
   refine zi (X (S ?_ ha))
   refine Z <| A q (qt_add q q) q q <| qM q q q <| WL_nil fun a ha => ?_
   obtain rfl := L ab
   have b6 := bb.q1.q5.q6.q6.q6.q6.p4.p4.p4.p4.p4.p5
   exact ⟨q, ah, a4, a5, ai, aj, ak, a6, a7, ha.sub ⟨q, q, q, q, q, q, trivial⟩, b6⟩
  have ab := if_f aL ab
  refine WP_exit fun a ha => ?_
  obtain rfl := L ab
  have b7 := aw.p5.p5.p5.p5.p5.p5
  exact zo (⟨exit_ne, q, ad, aH, aI, ae, af, ag, aJ, aK, ha.sub ⟨q, q, q, trivial⟩, b7⟩)
 intro e bC cL b8
 obtain ⟨cM, cN, cO, cP, aA, cQ⟩ := bz
 obtain ⟨rfl, b9⟩ := b8
 obtain ⟨an, ca, cb, ao, ap, aq, cc, cd, ha, aN⟩ := b9
 refine zn (X (S ?_ ha))
 refine C <| Z ?_
 have ce := R aN.p1
 refine zm (cs := [an, ao, ap, iV aA, aq]) us27 uo27 il27 ce q q q ?_
 change XL _ _ _ _ _ ((35, .agg #[an, ao, ap, iV aA, aq]) :: _) _
 refine qM q q q ?_
 have aB := aN.viewG (Vw.c (Vw.c (Vw.d (Vw.c (Vw.c (Vw.d Vw.refl))))))
 refine zl (cs' := [an, ao, ap, iV aA, aq]) aN q il27 q (T (aB.sliceOne hR2) (T (aB.sliceOne hS3) (T (aB.sliceOne hS4) (T q (T (aB.sliceOne hR5) q))))) q q q (fun cR bc => ?_)
 refine qA q q q <| B <| W fun a ha => ?_
 obtain rfl := L h
 have cf := R bc.p0
 have cg := bc.q0.q0.p3.p3.p3.p3
 exact retct q ha q q (run_loadVar_bx (cs := [an, ao, ap, iV aA, aq]) us27 uo27 il27 cf) ⟨an, ca, cb, ao, ap, aq, cc, cd, q, cg⟩
theorem w_laws_FnEndDeeds (w : World) (G : List Res) (hGl : Glob G) (vp0 : Value) (p0 : List Int) (hp0 : HasRo G (.int .u8) vp0 p0) (r : Bool) (h : laws_FnEndDeedsS p0 = some r) (H : Ctx w G) : Calls Tryz.prog 4 #[vp0] w fun e w' => e = .returned (.bool r) ∧ Holds M0 w w' [] G := by
 have H : Holds M0 w w [] G := zb H
 refine zg (args := [vp0]) (n := 110) Tryz.func4 q q q ?_
 unfold laws_FnEndDeedsS at h
 refine rR <| qA q q q <| B <| C <| rR <| qM q q q <| za H.ctx (t := (.int .u8)) (hp0.has) u22 q q q <| A q (qt_gtr q q) q q ?_
 refine B ?_
 refine Y q (fun aL => ?_) (fun aL => ?_)
 ·have h := if_t aL h
  refine rR <| qA q q q <| B <| W fun a ha => ?_
  obtain rfl := L h
  exact m (ret1 q ha q ⟨q, H⟩)
 have h := if_f aL h
 refine y <| rR <| qM q q q ?_
 obtain ⟨x2, bm, h⟩ := D h
 refine zd q q c13 (w_spec_DrawEndDeeds w G vp0 p0 (hp0) x2 bm H.ctx) (by rfl) ?_
 rintro _ w4 ⟨v6, v7, v8, v9, rfl, H5⟩; refine ⟨_, q, ?_⟩
 have bn := H.cN4 [] H5
 refine zq (cs := [nS, nS, nS, iV 0, nS]) bn z27 q q q (fun al dd aD => ?_)
 refine zl (cs' := [v6, v7, v8, iV x2.2.2.2.1, v9]) aD q il27 q (T (aD.ctx.sliceOne hS1) (T (aD.ctx.sliceOne hS2) (T (aD.ctx.sliceOne hS3) (T q (T (aD.ctx.sliceOne hS4) q))))) q q q (fun bo aM => ?_)
 refine B <| C <| Z ?_
 have bp := R aM.p0
 refine zm (cs := [v6, v7, v8, iV x2.2.2.2.1, v9]) us27 uo27 il27 bp q q q ?_
 change XL _ _ _ _ _ ((15, .agg #[v6, v7, v8, iV x2.2.2.2.1, v9]) :: _) _
 obtain ⟨af, bq, h⟩ := D h
 refine zd q q c14 (w_impl_EndDeeds bo _ v6 x2.1 hS1 v7 x2.2.1 hS2 v8 x2.2.2.1 hS3 x2.2.2.2.1 v9 x2.2.2.2.2 hS4 af bq aM.ctx) (by rfl) ?_
 rintro _ br ⟨aj, rfl, bs⟩; refine ⟨_, q, ?_⟩
 have aN := aM.cN1 [] bs
 refine qA q q q <| B <| C <| rR <| qM q q q ?_
 have bt := R aN.p1
 refine zm (cs := [v6, v7, v8, iV x2.2.2.2.1, v9]) us27 uo27 il27 bt q q q ?_
 change XL _ _ _ _ _ ((18, .agg #[v6, v7, v8, iV x2.2.2.2.1, v9]) :: _) _
 obtain ⟨aY, bu, h⟩ := D h
 refine zd q q c16 (w_spec_EndDeeds br _ v6 x2.1 hS2 v7 x2.2.1 hS3 v8 x2.2.2.1 hS4 x2.2.2.2.1 v9 x2.2.2.2.2 hS5 aY bu aN.ctx) (by rfl) ?_
 rintro _ bv ⟨bw, rfl, bz⟩; refine ⟨_, q, ?_⟩
 have aZ := aN.cN1 [] bz
 obtain ⟨bA, bB, h⟩ := D h
 refine zd q q c15 (w_laws_sameDeeds bv _ aj af hS1 bw aY hS0 bA bB aZ.ctx) (by rfl) ?_
 rintro _ de ⟨rfl, bC⟩; refine ⟨_, q, ?_⟩
 have aE := aZ.cN0 [] bC
 refine A q (qt_not q) q q <| B ?_
 refine Y q (fun aO => ?_) (fun aO => ?_)
 ·have h := if_t aO h
  refine rR <| qA q q q <| B <| W fun a ha => ?_
  obtain rfl := L h
  have bD := aE.q0.q0.q0.q0.q0.q0.q0
  exact m (ret1 q ha q ⟨q, bD⟩)
 have h := if_f aO h
 refine y <| C <| C <| zk ?_
 have bE := R aE.p2
 refine zm (cs := [v6, v7, v8, iV x2.2.2.2.1, v9]) us27 uo27 il27 bE q q q ?_
 change XL _ _ _ _ _ ((22, .agg #[v6, v7, v8, iV x2.2.2.2.1, v9]) :: _) _
 obtain ⟨bF, bG, h⟩ := D h
 refine QC q q c17 (fun w' hb => w_spec_HouseValid w' _ v6 x2.1 hS3 v7 x2.2.1 hS4 v8 x2.2.2.1 hS5 x2.2.2.2.1 v9 x2.2.2.2.2 hS6 bF bG (aE.grow hb).ctx) (by rfl) <| A q (qt_not q) q q <| QL_nil fun a ha bH bI => ?_
 have ay := aE.grow bI
 refine X (S ?_ ha)
 refine Y q (fun aP => ?_) (fun aP => ?_)
 ·have h := if_t aP h
  refine C <| zk <| qM q q q <| za ay.ctx (t := ty10) hS1 u40 q q q <| A q (qt_eql q q) q q <| qM q q q ?_
  obtain ⟨bJ, az, h⟩ := D h
  refine zh 2 30 (.bool bJ) ?_ (fun md hmd hk => ?_)
  rotate_left
  ·obtain ⟨K, rfl⟩ := zr hmd
   rcases btf ((List.length af : Int) == 0) with aw | aw
   ·skip
    have az := if_t aw az
    obtain ⟨bK, bL, az⟩ := D az
    refine QC (J q aw) q c11 (fun w' hb => w_laws_alive w' _  bK bL (ay.grow hb).ctx) (by rfl) <| A q (ze q aw q) q q ?_
    exact hk _ (p (vb az) (Cov.fresh q (u)))
   skip
   refine qS q aw q q <| A q (zf q aw q) q q ?_
   exact hk _ (p (vb (if_f aw az)) (Cov.fresh q (u)))
  refine qA q q q <| QL_nil fun a ha df bM => ?_
  have bN := ay.grow bM
  refine X (S ?_ ha)
  refine W fun a ha => ?_
  obtain rfl := L h
  have bO := bN.q0.q0.q0.q0.q0.q0.q0
  exact m (ret1 q ha q ⟨q, bO⟩)
 have h := if_f aP h
 refine y <| C <| Z ?_
 have bP := R ay.p2
 refine zm (cs := [v6, v7, v8, iV x2.2.2.2.1, v9]) us27 uo27 il27 bP q q q ?_
 change XL _ _ _ _ _ ((32, .agg #[v6, v7, v8, iV x2.2.2.2.1, v9]) :: _) _
 refine qM q q q ?_
 obtain ⟨aa, bQ, h⟩ := D h
 refine zd q q c18 (w_impl_HouseRun bH _ hGl.c.c.c.c.c.c.c v6 x2.1 hS3 v7 x2.2.1 hS4 v8 x2.2.2.1 hS5 x2.2.2.2.1 v9 x2.2.2.2.2 hS6 aj af hS1 aa bQ ay.ctx) (by rfl) ?_
 rintro _ dg ⟨ag, ap, aq, ah, ae, ai, ar, au, rfl, bR⟩; refine ⟨_, q, ?_⟩
 have bS := ay.cN4 [] bR
 refine qM q q q <| A q (zv q q) q q <| A q (zv q q) q q ?_
 refine zq (cs := [nS, nS, nS, iV 0, nS]) bS z27 q q q (fun am dh a0 => ?_)
 have aF := a0.viewG (Vw.c (Vw.d (Vw.c (Vw.c (Vw.d (Vw.c (Vw.c (Vw.c (Vw.c (Vw.c (Vw.c (Vw.c Vw.refl))))))))))))
 refine zl (cs' := [ag, ah, ae, iV aa.1.2.2.2.1, ai]) a0 q il27 q (T (aF.sliceOne hR1) (T (aF.sliceOne hS2) (T (aF.sliceOne hS3) (T q (T (aF.sliceOne hR4) q))))) q q q (fun di a1 => ?_)
 refine qA q q q <| rN <| qF uf27 fi27_3 nz3 q q q ?_
 have bT := R a1.p7
 refine l u3 q bT q q q q <| qA q q q <| B <| C <| rR <| qA q q q <| B ?_
 obtain ⟨a2, aQ, h⟩ := D h
 obtain ⟨aG, rfl⟩ : ∃ z, z = a2 := ⟨a2, q⟩
 refine WP_join (M := fun a w2 => (Fr a 110 [(3, pB al), (4, aj), (5, pB am), (6, iV aa.2), (7, iV aG)] ∧ Holds M0 w w2 [.bx al 27 [v6, v7, v8, iV x2.2.2.2.1, v9], .sl 55 ty12 v6 x2.1, .sl 3 tI v7 x2.2.1, .sl 3 tI v8 x2.2.2.1, .sl 47 ty14 v9 x2.2.2.2.2, .sl 29 ty10 aj af, .bx am 27 [ag, ah, ae, iV aa.1.2.2.2.1, ai], dpR 55 dt15 ag ap aa.1.1 aq, .sl 3 tI ah aa.1.2.1, .sl 3 tI ae aa.1.2.2.1, dpR 47 dt16 ai ar aa.1.2.2.2.2 au] G)) ?_ ?_
 ·refine g ?_
  obtain ⟨a3, bU, aQ⟩ := D aQ
  have bV := a1.q5.p4.p4.p4.p4.p4.p5.p10.p10.p10.p10.p10
  refine fun bW a4 => zp (I := fun s a w2 => match s with | (a5, aH) => (Fr a 110 [(3, pB al), (4, aj), (5, pB am), (6, iV aa.2), (7, iV a5), (8, iV aH)] ∧ Holds M0 w w2 [.bx al 27 [v6, v7, v8, iV x2.2.2.2.1, v9], .sl 55 ty12 v6 x2.1, .sl 3 tI v7 x2.2.1, .sl 3 tI v8 x2.2.2.1, .sl 47 ty14 v9 x2.2.2.2.2, .sl 29 ty10 aj af, .bx am 27 [ag, ah, ae, iV aa.1.2.2.2.1, ai], dpR 55 dt15 ag ap aa.1.1 aq, .sl 3 tI ah aa.1.2.1, .sl 3 tI ae aa.1.2.2.1, dpR 47 dt16 ai ar aa.1.2.2.2.2 au] G)) (O := fun o e a w2 => match o with | q0 => e = .exit 0 ∧ (Fr a 110 [(3, pB al), (4, aj), (5, pB am), (6, iV aa.2), (7, iV q0)] ∧ Holds M0 w w2 [.bx al 27 [v6, v7, v8, iV x2.2.2.2.1, v9], .sl 55 ty12 v6 x2.1, .sl 3 tI v7 x2.2.1, .sl 3 tI v8 x2.2.2.1, .sl 47 ty14 v9 x2.2.2.2.2, .sl 29 ty10 aj af, .bx am 27 [ag, ah, ae, iV aa.1.2.2.2.1, ai], dpR 55 dt15 ag ap aa.1.1 aq, .sl 3 tI ah aa.1.2.1, .sl 3 tI ae aa.1.2.2.1, dpR 47 dt16 ai ar aa.1.2.2.2.2 au] G)) bU ?_ ?_ ?_
  ·exact ⟨a4.sub ⟨q, q, q, q, q, q, trivial⟩, bV⟩
  ·clear a4
   intro s dj a dk av bX
   obtain ⟨a5, aH⟩ := s
   obtain ⟨ha, aI⟩ := bX
   refine S ?_ ha
   clear ha
   refine C <| rR <| qM q q q <| qF uf27 fi27_4 nz25 q q q ?_
   have bY := R aI.p0
   refine l u25 q bY q q q q ?_
   have bZ := aI.viewG (Vw.c (Vw.c (Vw.c (Vw.c (Vw.c (Vw.c (Vw.c (Vw.d (Vw.c (Vw.c (Vw.d Vw.refl)))))))))))
   refine za bZ (t := ty14) hS4 u25 q q q <| A q (qt_lss q q) q q <| B ?_
   refine Y q (fun aR => ?_) (fun aR => ?_)
   ·have av := if_t aR av
    refine y <| C <| g <| rR <| qA q q q <| B <| g ?_
    obtain ⟨a6, b0, av⟩ := D av
    have b4 := aI.p10.p10.p10.p10.p10.p10.p10.p10.p10.p10.p10
    refine fun b5 a7 => zp (I := fun s a w2 => match s with | (a8, a9) => (Fr a 110 [(3, pB al), (4, aj), (5, pB am), (6, iV aa.2), (7, iV a8), (8, iV aH), (9, iV a9)] ∧ Holds M0 w w2 [.bx al 27 [v6, v7, v8, iV x2.2.2.2.1, v9], .sl 55 ty12 v6 x2.1, .sl 3 tI v7 x2.2.1, .sl 3 tI v8 x2.2.2.1, .sl 47 ty14 v9 x2.2.2.2.2, .sl 29 ty10 aj af, .bx am 27 [ag, ah, ae, iV aa.1.2.2.2.1, ai], dpR 55 dt15 ag ap aa.1.1 aq, .sl 3 tI ah aa.1.2.1, .sl 3 tI ae aa.1.2.2.1, dpR 47 dt16 ai ar aa.1.2.2.2.2 au] G)) (O := fun o e a w2 => match o with | q0 => e = .exit 2 ∧ (Fr a 110 [(3, pB al), (4, aj), (5, pB am), (6, iV aa.2), (7, iV q0), (8, iV aH)] ∧ Holds M0 w w2 [.bx al 27 [v6, v7, v8, iV x2.2.2.2.1, v9], .sl 55 ty12 v6 x2.1, .sl 3 tI v7 x2.2.1, .sl 3 tI v8 x2.2.2.1, .sl 47 ty14 v9 x2.2.2.2.2, .sl 29 ty10 aj af, .bx am 27 [ag, ah, ae, iV aa.1.2.2.2.1, ai], dpR 55 dt15 ag ap aa.1.1 aq, .sl 3 tI ah aa.1.2.1, .sl 3 tI ae aa.1.2.2.1, dpR 47 dt16 ai ar aa.1.2.2.2.2 au] G)) b0 ?_ ?_ ?_
    ·exact ⟨a7.sub ⟨q, q, q, q, q, q, q, trivial⟩, b4⟩
    ·clear a7
     intro s dl a aS ad b6
     obtain ⟨a8, a9⟩ := s
     obtain ⟨ha, aT⟩ := b6
     refine S ?_ ha
     clear ha
     refine C <| rR <| qM q q q <| qF uf27 fi27_4 nz25 q q q ?_
     have b7 := R aT.p0
     refine l u25 q b7 q q q q <| qM q q q ?_
     obtain ⟨aU, ba, ad⟩ := D ad
     have b8 := aT.viewG (Vw.c (Vw.c (Vw.c (Vw.c (Vw.c (Vw.c (Vw.c (Vw.d (Vw.c (Vw.c (Vw.d Vw.refl)))))))))))
     refine b b8 hS4 ba u25 i47 q q q q (fun dm dn dq b9 => ?_)
     refine qF uf47 fi47_2 nz24 q q q ?_
     obtain ⟨dr, ca, cb⟩ := aT.at hS4 ba b9
     obtain ⟨ds, cc, cd⟩ := AtP.snd ca
     obtain ⟨dt, ce, cf⟩ := AtP.snd cc
     refine XL_load (t := (.slice tI)) u24 q q ce q q q (fun aV cg => ?_)
     have aJ : Holds _ w aS [.ro tI aV aU.2.2, .bx al 27 [v6, v7, v8, iV x2.2.2.2.1, v9], .sl 55 ty12 v6 x2.1, .sl 3 tI v7 x2.2.1, .sl 3 tI v8 x2.2.2.1, .sl 47 ty14 v9 x2.2.2.2.2, .sl 29 ty10 aj af, .bx am 27 [ag, ah, ae, iV aa.1.2.2.2.1, ai], dpR 55 dt15 ag ap aa.1.1 aq, .sl 3 tI ah aa.1.2.1, .sl 3 tI ae aa.1.2.2.1, dpR 47 dt16 ai ar aa.1.2.2.2.2 au] G := cb _ _ _ _ cg (fun k h => (fun k h => (fun _ h => h) k (cd k h)) k (cf k h))
     have bb := aJ.viewG (Vw.c (Vw.c (Vw.c (Vw.c (Vw.c (Vw.c (Vw.c (Vw.c (Vw.d (Vw.c (Vw.c (Vw.d Vw.refl))))))))))))
     refine za bb (t := tI) hR0 u24 q q q <| A q (qt_lss q q) q q <| B ?_
     refine Y q (fun aW => ?_) (fun aW => ?_)
     ·have ad := if_t aW ad
      refine y <| C <| g <| rR <| qF uf27 fi27_4 nz25 q q q ?_
      have ch := R aJ.p1
      refine l u25 q ch q q q q <| qM q q q ?_
      obtain ⟨bc, bd, ad⟩ := D ad
      refine b bb hS5 bd u25 i47 q q q q (fun du dv dw ci => ?_)
      refine qF uf47 fi47_1 nz45 q q q ?_
      obtain ⟨dx, cj, ck⟩ := aJ.at hS5 bd ci
      obtain ⟨dy, cl, cm⟩ := AtP.snd cj
      obtain ⟨dz, cn, co⟩ := AtP.fst cl
      refine XL_load (t := ty4) u45 q q cn q q q (fun be cp => ?_)
      have aA : Holds _ w aS [.ro ty2 be bc.2.1, .ro tI aV aU.2.2, .bx al 27 [v6, v7, v8, iV x2.2.2.2.1, v9], .sl 55 ty12 v6 x2.1, .sl 3 tI v7 x2.2.1, .sl 3 tI v8 x2.2.2.1, .sl 47 ty14 v9 x2.2.2.2.2, .sl 29 ty10 aj af, .bx am 27 [ag, ah, ae, iV aa.1.2.2.2.1, ai], dpR 55 dt15 ag ap aa.1.1 aq, .sl 3 tI ah aa.1.2.1, .sl 3 tI ae aa.1.2.2.1, dpR 47 dt16 ai ar aa.1.2.2.2.2 au] G := ck _ _ _ _ cp (fun k h => (fun k h => (fun _ h => h) k (cm k h)) k (co k h))
      refine qM q q q ?_
      obtain ⟨dA, bf, ad⟩ := D ad
      have bg := aA.viewG (Vw.c (Vw.c (Vw.c (Vw.c (Vw.c (Vw.c (Vw.c (Vw.c (Vw.c (Vw.d (Vw.c (Vw.c (Vw.d Vw.refl)))))))))))))
      refine b bg hR0 bf u45 i49 q q q q (fun dB dC dD cq => ?_)
      refine qF uf49 fi49_1 nz3 q q q ?_
      obtain ⟨dE, cr, dF⟩ := aA.at hR0 bf cq
      obtain ⟨dG, ct, dH⟩ := AtP.snd cr
      refine zt (k := .i64) u3 q ct q q q <| A q (qt_neq q q) q q <| B ?_
      refine Y q (fun aX => ?_) (fun aX => ?_)
      ·have ad := if_t aX ad
       refine WP_quiet (by kernel_rfl) (by kernel_rfl) <| qM q q q <| qF uf27 fi27_1 nz24 q q q ?_
       have cu := R aA.p2
       refine l u24 q cu q q q q <| qF uf27 fi27_4 nz25 q q q ?_
       have cv := R aA.p2
       refine l u25 q cv q q q q <| qM q q q ?_
       obtain ⟨cw, bh, ad⟩ := D ad
       refine b bg hS6 bh u25 i47 q q q q (fun dI dJ dK cx => ?_)
       refine qF uf47 fi47_2 nz24 q q q ?_
       obtain ⟨dL, cy, cz⟩ := aA.at hS6 bh cx
       obtain ⟨dM, cA, cB⟩ := AtP.snd cy
       obtain ⟨dN, cC, cD⟩ := AtP.snd cA
       refine XL_load (t := (.slice tI)) u24 q q cC q q q (fun cE cF => ?_)
       have aK : Holds _ w aS [.ro tI cE cw.2.2, .ro ty2 be bc.2.1, .ro tI aV aU.2.2, .bx al 27 [v6, v7, v8, iV x2.2.2.2.1, v9], .sl 55 ty12 v6 x2.1, .sl 3 tI v7 x2.2.1, .sl 3 tI v8 x2.2.2.1, .sl 47 ty14 v9 x2.2.2.2.2, .sl 29 ty10 aj af, .bx am 27 [ag, ah, ae, iV aa.1.2.2.2.1, ai], dpR 55 dt15 ag ap aa.1.1 aq, .sl 3 tI ah aa.1.2.1, .sl 3 tI ae aa.1.2.2.1, dpR 47 dt16 ai ar aa.1.2.2.2.2 au] G := cz _ _ _ _ cF (fun k h => (fun k h => (fun _ h => h) k (cB k h)) k (cD k h))
       refine qM q q q ?_
       obtain ⟨dO, bi, ad⟩ := D ad
       have bj := aK.viewG (Vw.c (Vw.c (Vw.c (Vw.c (Vw.c (Vw.c (Vw.c (Vw.c (Vw.c (Vw.c (Vw.d (Vw.c (Vw.c (Vw.d Vw.refl))))))))))))))
       refine b bj hR0 bi u24 i3 q q q q (fun dP dQ dR cG => ?_)
       obtain ⟨dS, cH, dT⟩ := aK.at hR0 bi cG
       refine zt (k := .i64) u3 q cH q q q ?_
       obtain ⟨dU, bk, ad⟩ := D ad
       refine b bj hS5 bk u24 i3 q q q q (fun dV dW dX cI => ?_)
       obtain ⟨dY, cJ, dZ⟩ := aK.at hS5 bk cI
       refine zt (k := .i64) u3 q cJ q q q <| A q (qt_add q q) q q <| qA q q q <| QL_nil fun a ha d0 cK => ?_
       have cL := aK.grow cK
       refine zi (X (S ?_ ha))
       refine Z <| qM q q q <| A q (qt_add q q) q q <| qA q q q <| WL_nil fun a ha => ?_
       obtain rfl := L ad
       have cM := cL.q0.q0.q0.p10.p10.p10.p10.p10.p10.p10.p10.p10.p10.p10
       exact ⟨q, ha.sub ⟨q, q, q, q, q, q, q, trivial⟩, cM⟩
      have ad := if_f aX ad
      refine WP_skip fun a ha => ?_
      refine zi (X (S ?_ ha))
      refine Z <| qM q q q <| A q (qt_add q q) q q <| qA q q q <| WL_nil fun a ha => ?_
      obtain rfl := L ad
      have cN := aA.q0.q0.p10.p10.p10.p10.p10.p10.p10.p10.p10.p10.p10
      exact ⟨q, ha.sub ⟨q, q, q, q, q, q, q, trivial⟩, cN⟩
     have ad := if_f aW ad
     refine WP_exit fun a ha => ?_
     obtain rfl := L ad
     have cO := aJ.q0.p10.p10.p10.p10.p10.p10.p10.p10.p10.p10.p10
     exact zo (⟨exit_ne, q, ha.sub ⟨q, q, q, q, q, q, trivial⟩, cO⟩)
    intro e b5 d1 cP
    obtain ⟨d2, rfl⟩ : ∃ z, z = a6 := ⟨a6, q⟩
    obtain ⟨rfl, cQ⟩ := cP
    obtain ⟨ha, cR⟩ := cQ
    refine zn (zi (X (S ?_ ha)))
    refine Z <| qM q q q <| A q (qt_add q q) q q <| qA q q q <| WL_nil fun a ha => ?_
    obtain rfl := L av
    have cS := cR.p10.p10.p10.p10.p10.p10.p10.p10.p10.p10.p10
    exact ⟨q, ha.sub ⟨q, q, q, q, q, q, trivial⟩, cS⟩
   have av := if_f aR av
   refine WP_exit fun a ha => ?_
   obtain rfl := L av
   have cT := aI.p10.p10.p10.p10.p10.p10.p10.p10.p10.p10.p10
   exact zo (⟨exit_ne, q, ha.sub ⟨q, q, q, q, q, trivial⟩, cT⟩)
  intro e bW d3 cU
  obtain ⟨d4, rfl⟩ : ∃ z, z = a3 := ⟨a3, q⟩
  obtain ⟨rfl, cV⟩ := cU
  obtain ⟨ha, cW⟩ := cV
  obtain rfl := L aQ
  have cX := cW.p10.p10.p10.p10.p10.p10.p10.p10.p10.p10.p10
  exact zn (X (⟨ha.sub ⟨q, q, q, q, q, trivial⟩, cX⟩))
 intro a d5 cY
 obtain ⟨ha, ax⟩ := cY
 refine S ?_ ha
 clear ha
 refine C <| zk <| qM q q q <| A q (qt_gtr q q) q q <| qM q q q ?_
 obtain ⟨cZ, aB, h⟩ := D h
 refine zh 24 109 (.bool cZ) ?_ (fun md hmd hk => ?_)
 rotate_left
 ·obtain ⟨K, rfl⟩ := zr hmd
  rcases btf (decide (aG > 99999)) with ab | ab
  ·skip
   refine qS q ab q q <| qS q ab q q <| qS q ab q q <| qS q ab q q <| qS q ab q q <| XL_skip q q q <| XL_skip q q q <| XL_skip q q q <| XL_skip q q q <| qS q ab q q ?_
   refine qS q ab q q <| XL_skip q q q <| XL_skip q q q <| XL_skip q q q <| XL_skip q q q <| qS q ab q q <| qS q ab q q <| XL_skip q q q <| XL_skip q q q <| XL_skip q q q ?_
   refine XL_skip q q q <| XL_skip q q q <| qS q ab q q <| A q (ze q ab q) q q ?_
   exact hk _ (p (vb (if_t ab aB)) (cfn 23 q (u)))
  skip
  have aB := if_f ab aB
  refine qM (J q ab) q q <| qM (J q ab) q q ?_
  have bl := ax.viewG (Vw.c (Vw.c (Vw.c (Vw.c (Vw.c (Vw.c (Vw.c (Vw.d (Vw.c (Vw.c (Vw.d Vw.refl)))))))))))
  refine za bl (t := ty10) hS5 u40 (J q ab) q q <| A (J q ab) (qt_eql q q) q q <| qM (J q ab) q q ?_
  refine zh 5 95 (.bool ((aa.2 == (List.length af : Int)) && ((List.length aa.1.2.2.2.2 : Int) == 0))) ?_ (fun md hmd hk => ?_)
  rotate_left
  ·obtain ⟨K, rfl⟩ := zr hmd
   rcases btf (aa.2 == (List.length af : Int)) with an | an
   ·skip
    refine qF uf27 fi27_4 nz25 (J q an) q q ?_
    have c0 := R ax.p6
    refine l u25 q c0 q (J q an) q q <| za bl (t := ty14) hR10 u25 (J q an) q q <| A (J q an) (qt_eql q q) q q <| A (J q ab) (ze q an q) q q ?_
    exact hk _ (p (by rw [an]; rfl) (cfn 4 q (u)))
   skip
   refine qS q an q q <| qS q an q q <| qS q an q q <| qS q an q q <| A (J q ab) (zf q an q) q q ?_
   exact hk _ (p (by rw [an]; rfl) (cfn 4 q (u)))
  refine qM (J q ab) q q ?_
  refine zh 5 101 (.bool (((aa.2 == (List.length af : Int)) && ((List.length aa.1.2.2.2.2 : Int) == 0)) && (aa.1.2.2.2.1 == aG))) ?_ (fun md hmd hk => ?_)
  rotate_left
  ·obtain ⟨K, rfl⟩ := zr hmd
   rcases btf ((aa.2 == (List.length af : Int)) && ((List.length aa.1.2.2.2.2 : Int) == 0)) with ao | ao
   ·skip
    refine qF uf27 fi27_3 nz3 (J q ao) q q ?_
    have c1 := R ax.p6
    refine l u3 q c1 q (J q ao) q q <| qM (J q ao) q q <| A (J q ao) (qt_eql q q) q q <| A (J q ab) (ze q ao q) q q ?_
    exact hk _ (p (by rw [ao]; rfl) (cfn 4 q (u)))
   skip
   refine qS q ao q q <| qS q ao q q <| qS q ao q q <| qS q ao q q <| A (J q ab) (zf q ao q) q q ?_
   exact hk _ (p (by rw [ao]; rfl) (cfn 4 q (u)))
  refine qM (J q ab) q q ?_
  obtain ⟨c2, aC, aB⟩ := D aB
  refine zh 6 108 (.bool c2) ?_ (fun md hmd hk => ?_)
  rotate_left
  ·obtain ⟨K, rfl⟩ := zr hmd
   rcases btf (((aa.2 == (List.length af : Int)) && ((List.length aa.1.2.2.2.2 : Int) == 0)) && (aa.1.2.2.2.1 == aG)) with ak | ak
   ·skip
    have aC := if_t ak aC
    refine qF uf27 fi27_2 nz24 (J q ak) q q ?_
    have c3 := R ax.p6
    refine l u24 q c3 q (J q ak) q q <| qF uf27 fi27_2 nz24 (J q ak) q q ?_
    have c4 := R ax.p0
    refine l u24 q c4 q (J q ak) q q ?_
    obtain ⟨c5, c6, aC⟩ := D aC
    refine QC (J q ak) q c19 (fun w' hb => w_laws_sameInts w' _ ae aa.1.2.2.1 hS9 v8 x2.2.2.1 hS3 c5 c6 ((ax.grow hb).viewG (Vw.c (Vw.c (Vw.c (Vw.c (Vw.c (Vw.c (Vw.c (Vw.d (Vw.c (Vw.c (Vw.d Vw.refl))))))))))))) (by rfl) <| A (J q ab) (ze q ak q) q q ?_
    exact hk _ (p (vb aC) (cfn 5 q (u)))
   skip
   refine qS q ak q q <| qS q ak q q <| qS q ak q q <| qS q ak q q <| qS q ak q q <| A (J q ab) (zf q ak q) q q ?_
   exact hk _ (p (vb (if_f ak aC)) (cfn 5 q (u)))
  refine A q (zf q ab q) q q ?_
  exact hk _ (p (vb aB) (cfn 10 q (u)))
 refine qA q q q <| QL_nil fun a ha d6 da => ?_
 have db := ax.grow da
 refine X (S ?_ ha)
 refine W fun a ha => ?_
 obtain rfl := L h
 have dc := db.q0.q0.q0.q0.q0.q0.q0.q0.q0.q0.q0
 exact ret1 q ha q ⟨q, dc⟩
end Go.Proofs.YtpabogkcmbkffaaGreatDoor
