/- The walks: each Go function computes its shallow function. Printed by a program. -/
import Derived.Test.YtpabogkcmbkffaaGreatDoorWS7R4
set_option linter.unusedVariables false
set_option maxRecDepth 10000
set_option maxHeartbeats 8000000
namespace Go.Proofs.YtpabogkcmbkffaaGreatDoor
open Go Go.RowKit
theorem w_impl_ItemsValid {w : World} {G : List Res} {vp0 : Value} {p0 : LI} (hp0 : Has G ty12 vp0 p0) {r : Bool} (h : impl_ItemsValidS p0 = some r) (H : Ctx w G) : Calls Tryz.prog 76 #[vp0] w fun e w' => e = .returned (.bool r) ∧ Holds M0 w w' [] G := by
 refine E0 (n := 20) H Tryz.func76 q q q fun H => ?_
 unfold impl_ItemsValidS at h
 refine rR <| qA q q q <| B <| C <| rR <| qM q q q <| za H.ctx (t := ty12) (hp0) u23 q q q <| A q (qt_gtr q q) q q <| B ?_
 refine Yh q h (fun h => ?_) (fun h => ?_)
 ·refine rR <| qA q q q <| B <| W fun a ha => ?_
  cases h
  exact m (ret1 q ha q ⟨q, H⟩)
 refine y <| C <| rR <| qM q q q <| za H.ctx (t := ty12) (hp0) u23 q q q <| qM q q q <| B <| g <| O h fun o2 al h => ?_
 refine fun a4 am => zp (I := fun s a w2 => match s with | s1 => (Fr a 20 [(8, vp0), (9, iV (List.length p0 : Int)), (10, iV s1)] ∧ Holds M0 w w2 [] G)) (O := fun o e a w2 => match o with | .inl _ => e = .exit 0 ∧ (Fr a 20 [] ∧ Holds M0 w w2 [] G) | .inr q0 => e = .ret ∧ (Fr a 20 [(2, .bool q0)] ∧ Holds M0 w w2 [] G)) al ?_ ?_ ?_
 ·exact ⟨am.s, H⟩
 ·rintro s1 _ a w6 aa ⟨ha, ae⟩
  refine S1 ha <| rR <| A q (qt_lss q q) q q <| B <| C ?_
  refine Yh q aa (fun aa => ?_) (fun aa => ?_)
  ·refine y <| C <| g <| rR <| qM q q q <| O aa fun ab ag aa => b ae.ctx (hp0) ag u23 i55 q q q q fun aH aI aJ ao => ?_
   obtain ⟨aK, ap, aq⟩ := ae.atN (hp0) ag ao
   refine XL_load_agg (t := ty12) us55 uo55 i55 ap q q q fun aL ar => ?_
   obtain ⟨c22, c23, aM, aN, rfl, au, av, aw⟩ := ar
   obtain ⟨rfl, _⟩ := av
   obtain ⟨c29, c30, aO, aP, rfl, ax, ay, az⟩ := aw
   obtain ⟨ad, rfl, aA⟩ := Rep.sl_inv ay
   obtain ⟨rfl, _⟩ := az
   have aB : Holds _ w w6 [.ro ty2 ad ab.2.1] G := aq [.ro ty2 ad ab.2.1] ⟨⟨_, _, _, _, q, aA, (fun k h => (fun k h => (fun _ h => h) k (by rw [au]; exact zx _ h)) k (by rw [ax]; exact List.mem_append_left _ h))⟩, trivial⟩
   change XL _ _ _ _ _ ((14, .agg #[iV ab.1, ad, iV ab.2.2]) :: _) _
   refine zq (cs := [iV 0, nS, iV 0]) aB z55 q q q fun aQ aR ah => qA q q q <| zl (cs' := [iV ab.1, ad, iV ab.2.2]) ah q il55 q (T q (T (ah.ctx.sliceOne hR1) (T q q))) q q q fun aS af => B <| C <| zk <| lA (R af.p0) us55 uo55 il55 q q q <| qM q q q <| O aa fun aT aC aa => Qc q q c78 af (fun _ => w_impl_itemValid hR1 aC) q <| A q (qt_not q) q q <| Qn af fun a ha aU aj => X <| S1 ha ?_
   refine Yh q aa (fun aa => ?_) (fun aa => ?_)
   ·refine rR <| qA q q q <| B <| W fun a ha => ?_
    cases aa
    have aD := aj.q0.q0
    exact zj (m (⟨ret_ne, q, ha.s, aD⟩))
   refine WP_skip fun a ha => zi <| X <| S1 ha <| Z <| A q (qt_add q q) q q <| qM q q q <| WL_nil fun a ha => ?_
   cases aa
   have aE := aj.q0.q0
   exact ⟨q, ha.s, aE⟩
  refine WP_exit fun a ha => ?_
  cases aa
  exact zo (⟨exit_ne, q, ha.s, ae⟩)
 intro e a aV ak
 rcases o2 with o2 | o2
 ·obtain ⟨rfl, ha, aF⟩ := ak
  refine zn <| X <| S1 ha <| rR <| qA q q q <| B <| W fun a ha => ?_
  cases h
  exact ret1 q ha q ⟨q, aF⟩
 obtain ⟨rfl, ha, aG⟩ := ak
 obtain rfl := L h
 exact zj (m (ret1 q ha q ⟨q, aG⟩))
theorem w_impl_amountsOk {w : World} {G : List Res} {vp0 : Value} {p0 : List Int} (hp0 : Has G tI vp0 p0) {p1 : Int} {p2 : Int} {r : Bool} (h : impl_amountsOkS p0 p1 p2 = some r) (H : Ctx w G) : Calls Tryz.prog 42 #[vp0, iV p1, iV p2] w fun e w' => e = .returned (.bool r) ∧ Holds M0 w w' [] G := by
 refine E0 (n := 27) H Tryz.func42 q q q fun H => ?_
 unfold impl_amountsOkS at h
 refine rR <| qA q q q <| B <| C <| rR <| qM q q q <| za H.ctx (t := tI) (hp0) u24 q q q <| qM q q q <| A q (qt_neq q q) q q <| B ?_
 refine Yh q h (fun h => ?_) (fun h => ?_)
 ·refine rR <| qA q q q <| B <| W fun a ha => ?_
  cases h
  exact m (ret1 q ha q ⟨q, H⟩)
 refine y <| C <| rR <| qM q q q <| za H.ctx (t := tI) (hp0) u24 q q q <| qM q q q <| B <| g <| O h fun o2 ah h => ?_
 refine fun a4 aj => zp (I := fun s a w2 => match s with | s1 => (Fr a 27 [(2, iV p2), (13, vp0), (14, iV (List.length p0 : Int)), (15, iV s1)] ∧ Holds M0 w w2 [] G)) (O := fun o e a w2 => match o with | .inl _ => e = .exit 0 ∧ (Fr a 27 [] ∧ Holds M0 w w2 [] G) | .inr q0 => e = .ret ∧ (Fr a 27 [(6, .bool q0)] ∧ Holds M0 w w2 [] G)) ah ?_ ?_ ?_
 ·exact ⟨aj.s, H⟩
 ·rintro s1 _ a w6 aa ⟨ha, ab⟩
  refine S1 ha <| rR <| A q (qt_lss q q) q q <| B <| C ?_
  refine Yh q aa (fun aa => ?_) (fun aa => ?_)
  ·refine y <| C <| g <| rR <| O aa fun ae af aa => b ab.ctx (hp0) af u24 i3 q q q q fun ap aq ar ak => lI u3 q (ab.el (hp0) af ak) q q q <| qA q q q <| rN <| qM q q q <| A q (qt_lss q q) q q <| qM q q q ?_
   refine Ho (res := ((decide (ae < 0)) || (decide (ae > p2)))) 3 os (fun ad au al => ?_) ?_
   ·exact qM (J q ad) q q <| qM (J q ad) q q <| A (J q ad) (qt_gtr q q) q q <| al 3 q q q (oi ad)
   refine B ?_
   refine Yh q aa (fun aa => ?_) (fun aa => ?_)
   ·refine rR <| qA q q q <| B <| W fun a ha => ?_
    cases aa
    exact zj (m (⟨ret_ne, q, ha.s, ab⟩))
   refine WP_skip fun a ha => zi <| X <| S1 ha <| Z <| A q (qt_add q q) q q <| qM q q q <| WL_nil fun a ha => ?_
   cases aa
   exact ⟨q, ha.s, ab⟩
  refine WP_exit fun a ha => ?_
  cases aa
  exact zo (⟨exit_ne, q, ha.s, ab⟩)
 intro e a av ag
 rcases o2 with o2 | o2
 ·obtain ⟨rfl, ha, am⟩ := ag
  refine zn <| X <| S1 ha <| rR <| qA q q q <| B <| W fun a ha => ?_
  cases h
  exact ret1 q ha q ⟨q, am⟩
 obtain ⟨rfl, ha, ao⟩ := ag
 obtain rfl := L h
 exact zj (m (ret1 q ha q ⟨q, ao⟩))
theorem w_impl_PricesValid {w : World} {G : List Res} {vp0 : Value} {p0 : LI} (hp0 : Has G ty12 vp0 p0) {vp1 : Value} {p1 : List Int} (hp1 : Has G tI vp1 p1) {r : Bool} (h : impl_PricesValidS p0 p1 = some r) (H : Ctx w G) : Calls Tryz.prog 41 #[vp0, vp1] w fun e w' => e = .returned (.bool r) ∧ Holds M0 w w' [] G := by
 refine E0 (n := 13) H Tryz.func41 q q q fun H => ?_
 unfold impl_PricesValidS at h
 refine rR <| qA q q q <| B <| C <| zk <| qM q q q <| O h fun x1 ad h => Qc q q c76 H (fun _ => w_impl_ItemsValid (hp0) ad) q <| qM q q q <| O h fun b3 aa h => ?_
 refine Ga (res := b3) 4 (if_f · aa) (fun ab K6 ae => ?_) ?_
 ·exact have aa := if_t ab aa; qM (J q ab) q q <| qM (J q ab) q q <| za H.ctx (t := ty12) (hp0) u23 (J q ab) q q <| O aa fun x8 af aa => Qc (J q ab) q c42 H (fun _ => w_impl_amountsOk (hp1) af) q <| ae 4 q q q aa
 refine qA q q q <| Qn H fun a ha ah ag => X <| S1 ha <| W fun a ha => ?_
 obtain rfl := L h
 exact ret1 q ha q ⟨q, ag⟩
theorem w_impl_finished {w : World} {G : List Res} {B0 : Int} {B1 : Int} {r : Bool} (h : impl_finishedS B0 B1 = some r) (H : Ctx w G) : Calls Tryz.prog 84 #[.agg #[iV B0, iV B1]] w fun e w' => e = .returned (.bool r) ∧ Holds M0 w w' [] G := by
 refine E0 (n := 11) H Tryz.func84 q q q fun H => ?_
 unfold impl_finishedS at h
 refine C <| Z <| WL_box (cs := [iV B0, iV B1]) H q q q q fun b1 w2 H3 => qA q q q <| rN <| qF uf49 fi49_1 nz3 q q q <| l u3 q (R H3.p0) q q q q <| A q (qt_eql q q) q q <| qM q q q ?_
 refine Ho (res := ((B1 == 3) || (B1 == 4))) 3 os (fun aa K7 ab => ?_) ?_
 ·exact qF uf49 fi49_1 nz3 (J q aa) q q <| l u3 q (R H3.p0) q (J q aa) q q <| A (J q aa) (qt_eql q q) q q <| ab 3 q q q (oi aa)
 refine qA q q q <| B <| W fun a ha => ?_
 cases h
 have ad := H3.q0
 exact ret1 q ha q ⟨q, ad⟩
theorem w_impl_reached {w : World} {G : List Res} {vp0 : Value} {p0 : LP} (hp0 : Has G ty2 vp0 p0) {p1 : Int} {r : Bool} (h : impl_reachedS p0 p1 = some r) (H : Ctx w G) : Calls Tryz.prog 102 #[vp0, iV p1] w fun e w' => e = .returned (.bool r) ∧ Holds M0 w w' [] G := by
 refine E0 (n := 23) H Tryz.func102 q q q fun H => ?_
 unfold impl_reachedS at h
 refine rR <| qA q q q <| B <| C <| rR <| qM q q q <| za H.ctx (t := ty2) (hp0) u45 q q q <| qM q q q <| B <| g <| O h fun o2 al h => ?_
 refine fun a4 am => zp (I := fun s a w2 => match s with | s1 => (Fr a 23 [(1, iV p1), (7, vp0), (8, iV (List.length p0 : Int)), (9, iV s1)] ∧ Holds M0 w w2 [] G)) (O := fun o e a w2 => match o with | .inl _ => e = .exit 0 ∧ (Fr a 23 [] ∧ Holds M0 w w2 [] G) | .inr q0 => e = .ret ∧ (Fr a 23 [(4, .bool q0)] ∧ Holds M0 w w2 [] G)) al ?_ ?_ ?_
 ·exact ⟨am.s, H⟩
 ·rintro s1 _ a w6 aa ⟨ha, ad⟩
  refine S1 ha <| rR <| A q (qt_lss q q) q q <| B <| C ?_
  refine Yh q aa (fun aa => ?_) (fun aa => ?_)
  ·refine y <| C <| g <| rR <| O aa fun ae ah aa => b ad.ctx (hp0) ah u45 i49 q q q q fun aD aE aF ao => ?_
   obtain ⟨aG, ap, aH⟩ := ad.atN (hp0) ah ao
   refine XL_load_agg (t := ty2) us49 uo49 i49 ap q q q fun aI aq => ?_
   obtain ⟨c22, c23, aJ, aK, rfl, aL, ar, au⟩ := aq
   obtain ⟨rfl, _⟩ := ar
   obtain ⟨rfl, _⟩ := au
   change XL _ _ _ _ _ ((12, .agg #[iV ae.1, iV ae.2]) :: _) _
   refine zq (cs := [iV 0, iV 0]) ad z49 q q q fun aM aN av => zl (cs' := [iV ae.1, iV ae.2]) av q il49 q q q q q fun aO af => B <| C <| zk <| qF uf49 fi49_0 nz3 q q q <| l u3 q (R af.p0) q q q q <| qM q q q <| A q (qt_lss q q) q q <| qM q q q <| O aa fun aw ab aa => ?_
   refine Ga (res := aw) 3 (if_f · ab) (fun ag aP ax => ?_) ?_
   ·exact have ab := if_t ag ab; lA (R af.p0) us49 uo49 il49 (J q ag) q q <| O ab fun aQ ay ab => Qc (J q ag) q c84 af (fun _ => w_impl_finished ay) q <| A (J q ag) (qt_not q) q q <| ax 3 q q q ab
   refine Qn af fun a ha aR aj => X <| S1 ha ?_
   refine Yh q aa (fun aa => ?_) (fun aa => ?_)
   ·refine rR <| qA q q q <| B <| W fun a ha => ?_
    cases aa
    have az := aj.q0
    exact zj (m (⟨ret_ne, q, ha.s, az⟩))
   refine WP_skip fun a ha => zi <| X <| S1 ha <| Z <| A q (qt_add q q) q q <| qM q q q <| WL_nil fun a ha => ?_
   cases aa
   have aA := aj.q0
   exact ⟨q, ha.s, aA⟩
  refine WP_exit fun a ha => ?_
  cases aa
  exact zo (⟨exit_ne, q, ha.s, ad⟩)
 intro e a aS ak
 rcases o2 with o2 | o2
 ·obtain ⟨rfl, ha, aB⟩ := ak
  refine zn <| X <| S1 ha <| rR <| qA q q q <| B <| W fun a ha => ?_
  cases h
  exact ret1 q ha q ⟨q, aB⟩
 obtain ⟨rfl, ha, aC⟩ := ak
 obtain rfl := L h
 exact zj (m (ret1 q ha q ⟨q, aC⟩))
theorem w_impl_TicketValid {w : World} {G : List Res} {vp0 : Value} {p0 : LP} (hp0 : Has G ty2 vp0 p0) {r : Bool} (h : impl_TicketValidS p0 = some r) (H : Ctx w G) : Calls Tryz.prog 77 #[vp0] w fun e w' => e = .returned (.bool r) ∧ Holds M0 w w' [] G := by
 refine E0 (n := 57) H Tryz.func77 q q q fun H => ?_
 unfold impl_TicketValidS at h
 refine rR <| qA q q q <| B <| C <| rR <| qM q q q <| za H.ctx (t := ty2) (hp0) u45 q q q <| A q (qt_gtr q q) q q <| B ?_
 refine Yh q h (fun h => ?_) (fun h => ?_)
 ·refine rR <| qA q q q <| B <| W fun a ha => ?_
  cases h
  exact m (ret1 q ha q ⟨q, H⟩)
 refine y <| C <| rR <| qM q q q <| za H.ctx (t := ty2) (hp0) u45 q q q <| qM q q q <| B <| g <| O h fun o2 aB h => ?_
 refine fun a4 aC => zp (I := fun s a w2 => match s with | s1 => (Fr a 57 [(0, vp0), (10, vp0), (11, iV (List.length p0 : Int)), (12, iV s1)] ∧ Holds M0 w w2 [] G)) (O := fun o e a w2 => match o with | .inl _ => e = .exit 0 ∧ (Fr a 57 [(0, vp0)] ∧ Holds M0 w w2 [] G) | .inr q0 => e = .ret ∧ (Fr a 57 [(2, .bool q0)] ∧ Holds M0 w w2 [] G)) aB ?_ ?_ ?_
 ·exact ⟨aC.s, H⟩
 ·rintro s1 _ a w6 ad ⟨ha, ak⟩
  refine S1 ha <| rR <| A q (qt_lss q q) q q <| B <| C ?_
  refine Yh q ad (fun ad => ?_) (fun ad => ?_)
  ·refine y <| C <| g <| rR <| O ad fun aa au ad => b ak.ctx (hp0) au u45 i49 q q q q fun a6 a7 a8 aD => ?_
   obtain ⟨a9, aE, ba⟩ := ak.atN (hp0) au aD
   refine XL_load_agg (t := ty2) us49 uo49 i49 aE q q q fun bb aF => ?_
   obtain ⟨c22, c23, bc, bd, rfl, be, aG, aH⟩ := aF
   obtain ⟨rfl, _⟩ := aG
   obtain ⟨rfl, _⟩ := aH
   change XL _ _ _ _ _ ((15, .agg #[iV aa.1, iV aa.2]) :: _) _
   refine zq (cs := [iV 0, iV 0]) ak z49 q q q fun bf bg aI => zl (cs' := [iV aa.1, iV aa.2]) aI q il49 q q q q q fun bh ae => rN <| qF uf49 fi49_0 nz3 q q q <| l u3 q (R ae.p0) q q q q <| A q (qt_lss q q) q q <| qM q q q ?_
   refine Ho (res := ((decide (aa.1 < 0)) || (decide (aa.1 > 2)))) 3 os (fun al bi aJ => ?_) ?_
   ·exact qF uf49 fi49_0 nz3 (J q al) q q <| l u3 q (R ae.p0) q (J q al) q q <| A (J q al) (qt_gtr q q) q q <| aJ 3 q q q (oi al)
   refine qM q q q ?_
   refine Ho (res := (((decide (aa.1 < 0)) || (decide (aa.1 > 2))) || (decide (aa.2 < 0)))) 3 os (fun am bj aK => ?_) ?_
   ·exact qF uf49 fi49_1 nz3 (J q am) q q <| l u3 q (R ae.p0) q (J q am) q q <| A (J q am) (qt_lss q q) q q <| aK 3 q q q (oi am)
   refine qM q q q ?_
   refine Ho (res := ((((decide (aa.1 < 0)) || (decide (aa.1 > 2))) || (decide (aa.2 < 0))) || (decide (aa.2 > 4)))) 3 os (fun ao bk aL => ?_) ?_
   ·exact qF uf49 fi49_1 nz3 (J q ao) q q <| l u3 q (R ae.p0) q (J q ao) q q <| A (J q ao) (qt_gtr q q) q q <| aL 3 q q q (oi ao)
   refine B ?_
   refine Yh q ad (fun ad => ?_) (fun ad => ?_)
   ·refine rR <| qA q q q <| B <| W fun a ha => ?_
    cases ad
    have aM := ae.q0
    exact zj (m (⟨ret_ne, q, ha.s, aM⟩))
   refine WP_skip fun a ha => zi <| X <| S1 ha <| Z <| A q (qt_add q q) q q <| qM q q q <| WL_nil fun a ha => ?_
   cases ad
   have aN := ae.q0
   exact ⟨q, ha.s, aN⟩
  refine WP_exit fun a ha => ?_
  cases ad
  exact zo (⟨exit_ne, q, ha.s, ak⟩)
 intro e a bl av
 rcases o2 with o2 | o2
 ·obtain ⟨rfl, ha, aw⟩ := av
  refine zn <| X <| S1 ha <| C <| rR <| qM q q q <| za aw.ctx (t := ty2) (hp0) u45 q q q <| qM q q q <| B <| g <| O h fun ar aO h => ?_
  refine fun bm aP => zp (I := fun s a w2 => match s with | ax => (Fr a 57 [(0, vp0), (35, vp0), (36, iV (List.length p0 : Int)), (37, iV ax)] ∧ Holds M0 w w2 [] G)) (O := fun o e a w2 => match o with | .inl _ => e = .exit 2 ∧ (Fr a 57 [] ∧ Holds M0 w w2 [] G) | .inr q0 => e = .ret ∧ (Fr a 57 [(2, .bool q0)] ∧ Holds M0 w w2 [] G)) aO ?_ ?_ ?_
  ·exact ⟨aP.s, aw⟩
  ·rintro ax _ a bn ab ⟨ha, ap⟩
   refine S1 ha <| rR <| A q (qt_lss q q) q q <| B <| C ?_
   refine Yh q ab (fun ab => ?_) (fun ab => ?_)
   ·refine y <| C <| g <| rR <| O ab fun af ay ab => b ap.ctx (hp0) ay u45 i49 q q q q fun bo bp bq aQ => ?_
    obtain ⟨br, aR, bs⟩ := ap.atN (hp0) ay aQ
    refine XL_load_agg (t := ty2) us49 uo49 i49 aR q q q fun bt aS => ?_
    obtain ⟨c76, c77, bu, bv, rfl, bw, aT, aU⟩ := aS
    obtain ⟨rfl, _⟩ := aT
    obtain ⟨rfl, _⟩ := aU
    change XL _ _ _ _ _ ((40, .agg #[iV af.1, iV af.2]) :: _) _
    refine zq (cs := [iV 0, iV 0]) ap z49 q q q fun bz bA aV => zl (cs' := [iV af.1, iV af.2]) aV q il49 q q q q q fun bB aj => B <| C <| zk <| qF uf49 fi49_1 nz3 q q q <| l u3 q (R aj.p0) q q q q <| A q (qt_neq q q) q q <| qM q q q ?_
    refine Ga (res := ((af.2 != 0) && (af.2 != 4))) 3 an (fun aq bC aW => ?_) ?_
    ·exact qF uf49 fi49_1 nz3 (J q aq) q q <| l u3 q (R aj.p0) q (J q aq) q q <| A (J q aq) (qt_neq q q) q q <| aW 3 q q q (ai aq)
    refine qM q q q <| O ab fun aX ag ab => ?_
    refine Ga (res := aX) 5 (if_f · ag) (fun ah bD aY => ?_) ?_
    ·exact have ag := if_t ah ag; qM (J q ah) q q <| qF uf49 fi49_0 nz3 (J q ah) q q <| l u3 q (R aj.p0) q (J q ah) q q <| O ag fun bE aZ ag => Qc (J q ah) q c102 aj (fun _ => w_impl_reached (hp0.c) aZ) q <| A (J q ah) (qt_not q) q q <| aY 5 q q q ag
    refine Qn aj fun a ha bF az => X <| S1 ha ?_
    refine Yh q ab (fun ab => ?_) (fun ab => ?_)
    ·refine rR <| qA q q q <| B <| W fun a ha => ?_
     cases ab
     have a0 := az.q0
     exact zj (m (⟨ret_ne, q, ha.s, a0⟩))
    refine WP_skip fun a ha => zi <| X <| S1 ha <| Z <| A q (qt_add q q) q q <| qM q q q <| WL_nil fun a ha => ?_
    cases ab
    have a1 := az.q0
    exact ⟨q, ha.s, a1⟩
   refine WP_exit fun a ha => ?_
   cases ab
   exact zo (⟨exit_ne, q, ha.s, ap⟩)
  intro e a bG aA
  rcases ar with ar | ar
  ·obtain ⟨rfl, ha, a2⟩ := aA
   refine zn <| X <| S1 ha <| rR <| qA q q q <| B <| W fun a ha => ?_
   cases h
   exact ret1 q ha q ⟨q, a2⟩
  obtain ⟨rfl, ha, a3⟩ := aA
  obtain rfl := L h
  exact zj (m (ret1 q ha q ⟨q, a3⟩))
 obtain ⟨rfl, ha, a5⟩ := av
 obtain rfl := L h
 exact zj (m (ret1 q ha q ⟨q, a5⟩))
theorem w_impl_UsesOf {w : World} {G : List Res} {vp0 : Value} {p0 : LI} (hp0 : Has G ty12 vp0 p0) {p1 : Int} {r : Int} (h : impl_UsesOfS p0 p1 = some r) (H : Ctx w G) : Calls Tryz.prog 109 #[vp0, iV p1] w fun e w' => e = .returned (iV r) ∧ Holds M0 w w' [] G := by
 refine E0 (n := 51) H Tryz.func109 q q q fun H => ?_
 unfold impl_UsesOfS at h
 refine rR <| qA q q q <| B <| C <| C <| zk <| qM q q q <| O h fun x1 ax h => Qc q q c76 H (fun _ => w_impl_ItemsValid (hp0) ax) q <| A q (qt_not q) q q <| qM q q q ?_
 refine Go (res := ((!x1) || (decide (p1 < 0)))) 2 os (fun aj K4 ay => ?_) ?_
 ·exact qM (J q aj) q q <| A (J q aj) (qt_lss q q) q q <| ay 2 q q q (oi aj)
 refine qM q q q ?_
 refine Go (res := (((!x1) || (decide (p1 < 0))) || (decide (p1 ≥ (List.length p0 : Int))))) 4 os (fun ad K7 az => ?_) ?_
 ·exact qM (J q ad) q q <| qM (J q ad) q q <| za H.ctx (t := ty12) (hp0) u23 (J q ad) q q <| A (J q ad) (qt_geq q q) q q <| az 4 q q q (oi ad)
 refine Qn H fun a ha w9 ak => X <| S1 ha ?_
 refine Yh q h (fun h => ?_) (fun h => ?_)
 ·refine rR <| qA q q q <| B <| W fun a ha => ?_
  cases h
  exact m (ret1 q ha q ⟨q, ak⟩)
 refine y <| rR <| qM q q q <| O h fun aS aA h => A q (qt_shlO q q aA) q q <| qA q q q <| B <| C <| C <| Z <| qM q q q <| qA q q q <| B <| g <| O h fun aT aB h => ?_
 refine fun aU aC => zp (I := fun s a w2 => match s with | (al, ae) => (Fr a 51 [(0, vp0), (5, iV al), (6, iV ae)] ∧ Holds M0 w w2 [] G)) (O := fun o e a w2 => match o with | q0 => e = .exit 0 ∧ (Fr a 51 [(5, iV q0)] ∧ Holds M0 w w2 [] G)) aB ?_ ?_ ?_
 ·exact ⟨aC.s, ak⟩
 ·rintro ⟨al, ae⟩ _ a aV aa ⟨ha, af⟩
  refine S1 ha <| C <| rR <| qM q q q <| A q (qt_geq q q) q q <| B ?_
  refine Yh q aa (fun aa => ?_) (fun aa => ?_)
  ·refine y <| C <| g <| C <| rR <| qM q q q <| qM q q q <| O aa fun aW aD aa => A q (qt_shlO q q aD) q q <| A q (qt_and q q) q q <| A q (qt_eql q q) q q <| B ?_
   refine Yh q aa (fun aa => ?_) (fun aa => ?_)
   ·refine WP_exit fun a ha => zo <| zn <| X <| S1 ha <| Z <| qM q q q <| A q (qt_sub q q) q q <| qA q q q <| WL_nil fun a ha => ?_
    cases aa
    exact ⟨q, ha.s, af⟩
   refine y <| rR <| qM q q q <| qM q q q <| O aa fun am ao aa => b af.ctx (hp0) ao u23 i55 q q q q fun aX aY aZ aE => qF uf55 fi55_1 nz53 q q q <| lV u53 q (af.el (hp0) ao aE).s.f q q q fun ap aq => za aq.ctx (t := ty2) hR0 u53 q q q <| qM q q q <| B <| g <| O aa fun a0 aF aa => ?_
   refine fun a1 aG => zp (I := fun s a w2 => match s with | (ar, au) => (Fr a 51 [(0, vp0), (5, iV ar), (6, iV ae), (38, ap), (39, iV (List.length am.2.1 : Int)), (40, iV au)] ∧ Holds M0 w w2 [.ro ty2 ap am.2.1] G)) (O := fun o e a w2 => match o with | q0 => e = .exit 2 ∧ (Fr a 51 [(0, vp0), (5, iV q0), (6, iV ae)] ∧ Holds M0 w w2 [] G)) aF ?_ ?_ ?_
   ·exact ⟨aG.s, aq⟩
   ·rintro ⟨ar, au⟩ _ a a2 ab ⟨ha, ag⟩
    refine S1 ha <| rR <| A q (qt_lss q q) q q <| B <| C ?_
    refine Yh q ab (fun ab => ?_) (fun ab => ?_)
    ·refine y <| C <| g <| rR <| O ab fun ah av ab => b ag.ctx hR0 av u53 i57 q q q q fun a3 a4 a5 aH => ?_
     obtain ⟨a6, aI, a7⟩ := ag.atN hR0 av aH
     refine XL_load_agg (t := ty2) us57 uo57 i57 aI q q q fun a8 aJ => ?_
     obtain ⟨c59, c60, a9, ba, rfl, bb, aK, aL⟩ := aJ
     obtain ⟨rfl, _⟩ := aK
     obtain ⟨rfl, _⟩ := aL
     change XL _ _ _ _ _ ((43, .agg #[iV ah.1, iV ah.2]) :: _) _
     refine zq (cs := [iV 0, iV 0]) ag z57 q q q fun bc bd aM => zl (cs' := [iV ah.1, iV ah.2]) aM q il57 q q q q q fun be aw => B <| Z <| qM q q q <| qF uf57 fi57_0 nz3 q q q <| l u3 q (R aw.p0) q q q q <| O ab fun bf aN ab => A q (qt_shlO q q aN) q q <| A q (qt_or q q) q q <| qA q q q <| WL_nil fun a ha => zi <| X <| S1 ha <| Z <| A q (qt_add q q) q q <| qM q q q <| WL_nil fun a ha => ?_
     cases ab
     have aO := aw.q0
     exact ⟨q, ha.s, aO⟩
    refine WP_exit fun a ha => ?_
    cases ab
    have aP := ag.q0
    exact zo (⟨exit_ne, q, ha.s, aP⟩)
   rintro _ a bg ⟨rfl, ha, aQ⟩
   refine zn <| zi <| X <| S1 ha <| Z <| qM q q q <| A q (qt_sub q q) q q <| qA q q q <| WL_nil fun a ha => ?_
   cases aa
   exact ⟨q, ha.s, aQ⟩
  refine WP_exit fun a ha => ?_
  cases aa
  exact zo (⟨exit_ne, q, ha.s, af⟩)
 rintro _ a bh ⟨rfl, ha, aR⟩
 refine zn <| X <| S1 ha <| rR <| qM q q q <| qA q q q <| B <| W fun a ha => ?_
 obtain rfl := L h
 exact ret1 q ha q ⟨q, aR⟩
theorem w_impl_MarksOf {w : World} {G : List Res} {vp0 : Value} {p0 : LI} (hp0 : Has G ty12 vp0 p0) {p1 : Int} {r : Int} (h : impl_MarksOfS p0 p1 = some r) (H : Ctx w G) : Calls Tryz.prog 93 #[vp0, iV p1] w fun e w' => e = .returned (iV r) ∧ Holds M0 w w' [] G := by
 refine E0 (n := 32) H Tryz.func93 q q q fun H => ?_
 unfold impl_MarksOfS at h
 refine rR <| qA q q q <| B <| C <| zk <| qM q q q <| qM q q q <| O h fun x1 aj h => Qc q q c109 H (fun _ => w_impl_UsesOf (hp0) aj) q <| qA q q q <| Qn H fun a ha w3 H5 => X <| S1 ha <| C <| rR <| qM q q q <| A q (qt_lss q q) q q <| B ?_
 refine Yh q h (fun h => ?_) (fun h => ?_)
 ·refine rR <| qA q q q <| B <| W fun a ha => ?_
  cases h
  exact m (ret1 q ha q ⟨q, H5⟩)
 refine y <| rR <| qA q q q <| B <| C <| rR <| qM q q q <| za H5.ctx (t := ty12) (hp0) u23 q q q <| qM q q q <| B <| g <| O h fun o9 ak h => ?_
 refine fun aG al => zp (I := fun s a w2 => match s with | (s7, s8) => (Fr a 32 [(5, iV x1), (6, iV s7), (14, vp0), (15, iV (List.length p0 : Int)), (16, iV s8)] ∧ Holds M0 w w2 [] G)) (O := fun o e a w2 => match o with | q0 => e = .exit 0 ∧ (Fr a 32 [(6, iV q0)] ∧ Holds M0 w w2 [] G)) ak ?_ ?_ ?_
 ·exact ⟨al.s, H5⟩
 ·rintro ⟨s7, s8⟩ _ a am aa ⟨ha, ae⟩
  refine S1 ha <| rR <| A q (qt_lss q q) q q <| B <| C ?_
  refine Yh q aa (fun aa => ?_) (fun aa => ?_)
  ·refine y <| C <| g <| rR <| qM q q q <| O aa fun ab ag aa => b ae.ctx (hp0) ag u23 i55 q q q q fun aH aI aJ ao => ?_
   obtain ⟨aK, ap, aq⟩ := ae.atN (hp0) ag ao
   refine XL_load_agg (t := ty12) us55 uo55 i55 ap q q q fun aL ar => ?_
   obtain ⟨c29, c30, aM, aN, rfl, au, av, aw⟩ := ar
   obtain ⟨rfl, _⟩ := av
   obtain ⟨c36, c37, aO, aP, rfl, ax, ay, az⟩ := aw
   obtain ⟨ad, rfl, aA⟩ := Rep.sl_inv ay
   obtain ⟨rfl, _⟩ := az
   have aB : Holds _ w am [.ro ty2 ad ab.2.1] G := aq [.ro ty2 ad ab.2.1] ⟨⟨_, _, _, _, q, aA, (fun k h => (fun k h => (fun _ h => h) k (by rw [au]; exact zx _ h)) k (by rw [ax]; exact List.mem_append_left _ h))⟩, trivial⟩
   change XL _ _ _ _ _ ((20, .agg #[iV ab.1, ad, iV ab.2.2]) :: _) _
   refine zq (cs := [iV 0, nS, iV 0]) aB z55 q q q fun aQ aR ah => qA q q q <| zl (cs' := [iV ab.1, ad, iV ab.2.2]) ah q il55 q (T q (T (ah.ctx.sliceOne hR1) (T q q))) q q q fun aS af => rN <| qM q q q <| qM q q q <| O aa fun aT aC aa => A q (qt_shlO q q aC) q q <| A q (qt_and q q) q q <| A q (qt_neq q q) q q <| B ?_
   refine Yh q aa (fun aa => ?_) (fun aa => ?_)
   ·refine Z <| qM q q q <| qF uf55 fi55_2 nz3 q q q <| l u3 q (R af.p0) q q q q <| A q (qt_or q q) q q <| qA q q q <| WL_nil fun a ha => zi <| X <| S1 ha <| Z <| A q (qt_add q q) q q <| qM q q q <| WL_nil fun a ha => ?_
    cases aa
    have aD := af.q0.q0
    exact ⟨q, ha.s, aD⟩
   refine WP_skip fun a ha => zi <| X <| S1 ha <| Z <| A q (qt_add q q) q q <| qM q q q <| WL_nil fun a ha => ?_
   cases aa
   have aE := af.q0.q0
   exact ⟨q, ha.s, aE⟩
  refine WP_exit fun a ha => ?_
  cases aa
  exact zo (⟨exit_ne, q, ha.s, ae⟩)
 rintro _ a aU ⟨rfl, ha, aF⟩
 refine zn <| X <| S1 ha <| rR <| qM q q q <| qA q q q <| B <| W fun a ha => ?_
 obtain rfl := L h
 exact ret1 q ha q ⟨q, aF⟩
theorem w_impl_FreeOf {w : World} {G : List Res} {vp0 : Value} {p0 : LI} (hp0 : Has G ty12 vp0 p0) {p1 : Int} {r : (List Int)} (h : impl_FreeOfS p0 p1 = some r) (H : Ctx w G) : Calls Tryz.prog 68 #[vp0, iV p1] w fun e w' => ∃ (v1 : Value), e = .returned (v1) ∧ Holds M0 w w' [.sl 3 tI v1 r] G := by
 refine E0 (n := 43) H Tryz.func68 q q q fun H => ?_
 unfold impl_FreeOfS at h
 refine rR <| qA q q q <| B <| C <| C <| zk <| qM q q q <| O h fun x1 aw h => Qc q q c76 H (fun _ => w_impl_ItemsValid (hp0) aw) q <| A q (qt_not q) q q <| qM q q q ?_
 refine Go (res := ((!x1) || (decide (p1 < 0)))) 2 os (fun ah K4 ax => ?_) ?_
 ·exact qM (J q ah) q q <| A (J q ah) (qt_lss q q) q q <| ax 2 q q q (oi ah)
 refine qM q q q ?_
 refine Go (res := (((!x1) || (decide (p1 < 0))) || (decide (p1 > 31)))) 2 os (fun aj K7 ay => ?_) ?_
 ·exact qM (J q aj) q q <| A (J q aj) (qt_gtr q q) q q <| ay 2 q q q (oi aj)
 refine Qn H fun a ha w9 ak => X <| S1 ha ?_
 refine Yh q h (fun h => ?_) (fun h => ?_)
 ·refine rR <| qA q q q <| B <| W fun a ha => ?_
  cases h
  have az := ak.nS 3 tI
  exact m (ret1 q ha q ⟨(nS), q, az⟩)
 refine y <| rR <| qA q q q <| B <| C <| rR <| qM q q q <| za ak.ctx (t := ty12) (hp0) u23 q q q <| qM q q q <| B <| g <| have aA := ak.nS 3 tI; O h fun a2 aB h => ?_
 refine fun a3 aC => zp (I := fun s a w2 => match s with | (al, am) => ∃ ad, Fr a 43 [(0, vp0), (1, iV p1), (5, ad), (19, vp0), (20, iV (List.length p0 : Int)), (21, iV am)] ∧ Holds M0 w w2 [.sl 3 tI ad al] G) (O := fun o e a w2 => match o with | q0 => e = .exit 0 ∧ ∃ aq, Fr a 43 [(5, aq)] ∧ Holds M0 w w2 [.sl 3 tI aq q0] G) aB ?_ ?_ ?_
 ·exact ⟨(nS), aC.s, aA⟩
 ·rintro ⟨al, am⟩ _ a aD aa ⟨ad, ha, ao⟩
  refine S1 ha <| rR <| A q (qt_lss q q) q q <| B <| C ?_
  refine Yh q aa (fun aa => ?_) (fun aa => ?_)
  ·refine y <| C <| g <| rR <| qM q q q <| O aa fun ae ar aa => b ao.ctx (hp0.c) ar u23 i55 q q q q fun a4 a5 a6 aE => ?_
   obtain ⟨a7, aF, aG⟩ := ao.atN (hp0.c) ar aE
   refine XL_load_agg (t := ty12) us55 uo55 i55 aF q q q fun a8 aH => ?_
   obtain ⟨c37, c38, a9, ba, rfl, aI, aJ, aK⟩ := aH
   obtain ⟨rfl, _⟩ := aJ
   obtain ⟨bb, c45, bc, bd, rfl, aL, aM, aN⟩ := aK
   obtain ⟨ag, rfl, aO⟩ := Rep.sl_inv aM
   obtain ⟨rfl, _⟩ := aN
   have aP : Holds _ w aD [.ro ty2 ag ae.2.1, .sl 3 tI ad al] G := aG [.ro ty2 ag ae.2.1] ⟨⟨_, _, _, _, q, aO, (fun k h => (fun k h => (fun _ h => h) k (by rw [aI]; exact zx _ h)) k (by rw [aL]; exact List.mem_append_left _ h))⟩, trivial⟩
   change XL _ _ _ _ _ ((25, .agg #[iV ae.1, ag, iV ae.2.2]) :: _) _
   refine zq (cs := [iV 0, nS, iV 0]) aP z55 q q q fun be bf au => qA q q q <| zl (cs' := [iV ae.1, ag, iV ae.2.2]) au q il55 q (T q (T (au.ctx.sliceOne hR1) (T q q))) q q q fun bg ap => B <| C <| zk <| qF uf55 fi55_0 nz3 q q q <| l u3 q (R ap.p0) q q q q <| A q (qt_gtr q q) q q <| qM q q q <| O aa fun aQ af aa => ?_
   refine Ga (res := aQ) 6 (if_f · af) (fun ab bh aR => ?_) ?_
   ·exact have af := if_t ab af; qM (J q ab) q q <| qM (J q ab) q q <| O af fun bi aS af => Qc (J q ab) q c93 ap (fun _ => w_impl_MarksOf (hp0.c.c.c) aS) q <| qM (J q ab) q q <| A (J q ab) (qt_and q q) q q <| A (J q ab) (qt_eql q q) q q <| aR 6 q q q af
   refine Qn ap fun a ha bj av => X <| S1 ha ?_
   refine Yh q aa (fun aa => ?_) (fun aa => ?_)
   ·refine Z <| qM q q q <| qM q q q <| zs (t := tI) (args := [.tmp 38]) (xs := ([am] : List Int)) av (BltL.cons (Blt.int) q (BltL.nil)) u24 j3 q q q q q q fun bk bl aT => have aU := aT.p3; O aa fun bm aV aa => zw aU hS1 aV u24 j3 q q q q q q fun aW bn aX => qA q q q <| WL_nil fun a ha => zi <| X <| S1 ha <| Z <| A q (qt_add q q) q q <| qM q q q <| WL_nil fun a ha => ?_
    cases aa
    have aY := aX.q1.q1.q1
    exact ⟨q, aW, ha.s, aY⟩
   refine WP_skip fun a ha => zi <| X <| S1 ha <| Z <| A q (qt_add q q) q q <| qM q q q <| WL_nil fun a ha => ?_
   cases aa
   have aZ := av.q0.q0
   exact ⟨q, ad, ha.s, aZ⟩
  refine WP_exit fun a ha => ?_
  cases aa
  exact zo (⟨exit_ne, q, ad, ha.s, ao⟩)
 rintro _ a bo ⟨rfl, a0, ha, a1⟩
 refine zn <| X <| S1 ha <| rR <| qM q q q <| qA q q q <| B <| W fun a ha => ?_
 obtain rfl := L h
 exact ret1 q ha q ⟨a0, q, a1⟩
theorem w_slices_Index___int_int {w : World} {G : List Res} {vp0 : Value} {p0 : List Int} (hp0 : Has G tI vp0 p0) {p1 : Int} {r : Int} (h : slices_Index___int_intS p0 p1 = some r) (H : Ctx w G) : Calls Tryz.prog 92 #[vp0, iV p1] w fun e w' => e = .returned (iV r) ∧ Holds M0 w w' [] G := by
 refine E0 (n := 19) H Tryz.func92 q q q fun H => ?_
 unfold slices_Index___int_intS at h
 refine rR <| qA q q q <| B <| C <| rR <| qM q q q <| za H.ctx (t := tI) (hp0) u24 q q q <| qM q q q <| B <| g <| O h fun o2 ae h => ?_
 refine fun a4 af => zp (I := fun s a w2 => match s with | s1 => (Fr a 19 [(0, vp0), (1, iV p1), (7, iV (List.length p0 : Int)), (8, iV s1)] ∧ Holds M0 w w2 [] G)) (O := fun o e a w2 => match o with | .inl _ => e = .exit 0 ∧ (Fr a 19 [] ∧ Holds M0 w w2 [] G) | .inr q0 => e = .ret ∧ (Fr a 19 [(4, iV q0)] ∧ Holds M0 w w2 [] G)) ae ?_ ?_ ?_
 ·exact ⟨af.s, H⟩
 ·rintro s1 _ a w6 aa ⟨ha, ab⟩
  refine S1 ha <| rR <| A q (qt_lss q q) q q <| B <| C ?_
  refine Yh q aa (fun aa => ?_) (fun aa => ?_)
  ·refine y <| C <| g <| rR <| qM q q q <| qA q q q <| B <| C <| Z <| qM q q q <| qM q q q <| qM q q q <| O aa fun ak ad aa => b ab.ctx (hp0) ad u24 i3 q q q q fun al am ao ag => lI u3 q (ab.el (hp0) ad ag) q q q <| A q (qt_eql q q) q q <| B ?_
   refine Yh q aa (fun aa => ?_) (fun aa => ?_)
   ·refine rR <| qM q q q <| qA q q q <| B <| W fun a ha => ?_
    cases aa
    exact zj (m (⟨ret_ne, q, ha.s, ab⟩))
   refine WP_skip fun a ha => zi <| X <| S1 ha <| Z <| A q (qt_add q q) q q <| qM q q q <| WL_nil fun a ha => ?_
   cases aa
   exact ⟨q, ha.s, ab⟩
  refine WP_exit fun a ha => ?_
  cases aa
  exact zo (⟨exit_ne, q, ha.s, ab⟩)
 intro e a ap hO18
 rcases o2 with o2 | o2
 ·obtain ⟨rfl, ha, ah⟩ := hO18
  refine zn <| X <| S1 ha <| rR <| qA q q q <| B <| W fun a ha => ?_
  cases h
  exact ret1 q ha q ⟨q, ah⟩
 obtain ⟨rfl, ha, aj⟩ := hO18
 obtain rfl := L h
 exact zj (m (ret1 q ha q ⟨q, aj⟩))
theorem w_slices_Contains___int_int {w : World} {G : List Res} {vp0 : Value} {p0 : List Int} (hp0 : Has G tI vp0 p0) {p1 : Int} {r : Bool} (h : slices_Contains___int_intS p0 p1 = some r) (H : Ctx w G) : Calls Tryz.prog 67 #[vp0, iV p1] w fun e w' => e = .returned (.bool r) ∧ Holds M0 w w' [] G := by
 refine E0 (n := 9) H Tryz.func67 q q q fun H => ?_
 unfold slices_Contains___int_intS at h
 refine rR <| qA q q q <| B <| C <| zk <| qM q q q <| qM q q q <| O h fun x1 aa h => Qc q q c92 H (fun _ => w_slices_Index___int_int (hp0) aa) q <| A q (qt_geq q q) q q <| qA q q q <| Qn H fun a ha w3 H5 => X <| S1 ha <| W fun a ha => ?_
 cases h
 exact ret1 q ha q ⟨q, H5⟩
theorem w_impl_tableValid {w : World} {G : List Res} {vp0 : Value} {p0 : LI} (hp0 : Has G ty12 vp0 p0) {p1_0 : Int} {A1_1 : Value} {p1_1 : LP} (hp1_1 : Has G ty2 A1_1 p1_1) {A1_2 : Value} {p1_2 : List Int} (hp1_2 : Has G tI A1_2 p1_2) {r : Bool} (h : impl_tableValidS p0 p1_0 p1_1 p1_2 = some r) (H : Ctx w G) : Calls Tryz.prog 43 #[vp0, .agg #[iV p1_0, A1_1, A1_2]] w fun e w' => e = .returned (.bool r) ∧ Holds M0 w w' [] G := by
 refine E0 (n := 47) H Tryz.func43 q q q fun H => ?_
 unfold impl_tableValidS at h
 refine C <| Z <| WL_box (cs := [iV p1_0, A1_1, A1_2]) H q q q q fun b1 w2 H3 => qA q q q <| B <| C <| C <| zk <| qF uf47 fi47_0 nz3 q q q <| l u3 q (R H3.p0) q q q q <| A q (qt_lss q q) q q <| qM q q q ?_
 refine Go (res := ((decide (p1_0 < 0)) || (decide (p1_0 > 31)))) 3 os (fun ag K7 au => ?_) ?_
 ·exact qF uf47 fi47_0 nz3 (J q ag) q q <| l u3 q (R H3.p0) q (J q ag) q q <| A (J q ag) (qt_gtr q q) q q <| au 3 q q q (oi ag)
 refine qM q q q <| O h fun al ad h => ?_
 refine Go (res := al) 4 (if_t · ad) (fun ae aL av => ?_) ?_
 ·exact have ad := if_f ae ad; qF uf47 fi47_1 nz45 (J q ae) q q <| l u45 q (R H3.p0) q (J q ae) q q <| O ad fun aM aw ad => Qc (J q ae) q c77 H3 (fun _ => w_impl_TicketValid (hp1_1.c) aw) q <| A (J q ae) (qt_not q) q q <| av 4 q q q ad
 refine qM q q q ?_
 refine Go (res := (al || ((List.length p1_2 : Int) != (List.length p1_1 : Int)))) 7 os (fun ab aN ax => ?_) ?_
 ·exact qF uf47 fi47_2 nz24 (J q ab) q q <| l u24 q (R H3.p0) q (J q ab) q q <| za H3.ctx (t := tI) (hp1_2.c) u24 (J q ab) q q <| qF uf47 fi47_1 nz45 (J q ab) q q <| l u45 q (R H3.p0) q (J q ab) q q <| za H3.ctx (t := ty2) (hp1_1.c) u45 (J q ab) q q <| A (J q ab) (qt_neq q q) q q <| ax 7 q q q (oi ab)
 refine Qn H3 fun a ha aO ah => X <| S1 ha ?_
 refine Yh q h (fun h => ?_) (fun h => ?_)
 ·refine rR <| qA q q q <| B <| W fun a ha => ?_
  cases h
  have ay := ah.q0
  exact m (ret1 q ha q ⟨q, ay⟩)
 refine y <| rR <| qM q q q <| qF uf47 fi47_0 nz3 q q q <| l u3 q (R ah.p0) q q q q <| O h fun az aA h => V1 q q c68 (w_impl_FreeOf (hp0.c) aA ah.ctx) q fun am aP aB => have aj := ah.cN1 [] aB; qA q q q <| B <| C <| rR <| qF uf47 fi47_2 nz24 q q q <| l u24 q (R aj.p1) q q q q <| za aj.ctx (t := tI) (hp1_2.c.c) u24 q q q <| qM q q q <| B <| g <| O h fun ak aC h => have aD := aj.q1; ?_
 refine fun aQ aE => zp (I := fun s a w2 => match s with | ao => (Fr a 47 [(5, am), (36, A1_2), (37, iV (List.length p1_2 : Int)), (38, iV ao)] ∧ Holds M0 w w2 [.sl 3 tI am az] G)) (O := fun o e a w2 => match o with | .inl _ => e = .exit 0 ∧ (Fr a 47 [] ∧ Holds M0 w w2 [] G) | .inr q0 => e = .ret ∧ (Fr a 47 [(4, .bool q0)] ∧ Holds M0 w w2 [] G)) aC ?_ ?_ ?_
 ·exact ⟨aE.s, aD⟩
 ·rintro ao _ a aR aa ⟨ha, af⟩
  refine S1 ha <| rR <| A q (qt_lss q q) q q <| B <| C ?_
  refine Yh q aa (fun aa => ?_) (fun aa => ?_)
  ·refine y <| C <| g <| rR <| O aa fun aS ap aa => b af.ctx (hp1_2.c) ap u24 i3 q q q q fun aT aU aV aF => lI u3 q (af.el (hp1_2.c) ap aF) q q q <| qA q q q <| B <| C <| zk <| qM q q q <| qM q q q <| O aa fun aW aG aa => Qc q q c67 af (fun _ => w_slices_Contains___int_int hS0 aG) q <| A q (qt_not q) q q <| Qn af fun a ha aX aq => X <| S1 ha ?_
   refine Yh q aa (fun aa => ?_) (fun aa => ?_)
   ·refine rR <| qA q q q <| B <| W fun a ha => ?_
    cases aa
    have aH := aq.q0
    exact zj (m (⟨ret_ne, q, ha.s, aH⟩))
   refine WP_skip fun a ha => zi <| X <| S1 ha <| Z <| A q (qt_add q q) q q <| qM q q q <| WL_nil fun a ha => ?_
   cases aa
   exact ⟨q, ha.s, aq⟩
  refine WP_exit fun a ha => ?_
  cases aa
  have aI := af.q0
  exact zo (⟨exit_ne, q, ha.s, aI⟩)
 intro e a aY ar
 rcases ak with ak | ak
 ·obtain ⟨rfl, ha, aJ⟩ := ar
  refine zn <| X <| S1 ha <| rR <| qA q q q <| B <| W fun a ha => ?_
  cases h
  exact ret1 q ha q ⟨q, aJ⟩
 obtain ⟨rfl, ha, aK⟩ := ar
 obtain rfl := L h
 exact zj (m (ret1 q ha q ⟨q, aK⟩))
theorem w_impl_HouseValid {w : World} {G : List Res} {A0 : Value} {B0 : LI} (C0 : Has G ty12 A0 B0) {A1 : Value} {B1 : List Int} (C1 : Has G tI A1 B1) {A2 : Value} {B2 : List Int} (C2 : Has G tI A2 B2) {B3 : Int} {A4 : Value} {B4 : LT} (C4 : Has G ty14 A4 B4) {r : Bool} (h : impl_HouseValidS B0 B1 B2 B3 B4 = some r) (H : Ctx w G) : Calls Tryz.prog 10 #[.agg #[A0, A1, A2, iV B3, A4]] w fun e w' => e = .returned (.bool r) ∧ Holds M0 w w' [] G := by
 refine E0 (n := 47) H Tryz.func10 q q q fun H => ?_
 unfold impl_HouseValidS at h
 refine C <| Z <| WL_box (cs := [A0, A1, A2, iV B3, A4]) H q q q q fun b1 w2 H3 => qA q q q <| B <| C <| C <| zk <| qF uf27 fi27_0 nz23 q q q <| l u23 q (R H3.p0) q q q q <| qF uf27 fi27_1 nz24 q q q <| l u24 q (R H3.p0) q q q q <| O h fun x7 ay h => Qc q q c41 H3 (fun _ => w_impl_PricesValid (C0.c) (C1.c) ay) q <| A q (qt_not q) q q <| qM q q q <| O h fun b9 ae h => ?_
 refine Go (res := b9) 7 (if_t · ae) (fun ad aZ az => ?_) ?_
 ·exact have ae := if_f ad ae; qF uf27 fi27_2 nz24 (J q ad) q q <| l u24 q (R H3.p0) q (J q ad) q q <| qF uf27 fi27_0 nz23 (J q ad) q q <| l u23 q (R H3.p0) q (J q ad) q q <| za H3.ctx (t := ty12) (C0.c) u23 (J q ad) q q <| O ae fun a0 aA ae => Qc (J q ad) q c42 H3 (fun _ => w_impl_amountsOk (C2.c) aA) q <| A (J q ad) (qt_not q) q q <| az 7 q q q ae
 refine Qn H3 fun a ha a1 ab => X <| S1 ha ?_
 refine Yh q h (fun h => ?_) (fun h => ?_)
 ·refine rR <| qA q q q <| B <| W fun a ha => ?_
  cases h
  have aB := ab.q0
  exact m (ret1 q ha q ⟨q, aB⟩)
 refine y <| C <| rR <| qF uf27 fi27_3 nz3 q q q <| l u3 q (R ab.p0) q q q q <| A q (qt_lss q q) q q <| qM q q q ?_
 refine Ho (res := ((decide (B3 < 0)) || (decide (B3 > 99999)))) 3 os (fun ah a2 aC => ?_) ?_
 ·exact qF uf27 fi27_3 nz3 (J q ah) q q <| l u3 q (R ab.p0) q (J q ah) q q <| A (J q ah) (qt_gtr q q) q q <| aC 3 q q q (oi ah)
 refine qM q q q ?_
 refine Ho (res := (((decide (B3 < 0)) || (decide (B3 > 99999))) || (decide ((List.length B4 : Int) > 4)))) 4 os (fun ag a3 aD => ?_) ?_
 ·exact qF uf27 fi27_4 nz25 (J q ag) q q <| l u25 q (R ab.p0) q (J q ag) q q <| za ab.ctx (t := ty14) (C4.c) u25 (J q ag) q q <| A (J q ag) (qt_gtr q q) q q <| aD 4 q q q (oi ag)
 refine B ?_
 refine Yh q h (fun h => ?_) (fun h => ?_)
 ·refine rR <| qA q q q <| B <| W fun a ha => ?_
  cases h
  have aE := ab.q0
  exact m (ret1 q ha q ⟨q, aE⟩)
 refine y <| C <| rR <| qF uf27 fi27_4 nz25 q q q <| l u25 q (R ab.p0) q q q q <| za ab.ctx (t := ty14) (C4.c) u25 q q q <| qM q q q <| B <| g <| O h fun am aF h => ?_
 refine fun a4 aG => zp (I := fun s a w2 => match s with | aq => (Fr a 47 [(1, pB b1), (35, A4), (36, iV (List.length B4 : Int)), (37, iV aq)] ∧ Holds M0 w w2 [.bx b1 27 [A0, A1, A2, iV B3, A4]] G)) (O := fun o e a w2 => match o with | .inl _ => e = .exit 0 ∧ (Fr a 47 [] ∧ Holds M0 w w2 [] G) | .inr q0 => e = .ret ∧ (Fr a 47 [(2, .bool q0)] ∧ Holds M0 w w2 [] G)) aF ?_ ?_ ?_
 ·exact ⟨aG.s, ab⟩
 ·rintro aq _ a aH aa ⟨ha, ao⟩
  refine S1 ha <| rR <| A q (qt_lss q q) q q <| B <| C ?_
  refine Yh q aa (fun aa => ?_) (fun aa => ?_)
  ·refine y <| C <| g <| rR <| O aa fun af ar aa => b ao.ctx (C4.c) ar u25 i47 q q q q fun a5 a6 a7 aI => ?_
   obtain ⟨a8, aJ, aK⟩ := ao.atN (C4.c) ar aI
   refine XL_load_agg (t := ty14) us47 uo47 i47 aJ q q q fun a9 aL => ?_
   obtain ⟨c55, c56, ba, bb, rfl, au, aM, aN⟩ := aL
   obtain ⟨rfl, _⟩ := aM
   obtain ⟨c62, c63, bc, bd, rfl, av, aO, aP⟩ := aN
   obtain ⟨aj, rfl, aQ⟩ := Rep.sl_inv aO
   obtain ⟨ak, rfl, aR⟩ := Rep.sl_inv aP
   have aS : Holds _ w aH [.ro ty2 aj af.2.1, .ro tI ak af.2.2, .bx b1 27 [A0, A1, A2, iV B3, A4]] G := aK [.ro ty2 aj af.2.1, .ro tI ak af.2.2] ⟨⟨_, _, _, _, q, aQ, (fun k h => (fun k h => (fun _ h => h) k (by rw [au]; exact zx _ h)) k (by rw [av]; exact List.mem_append_left _ h))⟩, ⟨_, _, _, _, q, aR, (fun k h => (fun k h => (fun _ h => h) k (by rw [au]; exact zx _ h)) k (by rw [av]; exact zx _ h))⟩, trivial⟩
   change XL _ _ _ _ _ ((40, .agg #[iV af.1, aj, ak]) :: _) _
   refine zq (cs := [iV 0, nS, nS]) aS z47 q q q fun be bf ap => zl (cs' := [iV af.1, aj, ak]) ap q il47 q (T q (T (ap.ctx.sliceOne hR1) (T (ap.ctx.sliceOne hR2) q))) q q q fun bg al => B <| C <| zk <| qF uf27 fi27_0 nz23 q q q <| l u23 q (R al.p3) q q q q <| lA (R al.p0) us47 uo47 il47 q q q <| O aa fun bh aT aa => Qc q q c43 al (fun _ => w_impl_tableValid (C0.c.c.c.c) hR1 hR2 aT) q <| A q (qt_not q) q q <| Qn al fun a ha bi aw => X <| S1 ha ?_
   refine Yh q aa (fun aa => ?_) (fun aa => ?_)
   ·refine rR <| qA q q q <| B <| W fun a ha => ?_
    cases aa
    have aU := aw.q0.q0.q0.q0
    exact zj (m (⟨ret_ne, q, ha.s, aU⟩))
   refine WP_skip fun a ha => zi <| X <| S1 ha <| Z <| A q (qt_add q q) q q <| qM q q q <| WL_nil fun a ha => ?_
   cases aa
   have aV := aw.q0.q0.q0
   exact ⟨q, ha.s, aV⟩
  refine WP_exit fun a ha => ?_
  cases aa
  have aW := ao.q0
  exact zo (⟨exit_ne, q, ha.s, aW⟩)
 intro e a bj ax
 rcases am with am | am
 ·obtain ⟨rfl, ha, aX⟩ := ax
  refine zn <| X <| S1 ha <| rR <| qA q q q <| B <| W fun a ha => ?_
  cases h
  exact ret1 q ha q ⟨q, aX⟩
 obtain ⟨rfl, ha, aY⟩ := ax
 obtain rfl := L h
 exact zj (m (ret1 q ha q ⟨q, aY⟩))
theorem w_impl_copyInts {w : World} {G : List Res} {vp0 : Value} {p0 : List Int} (hp0 : Has G tI vp0 p0) {r : (List Int)} (h : impl_copyIntsS p0 = some r) (H : Ctx w G) : Calls Tryz.prog 62 #[vp0] w fun e w' => ∃ (v1 : Value), e = .returned (v1) ∧ Holds M0 w w' [.sl 3 tI v1 r] G := by
 refine E0 (n := 14) H Tryz.func62 q q q fun H => ?_
 unfold impl_copyIntsS at h
 refine rR <| qA q q q <| B <| C <| rR <| qM q q q <| za H.ctx (t := tI) (hp0) u24 q q q <| A q (qt_eql q q) q q <| B ?_
 refine Yh q h (fun h => ?_) (fun h => ?_)
 ·refine rR <| qA q q q <| B <| W fun a ha => ?_
  cases h
  have H1 := H.nS 3 tI
  exact m (ret1 q ha q ⟨(nS), q, H1⟩)
 refine y <| rR <| qM q q q <| za H.ctx (t := tI) (hp0) u24 q q q <| O h fun x2 aa h => WL_makeH H aa u24 j3 q (fun _ => ⟨q, q⟩) q q q q q fun v4 w5 H6 => qA q q q <| rN <| qM q q q <| qM q q q <| WL_copyH q H6 (hp0.c) q u24 i3 q q q q fun w8 H9 => rN <| qM q q q <| qA q q q <| B <| W fun a ha => ?_
 cases h
 exact ret1 q ha q ⟨v4, q, H9⟩
theorem w_impl_copyItem {w : World} {G : List Res} {B0 : Int} {A1 : Value} {B1 : LP} (C1 : Has G ty2 A1 B1) {B2 : Int} {r : (Int × LP × Int)} (h : impl_copyItemS B0 B1 B2 = some r) (H : Ctx w G) : Calls Tryz.prog 63 #[.agg #[iV B0, A1, iV B2]] w fun e w' => ∃ (v1 : Value), e = .returned (.agg #[iV r.1, v1, iV r.2.2]) ∧ Holds M0 w w' [.sl 57 ty2 v1 r.2.1] G := by
 refine E0 (n := 24) H Tryz.func63 q q q fun H => ?_
 unfold impl_copyItemS at h
 refine C <| Z <| WL_box (cs := [iV B0, A1, iV B2]) H q q q q fun b1 w2 H3 => zq (cs := [iV 0, nS, iV 0]) H3 z55 q q q fun b5 w6 H7 => rN <| qF uf55 fi55_0 nz3 q q q <| l u3 q (R H7.p1) q q q q <| qF uf55 fi55_2 nz3 q q q <| l u3 q (R H7.p1) q q q q <| A q (qt_build (args := [(0, .tmp 5), (2, .tmp 7)]) (css := [#[iV B0], #[iV B2]]) (cells := #[iV B0, nS, iV B2]) q ⟨q, q, trivial⟩ (by kernel_rfl)) q q <| zq (cs := [iV 0, nS, iV 0]) H7 z55 q q q fun ah az ak => zl (cs' := [iV B0, nS, iV B2]) ak q il55 q q q q q fun aA ab => B <| C <| rR <| qF uf55 fi55_1 nz53 q q q <| l u53 q (R ab.p2) q q q q <| za ab.ctx (t := ty2) (C1.c.c.c) u53 q q q <| A q (qt_gtr q q) q q <| B <| O h fun al aa h => ?_
 refine WP_join (M := fun a w2 => ∃ ad, Fr a 24 [(2, pB b5), (3, pB ah)] ∧ Holds M0 w w2 [.bx b5 55 [iV 0, nS, iV 0], .bx ah 55 [iV B0, ad, iV B2], .sl 57 ty2 ad al] G) ?_ ?_
 ·refine Yh q aa (fun aa => ?_) (fun aa => ?_)
  ·refine rR <| qF uf55 fi55_1 nz53 q q q <| l u53 q (R ab.p2) q q q q <| za ab.ctx (t := ty2) (C1.c.c.c) u53 q q q <| O aa fun aB am aa => WL_makeH ab am u53 j57 q (fun _ => ⟨_, _, [], [], q, q, ⟨q, q⟩, ⟨q, q⟩⟩) q q q q q fun ao aC ap => qF uf55 fi55_1 nz53 q q q <| have ae := ap.p1; WL_store_bx ae q il53 (ae.ctx.sliceCells hS1) (ae.ctx.sliceOne hS1) q q q fun aD af => B <| Z <| qF uf55 fi55_1 nz53 q q q <| l u53 q (R af.p0) q q q q <| qF uf55 fi55_1 nz53 q q q <| l u53 q (R af.p3) q q q q <| have aq := af.p1; WL_copyH q aq (C1.c.c.c.c) q u53 i57 q q q q fun aE ar => WL_nil fun a ha => ?_
   cases aa
   have au := ar.q3.p1.p2
   exact X (⟨ao, ha.s, au⟩)
  refine WP_skip fun a ha => ?_
  cases aa
  refine have av := ab.nS 57 ty2; have aw := av.q3.p1.p2; ?_
  exact X (⟨(nS), ha.s, aw⟩)
 rintro a aF ⟨ad, ha, ag⟩
 refine S1 ha <| rR <| lA (R ag.p1) us55 uo55 il55 q q q <| zl (cs' := [iV B0, ad, iV B2]) ag q il55 q (T q (T (ag.ctx.sliceOne hS2) (T q q))) q q q fun aG aj => B <| W fun a ha => ?_
 cases h
 refine have ax := R aj.p0; have ay := aj.q0.q0; ?_
 exact retc q ha q (run_loadVar_bx (cs := [iV B0, ad, iV B2]) us55 uo55 il55 ax) ⟨ad, q, ay⟩
theorem w_impl_copyTicket {w : World} {G : List Res} {vp0 : Value} {p0 : LP} (hp0 : Has G ty2 vp0 p0) {r : LP} (h : impl_copyTicketS p0 = some r) (H : Ctx w G) : Calls Tryz.prog 64 #[vp0] w fun e w' => ∃ (v1 : Value), e = .returned (v1) ∧ Holds M0 w w' [.sl 49 ty2 v1 r] G := by
 refine E0 (n := 14) H Tryz.func64 q q q fun H => ?_
 unfold impl_copyTicketS at h
 refine rR <| qA q q q <| B <| C <| rR <| qM q q q <| za H.ctx (t := ty2) (hp0) u45 q q q <| A q (qt_eql q q) q q <| B ?_
 refine Yh q h (fun h => ?_) (fun h => ?_)
 ·refine rR <| qA q q q <| B <| W fun a ha => ?_
  cases h
  have H1 := H.nS 49 ty2
  exact m (ret1 q ha q ⟨(nS), q, H1⟩)
 refine y <| rR <| qM q q q <| za H.ctx (t := ty2) (hp0) u45 q q q <| O h fun x2 aa h => WL_makeH H aa u45 j49 q (fun _ => ⟨_, _, [], [], q, q, ⟨q, q⟩, ⟨q, q⟩⟩) q q q q q fun v4 w5 H6 => qA q q q <| rN <| qM q q q <| qM q q q <| WL_copyH q H6 (hp0.c) q u45 i49 q q q q fun w8 H9 => rN <| qM q q q <| qA q q q <| B <| W fun a ha => ?_
 cases h
 exact ret1 q ha q ⟨v4, q, H9⟩
theorem w_impl_copyHouse {w : World} {G : List Res} {A0 : Value} {B0 : LI} (C0 : Has G ty12 A0 B0) {A1 : Value} {B1 : List Int} (C1 : Has G tI A1 B1) {A2 : Value} {B2 : List Int} (C2 : Has G tI A2 B2) {B3 : Int} {A4 : Value} {B4 : LT} (C4 : Has G ty14 A4 B4) {r : (LI × (List Int) × (List Int) × Int × LT)} (h : impl_copyHouseS B0 B1 B2 B3 B4 = some r) (H : Ctx w G) : Calls Tryz.prog 27 #[.agg #[A0, A1, A2, iV B3, A4]] w fun e w' => ∃ (v1 : Value) (csv1 : List Value) (Fv1 : List Nat) (v4 : Value) (v5 : Value) (v6 : Value) (csv6 : List Value) (Fv6 : List Nat), e = .returned (.agg #[v1, v4, v5, iV r.2.2.2.1, v6]) ∧ Holds M0 w w' [dpR 55 dt15 v1 csv1 r.1 Fv1, .sl 3 tI v4 r.2.1, .sl 3 tI v5 r.2.2.1, dpR 47 dt16 v6 csv6 r.2.2.2.2 Fv6] G := by
 refine E0 (n := 55) H Tryz.func27 q q q fun H => ?_
 unfold impl_copyHouseS at h
 refine C <| Z <| WL_box (cs := [A0, A1, A2, iV B3, A4]) H q q q q fun b1 w2 H3 => zq (cs := [nS, nS, nS, iV 0, nS]) H3 z27 q q q fun b5 w6 H7 => B <| C <| O h fun aj bh h => O h fun ak aT h => ?_
 refine WP_join (M := fun a w2 => ∃ ad aN aU aV aa ab af aC aD, Fr a 55 [(1, pB b1), (2, pB b5), (3, pB ad)] ∧ Holds M0 w w2 [.bx b1 27 [A0, A1, A2, iV B3, A4], .bx b5 27 [nS, nS, nS, iV 0, nS], .bx ad 27 [aN, aa, ab, iV B3, af], dpR 55 dt15 aN aU ([]) aV, .sl 3 tI aa aj, .sl 3 tI ab ak, dpR 47 dt16 af aC ([]) aD] G) ?_ ?_
 ·refine WP_ordersT (fun w1 w2 => Chg M0 w1 w2) 10 (by kernel_rfl) fun aW bz => have aO := H7.grow bz; ?_
  have aP : Ctx aW ([] ++ ([.bx b5 27 [nS, nS, nS, iV 0, nS], .bx b1 27 [A0, A1, A2, iV B3, A4]] ++ G)) := aO.ctx
  have bA : Holds _ aW aW [] ([.bx b5 27 [nS, nS, nS, iV 0, nS], .bx b1 27 [A0, A1, A2, iV B3, A4]] ++ G) := zb (Rs := []) aP
  refine have Hc := bA; XQ (i := 0) q (by kernel_rfl) q Hc.chg q (fun _ => qt_fieldAddr uf27 fi27_1 nz24 q) q q <| have bB := HasB.bx (HasB.c (HasB.hd)) Hc.ctx; XT (i := 1) q (by kernel_rfl) q Hc.chg q (qs_cell u24 q q (bB.cell (i := 1) q) Hc.chg (Ctx.outB aP (HasB.c (HasB.hd)))) q q <| XQ (i := 3) q (by kernel_rfl) q Hc.chg q (fun _ => qt_fieldAddr uf27 fi27_2 nz24 q) q q <| have bC := HasB.bx (HasB.c (HasB.hd)) Hc.ctx; XT (i := 4) q (by kernel_rfl) q Hc.chg q (qs_cell u24 q q (bC.cell (i := 2) q) Hc.chg (Ctx.outB aP (HasB.c (HasB.hd)))) q q <| XQ (i := 6) q (by kernel_rfl) q Hc.chg q (fun _ => qt_fieldAddr uf27 fi27_3 nz3 q) q q <| have bD := HasB.bx (HasB.c (HasB.hd)) Hc.ctx; XT (i := 7) q (by kernel_rfl) q Hc.chg q (qs_cell u3 q q (bD.cell (i := 3) q) Hc.chg (Ctx.outB aP (HasB.c (HasB.hd)))) q q ?_
  repeat' first
   | refine XDo 2 q <| V1 q q c62 (w_impl_copyInts (C1.c.c) bh Hc.ctx) q fun aq _ HK => ?_; have Hc := Hc.cN1 [] HK; refine XN Hc.chg ?_
   | refine XDo 2 q <| V1 q q c62 (w_impl_copyInts (C1.c.c.c) bh Hc.ctx) q fun aq _ HK => ?_; have Hc := Hc.cN1 [] HK; refine XN Hc.chg ?_
   | refine XDo 5 q <| V1 q q c62 (w_impl_copyInts (C2.c.c.c) aT Hc.ctx) q fun am _ HK => ?_; have Hc := Hc.cN1 [] HK; refine XN Hc.chg <| XQ (i := 8) q (by kernel_rfl) q Hc.chg q (fun _ => qt_build (args := [(1, .tmp 10), (2, .tmp 13), (3, .tmp 15)]) (css := [#[aq], #[am], #[iV B3]]) (cells := #[nS, aq, am, iV B3, nS]) q ⟨(Hc.ctx.sliceCells hS1), (Hc.ctx.sliceCells hS0), q, trivial⟩ (by kernel_rfl)) q q ?_
   | refine XDo 5 q <| V1 q q c62 (w_impl_copyInts (C2.c.c.c.c) aT Hc.ctx) q fun am _ HK => ?_; have Hc := Hc.cN1 [] HK; refine XN Hc.chg <| XQ (i := 8) q (by kernel_rfl) q Hc.chg q (fun _ => qt_build (args := [(1, .tmp 10), (2, .tmp 13), (3, .tmp 15)]) (css := [#[aq], #[am], #[iV B3]]) (cells := #[nS, aq, am, iV B3, nS]) q ⟨(Hc.ctx.sliceCells hS2), (Hc.ctx.sliceCells hS0), q, trivial⟩ (by kernel_rfl)) q q ?_
   | refine XDo 5 q <| V1 q q c62 (w_impl_copyInts (C2.c.c.c.c) aT Hc.ctx) q fun am _ HK => ?_; have Hc := Hc.cN1 [] HK; refine XN Hc.chg <| XQ (i := 8) q (by kernel_rfl) q Hc.chg q (fun _ => qt_build (args := [(1, .tmp 10), (2, .tmp 13), (3, .tmp 15)]) (css := [#[aq], #[am], #[iV B3]]) (cells := #[nS, aq, am, iV B3, nS]) q ⟨(Hc.ctx.sliceCells hS1), (Hc.ctx.sliceCells hS0), q, trivial⟩ (by kernel_rfl)) q q ?_
   | refine XDo 9 q ?_; refine zq (cs := [nS, nS, nS, iV 0, nS]) Hc z27 q q q (fun bE _ Hc => ?_); refine XN Hc.chg ?_
   | have Hc := aO.cN3 [] Hc; refine XDo 10 q ?_; refine zl (cs' := [nS, aq, am, iV B3, nS]) Hc q il27 q (T q (T (Hc.ctx.sliceOne hS2) (T (Hc.ctx.sliceOne hS1) (T q (T q q))))) q q q (fun _ Hc => ?_); refine XE q ?_
   | have Hc := aO.cN3 [] Hc; refine XDo 10 q ?_; have Hc := Hc.p1; refine zl (cs' := [nS, aq, am, iV B3, nS]) Hc q il27 q (T q (T (Hc.ctx.sliceOne hS2) (T (Hc.ctx.sliceOne hS1) (T q (T q q))))) q q q (fun _ Hc => ?_); refine XE q ?_
   | have Hc := aO.cN3 [] Hc; refine XDo 10 q ?_; have Hc := Hc.p2; refine zl (cs' := [nS, aq, am, iV B3, nS]) Hc q il27 q (T q (T (Hc.ctx.sliceOne hS2) (T (Hc.ctx.sliceOne hS1) (T q (T q q))))) q q q (fun _ Hc => ?_); refine XE q ?_
   | refine XV [2, 9] (by decide +kernel) q (allc ?_ (allc ?_ alln))
   | refine XV [5, 9] (by decide +kernel) q (allc ?_ (allc ?_ alln))
   | refine XV [9] (by decide +kernel) q (allc ?_ alln)
   | refine XV [10] (by decide +kernel) q (allc ?_ alln)
   | refine XV [5] (by decide +kernel) q (allc ?_ alln)
   | refine XV [2] (by decide +kernel) q (allc ?_ alln)
   | refine XC_done (by decide +kernel) (fun a ha => ?_); have Hc := Hc.nD 55 dt15; have Hc := Hc.nD 47 dt16; have Hc := ((((((Hc.p3).p4).p3).p4).p5).p6); exact ⟨bE, (nS), [], [], aq, am, (nS), [], [], ha.s, Hc⟩
 rintro a cY ⟨ad, aN, aU, aV, aa, ab, af, aC, aD, ha, aX⟩
 refine S1 ha <| C <| rR <| qF uf27 fi27_0 nz23 q q q <| l u23 q (R aX.p0) q q q q <| have bF := aX.viewG (Vw.c (Vw.c (Vw.c (Vw.d (Vw.c (Vw.c (Vw.d Vw.refl))))))); za bF (t := ty12) (C0.c.c.c.c.c.c.c) u23 q q q <| qM q q q <| B <| g <| O h fun aG bG h => have bH := aX.p6.p6.p6.p6.p6.p6.p6; ?_
 refine fun cZ bI => zp (I := fun s a w2 => match s with | (aY, aE) => ∃ ao aw ax, Fr a 55 [(1, pB b1), (2, pB b5), (3, pB ad), (18, A0), (19, iV (List.length B0 : Int)), (20, iV aY)] ∧ Holds M0 w w2 [.bx b1 27 [A0, A1, A2, iV B3, A4], .bx b5 27 [nS, nS, nS, iV 0, nS], .bx ad 27 [ao, aa, ab, iV B3, af], dpR 55 dt15 ao aw aE ax, .sl 3 tI aa aj, .sl 3 tI ab ak, dpR 47 dt16 af aC ([]) aD] G) (O := fun o e a w2 => match o with | q0 => e = .exit 0 ∧ ∃ aH aZ a0, Fr a 55 [(1, pB b1), (2, pB b5), (3, pB ad)] ∧ Holds M0 w w2 [.bx b1 27 [A0, A1, A2, iV B3, A4], .bx b5 27 [nS, nS, nS, iV 0, nS], .bx ad 27 [aH, aa, ab, iV B3, af], dpR 55 dt15 aH aZ q0 a0, .sl 3 tI aa aj, .sl 3 tI ab ak, dpR 47 dt16 af aC ([]) aD] G) bG ?_ ?_ ?_
 ·exact ⟨aN, aU, aV, bI.s, bH⟩
 ·rintro ⟨aY, aE⟩ _ a bJ ar ⟨ao, aw, ax, ha, a1⟩
  refine S1 ha <| rR <| A q (qt_lss q q) q q <| B <| C ?_
  refine Yh q ar (fun ar => ?_) (fun ar => ?_)
  ·refine y <| C <| g <| rR <| O ar fun ag bi ar => have bK := a1.viewG (Vw.c (Vw.c (Vw.c (Vw.d (Vw.c (Vw.c (Vw.d Vw.refl))))))); b bK (C0.c.c.c.c.c.c.c) bi u23 i55 q q q q fun c0 c1 c2 bL => ?_
   obtain ⟨c3, bM, bN⟩ := a1.atN (C0.c.c.c.c.c.c.c) bi bL
   refine XL_load_agg (t := ty12) us55 uo55 i55 bM q q q fun c4 bO => ?_
   obtain ⟨c5, c6, da, db, rfl, bP, bQ, bR⟩ := bO
   obtain ⟨rfl, _⟩ := bQ
   obtain ⟨dc, dd, de, df, rfl, bS, bT, bU⟩ := bR
   obtain ⟨au, rfl, bV⟩ := Rep.sl_inv bT
   obtain ⟨rfl, _⟩ := bU
   have bW : Holds _ w bJ [.ro ty2 au ag.2.1, .bx b1 27 [A0, A1, A2, iV B3, A4], .bx b5 27 [nS, nS, nS, iV 0, nS], .bx ad 27 [ao, aa, ab, iV B3, af], dpR 55 dt15 ao aw aE ax, .sl 3 tI aa aj, .sl 3 tI ab ak, dpR 47 dt16 af aC ([]) aD] G := bN [.ro ty2 au ag.2.1] ⟨⟨_, _, _, _, q, bV, (fun k h => (fun k h => (fun _ h => h) k (by rw [bP]; exact zx _ h)) k (by rw [bS]; exact List.mem_append_left _ h))⟩, trivial⟩
   change XL _ _ _ _ _ ((23, .agg #[iV ag.1, au, iV ag.2.2]) :: _) _
   refine zq (cs := [iV 0, nS, iV 0]) bW z55 q q q fun bj dg bk => have bX := bk.viewG (Vw.c (Vw.c (Vw.c (Vw.c (Vw.c (Vw.d (Vw.c (Vw.c (Vw.d Vw.refl))))))))); zl (cs' := [iV ag.1, au, iV ag.2.2]) bk q il55 q (T q (T (bX.sliceOne hR1) (T q q))) q q q fun dh bY => B <| O ar fun av bZ ar => O ar fun b0 b4 ar => ?_
   refine WP_mid (Mid := fun a w2 => ∃ aQ a2 a3, Fr a 55 [(1, pB b1), (2, pB b5), (3, pB ad), (18, A0), (19, iV (List.length B0 : Int)), (20, iV aY)] ∧ Holds M0 w w2 [.bx b1 27 [A0, A1, A2, iV B3, A4], .bx b5 27 [nS, nS, nS, iV 0, nS], .bx ad 27 [aQ, aa, ab, iV B3, af], dpR 55 dt15 aQ a2 b0 a3, .sl 3 tI aa aj, .sl 3 tI ab ak, dpR 47 dt16 af aC ([]) aD] G) ?_ ?_
   ·refine WP_ordersT (fun w1 w2 => Chg (([dpR 55 dt15 ao aw aE ax] : List Res).flatMap Res.own) w1 w2) 6 (by kernel_rfl) fun a4 b6 => have b7 := bY.grow b6; have bl := b7.p5; ?_
    have a5 : Ctx a4 ([dpR 55 dt15 ao aw aE ax] ++ ([.bx bj 55 [iV ag.1, au, iV ag.2.2], .ro ty2 au ag.2.1, .bx b1 27 [A0, A1, A2, iV B3, A4], .bx b5 27 [nS, nS, nS, iV 0, nS], .bx ad 27 [ao, aa, ab, iV B3, af], .sl 3 tI aa aj, .sl 3 tI ab ak, .ro ty14 af ([])] ++ G)) := bl.viewG (Vw.c (Vw.c (Vw.c (Vw.c (Vw.c (Vw.c (Vw.c (Vw.c (Vw.d Vw.refl)))))))))
    have b8 : Holds _ a4 a4 [dpR 55 dt15 ao aw aE ax] ([.bx bj 55 [iV ag.1, au, iV ag.2.2], .ro ty2 au ag.2.1, .bx b1 27 [A0, A1, A2, iV B3, A4], .bx b5 27 [nS, nS, nS, iV 0, nS], .bx ad 27 [ao, aa, ab, iV B3, af], .sl 3 tI aa aj, .sl 3 tI ab ak, .ro ty14 af ([])] ++ G) := zb (Rs := [dpR 55 dt15 ao aw aE ax]) a5
    refine have Hc := b8; XQ (i := 0) q (by kernel_rfl) q Hc.chg q (fun _ => qt_fieldAddr uf27 fi27_0 nz23 q) q q <| have b9 := HasB.bx (HasB.c (HasB.c (HasB.c (HasB.c (HasB.c (HasB.hd)))))) Hc.ctx; XT (i := 1) q (by kernel_rfl) q Hc.chg q (qs_cell u23 q q (b9.cell (i := 0) q) Hc.chg (Ctx.outB a5 (HasB.c (HasB.c (HasB.c (HasB.c (HasB.hd))))))) q q <| have ca := HasB.bx (HasB.c (HasB.hd)) Hc.ctx; XT (i := 2) q (by kernel_rfl) q Hc.chg q (qs_agg (cs := [iV ag.1, au, iV ag.2.2]) us55 uo55 il55 q (fun j z hj => by rw [Nat.zero_add]; exact ca.cell hj) Hc.chg (Ctx.outB a5 (HasB.hd))) q q ?_
    change XC _ _ _ _ _ _ _ _ ((26, .agg #[iV ag.1, au, iV ag.2.2]) :: _) _
    repeat' first
     | refine XDo 3 q ?_; have cb := Hc.viewG (Vw.d Vw.refl); refine V1 q q c63 (w_impl_copyItem hR2 bZ cb) q fun a6 _ HK => ?_; have Hc := Hc.cV1 [] HK (zc (Pure.sl q) all_nil); refine XN Hc.chg ?_
     | refine XDo 4 q ?_; refine WL_buildD (Rs := [.sl 57 ty2 a6 av.2.1]) (d := dt15) (args := [.tmp 27]) (xs := ([(av.1, av.2.1, av.2.2)] : LI)) Hc (DBltL.one (cs' := [iV av.1, a6, iV av.2.2]) (DBlt.cast (DBlt.pair (DBlt.int (k := .i64) (n := av.1)) (DBlt.pair (DBlt.sl (e := 57) (t := ty2) (v := a6) (x := av.2.1) q) (DBlt.int (k := .i64) (n := av.2.2)))) q q) q) u23 j55 q q q q q q (fun di dj dk _ Hc => ?_); refine XN Hc.chg ?_
     | refine XDo 5 q ?_; have Hc := Hc.p1; refine WL_appendD Hc b4 u23 j55 q q q q q q (fun cc cd ce _ Hc => ?_); refine XN Hc.chg ?_
     | have Hc := bl.cV1 [_] Hc (zc Pure.dp all_nil); refine XDo 6 q <| qF uf27 fi27_0 nz23 q q q <| XE q ?_
     | refine XDo 7 q ?_; have Hc := Hc.p5; have bm := Hc.viewG (Vw.c (Vw.d (Vw.c (Vw.c (Vw.c (Vw.c (Vw.c (Vw.c (Vw.d Vw.refl))))))))); refine WL_store_bx Hc q il23 (bm.sliceCells hR1) (bm.sliceOne hR1) q q q (fun _ Hc => ?_); refine XE q ?_
     | refine XV [3] (by decide +kernel) q (allc ?_ alln)
     | refine XV [4] (by decide +kernel) q (allc ?_ alln)
     | refine XV [5] (by decide +kernel) q (allc ?_ alln)
     | refine XV [6] (by decide +kernel) q (allc ?_ alln)
     | refine XV [7] (by decide +kernel) q (allc ?_ alln)
     | refine XC_done (by decide +kernel) (fun a ha => ?_); have Hc := (((((((((Hc.q2).q2).p6).p6).p6).p4).p4).p6).p6); exact ⟨cc, cd, ce, ha.s, Hc⟩
   rintro a dl ⟨aQ, a2, a3, ha, cf⟩
   refine zi <| X <| S1 ha <| Z <| A q (qt_add q q) q q <| qM q q q <| WL_nil fun a ha => ?_
   cases ar
   have cg := cf.p6.p6.p6.p6.p6.p6.p6
   exact ⟨q, aQ, a2, a3, ha.s, cg⟩
  refine WP_exit fun a ha => ?_
  cases ar
  have ch := a1.p6.p6.p6.p6.p6.p6.p6
  exact zo (⟨exit_ne, q, ao, aw, ax, ha.s, ch⟩)
 rintro _ a dm ⟨rfl, ah, aI, aJ, ha, a7⟩
 refine zn <| X <| S1 ha <| C <| rR <| qF uf27 fi27_4 nz25 q q q <| l u25 q (R a7.p0) q q q q <| have ci := a7.viewG (Vw.c (Vw.c (Vw.c (Vw.d (Vw.c (Vw.c (Vw.d Vw.refl))))))); za ci (t := ty14) (C4.c.c.c.c.c.c.c) u25 q q q <| qM q q q <| B <| g <| O h fun dn cj h => have ck := a7.q0.p5.p5.p5.p5.p5.p5; ?_
 refine fun dq cl => zp (I := fun s a w2 => match s with | (a8, aF) => ∃ ap ay az, Fr a 55 [(2, pB b5), (3, pB ad), (33, A4), (34, iV (List.length B4 : Int)), (35, iV a8)] ∧ Holds M0 w w2 [.bx b5 27 [nS, nS, nS, iV 0, nS], .bx ad 27 [ah, aa, ab, iV B3, ap], dpR 55 dt15 ah aI aG aJ, .sl 3 tI aa aj, .sl 3 tI ab ak, dpR 47 dt16 ap ay aF az] G) (O := fun o e a w2 => match o with | q0 => e = .exit 2 ∧ ∃ aH aZ a0, Fr a 55 [(2, pB b5), (3, pB ad)] ∧ Holds M0 w w2 [.bx b5 27 [nS, nS, nS, iV 0, nS], .bx ad 27 [ah, aa, ab, iV B3, aH], dpR 55 dt15 ah aI aG aJ, .sl 3 tI aa aj, .sl 3 tI ab ak, dpR 47 dt16 aH aZ q0 a0] G) cj ?_ ?_ ?_
 ·exact ⟨af, aC, aD, cl.s, ck⟩
 ·rintro ⟨a8, aF⟩ _ a cm al ⟨ap, ay, az, ha, a9⟩
  refine S1 ha <| rR <| A q (qt_lss q q) q q <| B <| C ?_
  refine Yh q al (fun al => ?_) (fun al => ?_)
  ·refine y <| C <| g <| rR <| O al fun ae bn al => have cn := a9.viewG (Vw.c (Vw.c (Vw.d (Vw.c (Vw.c (Vw.d Vw.refl)))))); b cn (C4.c.c.c.c.c.c) bn u25 i47 q q q q fun dr ds dt co => ?_
   obtain ⟨du, cp, cq⟩ := a9.atN (C4.c.c.c.c.c.c) bn co
   refine XL_load_agg (t := ty14) us47 uo47 i47 cp q q q fun dv cr => ?_
   obtain ⟨dw, dx, dy, dz, rfl, bo, ct, cu⟩ := cr
   obtain ⟨rfl, _⟩ := ct
   obtain ⟨dA, dB, dC, dD, rfl, bp, cv, cw⟩ := cu
   obtain ⟨aA, rfl, cx⟩ := Rep.sl_inv cv
   obtain ⟨aB, rfl, cy⟩ := Rep.sl_inv cw
   have cz : Holds _ w cm [.ro ty2 aA ae.2.1, .ro tI aB ae.2.2, .bx b5 27 [nS, nS, nS, iV 0, nS], .bx ad 27 [ah, aa, ab, iV B3, ap], dpR 55 dt15 ah aI aG aJ, .sl 3 tI aa aj, .sl 3 tI ab ak, dpR 47 dt16 ap ay aF az] G := cq [.ro ty2 aA ae.2.1, .ro tI aB ae.2.2] ⟨⟨_, _, _, _, q, cx, (fun k h => (fun k h => (fun _ h => h) k (by rw [bo]; exact zx _ h)) k (by rw [bp]; exact List.mem_append_left _ h))⟩, ⟨_, _, _, _, q, cy, (fun k h => (fun k h => (fun _ h => h) k (by rw [bo]; exact zx _ h)) k (by rw [bp]; exact zx _ h))⟩, trivial⟩
   change XL _ _ _ _ _ ((38, .agg #[iV ae.1, aA, aB]) :: _) _
   refine zq (cs := [iV 0, nS, nS]) cz z47 q q q fun bq dE br => have bs := br.viewG (Vw.c (Vw.c (Vw.c (Vw.c (Vw.c (Vw.d (Vw.c (Vw.c (Vw.d Vw.refl))))))))); zl (cs' := [iV ae.1, aA, aB]) br q il47 q (T q (T (bs.sliceOne hR1) (T (bs.sliceOne hR2) q))) q q q fun dF cA => B <| O al fun ba cB al => O al fun bb cC al => O al fun cD cE al => ?_
   refine WP_mid (Mid := fun a w2 => ∃ aR bc bd, Fr a 55 [(2, pB b5), (3, pB ad), (33, A4), (34, iV (List.length B4 : Int)), (35, iV a8)] ∧ Holds M0 w w2 [.bx b5 27 [nS, nS, nS, iV 0, nS], .bx ad 27 [ah, aa, ab, iV B3, aR], dpR 55 dt15 ah aI aG aJ, .sl 3 tI aa aj, .sl 3 tI ab ak, dpR 47 dt16 aR bc cD bd] G) ?_ ?_
   ·refine WP_ordersT (fun w1 w2 => Chg (([dpR 47 dt16 ap ay aF az] : List Res).flatMap Res.own) w1 w2) 13 (by kernel_rfl) fun be cF => have cG := cA.grow cF; have bt := cG.p8; ?_
    have aK : Ctx be ([dpR 47 dt16 ap ay aF az] ++ ([.bx bq 47 [iV ae.1, aA, aB], .ro ty2 aA ae.2.1, .ro tI aB ae.2.2, .bx b5 27 [nS, nS, nS, iV 0, nS], .bx ad 27 [ah, aa, ab, iV B3, ap], .ro ty12 ah aG, .sl 3 tI aa aj, .sl 3 tI ab ak] ++ G)) := bt.viewG (Vw.c (Vw.c (Vw.c (Vw.c (Vw.c (Vw.c (Vw.d (Vw.c (Vw.c Vw.refl)))))))))
    have cH : Holds _ be be [dpR 47 dt16 ap ay aF az] ([.bx bq 47 [iV ae.1, aA, aB], .ro ty2 aA ae.2.1, .ro tI aB ae.2.2, .bx b5 27 [nS, nS, nS, iV 0, nS], .bx ad 27 [ah, aa, ab, iV B3, ap], .ro ty12 ah aG, .sl 3 tI aa aj, .sl 3 tI ab ak] ++ G) := zb (Rs := [dpR 47 dt16 ap ay aF az]) aK
    refine have Hc := cH; XQ (i := 0) q (by kernel_rfl) q Hc.chg q (fun _ => qt_fieldAddr uf27 fi27_4 nz25 q) q q <| have cI := HasB.bx (HasB.c (HasB.c (HasB.c (HasB.c (HasB.c (HasB.hd)))))) Hc.ctx; XT (i := 1) q (by kernel_rfl) q Hc.chg q (qs_cell u25 q q (cI.cell (i := 4) q) Hc.chg (Ctx.outB aK (HasB.c (HasB.c (HasB.c (HasB.c (HasB.hd))))))) q q <| XQ (i := 2) q (by kernel_rfl) q Hc.chg q (fun _ => qt_fieldAddr uf47 fi47_0 nz3 q) q q <| have cJ := HasB.bx (HasB.c (HasB.hd)) Hc.ctx; XT (i := 3) q (by kernel_rfl) q Hc.chg q (qs_cell u3 q q (cJ.cell (i := 0) q) Hc.chg (Ctx.outB aK (HasB.hd))) q q <| XQ (i := 4) q (by kernel_rfl) q Hc.chg q (fun _ => qt_fieldAddr uf47 fi47_1 nz45 q) q q <| have cK := HasB.bx (HasB.c (HasB.hd)) Hc.ctx; XT (i := 5) q (by kernel_rfl) q Hc.chg q (qs_cell u45 q q (cK.cell (i := 1) q) Hc.chg (Ctx.outB aK (HasB.hd))) q q <| XQ (i := 7) q (by kernel_rfl) q Hc.chg q (fun _ => qt_fieldAddr uf47 fi47_2 nz24 q) q q ?_
    refine have cL := HasB.bx (HasB.c (HasB.hd)) Hc.ctx; XT (i := 8) q (by kernel_rfl) q Hc.chg q (qs_cell u24 q q (cL.cell (i := 2) q) Hc.chg (Ctx.outB aK (HasB.hd))) q q ?_
    repeat' first
     | refine XDo 6 q ?_; have cM := Hc.viewG (Vw.d Vw.refl); refine V1 q q c64 (w_impl_copyTicket hR2 cB cM) q fun aL _ HK => ?_; have Hc := Hc.cV1 [] HK (zc (Pure.sl q) all_nil); refine XN Hc.chg ?_
     | refine XDo 9 q ?_; have cN := Hc.viewG (Vw.c (Vw.d Vw.refl)); refine V1 q q c62 (w_impl_copyInts hR4 cC cN) q fun aM _ HK => ?_; have Hc := Hc.cV1 [] HK (zc (Pure.sl q) all_nil); refine XN Hc.chg ?_; have bu := Hc.viewG (Vw.c (Vw.c (Vw.d Vw.refl))); refine XQ (i := 10) q (by kernel_rfl) q Hc.chg q (fun _ => qt_build (args := [(0, .tmp 42), (1, .tmp 45), (2, .tmp 48)]) (css := [#[iV ae.1], #[aL], #[aM]]) (cells := #[iV ae.1, aL, aM]) q ⟨q, (bu.sliceCells hS1), (bu.sliceCells hS0), trivial⟩ (by kernel_rfl)) q q ?_
     | refine XDo 11 q ?_; have Hc := Hc.p1; refine WL_buildD (Rs := [.sl 49 ty2 aL ba, .sl 3 tI aM bb]) (d := dt16) (args := [.tmp 49]) (xs := ([(ae.1, ba, bb)] : LT)) Hc (DBltL.one (cs' := [iV ae.1, aL, aM]) (DBlt.cast (DBlt.pair (DBlt.int (k := .i64) (n := ae.1)) (DBlt.pair (DBlt.sl (e := 49) (t := ty2) (v := aL) (x := ba) q) (DBlt.sl (e := 3) (t := tI) (v := aM) (x := bb) q))) q q) q) u25 j47 q q q q q q (fun dG dH dI _ Hc => ?_); refine XN Hc.chg ?_
     | refine XDo 12 q ?_; have Hc := Hc.p1; refine WL_appendD Hc cE u25 j47 q q q q q q (fun cO cP cQ _ Hc => ?_); refine XN Hc.chg ?_
     | have Hc := bt.cV1 [_] Hc (zc Pure.dp all_nil); refine XDo 13 q <| qF uf27 fi27_4 nz25 q q q <| XE q ?_
     | refine XDo 14 q ?_; have Hc := Hc.p5; have bv := Hc.viewG (Vw.c (Vw.d (Vw.c (Vw.c (Vw.c (Vw.c (Vw.d (Vw.c (Vw.c Vw.refl))))))))); refine WL_store_bx Hc q il25 (bv.sliceCells hR1) (bv.sliceOne hR1) q q q (fun _ Hc => ?_); refine XE q ?_
     | refine XV [6] (by decide +kernel) q (allc ?_ alln)
     | refine XV [9] (by decide +kernel) q (allc ?_ alln)
     | refine XV [11] (by decide +kernel) q (allc ?_ alln)
     | refine XV [12] (by decide +kernel) q (allc ?_ alln)
     | refine XV [13] (by decide +kernel) q (allc ?_ alln)
     | refine XV [14] (by decide +kernel) q (allc ?_ alln)
     | refine XC_done (by decide +kernel) (fun a ha => ?_); have Hc := (((((((((Hc.q2).q2).q2).p1).p5).p5).p5).p4).p5); exact ⟨cO, cP, cQ, ha.s, Hc⟩
   rintro a dJ ⟨aR, bc, bd, ha, cR⟩
   refine zi <| X <| S1 ha <| Z <| A q (qt_add q q) q q <| qM q q q <| WL_nil fun a ha => ?_
   cases al
   have cS := cR.p5.p5.p5.p5.p5.p5
   exact ⟨q, aR, bc, bd, ha.s, cS⟩
  refine WP_exit fun a ha => ?_
  cases al
  have cT := a9.p5.p5.p5.p5.p5.p5
  exact zo (⟨exit_ne, q, ap, ay, az, ha.s, cT⟩)
 rintro _ a dK ⟨rfl, bf, cU, cV, ha, bg⟩
 refine zn <| X <| S1 ha <| rR <| lA (R bg.p1) us27 uo27 il27 q q q <| have aS := bg.viewG (Vw.c (Vw.c (Vw.d (Vw.c (Vw.c (Vw.d Vw.refl)))))); zl (cs' := [ah, aa, ab, iV B3, bf]) bg q il27 q (T (aS.sliceOne hR2) (T (aS.sliceOne hS3) (T (aS.sliceOne hS4) (T q (T (aS.sliceOne hR5) q))))) q q q fun dL bw => B <| W fun a ha => ?_
 cases h
 refine have cW := R bw.p0; have cX := bw.q0.q0.p3.p3.p3.p3; ?_
 exact retc q ha q (run_loadVar_bx (cs := [ah, aa, ab, iV B3, bf]) us27 uo27 il27 cW) ⟨ah, aI, aJ, aa, ab, bf, cU, cV, q, cX⟩
theorem w_impl_onlyNamed {w : World} {G : List Res} (hGl : Glob G) {B0 : Int} {B1 : Int} {B2 : Int} {B3 : Int} {r : Bool} (h : impl_onlyNamedS B0 B1 B2 B3 = some r) (H : Ctx w G) : Calls Tryz.prog 26 #[.agg #[iV B0, iV B1, iV B2, iV B3]] w fun e w' => e = .returned (.bool r) ∧ Holds M0 w w' [] G := by
 refine E0 (n := 34) H Tryz.func26 q q q fun H => ?_
 unfold impl_onlyNamedS at h
 refine C <| Z <| WL_box (cs := [iV B0, iV B1, iV B2, iV B3]) H q q q q fun b1 w2 H3 => qA q q q <| B <| C <| rR <| qF uf29 fi29_0 nz3 q q q <| l u3 q (R H3.p0) q q q q <| A q (qt_lss q q) q q <| qM q q q ?_
 refine Ho (res := ((decide (B0 < 0)) || (decide (B0 > 5)))) 3 os (fun ae K7 ao => ?_) ?_
 ·exact qF uf29 fi29_0 nz3 (J q ae) q q <| l u3 q (R H3.p0) q (J q ae) q q <| A (J q ae) (qt_gtr q q) q q <| ao 3 q q q (oi ae)
 refine B ?_
 refine Yh q h (fun h => ?_) (fun h => ?_)
 ·refine rR <| qA q q q <| B <| W fun a ha => ?_
  cases h
  have ap := H3.q0
  exact m (ret1 q ha q ⟨q, ap⟩)
 refine y <| rR <| qF uf29 fi29_1 nz3 q q q <| l u3 q (R H3.p0) q q q q <| qF uf29 fi29_2 nz3 q q q <| l u3 q (R H3.p0) q q q q <| qF uf29 fi29_3 nz3 q q q <| l u3 q (R H3.p0) q q q q <| A q (qt_build (args := [(0, .tmp 15), (1, .tmp 17), (2, .tmp 19)]) (css := [#[iV B1], #[iV B2], #[iV B3]]) (cells := #[iV B1, iV B2, iV B3]) q ⟨q, q, q, trivial⟩ (by kernel_rfl)) q q <| zq (cs := [iV 0, iV 0, iV 0]) H3 z94 q q q fun ag aG aq => zl (cs' := [iV B1, iV B2, iV B3]) aq q il94 q q q q q fun ar au => ?_
 have ab : Holds _ w ar [.sl 94 tI (.slice (some ⟨ag, 0, none⟩) 3 3) ([B1, B2, B3] : List Int), .bx b1 29 [iV B0, iV B1, iV B2, iV B3]] G := Holds.bx_sl (t := tI) (xs := [B1, B2, B3]) au (fun _ => ⟨[_], _, [], [], q, q, ⟨q, q⟩, ⟨[_], _, [], [], q, q, ⟨q, q⟩, ⟨[_], _, [], [], q, q, ⟨q, q⟩, ⟨q, q⟩⟩⟩⟩) q q
 refine B <| C <| rR <| qF uf29 fi29_0 nz3 q q q <| l u3 q (R ab.p1) q q q q <| O h fun av aj h => XL_indexA ab.ctx (hGl.c.c.has) q aj u95 i3 q q q q fun aH aI aJ aw => lI u3 q (ab.el (hGl.c.c.has) aj aw) q q q <| O h fun ax af h => XL_sliceA ab.ctx hS0 q af u94 i3 ⟨_, q⟩ q q q q <| za ab.ctx (t := tI) (Has.sub hS0 af) u24 q q q <| qM q q q <| B <| g <| O h fun ah ay h => have az := ab.q1; ?_
 refine fun aK aA => zp (I := fun s a w2 => match s with | ak => (Fr a 34 [(25, (subV (Ty.size tI) (.slice (some ⟨ag, 0, none⟩) 3 3) (Int.toNat av) (Int.toNat (List.length ([B1, B2, B3] : List Int) : Int)))), (26, iV (List.length ax : Int)), (27, iV ak)] ∧ Holds M0 w w2 [.sl 94 tI (.slice (some ⟨ag, 0, none⟩) 3 3) ([B1, B2, B3] : List Int)] G)) (O := fun o e a w2 => match o with | .inl _ => e = .exit 0 ∧ (Fr a 34 [] ∧ Holds M0 w w2 [] G) | .inr q0 => e = .ret ∧ (Fr a 34 [(2, .bool q0)] ∧ Holds M0 w w2 [] G)) ay ?_ ?_ ?_
 ·exact ⟨aA.s, az⟩
 ·rintro ak _ a aL aa ⟨ha, ad⟩
  refine S1 ha <| rR <| A q (qt_lss q q) q q <| B <| C ?_
  refine Yh q aa (fun aa => ?_) (fun aa => ?_)
  ·refine y <| C <| g <| rR <| O aa fun aM al aa => b ad.ctx (Has.sub hS0 af) al u24 i3 q q q q fun aN aO aP aB => lI u3 q (ad.el (Has.sub hS0 af) al aB) q q q <| qA q q q <| rN <| qM q q q <| A q (qt_neq q q) q q <| B ?_
   refine Yh q aa (fun aa => ?_) (fun aa => ?_)
   ·refine rR <| qA q q q <| B <| W fun a ha => ?_
    cases aa
    have aC := ad.q0
    exact zj (m (⟨ret_ne, q, ha.s, aC⟩))
   refine WP_skip fun a ha => zi <| X <| S1 ha <| Z <| A q (qt_add q q) q q <| qM q q q <| WL_nil fun a ha => ?_
   cases aa
   exact ⟨q, ha.s, ad⟩
  refine WP_exit fun a ha => ?_
  cases aa
  have aD := ad.q0
  exact zo (⟨exit_ne, q, ha.s, aD⟩)
 intro e a aQ am
 rcases ah with ah | ah
 ·obtain ⟨rfl, ha, aE⟩ := am
  refine zn <| X <| S1 ha <| rR <| qA q q q <| B <| W fun a ha => ?_
  cases h
  exact ret1 q ha q ⟨q, aE⟩
 obtain ⟨rfl, ha, aF⟩ := am
 obtain rfl := L h
 exact zj (m (ret1 q ha q ⟨q, aF⟩))
theorem w_impl_isItem {w : World} {G : List Res} {bp0 : Nat} {A0 : Value} {B0 : LI} (C0 : Has G ty12 A0 B0) {A1 : Value} {B1 : List Int} (C1 : Has G tI A1 B1) {A2 : Value} {B2 : List Int} (C2 : Has G tI A2 B2) {B3 : Int} {A4 : Value} {B4 : LT} (C4 : Has G ty14 A4 B4) {p1 : Int} {p2 : Bool} {r : Bool} (h : impl_isItemS B0 B1 B2 B3 B4 p1 p2 = some r) (H : Ctx w ([.bx bp0 27 [A0, A1, A2, iV B3, A4]] ++ G)) : Calls Tryz.prog 65 #[pB bp0, iV p1, .bool p2] w fun e w' => e = .returned (.bool r) ∧ Holds (([.bx bp0 27 [A0, A1, A2, iV B3, A4]] : List Res).flatMap Res.own) w w' [.bx bp0 27 [A0, A1, A2, iV B3, A4]] G := by
 refine E1 (n := 31) H Tryz.func65 q q q fun H => ?_
 unfold impl_isItemS at h
 refine rR <| qA q q q <| rN <| qM q q q <| A q (qt_geq q q) q q <| qM q q q ?_
 refine Ha (res := ((decide (p1 ≥ 0)) && (decide (p1 < (List.length B0 : Int))))) 7 an (fun ab K2 af => ?_) ?_
 ·exact qM (J q ab) q q <| qM (J q ab) q q <| qN (J q ab) q q <| qF uf27 fi27_0 nz23 (J q ab) q q <| l u23 q (R H.p0) q (J q ab) q q <| za H.ctx (t := ty12) (C0.c) u23 (J q ab) q q <| A (J q ab) (qt_lss q q) q q <| af 7 q q q (ai ab)
 refine qM q q q <| O h fun b5 ad h => ?_
 refine Ha (res := b5) 11 (if_f · ad) (fun aa K8 ag => ?_) ?_
 ·exact have ad := if_t aa ad; qM (J q aa) q q <| qN (J q aa) q q <| qF uf27 fi27_0 nz23 (J q aa) q q <| l u23 q (R H.p0) q (J q aa) q q <| qM (J q aa) q q <| O ad fun aj ae ad => b H.ctx (C0.c) ae u23 i55 (J q aa) q q q fun ak al am ah => qF uf55 fi55_0 nz3 (J q aa) q q <| lI u3 q (H.el (C0.c) ae ah).f (J q aa) q q <| A (J q aa) (qt_gtr q q) q q <| qM (J q aa) q q <| A (J q aa) (qt_beql u4 q q) q q <| ag 11 q q q ad
 refine qA q q q <| B <| W fun a ha => ?_
 obtain rfl := L h
 exact ret1 q ha q ⟨q, H⟩
theorem w_impl_doBuy {w : World} {G : List Res} {bp0 : Nat} {A0 : Value} {B0 : LI} {csp0_0 : List Value} {Fp0_0 : List Nat} {A1 : Value} {B1 : List Int} {A2 : Value} {B2 : List Int} {B3 : Int} {A4 : Value} {B4 : LT} {csp0_4 : List Value} {Fp0_4 : List Nat} {p1 : Int} {p2 : Int} {r : (List Int) × Int × Bool} (h : impl_doBuyS B0 B1 B2 B3 B4 p1 p2 = some r) (H : Ctx w ([.bx bp0 27 [A0, A1, A2, iV B3, A4], dpR 55 dt15 A0 csp0_0 B0 Fp0_0, .sl 3 tI A1 B1, .sl 3 tI A2 B2, dpR 47 dt16 A4 csp0_4 B4 Fp0_4] ++ G)) : Calls Tryz.prog 28 #[pB bp0, iV p1, iV p2] w fun e w' => e = .returned (.bool r.2.2) ∧ Holds (([.bx bp0 27 [A0, A1, A2, iV B3, A4], dpR 55 dt15 A0 csp0_0 B0 Fp0_0, .sl 3 tI A1 B1, .sl 3 tI A2 B2, dpR 47 dt16 A4 csp0_4 B4 Fp0_4] : List Res).flatMap Res.own) w w' [.bx bp0 27 [A0, A1, A2, iV r.2.1, A4], dpR 55 dt15 A0 csp0_0 B0 Fp0_0, .sl 3 tI A1 B1, .sl 3 tI A2 r.1, dpR 47 dt16 A4 csp0_4 B4 Fp0_4] G := by
 refine E1 (n := 45) H Tryz.func28 q q q fun H => ?_
 unfold impl_doBuyS at h
 refine rR <| qA q q q <| B <| C <| rR <| qM q q q <| qM q q q <| O h fun x1 ak h => have V3 := H.viewG (Vw.c (Vw.d (Vw.c (Vw.c (Vw.d Vw.refl))))); V0 q q c65 (w_impl_isItem hR0 hS1 hS2 hR3 ak V3) q fun w4 H5 => have H6 := H.cV1 [_] H5 (zc Pure.bx all_nil); A q (qt_not q) q q <| qM q q q ?_
 refine Ho (res := ((!x1) || (decide (p2 < 1)))) 2 os (fun ad K8 al => ?_) ?_
 ·exact qM (J q ad) q q <| A (J q ad) (qt_lss q q) q q <| al 2 q q q (oi ad)
 refine qM q q q ?_
 refine Ho (res := (((!x1) || (decide (p2 < 1))) || (decide (p2 > 50)))) 2 os (fun ae aA am => ?_) ?_
 ·exact qM (J q ae) q q <| A (J q ae) (qt_gtr q q) q q <| am 2 q q q (oi ae)
 refine B ?_
 refine Yh q h (fun h => ?_) (fun h => ?_)
 ·refine rR <| qA q q q <| B <| W fun a ha => ?_
  cases h
  have ao := H6.p4.p4.p4.p4.p4
  exact m (ret1 q ha q ⟨q, ao⟩)
 refine y <| C <| WP_tail 13 (by kernel_rfl) (by kernel_rfl) fun aB ap => have aa := H6.grow ap; qM q q q <| qN q q q <| qF uf27 fi27_3 nz3 q q q <| l u3 q (R aa.p0) q q q q <| qM q q q <| qM q q q <| qN q q q <| qF uf27 fi27_1 nz24 q q q <| l u24 q (R aa.p0) q q q q <| qM q q q <| O h fun aC af h => have aq := aa.viewG (Vw.c (Vw.d (Vw.c (Vw.c (Vw.d Vw.refl))))); b aq hS2 af u24 i3 q q q q fun aD aE aF ar => lI u3 q (aa.el hS2 af ar) q q q <| A q (qt_mul q q) q q <| SL_nil <| A q (qt_sub q q) q q <| qN q q q <| qF uf27 fi27_3 nz3 q q q <| WL_store_bx aa q il3 q q q q q fun aG ab => rN <| qM q q q <| qN q q q <| qF uf27 fi27_2 nz24 q q q <| l u24 q (R ab.p0) q q q q <| qM q q q <| O h fun au ag h => have ah := ab.viewG (Vw.c (Vw.d (Vw.c (Vw.c (Vw.d Vw.refl))))); b ah hS3 ag u24 i3 q q q q fun aH aI aJ av => lI u3 q (ab.el hS3 ag av) q q q <| qM q q q <| A q (qt_add q q) q q <| O h fun aK aj h => b ah hS3 aj u24 i3 q q q q fun aL aM aN aw => ?_
 refine have ax := ab.p3; WL_storeH (fo := 0) (cs' := [iV (IntKind.wrap .i64 (au + p2))]) ax aj aw (Upd.whole (Blt.int)) q il3 q q q q fun aO ay => rN <| qA q q q <| B <| W fun a ha => ?_
 cases h
 have az := ay.p4.p1.p4.p4.p4
 exact ret1 q ha q ⟨q, az⟩
theorem w_impl_runMakes {w : World} {G : List Res} {B0 : Int} {A1 : Value} {B1 : LP} (C1 : Has G ty2 A1 B1) {B2 : Int} {r : Int} (h : impl_runMakesS B0 B1 B2 = some r) (H : Ctx w G) : Calls Tryz.prog 91 #[.agg #[iV B0, A1, iV B2]] w fun e w' => e = .returned (iV r) ∧ Holds M0 w w' [] G := by
 refine E0 (n := 8) H Tryz.func91 q q q fun H => ?_
 unfold impl_runMakesS at h
 refine C <| Z <| WL_box (cs := [iV B0, A1, iV B2]) H q q q q fun b1 w2 H3 => qA q q q <| B <| C <| rR <| qF uf55 fi55_0 nz3 q q q <| l u3 q (R H3.p0) q q q q <| A q (qt_eql q q) q q <| B ?_
 refine Yh q h (fun h => ?_) (fun h => ?_)
 ·refine rR <| qA q q q <| B <| W fun a ha => ?_
  cases h
  have H6 := H3.q0
  exact m (ret1 q ha q ⟨q, H6⟩)
 refine y <| rR <| qF uf55 fi55_0 nz3 q q q <| l u3 q (R H3.p0) q q q q <| qA q q q <| B <| W fun a ha => ?_
 obtain rfl := L h
 have H8 := H3.q0
 exact ret1 q ha q ⟨q, H8⟩
theorem w_impl_MakeRun {w : World} {G : List Res} {vp0 : Value} {p0 : LI} (hp0 : Has G ty12 vp0 p0) {vp1 : Value} {p1 : List Int} (hp1 : Has G tI vp1 p1) {A2_0 : Value} {p2_0 : List Int} (hp2_0 : Has G tI A2_0 p2_0) {A2_1 : Value} {p2_1 : List Int} (hp2_1 : Has G tI A2_1 p2_1) {r : (List Int) × Bool} (h : impl_MakeRunS p0 p1 p2_0 p2_1 = some r) (H : Ctx w G) : Calls Tryz.prog 66 #[vp0, vp1, .agg #[A2_0, A2_1]] w fun e w' => ∃ (v1 : Value), e = .returned (.tuple #[v1, .bool r.2]) ∧ Holds M0 w w' [.sl 3 tI v1 r.1] G := by
 refine E0 (n := 85) H Tryz.func66 q q q fun H => ?_
 unfold impl_MakeRunS at h
 refine C <| Z <| WL_box (cs := [A2_0, A2_1]) H q q q q fun b1 w2 H3 => qA q q q <| qA q q q <| B <| C <| C <| zk <| qM q q q <| O h fun x5 a1 h => Qc q q c76 H3 (fun _ => w_impl_ItemsValid (hp0.c) a1) q <| A q (qt_not q) q q <| qM q q q <| O h fun b7 am h => ?_
 refine Go (res := b7) 5 (if_t · am) (fun ao cd a2 => ?_) ?_
 ·exact have am := if_f ao am; qM (J q ao) q q <| qM (J q ao) q q <| za H3.ctx (t := ty12) (hp0.c) u23 (J q ao) q q <| O am fun ce a3 am => Qc (J q ao) q c42 H3 (fun _ => w_impl_amountsOk (hp1.c) a3) q <| A (J q ao) (qt_not q) q q <| a2 5 q q q am
 refine qM q q q <| O h fun a4 ap h => ?_
 refine Go (res := a4) 6 (if_t · ap) (fun ak cf a5 => ?_) ?_
 ·exact have ap := if_f ak ap; qF uf101 fi101_0 nz24 (J q ak) q q <| l u24 q (R H3.p0) q (J q ak) q q <| qM (J q ak) q q <| za H3.ctx (t := ty12) (hp0.c) u23 (J q ak) q q <| O ap fun cg a6 ap => Qc (J q ak) q c42 H3 (fun _ => w_impl_amountsOk (hp2_0.c) a6) q <| A (J q ak) (qt_not q) q q <| a5 6 q q q ap
 refine Qn H3 fun a ha ch aC => X <| S1 ha ?_
 refine Yh q h (fun h => ?_) (fun h => ?_)
 ·refine rR <| qA q q q <| qA q q q <| B <| W fun a ha => ?_
  cases h
  refine have a7 := aC.nS 3 tI; have a8 := a7.q1; ?_
  exact m (ret2 q ha q q ⟨(nS), q, a8⟩)
 refine y <| rR <| qM q q q <| O h fun ci a9 h => V1 q q c62 (w_impl_copyInts (hp1.c) a9 aC.ctx) q fun ag cj ba => have aJ := aC.cN1 [] ba; qA q q q <| B <| C <| rR <| qM q q q <| za aJ.ctx (t := ty12) (hp0.c.c) u23 q q q <| qM q q q <| B <| g <| O h fun ax bb h => have bc := aJ.p1; ?_
 refine fun ck bd => zp (I := fun s a w2 => match s with | (aj, aD) => (Fr a 85 [(5, pB b1), (8, ag), (33, vp0), (34, iV (List.length p0 : Int)), (35, iV aj)] ∧ Holds M0 w w2 [.bx b1 101 [A2_0, A2_1], .sl 3 tI ag aD] G)) (O := fun o e a w2 => match o with | .inl q0 => e = .exit 0 ∧ (Fr a 85 [(8, ag)] ∧ Holds M0 w w2 [.sl 3 tI ag q0] G) | .inr (q0, q1, q2) => e = .ret ∧ ∃ ar, Fr a 85 [(6, ar), (7, .bool q1)] ∧ Holds M0 w w2 [.sl 3 tI ar q0] G) bb ?_ ?_ ?_
 ·exact ⟨bd.s, bc⟩
 ·rintro ⟨aj, aD⟩ _ a be ae ⟨ha, aE⟩
  refine S1 ha <| rR <| A q (qt_lss q q) q q <| B <| C ?_
  refine Yh q ae (fun ae => ?_) (fun ae => ?_)
  ·refine y <| C <| g <| rR <| qM q q q <| O ae fun aa aK ae => b aE.ctx (hp0.c.c) aK u23 i55 q q q q fun cl cm cn bf => ?_
   obtain ⟨co, bg, bh⟩ := aE.atN (hp0.c.c) aK bf
   refine XL_load_agg (t := ty12) us55 uo55 i55 bg q q q fun cp bi => ?_
   obtain ⟨c57, c58, cq, cr, rfl, bj, bk, bl⟩ := bi
   obtain ⟨rfl, _⟩ := bk
   obtain ⟨c64, c65, ct, cu, rfl, bm, bn, bo⟩ := bl
   obtain ⟨af, rfl, bp⟩ := Rep.sl_inv bn
   obtain ⟨rfl, _⟩ := bo
   have bq : Holds _ w be [.ro ty2 af aa.2.1, .bx b1 101 [A2_0, A2_1], .sl 3 tI ag aD] G := bh [.ro ty2 af aa.2.1] ⟨⟨_, _, _, _, q, bp, (fun k h => (fun k h => (fun _ h => h) k (by rw [bj]; exact zx _ h)) k (by rw [bm]; exact List.mem_append_left _ h))⟩, trivial⟩
   change XL _ _ _ _ _ ((39, .agg #[iV aa.1, af, iV aa.2.2]) :: _) _
   refine zq (cs := [iV 0, nS, iV 0]) bq z55 q q q fun aq cv aL => qA q q q <| zl (cs' := [iV aa.1, af, iV aa.2.2]) aL q il55 q (T q (T (aL.ctx.sliceOne hR1) (T q q))) q q q fun cw aF => B <| C <| rR <| qF uf55 fi55_1 nz53 q q q <| l u53 q (R aF.p0) q q q q <| za aF.ctx (t := ty2) hR1 u53 q q q <| qM q q q <| B <| g <| O ae fun al br ae => have bs := aF.p1.p1.p3.p3; ?_
   refine fun cx bt => zp (I := fun s a w2 => match s with | (aM, aN) => (Fr a 85 [(5, pB b1), (8, ag), (9, iV aj), (10, pB aq), (33, vp0), (34, iV (List.length p0 : Int)), (35, iV aj), (41, af), (42, iV (List.length aa.2.1 : Int)), (43, iV aM)] ∧ Holds M0 w w2 [.bx b1 101 [A2_0, A2_1], .sl 3 tI ag aN, .bx aq 55 [iV aa.1, af, iV aa.2.2], .ro ty2 af aa.2.1] G)) (O := fun o e a w2 => match o with | .inl q0 => e = .exit 2 ∧ (Fr a 85 [(5, pB b1), (8, ag), (9, iV aj), (10, pB aq), (33, vp0), (34, iV (List.length p0 : Int)), (35, iV aj)] ∧ Holds M0 w w2 [.bx b1 101 [A2_0, A2_1], .sl 3 tI ag q0, .bx aq 55 [iV aa.1, af, iV aa.2.2], .ro ty2 af aa.2.1] G) | .inr (q0, q1, q2) => e = .ret ∧ ∃ ar, Fr a 85 [(6, ar), (7, .bool q1)] ∧ Holds M0 w w2 [.sl 3 tI ar q0] G) br ?_ ?_ ?_
   ·exact ⟨bt.s, bs⟩
   ·rintro ⟨aM, aN⟩ _ a cy ad ⟨ha, ay⟩
    refine S1 ha <| rR <| A q (qt_lss q q) q q <| B <| C ?_
    refine Yh q ad (fun ad => ?_) (fun ad => ?_)
    ·refine y <| C <| g <| rR <| O ad fun au aO ad => b ay.ctx hR3 aO u53 i57 q q q q fun cz cA cB bu => ?_
     obtain ⟨cC, bv, cD⟩ := ay.atN hR3 aO bu
     refine XL_load_agg (t := ty2) us57 uo57 i57 bv q q q fun cE bw => ?_
     obtain ⟨cF, c106, cG, cH, rfl, cI, bz, bA⟩ := bw
     obtain ⟨rfl, _⟩ := bz
     obtain ⟨rfl, _⟩ := bA
     change XL _ _ _ _ _ ((46, .agg #[iV au.1, iV au.2]) :: _) _
     refine zq (cs := [iV 0, iV 0]) ay z57 q q q fun cJ cK bB => zl (cs' := [iV au.1, iV au.2]) bB q il57 q q q q q fun cL bC => B <| C <| WP_tail 13 (by kernel_rfl) (by kernel_rfl) fun cM bD => have ah := bC.grow bD; qM q q q <| qF uf57 fi57_0 nz3 q q q <| l u3 q (R ah.p0) q q q q <| O ad fun bE aP ad => b ah.ctx hS2 aP u24 i3 q q q q fun cN cO cP bF => lI u3 q (ah.el hS2 aP bF) q q q <| qF uf101 fi101_0 nz24 q q q <| l u24 q (R ah.p1) q q q q <| qM q q q <| O ad fun bG aQ ad => b ah.ctx (hp2_0.c.c.c.c.c) aQ u24 i3 q q q q fun cQ cR cS bH => lI u3 q (ah.el (hp2_0.c.c.c.c.c) aQ bH) q q q <| qF uf57 fi57_1 nz3 q q q <| l u3 q (R ah.p0) q q q q <| A q (qt_mul q q) q q <| SL_nil <| A q (qt_sub q q) q q <| O ad fun cT aR ad => b ah.ctx hS2 aR u24 i3 q q q q fun cU cV cW bI => have bJ := ah.p2; WL_storeH (fo := 0) (cs' := [iV (IntKind.wrap .i64 (bE - (IntKind.wrap .i64 (bG * au.2))))]) bJ aR bI (Upd.whole (Blt.int)) q il3 q q q q fun cX av => ?_
     refine rN <| qM q q q <| qF uf57 fi57_0 nz3 q q q <| l u3 q (R av.p1) q q q q <| O ad fun cY aS ad => b av.ctx hS0 aS u24 i3 q q q q fun cZ c0 c1 bK => lI u3 q (av.el hS0 aS bK) q q q <| A q (qt_lss q q) q q <| B ?_
     refine Yh q ad (fun ad => ?_) (fun ad => ?_)
     ·refine rR <| qA q q q <| qA q q q <| B <| W fun a ha => ?_
      cases ad
      refine have bL := av.nS 3 tI; have bM := bL.q1.q1.q1.q1.q1; ?_
      exact zj (m (⟨ret_ne, q, (nS), ha.s, bM⟩))
     refine WP_skip fun a ha => zi <| X <| S1 ha <| Z <| A q (qt_add q q) q q <| qM q q q <| WL_nil fun a ha => ?_
     cases ad
     have bN := av.q1.p3.p3.p2.p3
     exact ⟨q, ha.s, bN⟩
    refine WP_exit fun a ha => ?_
    cases ad
    have bO := ay.p3.p3.p3.p3
    exact zo (⟨exit_ne, q, ha.s, bO⟩)
   intro e a c2 aT
   rcases al with al | al
   ·obtain ⟨rfl, ha, bP⟩ := aT
    refine zn <| X <| S1 ha <| O ae fun aU az ae => O ae fun aV aA ae => O ae fun aW bQ ae => O ae fun c3 aX ae => ?_
    refine WP_mid (Mid := fun a w2 => (Fr a 85 [(5, pB b1), (8, ag), (33, vp0), (34, iV (List.length p0 : Int)), (35, iV aj)] ∧ Holds M0 w w2 [.bx b1 101 [A2_0, A2_1], .sl 3 tI ag (List.set al (Int.toNat aj) (IntKind.wrap .i64 (aU + (IntKind.wrap .i64 (aV * aW)))))] G)) ?_ ?_
    ·refine WP_ordersT (fun w1 w2 => Chg M0 w1 w2) 13 (by kernel_rfl) fun aG bR => have aY := bP.grow bR; ?_
     have aw : Ctx aG ([] ++ ([.bx b1 101 [A2_0, A2_1], .sl 3 tI ag al, .bx aq 55 [iV aa.1, af, iV aa.2.2], .ro ty2 af aa.2.1] ++ G)) := aY.ctx
     have ab : Holds _ aG aG [] ([.bx b1 101 [A2_0, A2_1], .sl 3 tI ag al, .bx aq 55 [iV aa.1, af, iV aa.2.2], .ro ty2 af aa.2.1] ++ G) := zb (Rs := []) aw
     refine XQ (i := 0) q (by kernel_rfl) q ab.chg q (fun _ => qt_move q) q q <| XQ (i := 1) q (by kernel_rfl) q ab.chg q (fun _ => qt_move q) q q ?_
     obtain ⟨c4, c5, c6, aH⟩ := Ctx.isAt ab.ctx hS1 az
     refine XT (i := 2) q (by kernel_rfl) q ab.chg q (qs_index az aH u24 i3 q q) q q ?_
     obtain ⟨da, bS, db⟩ := ab.at hS1 az aH
     refine XT (i := 3) q (by kernel_rfl) q ab.chg q (qs_cell u3 q q (AtP.cInt bS) ab.chg (Ctx.outHas aw hS1 az aH)) q q <| XQ (i := 4) q (by kernel_rfl) q ab.chg q (fun _ => qt_fieldAddr uf101 fi101_0 nz24 q) q q <| have bT := HasB.bx (HasB.hd) ab.ctx; XT (i := 5) q (by kernel_rfl) q ab.chg q (qs_cell u24 q q (bT.cell (i := 0) q) ab.chg (Ctx.outB aw (HasB.hd))) q q <| XQ (i := 6) q (by kernel_rfl) q ab.chg q (fun _ => qt_move q) q q ?_
     obtain ⟨dc, dd, de, aI⟩ := Ctx.isAt ab.ctx (hp2_0.c.c.c.c) aA
     refine XT (i := 7) q (by kernel_rfl) q ab.chg q (qs_index aA aI u24 i3 q q) q q ?_
     obtain ⟨df, bU, dg⟩ := ab.at (hp2_0.c.c.c.c) aA aI
     refine XT (i := 8) q (by kernel_rfl) q ab.chg q (qs_cell u3 q q (AtP.cInt bU) ab.chg (Ctx.outHas aw (hp2_0.c.c.c.c) aA aI)) q q <| have bV := HasB.bx (HasB.c (HasB.c (HasB.hd))) ab.ctx; XT (i := 9) q (by kernel_rfl) q ab.chg q (qs_agg (cs := [iV aa.1, af, iV aa.2.2]) us55 uo55 il55 q (fun j z hj => by rw [Nat.zero_add]; exact bV.cell hj) ab.chg (Ctx.outB aw (HasB.c (HasB.c (HasB.hd))))) q q ?_
     change XC _ _ _ _ _ _ _ _ ((78, .agg #[iV aa.1, af, iV aa.2.2]) :: _) _
     exact X1 10 (by kernel_rfl) q <| V0 q q c91 (w_impl_runMakes hR3 bQ ab.ctx) q fun dh bW => have aB := ab.cN0 [] bW; XN aB.chg <| XQ (i := 11) q (by kernel_rfl) q aB.chg q (fun _ => qt_mul q q) q q <| XQ (i := 12) q (by kernel_rfl) q aB.chg q (fun _ => qt_add q q) q q <| have aZ := aY.cN0 [] aB; X1 13 (by kernel_rfl) q <| b aZ.ctx hS1 aX u24 i3 q q q q fun di dj dk bX => XE q <| X1 14 (by kernel_rfl) q <| have bY := aZ.p1; WL_storeH (fo := 0) (cs' := [iV (IntKind.wrap .i64 (aU + (IntKind.wrap .i64 (aV * aW))))]) bY aX bX (Upd.whole (Blt.int)) q il3 q q q q fun dl bZ => XE q <| XC_done (by kernel_rfl) fun a ha => have b0 := bZ.q2.q2.p1; ⟨ha.s, b0⟩
    rintro a dm ⟨ha, b4⟩
    refine zi <| X <| S1 ha <| Z <| A q (qt_add q q) q q <| qM q q q <| WL_nil fun a ha => ?_
    cases ae
    have b5 := b4.p1.p1
    exact ⟨q, ha.s, b5⟩
   obtain ⟨dn, dq, dr⟩ := al
   obtain ⟨rfl, b6, ha, b8⟩ := aT
   cases ae
   exact zj (m (zj (m (⟨ret_ne, q, b6, ha.s, b8⟩))))
  refine WP_exit fun a ha => ?_
  cases ae
  have b9 := aE.q0
  exact zo (⟨exit_ne, q, ha.s, b9⟩)
 intro e a ds a0
 rcases ax with ax | ax
 ·obtain ⟨rfl, ha, ca⟩ := a0
  refine zn <| X <| S1 ha <| rR <| qM q q q <| qA q q q <| qA q q q <| B <| W fun a ha => ?_
  cases h
  exact ret2 q ha q q ⟨ag, q, ca⟩
 obtain ⟨dt, du, dv⟩ := ax
 obtain ⟨rfl, cb, ha, cc⟩ := a0
 cases h
 exact zj (m (ret2 q ha q q ⟨cb, q, cc⟩))
theorem w_impl_doMake {w : World} {G : List Res} {bp0 : Nat} {A0 : Value} {B0 : LI} {csp0_0 : List Value} {Fp0_0 : List Nat} {A1 : Value} {B1 : List Int} {A2 : Value} {B2 : List Int} {B3 : Int} {A4 : Value} {B4 : LT} {csp0_4 : List Value} {Fp0_4 : List Nat} {p1 : Int} {p2 : Int} {r : (List Int) × Bool} (h : impl_doMakeS B0 B1 B2 B3 B4 p1 p2 = some r) (H : Ctx w ([.bx bp0 27 [A0, A1, A2, iV B3, A4], dpR 55 dt15 A0 csp0_0 B0 Fp0_0, .sl 3 tI A1 B1, .sl 3 tI A2 B2, dpR 47 dt16 A4 csp0_4 B4 Fp0_4] ++ G)) : Calls Tryz.prog 29 #[pB bp0, iV p1, iV p2] w fun e w' => ∃ (wp0_2 : Value), e = .returned (.bool r.2) ∧ Holds (([.bx bp0 27 [A0, A1, A2, iV B3, A4], dpR 55 dt15 A0 csp0_0 B0 Fp0_0, .sl 3 tI A1 B1, .sl 3 tI A2 B2, dpR 47 dt16 A4 csp0_4 B4 Fp0_4] : List Res).flatMap Res.own) w w' [.bx bp0 27 [A0, A1, wp0_2, iV B3, A4], dpR 55 dt15 A0 csp0_0 B0 Fp0_0, .sl 3 tI A1 B1, .sl 3 tI wp0_2 r.1, dpR 47 dt16 A4 csp0_4 B4 Fp0_4] G := by
 refine E1 (n := 53) H Tryz.func29 q q q fun H => ?_
 unfold impl_doMakeS at h
 refine rR <| qA q q q <| B <| C <| rR <| qM q q q <| qM q q q <| O h fun x1 az h => have V3 := H.viewG (Vw.c (Vw.d (Vw.c (Vw.c (Vw.d Vw.refl))))); V0 q q c65 (w_impl_isItem hR0 hS1 hS2 hR3 az V3) q fun w4 H5 => have H6 := H.cV1 [_] H5 (zc Pure.bx all_nil); A q (qt_not q) q q <| qM q q q ?_
 refine Ho (res := ((!x1) || (decide (p2 < 1)))) 2 os (fun aj K8 aA => ?_) ?_
 ·exact qM (J q aj) q q <| A (J q aj) (qt_lss q q) q q <| aA 2 q q q (oi aj)
 refine qM q q q ?_
 refine Ho (res := (((!x1) || (decide (p2 < 1))) || (decide (p2 > 50)))) 2 os (fun ak a0 aB => ?_) ?_
 ·exact qM (J q ak) q q <| A (J q ak) (qt_gtr q q) q q <| aB 2 q q q (oi ak)
 refine B ?_
 refine Yh q h (fun h => ?_) (fun h => ?_)
 ·refine rR <| qA q q q <| B <| W fun a ha => ?_
  cases h
  have aC := H6.p4.p4.p4.p4.p4
  exact m (ret1 q ha q ⟨A2, q, aC⟩)
 refine y <| rR <| qM q q q <| qN q q q <| qF uf27 fi27_0 nz23 q q q <| l u23 q (R H6.p0) q q q q <| have aD := H6.viewG (Vw.c (Vw.d (Vw.c (Vw.c (Vw.d Vw.refl))))); za aD (t := ty12) hR1 u23 q q q <| O h fun aq aE h => WL_makeH H6 aE u24 j3 q (fun _ => ⟨q, q⟩) q q q q q fun ab a1 ar => have aF := ar.viewG (Vw.c (Vw.c (Vw.d (Vw.c (Vw.c (Vw.d Vw.refl)))))); A q (qt_build (args := [(0, .tmp 27)]) (css := [#[ab]]) (cells := #[ab, nS]) q ⟨(aF.sliceCells hS0), trivial⟩ (by kernel_rfl)) q q <| zq (cs := [nS, nS]) ar z101 q q q fun au a2 av => have aG := av.viewG (Vw.c (Vw.c (Vw.c (Vw.d (Vw.c (Vw.c (Vw.d Vw.refl))))))); zl (cs' := [ab, nS]) av q il101 q (T (aG.sliceOne hS1) (T q q)) q q q fun a3 al => rN <| qF uf101 fi101_0 nz24 q q q <| l u24 q (R al.p0) q q q q <| qM q q q <| qM q q q <| O h fun a4 aw h => have aH := al.viewG (Vw.c (Vw.c (Vw.c (Vw.d (Vw.c (Vw.c (Vw.d Vw.refl))))))); b aH hS1 aw u24 i3 q q q q fun a5 a6 a7 aI => ?_
 refine have aJ := al.p1; WL_storeH (fo := 0) (cs' := [iV p2]) aJ aw aI (Upd.whole (Blt.int)) q il3 q q q q fun a8 aK => B <| C <| O h fun am aL h => ?_
 refine WP_join (M := fun a w2 => ∃ af, Fr a 53 [(0, pB bp0), (8, af), (9, .bool am.2)] ∧ Holds (([.bx bp0 27 [A0, A1, A2, iV B3, A4], dpR 55 dt15 A0 csp0_0 B0 Fp0_0, .sl 3 tI A1 B1, .sl 3 tI A2 B2, dpR 47 dt16 A4 csp0_4 B4 Fp0_4] : List Res).flatMap Res.own) w w2 [.bx bp0 27 [A0, A1, A2, iV B3, A4], dpR 55 dt15 A0 csp0_0 B0 Fp0_0, .sl 3 tI A1 B1, .sl 3 tI A2 B2, dpR 47 dt16 A4 csp0_4 B4 Fp0_4, .sl 3 tI af am.1] G) ?_ ?_
 ·refine WP_ordersT (fun w1 w2 => Chg M0 w1 w2) 14 (by kernel_rfl) fun ao aM => have ax := aK.grow aM; ?_
  have ag : Ctx ao ([] ++ ([.sl 3 tI ab (List.set aq (Int.toNat p1) p2), .bx au 101 [ab, nS], .bx bp0 27 [A0, A1, A2, iV B3, A4], .ro ty12 A0 B0, .sl 3 tI A1 B1, .sl 3 tI A2 B2, .ro ty14 A4 B4] ++ G)) := ax.viewG (Vw.c (Vw.c (Vw.c (Vw.d (Vw.c (Vw.c (Vw.d Vw.refl)))))))
  have aa : Holds _ ao ao [] ([.sl 3 tI ab (List.set aq (Int.toNat p1) p2), .bx au 101 [ab, nS], .bx bp0 27 [A0, A1, A2, iV B3, A4], .ro ty12 A0 B0, .sl 3 tI A1 B1, .sl 3 tI A2 B2, .ro ty14 A4 B4] ++ G) := zb (Rs := []) ag
  refine XQ (i := 0) q (by kernel_rfl) q aa.chg q (fun _ => qt_move q) q q <| XQ (i := 1) q (by kernel_rfl) q aa.chg q (fun _ => qt_nilCheck q) q q <| XQ (i := 2) q (by kernel_rfl) q aa.chg q (fun _ => qt_fieldAddr uf27 fi27_0 nz23 q) q q <| have aN := HasB.bx (HasB.c (HasB.c (HasB.hd))) aa.ctx; XT (i := 3) q (by kernel_rfl) q aa.chg q (qs_cell u23 q q (aN.cell (i := 0) q) aa.chg (Ctx.outB ag (HasB.c (HasB.c (HasB.hd))))) q q <| XQ (i := 4) q (by kernel_rfl) q aa.chg q (fun _ => qt_move q) q q <| XQ (i := 5) q (by kernel_rfl) q aa.chg q (fun _ => qt_nilCheck q) q q <| XQ (i := 6) q (by kernel_rfl) q aa.chg q (fun _ => qt_fieldAddr uf27 fi27_2 nz24 q) q q <| have aO := HasB.bx (HasB.c (HasB.c (HasB.hd))) aa.ctx; XT (i := 7) q (by kernel_rfl) q aa.chg q (qs_cell u24 q q (aO.cell (i := 2) q) aa.chg (Ctx.outB ag (HasB.c (HasB.c (HasB.hd))))) q q <| have aP := HasB.bx (HasB.c (HasB.hd)) aa.ctx; XT (i := 8) q (by kernel_rfl) q aa.chg q (qs_agg (cs := [ab, nS]) us101 uo101 il101 q (fun j z hj => by rw [Nat.zero_add]; exact aP.cell hj) aa.chg (Ctx.outB ag (HasB.c (HasB.hd)))) q q ?_
  change XC _ _ _ _ _ _ _ _ ((43, .agg #[ab, nS]) :: _) _
  exact X1 9 (by kernel_rfl) q <| V1 q q c66 (w_impl_MakeRun hR3 hS5 hS0 (HasRo.has HasRo.nil) aL aa.ctx) q fun aQ a9 aR => have ad := aa.cN1 [] aR; XN ad.chg <| XQ (i := 10) q (by kernel_rfl) q ad.chg q (fun _ => qt_move q) q q <| XQ (i := 11) q (by kernel_rfl) q ad.chg q (fun _ => zv q q) q q <| XQ (i := 12) q (by kernel_rfl) q ad.chg q (fun _ => zv q q) q q <| XQ (i := 13) q (by kernel_rfl) q ad.chg q (fun _ => qt_assign q) q q <| have aS := ax.cV1 [] ad (zc (Pure.sl q) all_nil); X1 14 (by kernel_rfl) q <| qA q q q <| XE q <| XC_done (by kernel_rfl) fun a ha => have aT := aS.q1.q1.p5.p5.p5.p5.p5; ⟨aQ, ha.s, aT⟩
 rintro a ba ⟨af, ha, ap⟩
 refine S1 ha <| C <| rR <| qM q q q <| B <| O h fun aU ae h => ?_
 refine WP_join (M := fun a w2 => ∃ ah, Fr a 53 [(0, pB bp0), (9, .bool am.2)] ∧ Holds (([.bx bp0 27 [A0, A1, A2, iV B3, A4], dpR 55 dt15 A0 csp0_0 B0 Fp0_0, .sl 3 tI A1 B1, .sl 3 tI A2 B2, dpR 47 dt16 A4 csp0_4 B4 Fp0_4] : List Res).flatMap Res.own) w w2 [.bx bp0 27 [A0, A1, ah, iV B3, A4], dpR 55 dt15 A0 csp0_0 B0 Fp0_0, .sl 3 tI A1 B1, .sl 3 tI ah aU, dpR 47 dt16 A4 csp0_4 B4 Fp0_4] G) ?_ ?_
 ·refine Yh q ae (fun ae => ?_) (fun ae => ?_)
  ·refine Z <| qM q q q <| qM q q q <| qN q q q <| qF uf27 fi27_2 nz24 q q q <| have ay := ap.viewG (Vw.c (Vw.d (Vw.c (Vw.c (Vw.d (Vw.c Vw.refl)))))); WL_store_bx ap q il24 (ay.sliceCells hS5) (ay.sliceOne hS5) q q q fun bb aV => WL_nil fun a ha => ?_
   cases ae
   have aW := aV.q3.p3.p4.p4.p4.p4
   exact X (⟨af, ha.s, aW⟩)
  refine WP_skip fun a ha => ?_
  obtain rfl := L ae
  have aX := ap.q5.p4.p4.p4.p4.p4
  exact X (⟨A2, ha.s, aX⟩)
 rintro a bc ⟨ah, ha, aY⟩
 refine S1 ha <| rR <| qM q q q <| qA q q q <| B <| W fun a ha => ?_
 cases h
 have aZ := aY.p4.p4.p4.p4.p4
 exact ret1 q ha q ⟨ah, q, aZ⟩
end Go.Proofs.YtpabogkcmbkffaaGreatDoor
