/- The walks: each Go function computes its shallow function. Printed by a program. -/
import Derived.Test.YtpabogkcmbkffaaGreatDoorWS7C6
set_option linter.unusedVariables false
set_option maxRecDepth 10000
set_option maxHeartbeats 8000000
namespace Go.Proofs.YtpabogkcmbkffaaGreatDoor
open Go Go.RowKit
theorem w_impl_TicketDo (w : World) (G : List Res) (vp0 : Value) (p0 : LP) (hp0 : Has G ty2 vp0 p0) (p1 : Int) (p2 : Int) (r : LP × Bool) (h : impl_TicketDoS p0 p1 p2 = some r) (H : Ctx w G) : Calls Tryz.prog 115 #[vp0, iV p1, iV p2] w fun e w' => ∃ (v1 : Value), e = .returned (.tuple #[v1, .bool r.2]) ∧ Holds M0 w w' [.sl 49 ty2 v1 r.1] G := by
 have H : Holds M0 w w [] G := zb H
 refine zg (args := [vp0, iV p1, iV p2]) (n := 49) Tryz.func115 q q q ?_
 unfold impl_TicketDoS at h
 refine rR <| qA q q q <| qA q q q <| B <| C <| C <| zk <| qM q q q ?_
 obtain ⟨x1, ao, h⟩ := D h
 refine QC q q c77 (fun w' hb => w_impl_TicketValid w' G vp0 p0 (hp0) x1 ao (H.grow hb).ctx) (by rfl) <| A q (qt_not q) q q <| QL_nil fun a ha w3 ap => ?_
 have H5 := H.grow ap
 refine X (S ?_ ha)
 refine Y q (fun ae => ?_) (fun ae => ?_)
 ·have h := if_t ae h
  refine rR <| qA q q q <| qA q q q <| B <| W fun a ha => ?_
  obtain rfl := L h
  have H7 := H5.nS 49 ty2
  exact m (ret2 q ha q q ⟨(nS), q, H7⟩)
 have h := if_f ae h
 refine y <| rR <| qM q q q ?_
 obtain ⟨x8, aq, h⟩ := D h
 refine zd q q c64 (w_impl_copyTicket w3 G vp0 p0 (hp0) x8 aq H5.ctx) (by rfl) ?_
 rintro _ ar ⟨ad, rfl, au⟩; refine ⟨_, q, ?_⟩
 have ab := H5.cN1 [] au
 refine qA q q q <| B <| C <| rR <| qM q q q <| A q (qt_lss q q) q q <| qM q q q ?_
 refine zh 5 23 (.bool ((decide (p1 < 0)) || (decide (p1 ≥ (List.length p0 : Int))))) ?_ (fun md hmd hk => ?_)
 rotate_left
 ·obtain ⟨Q, rfl⟩ := Md.seq_of hmd
  rcases btf (decide (p1 < 0)) with aa | aa
  ·skip
   refine qS q aa q q <| qS q aa q q <| qS q aa q q <| qS q aa q q <| A q (ze q aa q) q q ?_
   exact hk _ (p (by rw [aa]; rfl) (cfn 4 q (u)))
  skip
  refine qM (J q aa) q q <| qM (J q aa) q q <| za ab.ctx (t := ty2) (hp0.c) u45 (J q aa) q q <| A (J q aa) (qt_geq q q) q q <| A q (zf q aa q) q q ?_
  exact hk _ (p (by rw [aa]; rfl) (cfn 4 q (u)))
 refine B ?_
 refine Y q (fun af => ?_) (fun af => ?_)
 ·have h := if_t af h
  refine rR <| qM q q q <| qA q q q <| qA q q q <| B <| W fun a ha => ?_
  obtain rfl := L h
  exact m (ret2 q ha q q ⟨ad, q, ab⟩)
 have h := if_f af h
 refine y <| rR <| qM q q q <| qM q q q ?_
 obtain ⟨av, al, h⟩ := D h
 refine b ab.ctx (hp0.c) al u45 i49 q q q q (fun aN aO aP aw => ?_)
 refine qF uf49 fi49_1 nz3 q q q ?_
 obtain ⟨aQ, ax, aR⟩ := ab.at (hp0.c) al aw
 obtain ⟨aS, ay, aT⟩ := AtP.snd ax
 refine zt (k := .i64) u3 q ay q q q <| qM q q q ?_
 obtain ⟨ag, az, h⟩ := D h
 refine zd q q c120 (w_impl_stateAfter ar _ av.2 p2 ag az ab.ctx) (by rfl) ?_
 rintro _ aU ⟨rfl, aA⟩; refine ⟨_, q, ?_⟩
 have ah := ab.cN0 [] aA
 refine qM q q q <| A q (zv q q) q q <| A q (zv q q) q q <| qA q q q <| qA q q q <| B <| C <| rR <| qM q q q ?_
 refine A q (qt_not q) q q <| B ?_
 refine Y q (fun ai => ?_) (fun ai => ?_)
 ·have h := if_t ai h
  refine rR <| qM q q q <| qA q q q <| qA q q q <| B <| W fun a ha => ?_
  obtain rfl := L h
  exact m (ret2 q ha q q ⟨ad, q, ah⟩)
 have h := if_f ai h
 refine y <| rR <| qM q q q <| qM q q q <| qM q q q ?_
 obtain ⟨aB, am, h⟩ := D h
 refine b ah.ctx hS0 am u45 i49 q q q q (fun aV aW aX aC => ?_)
 refine qF uf49 fi49_1 nz3 q q q ?_
 refine WL_storeH (fo := 1) (cs' := [iV ag.1]) ah am aC (Upd.snd (Upd.whole (Blt.int))) q il3 q q q q (fun aY an => ?_)
 refine B <| C <| C <| zk <| qM q q q ?_
 obtain ⟨aD, aE, h⟩ := D h
 refine QC q q c77 (fun w' hb => w_impl_TicketValid w' _ ad (List.set x8 (Int.toNat p1) (aB.1, ag.1)) hS0 aD aE (an.grow hb).ctx) (by rfl) <| A q (qt_not q) q q <| QL_nil fun a ha aF aG => ?_
 have aj := an.grow aG
 refine X (S ?_ ha)
 refine Y q (fun ak => ?_) (fun ak => ?_)
 ·have h := if_t ak h
  refine rR <| qM q q q ?_
  obtain ⟨aH, aI, h⟩ := D h
  refine zd q q c64 (w_impl_copyTicket aF _ vp0 p0 (hp0.c) aH aI aj.ctx) (by rfl) ?_
  rintro _ aZ ⟨aJ, rfl, aK⟩; refine ⟨_, q, ?_⟩
  have aL := aj.cN1 [] aK
  refine qA q q q <| qA q q q <| B <| W fun a ha => ?_
  obtain rfl := L h
  have aM := aL.q1
  exact m (ret2 q ha q q ⟨aJ, q, aM⟩)
 have h := if_f ak h
 refine y <| rR <| qM q q q <| qA q q q <| qA q q q <| B <| W fun a ha => ?_
 obtain rfl := L h
 exact ret2 q ha q q ⟨ad, q, aj⟩
theorem w_impl_TicketMay (w : World) (G : List Res) (vp0 : Value) (p0 : LP) (hp0 : Has G ty2 vp0 p0) (r : (List Int)) (h : impl_TicketMayS p0 = some r) (H : Ctx w G) : Calls Tryz.prog 110 #[vp0] w fun e w' => ∃ (v1 : Value), e = .returned (v1) ∧ Holds M0 w w' [.sl 3 tI v1 r] G := by
 have H : Holds M0 w w [] G := zb H
 refine zg (args := [vp0]) (n := 28) Tryz.func110 q q q ?_
 unfold impl_TicketMayS at h
 refine rR <| qA q q q <| B <| C <| C <| zk <| qM q q q ?_
 obtain ⟨x1, al, h⟩ := D h
 refine QC q q c77 (fun w' hb => w_impl_TicketValid w' G vp0 p0 (hp0) x1 al (H.grow hb).ctx) (by rfl) <| A q (qt_not q) q q <| QL_nil fun a ha w3 am => ?_
 have H5 := H.grow am
 refine X (S ?_ ha)
 refine Y q (fun ad => ?_) (fun ad => ?_)
 ·have h := if_t ad h
  refine rR <| qA q q q <| B <| W fun a ha => ?_
  obtain rfl := L h
  have H7 := H5.nS 3 tI
  exact m (ret1 q ha q ⟨(nS), q, H7⟩)
 have h := if_f ad h
 refine y <| rR <| qA q q q <| B <| C <| rR <| qM q q q <| za H5.ctx (t := ty2) (hp0) u45 q q q ?_
 refine qM q q q <| B <| g ?_
 have an := H5.nS 3 tI
 obtain ⟨ah, ao, h⟩ := D h
 refine fun ap ai => zp (I := fun s a w2 => match s with | (s8, s9) => ∃ ab, Fr a 28 [(0, vp0), (3, ab), (11, iV (List.length p0 : Int)), (12, iV s9)] ∧ Holds M0 w w2 [.sl 3 tI ab s8] G) (O := fun o e a w2 => match o with | q0 => e = .exit 0 ∧ ∃ aj, Fr a 28 [(3, aj)] ∧ Holds M0 w w2 [.sl 3 tI aj q0] G) ao ?_ ?_ ?_
 ·exact ⟨(nS), ai.sub ⟨q, q, q, q, trivial⟩, an⟩
 ·clear ai
  intro s aI a aq aa ar
  obtain ⟨s8, s9⟩ := s
  obtain ⟨ab, ha, ae⟩ := ar
  refine S ?_ ha
  clear ha
  refine rR <| A q (qt_lss q q) q q <| B <| C ?_
  refine Y q (fun af => ?_) (fun af => ?_)
  ·have aa := if_t af aa
   refine y <| C <| g <| rR <| qM q q q <| qA q q q <| B <| C <| Z ?_
   refine qM q q q <| qM q q q ?_
   obtain ⟨au, av, aa⟩ := D aa
   refine zd q q c115 (w_impl_TicketDo aq _ vp0 p0 (hp0.c) s9 0 au av ae.ctx) (by rfl) ?_
   rintro _ aJ ⟨aK, rfl, aw⟩; refine ⟨_, q, ?_⟩
   have ak := ae.cN1 [] aw
   refine qM q q q <| A q (zv q q) q q <| A q (zv q q) q q <| qA q q q <| qA q q q <| rN <| qM q q q <| B ?_
   refine Y q (fun ag => ?_) (fun ag => ?_)
   ·have aa := if_t ag aa
    refine Z <| qM q q q <| qM q q q ?_
    refine zs (t := tI) (args := [.tmp 23]) (xs := ([s9] : List Int)) ak (BltL.cons (Blt.int) q (BltL.nil)) u24 j3 q q q q q q (fun aL aM ax => ?_)
    have ay := ax.p2
    obtain ⟨aN, az, aa⟩ := D aa
    refine zw ay hS1 az u24 j3 q q q q q q (fun aA aO aB => ?_)
    refine qA q q q <| WL_nil fun a ha => ?_
    refine zi (X (S ?_ ha))
    refine Z <| A q (qt_add q q) q q <| qM q q q <| WL_nil fun a ha => ?_
    obtain rfl := L aa
    have aC := aB.q1.q1
    exact ⟨q, aA, ha.sub ⟨q, q, q, q, trivial⟩, aC⟩
   have aa := if_f ag aa
   refine WP_skip fun a ha => ?_
   refine zi (X (S ?_ ha))
   refine Z <| A q (qt_add q q) q q <| qM q q q <| WL_nil fun a ha => ?_
   obtain rfl := L aa
   have aD := ak.q0
   exact ⟨q, ab, ha.sub ⟨q, q, q, q, trivial⟩, aD⟩
  have aa := if_f af aa
  refine WP_exit fun a ha => ?_
  obtain rfl := L aa
  exact zo (⟨exit_ne, q, ab, ha.sub ⟨q, trivial⟩, ae⟩)
 intro e ap aP aE
 obtain ⟨aQ, rfl⟩ : ∃ z, z = ah := ⟨ah, q⟩
 obtain ⟨rfl, aF⟩ := aE
 obtain ⟨aG, ha, aH⟩ := aF
 refine zn (X (S ?_ ha))
 refine rR <| qM q q q <| qA q q q <| B <| W fun a ha => ?_
 obtain rfl := L h
 exact ret1 q ha q ⟨aG, q, aH⟩
theorem w_impl_NextFire (w : World) (G : List Res) (vp0 : Value) (p0 : List LP) (hp0 : Has G ty4 vp0 p0) (r : Int × Int) (h : impl_NextFireS p0 = some r) (H : Ctx w G) : Calls Tryz.prog 96 #[vp0] w fun e w' => e = .returned (.tuple #[iV r.1, iV r.2]) ∧ Holds M0 w w' [] G := by
 have H : Holds M0 w w [] G := zb H
 refine zg (args := [vp0]) (n := 27) Tryz.func96 q q q ?_
 unfold impl_NextFireS at h
 refine rR <| qA q q q <| qA q q q <| B <| C <| C <| zk <| qM q q q ?_
 obtain ⟨x1, ap, h⟩ := D h
 refine QC q q c83 (fun w' hb => w_impl_KitchenValid w' G vp0 p0 (hp0) x1 ap (H.grow hb).ctx) (by rfl) <| A q (qt_not q) q q <| QL_nil fun a ha w3 aq => ?_
 have H5 := H.grow aq
 refine X (S ?_ ha)
 refine Y q (fun ad => ?_) (fun ad => ?_)
 ·have h := if_t ad h
  refine rR <| qA q q q <| qA q q q <| B <| W fun a ha => ?_
  obtain rfl := L h
  exact m (ret2 q ha q q ⟨q, H5⟩)
 have h := if_f ad h
 refine y <| C <| rR <| qM q q q <| za H5.ctx (t := ty4) (hp0) u81 q q q <| qM q q q <| B <| g ?_
 obtain ⟨o8, ar, h⟩ := D h
 refine fun au ah => zp (I := fun s a w2 => match s with | s7 => (Fr a 27 [(10, vp0), (11, iV (List.length p0 : Int)), (12, iV s7)] ∧ Holds M0 w w2 [] G)) (O := fun o e a w2 => match o with | .inl _ => e = .exit 0 ∧ (Fr a 27 [] ∧ Holds M0 w w2 [] G) | .inr (q0, q1) => e = .ret ∧ (Fr a 27 [(2, iV q0), (3, iV q1)] ∧ Holds M0 w w2 [] G)) ar ?_ ?_ ?_
 ·exact ⟨ah.sub ⟨q, q, q, trivial⟩, H5⟩
 ·clear ah
  intro s aN a ai aa av
  obtain ⟨s7, rfl⟩ : ∃ z, z = s := ⟨s, q⟩
  obtain ⟨ha, ae⟩ := av
  refine S ?_ ha
  clear ha
  refine rR <| A q (qt_lss q q) q q <| B <| C ?_
  refine Y q (fun af => ?_) (fun af => ?_)
  ·have aa := if_t af aa
   refine y <| C <| g <| rR <| qM q q q ?_
   obtain ⟨aj, ak, aa⟩ := D aa
   refine b ae.ctx (hp0) ak u81 i45 q q q q (fun aO aP aQ aw => ?_)
   obtain ⟨aR, ax, ay⟩ := ae.at (hp0) ak aw
   refine XL_load (t := ty4) u45 q q ax q q q (fun al az => ?_)
   have am : Holds _ w ai [.ro ty2 al aj] G := ay _ _ _ _ az (fun _ h => h)
   refine qA q q q <| qA q q q <| rN <| qM q q q ?_
   obtain ⟨aA, aB, aa⟩ := D aa
   refine zd q q c110 (w_impl_TicketMay ai _ al aj hR0 aA aB am.ctx) (by rfl) ?_
   rintro _ aS ⟨aT, rfl, aC⟩; refine ⟨_, q, ?_⟩
   have ab := am.cN1 [] aC
   refine qA q q q <| rN <| qM q q q <| za ab.ctx (t := tI) hS0 u24 q q q <| A q (qt_gtr q q) q q <| B ?_
   refine Y q (fun ag => ?_) (fun ag => ?_)
   ·have aa := if_t ag aa
    refine C <| WP_quiet (by kernel_rfl) (by kernel_rfl) <| qM q q q <| qM q q q ?_
    obtain ⟨aU, an, aa⟩ := D aa
    refine b ab.ctx hS0 an u24 i3 q q q q (fun aV aW aX aD => ?_)
    obtain ⟨aY, aE, aZ⟩ := ab.at hS0 an aD
    refine zt (k := .i64) u3 q aE q q q <| qA q q q <| qA q q q <| QL_nil fun a ha a0 aF => ?_
    have aG := ab.grow aF
    refine X (S ?_ ha)
    refine W fun a ha => ?_
    obtain rfl := L aa
    have aH := aG.q0.q0
    exact zj (m (⟨ret_ne, q, ha.sub ⟨q, q, trivial⟩, aH⟩))
   have aa := if_f ag aa
   refine WP_skip fun a ha => ?_
   refine zi (X (S ?_ ha))
   refine Z <| A q (qt_add q q) q q <| qM q q q <| WL_nil fun a ha => ?_
   obtain rfl := L aa
   have aI := ab.q0.q0
   exact ⟨q, ha.sub ⟨q, q, q, trivial⟩, aI⟩
  have aa := if_f af aa
  refine WP_exit fun a ha => ?_
  obtain rfl := L aa
  exact zo (⟨exit_ne, q, ha.sub trivial, ae⟩)
 intro e au a1 ao
 rcases o8 with o8 | o8
 ·skip
  obtain ⟨rfl, aJ⟩ := ao
  obtain ⟨ha, aK⟩ := aJ
  refine zn (X (S ?_ ha))
  refine rR <| qA q q q <| qA q q q <| B <| W fun a ha => ?_
  obtain rfl := L h
  exact ret2 q ha q q ⟨q, aK⟩
 skip
 obtain ⟨a2, a3⟩ := o8
 obtain ⟨rfl, aL⟩ := ao
 obtain ⟨ha, aM⟩ := aL
 obtain rfl := L h
 exact zj (m (ret2 q ha q q ⟨q, aM⟩))
theorem w_impl_WorkStep (w : World) (G : List Res) (vp0 : Value) (p0 : List LP) (hp0 : Has G ty4 vp0 p0) (r : (List LP) × Bool) (h : impl_WorkStepS p0 = some r) (H : Ctx w G) : Calls Tryz.prog 69 #[vp0] w fun e w' => ∃ (v1 : Value) (csv1 : List Value) (Fv1 : List Nat), e = .returned (.tuple #[v1, .bool r.2]) ∧ Holds M0 w w' [dpR 45 dt6 v1 csv1 r.1 Fv1] G := by
 have H : Holds M0 w w [] G := zb H
 refine zg (args := [vp0]) (n := 62) Tryz.func69 q q q ?_
 unfold impl_WorkStepS at h
 refine rR <| qA q q q <| qA q q q <| B <| C <| C <| zk <| qM q q q ?_
 obtain ⟨x1, ay, h⟩ := D h
 refine QC q q c83 (fun w' hb => w_impl_KitchenValid w' G vp0 p0 (hp0) x1 ay (H.grow hb).ctx) (by rfl) <| A q (qt_not q) q q <| QL_nil fun a ha w3 az => ?_
 have H5 := H.grow az
 refine X (S ?_ ha)
 refine Y q (fun aj => ?_) (fun aj => ?_)
 ·have h := if_t aj h
  refine rR <| qA q q q <| qA q q q <| B <| W fun a ha => ?_
  obtain rfl := L h
  have H7 := H5.nD 45 dt6
  exact m (ret2 q ha q q ⟨(nS), [], [], q, H7⟩)
 have h := if_f aj h
 refine y <| rR <| qM q q q ?_
 obtain ⟨x8, aA, h⟩ := D h
 refine zd q q c94 (w_impl_copyKitchen w3 G vp0 p0 (hp0) x8 aA H5.ctx) (by rfl) ?_
 rintro _ aB ⟨aa, af, aC, rfl, aD⟩; refine ⟨_, q, ?_⟩
 have aq := H5.cN1 [] aD
 refine qA q q q <| B <| C <| rR <| qM q q q ?_
 obtain ⟨aE, aF, h⟩ := D h
 have aG := aq.viewG (Vw.d Vw.refl)
 refine zd q q c95 (w_impl_firstIn aB _ vp0 p0 (hp0.c) 2 aE aF aG) (by rfl) ?_
 rintro _ ar ⟨rfl, aH⟩; refine ⟨_, q, ?_⟩
 have ab := aq.cV0 [] aH all_nil
 refine qM q q q <| A q (zv q q) q q <| A q (zv q q) q q <| qA q q q <| qA q q q <| rN <| qM q q q <| A q (qt_geq q q) q q ?_
 refine B ?_
 refine Y q (fun ak => ?_) (fun ak => ?_)
 ·have h := if_t ak h
  refine rR <| qM q q q <| qM q q q ?_
  obtain ⟨aI, ag, h⟩ := D h
  have aJ := ab.viewG (Vw.d Vw.refl)
  refine b aJ hR0 ag u81 i45 q q q q (fun bu bv bw aK => ?_)
  obtain ⟨aL, al, aM, bz, bA, bB⟩ := Holds.ns ab (Foc.refl) ag aK
  refine XL_load_cell u45 q aM q q q <| qM q q q ?_
  obtain ⟨bC, au, h⟩ := D h
  have aN : Ctx ar ([.ro ty2 aL aI, .ro ty4 aa x8] ++ G) := ab.viewG (Vw.dp (NsOk.ns (Foc.refl) ag al (NsOk.self NsOk.nil)) Vw.refl)
  refine b aN hR0 au u45 i49 q q q q (fun bD bE bF aO => ?_)
  refine qF uf49 fi49_1 nz3 q q q ?_
  obtain ⟨bG, aP⟩ := Holds.borrow ab (Foc.refl) ag al
  refine WL_storeH (fo := 1) (cs' := [iV 3]) aP au aO (Upd.snd (Upd.whole (Blt.int))) q il3 q q q q (fun bH aQ => ?_)
  have aR := aQ.p1
  have aS := aR.p1
  obtain ⟨aT, aU⟩ := Holds.giveBack q aS al
  refine rN <| qM q q q <| qA q q q <| qA q q q <| B <| W fun a ha => ?_
  obtain rfl := L h
  exact m (ret2 q ha q q ⟨aa, af, aT, q, aU⟩)
 have h := if_f ak h
 refine y <| C <| rR <| qM q q q ?_
 obtain ⟨aV, aW, h⟩ := D h
 have aX := ab.viewG (Vw.d Vw.refl)
 refine zd q q c95 (w_impl_firstIn ar _ vp0 p0 (hp0.c) 1 aV aW aX) (by rfl) ?_
 rintro _ av ⟨rfl, aY⟩; refine ⟨_, q, ?_⟩
 have ad := ab.cV0 [] aY all_nil
 refine qM q q q <| A q (zv q q) q q <| A q (zv q q) q q <| qA q q q <| qA q q q <| rN <| qM q q q <| A q (qt_geq q q) q q ?_
 refine B ?_
 refine Y q (fun am => ?_) (fun am => ?_)
 ·have h := if_t am h
  refine rR <| qM q q q <| qM q q q ?_
  obtain ⟨aZ, ah, h⟩ := D h
  have a0 := ad.viewG (Vw.d Vw.refl)
  refine b a0 hR0 ah u81 i45 q q q q (fun bI bJ bK a1 => ?_)
  obtain ⟨a2, an, a3, bL, bM, bN⟩ := Holds.ns ad (Foc.refl) ah a1
  refine XL_load_cell u45 q a3 q q q <| qM q q q ?_
  obtain ⟨bO, aw, h⟩ := D h
  have a4 : Ctx av ([.ro ty2 a2 aZ, .ro ty4 aa x8] ++ G) := ad.viewG (Vw.dp (NsOk.ns (Foc.refl) ah an (NsOk.self NsOk.nil)) Vw.refl)
  refine b a4 hR0 aw u45 i49 q q q q (fun bP bQ bR a5 => ?_)
  refine qF uf49 fi49_1 nz3 q q q ?_
  obtain ⟨bS, a6⟩ := Holds.borrow ad (Foc.refl) ah an
  refine WL_storeH (fo := 1) (cs' := [iV 2]) a6 aw a5 (Upd.snd (Upd.whole (Blt.int))) q il3 q q q q (fun bT a7 => ?_)
  have a8 := a7.p1
  have a9 := a8.p1
  obtain ⟨ba, bb⟩ := Holds.giveBack q a9 an
  refine rN <| qM q q q <| qA q q q <| qA q q q <| B <| W fun a ha => ?_
  obtain rfl := L h
  exact m (ret2 q ha q q ⟨aa, af, ba, q, bb⟩)
 have h := if_f am h
 refine y <| C <| rR <| qM q q q ?_
 obtain ⟨bc, bd, h⟩ := D h
 have be := ad.viewG (Vw.d Vw.refl)
 refine zd q q c96 (w_impl_NextFire av _ vp0 p0 (hp0.c) bc bd be) (by rfl) ?_
 rintro _ bf ⟨rfl, bg⟩; refine ⟨_, q, ?_⟩
 have ae := ad.cV0 [] bg all_nil
 refine qM q q q <| A q (zv q q) q q <| A q (zv q q) q q <| qA q q q <| qA q q q <| rN <| qM q q q <| A q (qt_geq q q) q q ?_
 refine B ?_
 refine Y q (fun ao => ?_) (fun ao => ?_)
 ·have h := if_t ao h
  refine rR <| qM q q q <| qM q q q ?_
  obtain ⟨bh, ai, h⟩ := D h
  have bi := ae.viewG (Vw.d Vw.refl)
  refine b bi hR0 ai u81 i45 q q q q (fun bU bV bW bj => ?_)
  obtain ⟨bk, ap, bl, bX, bY, bZ⟩ := Holds.ns ae (Foc.refl) ai bj
  refine XL_load_cell u45 q bl q q q <| qM q q q ?_
  obtain ⟨b0, ax, h⟩ := D h
  have bm : Ctx bf ([.ro ty2 bk bh, .ro ty4 aa x8] ++ G) := ae.viewG (Vw.dp (NsOk.ns (Foc.refl) ai ap (NsOk.self NsOk.nil)) Vw.refl)
  refine b bm hR0 ax u45 i49 q q q q (fun b4 b5 b6 bn => ?_)
  refine qF uf49 fi49_1 nz3 q q q ?_
  obtain ⟨b7, bo⟩ := Holds.borrow ae (Foc.refl) ai ap
  refine WL_storeH (fo := 1) (cs' := [iV 1]) bo ax bn (Upd.snd (Upd.whole (Blt.int))) q il3 q q q q (fun b8 bp => ?_)
  have bq := bp.p1
  have br := bq.p1
  obtain ⟨bs, bt⟩ := Holds.giveBack q br ap
  refine rN <| qM q q q <| qA q q q <| qA q q q <| B <| W fun a ha => ?_
  obtain rfl := L h
  exact m (ret2 q ha q q ⟨aa, af, bs, q, bt⟩)
 have h := if_f ao h
 refine y <| rR <| qM q q q <| qA q q q <| qA q q q <| B <| W fun a ha => ?_
 obtain rfl := L h
 exact ret2 q ha q q ⟨aa, af, aC, q, ae⟩
theorem w_impl_doWork (w : World) (G : List Res) (bp0 : Nat) (A0 : Value) (B0 : LI) (csp0_0 : List Value) (Fp0_0 : List Nat) (A1 : Value) (B1 : List Int) (A2 : Value) (B2 : List Int) (B3 : Int) (A4 : Value) (B4 : LT) (csp0_4 : List Value) (Fp0_4 : List Nat) (r : LT × Bool) (h : impl_doWorkS B0 B1 B2 B3 B4 = some r) (H : Ctx w ([.bx bp0 27 [A0, A1, A2, iV B3, A4], dpR 55 dt13 A0 csp0_0 B0 Fp0_0, .sl 3 tI A1 B1, .sl 3 tI A2 B2, dpR 47 dt14 A4 csp0_4 B4 Fp0_4] ++ G)) : Calls Tryz.prog 31 #[pB bp0] w fun e w' => ∃ (dsp0_4 : List Value) (Ep0_4 : List Nat), e = .returned (.bool r.2) ∧ Holds (([.bx bp0 27 [A0, A1, A2, iV B3, A4], dpR 55 dt13 A0 csp0_0 B0 Fp0_0, .sl 3 tI A1 B1, .sl 3 tI A2 B2, dpR 47 dt14 A4 csp0_4 B4 Fp0_4] : List Res).flatMap Res.own) w w' [.bx bp0 27 [A0, A1, A2, iV B3, A4], dpR 55 dt13 A0 csp0_0 B0 Fp0_0, .sl 3 tI A1 B1, .sl 3 tI A2 B2, dpR 47 dt14 A4 dsp0_4 r.1 Ep0_4] G := by
 have H : Holds (([.bx bp0 27 [A0, A1, A2, iV B3, A4], dpR 55 dt13 A0 csp0_0 B0 Fp0_0, .sl 3 tI A1 B1, .sl 3 tI A2 B2, dpR 47 dt14 A4 csp0_4 B4 Fp0_4] : List Res).flatMap Res.own) w w [.bx bp0 27 [A0, A1, A2, iV B3, A4], dpR 55 dt13 A0 csp0_0 B0 Fp0_0, .sl 3 tI A1 B1, .sl 3 tI A2 B2, dpR 47 dt14 A4 csp0_4 B4 Fp0_4] G := zb H
 refine zg (args := [pB bp0]) (n := 33) Tryz.func31 q q q ?_
 unfold impl_doWorkS at h
 refine rR <| qA q q q <| rN <| qM q q q <| qN q q q ?_
 have av := R H.p0
 refine zm (cs := [A0, A1, A2, iV B3, A4]) us27 uo27 il27 av q q q ?_
 change XL _ _ _ _ _ ((10, .agg #[A0, A1, A2, iV B3, A4]) :: _) _
 obtain ⟨x2, aw, h⟩ := D h
 have V4 := H.viewG (Vw.c (Vw.d (Vw.c (Vw.c (Vw.d Vw.refl)))))
 refine zd q q c47 (w_impl_kitchenOf w _ A0 B0 hR1 A1 B1 hS2 A2 B2 hS3 B3 A4 B4 hR4 x2 aw V4) (by rfl) ?_
 rintro _ w5 ⟨v7, a0, F9, rfl, H6⟩; refine ⟨_, q, ?_⟩
 have am := H.cV1 [] H6 (zc Pure.dp all_nil)
 obtain ⟨ae, ax, h⟩ := D h
 have ay := am.viewG (Vw.d (Vw.c (Vw.d (Vw.c (Vw.c (Vw.d Vw.refl))))))
 refine zd q q c69 (w_impl_WorkStep w5 _ v7 x2 hR0 ae ax ay) (by rfl) ?_
 rintro _ a1 ⟨an, az, aA, rfl, aB⟩; refine ⟨_, q, ?_⟩
 have af := am.cV1 [] aB (zc Pure.dp all_nil)
 refine qM q q q <| A q (zv q q) q q <| A q (zv q q) q q <| qA q q q <| qA q q q <| B <| C <| rR <| qM q q q ?_
 refine A q (qt_not q) q q <| B ?_
 refine Y q (fun ag => ?_) (fun ag => ?_)
 ·have h := if_t ag h
  refine rR <| qA q q q <| B <| W fun a ha => ?_
  obtain rfl := L h
  have aC := af.q0.q0.p4.p4.p4.p4.p4
  exact m (ret1 q ha q ⟨csp0_4, Fp0_4, q, aC⟩)
 have h := if_f ag h
 refine y <| C <| rR <| qM q q q ?_
 have aD := af.viewG (Vw.d (Vw.d (Vw.c (Vw.d (Vw.c (Vw.c (Vw.d Vw.refl)))))))
 refine za aD (t := ty4) hR0 u81 q q q <| qM q q q <| B <| g ?_
 obtain ⟨ao, aE, h⟩ := D h
 have aF := af.q1.p5.p5.p5.p5.p5
 refine fun aG ap => zp (I := fun s a w2 => match s with | (ab, aq) => ∃ ah ai FsK, 0 ≤ ab ∧ Fr a 33 [(0, pB bp0), (17, an), (18, iV (List.length ae.1 : Int)), (19, iV ab)] ∧ Holds (([.bx bp0 27 [A0, A1, A2, iV B3, A4], dpR 55 dt13 A0 csp0_0 B0 Fp0_0, .sl 3 tI A1 B1, .sl 3 tI A2 B2, dpR 47 dt14 A4 csp0_4 B4 Fp0_4] : List Res).flatMap Res.own) w w2 [.bx bp0 27 [A0, A1, A2, iV B3, A4], dpR 55 dt13 A0 csp0_0 B0 Fp0_0, .sl 3 tI A1 B1, .sl 3 tI A2 B2, dpR 47 dt14 A4 ah aq ai, sufR 45 dt6 an az ae.1 (Int.toNat ab) FsK] G) (O := fun o e a w2 => match o with | q0 => e = .exit 0 ∧ ∃ aH aI, Fr a 33 [(0, pB bp0)] ∧ Holds (([.bx bp0 27 [A0, A1, A2, iV B3, A4], dpR 55 dt13 A0 csp0_0 B0 Fp0_0, .sl 3 tI A1 B1, .sl 3 tI A2 B2, dpR 47 dt14 A4 csp0_4 B4 Fp0_4] : List Res).flatMap Res.own) w w2 [.bx bp0 27 [A0, A1, A2, iV B3, A4], dpR 55 dt13 A0 csp0_0 B0 Fp0_0, .sl 3 tI A1 B1, .sl 3 tI A2 B2, dpR 47 dt14 A4 aH q0 aI] G) aE ?_ ?_ ?_
 ·exact ⟨csp0_4, Fp0_4, aA, by decide, ap.sub ⟨q, q, q, q, trivial⟩, ((((aF.p5.suf.p5).p5).p5).p5).p5⟩
 ·clear ap
  intro s a2 a a3 aa aJ
  obtain ⟨ab, aq⟩ := s
  obtain ⟨ah, ai, FsK, hnn, ha, aj⟩ := aJ
  refine S ?_ ha
  clear ha
  refine rR <| A q (qt_lss q q) q q <| B <| C ?_
  refine Y q (fun ak => ?_) (fun ak => ?_)
  ·have aa := if_t ak aa
   refine y <| C <| g <| rR <| qM q q q ?_
   obtain ⟨ar, ad, aa⟩ := D aa
   obtain ⟨bK, capK, hvK, hmK⟩ := Holds.suf_at aj.p5 ad
   obtain ⟨vK, aK, hcK, hpK, hqK, HKa⟩ := Holds.take aj.p5 (zz ad) hvK
   refine XL_indexK ad u81 i45 q (by rw [hvK]; rfl) q q ?_
   have al := HKa
   refine XL_load_cell u45 q hcK q q q <| qA q q q <| qA q q q <| B <| Z <| qM q q q <| qN q q q <| qF uf27 fi27_4 nz25 q q q ?_
   have aL := R al.p2
   refine l u25 q aL q q q q <| qM q q q <| qM q q q ?_
   obtain ⟨a4, au, aa⟩ := D aa
   have aM := al.viewG (Vw.c (Vw.c (Vw.c (Vw.d (Vw.c (Vw.c (Vw.d Vw.refl)))))))
   refine b aM hR6 au u25 i47 q q q q (fun a5 a6 a7 aN => ?_)
   refine qF uf47 fi47_1 nz45 q q q ?_
   have aO := al.p6.p1
   refine WL_storeD (Rs := [.sl 49 ty2 vK ar]) (fo := 1) (cs' := [vK]) aO au aN (Foc.snd (Foc.fst Foc.refl)) (DBlt.cast (DBlt.sl (e := 49) (t := ty2) (v := vK) (x := ar) q) q q) (by rw [hpK]) il45 q q q (fun aP aQ a8 aR => ?_)
   refine WL_nil fun a ha => ?_
   refine zi (X (S ?_ ha))
   refine Z <| A q (qt_add q q) q q <| qM q q q <| WL_nil fun a ha => ?_
   obtain rfl := L aa
   have aS := aR.p1.p1.p5.p5.p5.p5
   have hwK : IntKind.wrap .i64 (ab + 1) = ab + 1 := IntWalk.i64_in _ ⟨by omega, by have := (geti_lt ad).2; simp only [maxLen] at hmK; omega⟩
   exact ⟨q, aP, aQ, aK, by rw [hwK]; omega, ha.sub ⟨q, q, q, q, trivial⟩, by rw [hwK, show Int.toNat (ab + 1) = Int.toNat ab + 1 by omega]; exact aS⟩
  have aa := if_f ak aa
  refine WP_exit fun a ha => ?_
  obtain rfl := L aa
  have aT := aj.q5.p4.p4.p4.p4.p4
  exact zo (⟨exit_ne, q, ah, ai, ha.sub ⟨q, trivial⟩, aT⟩)
 intro e aG a9 aU
 obtain ⟨ba, rfl⟩ : ∃ z, z = ao := ⟨ao, q⟩
 obtain ⟨rfl, aV⟩ := aU
 obtain ⟨aW, aX, ha, aY⟩ := aV
 refine zn (X (S ?_ ha))
 refine rR <| qA q q q <| B <| W fun a ha => ?_
 obtain rfl := L h
 have aZ := aY.p4.p4.p4.p4.p4
 exact ret1 q ha q ⟨aW, aX, q, aZ⟩
theorem w_impl_TicketCourse (w : World) (G : List Res) (vp0 : Value) (p0 : LP) (hp0 : Has G ty2 vp0 p0) (r : Int) (h : impl_TicketCourseS p0 = some r) (H : Ctx w G) : Calls Tryz.prog 97 #[vp0] w fun e w' => e = .returned (iV r) ∧ Holds M0 w w' [] G := by
 have H : Holds M0 w w [] G := zb H
 refine zg (args := [vp0]) (n := 32) Tryz.func97 q q q ?_
 unfold impl_TicketCourseS at h
 refine rR <| qA q q q <| B <| C <| C <| zk <| qM q q q ?_
 obtain ⟨x1, ao, h⟩ := D h
 refine QC q q c77 (fun w' hb => w_impl_TicketValid w' G vp0 p0 (hp0) x1 ao (H.grow hb).ctx) (by rfl) <| A q (qt_not q) q q <| QL_nil fun a ha w3 ap => ?_
 have H5 := H.grow ap
 refine X (S ?_ ha)
 refine Y q (fun ah => ?_) (fun ah => ?_)
 ·have h := if_t ah h
  refine rR <| qA q q q <| B <| W fun a ha => ?_
  obtain rfl := L h
  exact m (ret1 q ha q ⟨q, H5⟩)
 have h := if_f ah h
 refine y <| rR <| qA q q q <| B <| C <| rR <| qM q q q <| za H5.ctx (t := ty2) (hp0) u45 q q q ?_
 refine qM q q q <| B <| g ?_
 obtain ⟨o9, aq, h⟩ := D h
 refine fun ar am => zp (I := fun s a w2 => match s with | (s7, s8) => (Fr a 32 [(3, iV s7), (9, vp0), (10, iV (List.length p0 : Int)), (11, iV s8)] ∧ Holds M0 w w2 [] G)) (O := fun o e a w2 => match o with | q0 => e = .exit 0 ∧ (Fr a 32 [(3, iV q0)] ∧ Holds M0 w w2 [] G)) aq ?_ ?_ ?_
 ·exact ⟨am.sub ⟨q, q, q, q, trivial⟩, H5⟩
 ·clear am
  intro s aL a aM aa au
  obtain ⟨s7, s8⟩ := s
  obtain ⟨ha, af⟩ := au
  refine S ?_ ha
  clear ha
  refine rR <| A q (qt_lss q q) q q <| B <| C ?_
  refine Y q (fun ai => ?_) (fun ai => ?_)
  ·have aa := if_t ai aa
   refine y <| C <| g <| C <| Z ?_
   obtain ⟨ae, an, aa⟩ := D aa
   refine b af.ctx (hp0) an u45 i49 q q q q (fun aN aO aP av => ?_)
   obtain ⟨aQ, aw, aR⟩ := af.atN (hp0) an av
   refine XL_load_agg (t := ty2) us49 uo49 i49 aw q q q (fun aS ax => ?_)
   obtain ⟨c30, c31, aT, aU, rfl, aV, ay, az⟩ := ax
   obtain ⟨rfl, _⟩ := ay
   obtain ⟨rfl, _⟩ := az
   change XL _ _ _ _ _ ((14, .agg #[iV ae.1, iV ae.2]) :: _) _
   refine zq (cs := [iV 0, iV 0]) af z49 q q q (fun aW aX aA => ?_)
   refine zl (cs' := [iV ae.1, iV ae.2]) aA q il49 q q q q q (fun aY ag => ?_)
   refine B <| C <| zk ?_
   have aB := R ag.p0
   refine zm (cs := [iV ae.1, iV ae.2]) us49 uo49 il49 aB q q q ?_
   change XL _ _ _ _ _ ((15, .agg #[iV ae.1, iV ae.2]) :: _) _
   obtain ⟨aj, aC, aa⟩ := D aa
   refine QC q q c84 (fun w' hb => w_impl_finished w' _ ae.1 ae.2 aj aC (ag.grow hb).ctx) (by rfl) <| A q (qt_not q) q q <| qM q q q ?_
   refine zh 9 27 (.bool ((!aj) && ((decide (s7 < 0)) || (decide (ae.1 < s7))))) ?_ (fun md hmd hk => ?_)
   rotate_left
   ·obtain ⟨K, rfl⟩ := zr hmd
    rcases btf (!aj) with ab | ab
    ·skip
     refine qM (J q ab) q q <| A (J q ab) (qt_lss q q) q q <| qM (J q ab) q q ?_
     refine zh 5 26 (.bool ((decide (s7 < 0)) || (decide (ae.1 < s7)))) ?_ (fun md hmd hk => ?_)
     rotate_left
     ·obtain ⟨K, rfl⟩ := zr hmd
      rcases btf (decide (s7 < 0)) with ad | ad
      ·skip
       refine qS q ad q q <| qS q ad q q <| qS q ad q q <| qS q ad q q <| A (J q ab) (ze q ad q) q q ?_
       exact hk _ (p (by rw [ad]; rfl) (cfn 4 q (u)))
      skip
      refine qF uf49 fi49_0 nz3 (J q ad) q q ?_
      have aD := R ag.p0
      refine l u3 q aD q (J q ad) q q <| qM (J q ad) q q <| A (J q ad) (qt_lss q q) q q <| A (J q ab) (zf q ad q) q q ?_
      exact hk _ (p (by rw [ad]; rfl) (cfn 4 q (u)))
     refine A q (ze q ab q) q q ?_
     exact hk _ (p (by rw [ab]; rfl) (cfn 4 q (u)))
    skip
    refine qS q ab q q <| qS q ab q q <| qS q ab q q <| XL_skip q q q <| XL_skip q q q <| XL_skip q q q <| XL_skip q q q <| qS q ab q q <| A q (zf q ab q) q q ?_
    exact hk _ (p (by rw [ab]; rfl) (cfn 8 q (u)))
   refine QL_nil fun a ha aZ aE => ?_
   have ak := ag.grow aE
   refine X (S ?_ ha)
   refine Y q (fun al => ?_) (fun al => ?_)
   ·have aa := if_t al aa
    refine Z <| qF uf49 fi49_0 nz3 q q q ?_
    have aF := R ak.p0
    refine l u3 q aF q q q q <| qA q q q <| WL_nil fun a ha => ?_
    refine zi (X (S ?_ ha))
    refine Z <| A q (qt_add q q) q q <| qM q q q <| WL_nil fun a ha => ?_
    obtain rfl := L aa
    have aG := ak.q0
    exact ⟨q, ha.sub ⟨q, q, q, q, trivial⟩, aG⟩
   have aa := if_f al aa
   refine WP_skip fun a ha => ?_
   refine zi (X (S ?_ ha))
   refine Z <| A q (qt_add q q) q q <| qM q q q <| WL_nil fun a ha => ?_
   obtain rfl := L aa
   have aH := ak.q0
   exact ⟨q, ha.sub ⟨q, q, q, q, trivial⟩, aH⟩
  have aa := if_f ai aa
  refine WP_exit fun a ha => ?_
  obtain rfl := L aa
  exact zo (⟨exit_ne, q, ha.sub ⟨q, trivial⟩, af⟩)
 intro e ar a0 aI
 obtain ⟨a1, rfl⟩ : ∃ z, z = o9 := ⟨o9, q⟩
 obtain ⟨rfl, aJ⟩ := aI
 obtain ⟨ha, aK⟩ := aJ
 refine zn (X (S ?_ ha))
 refine rR <| qM q q q <| qA q q q <| B <| W fun a ha => ?_
 obtain rfl := L h
 exact ret1 q ha q ⟨q, aK⟩
theorem w_impl_TicketDone (w : World) (G : List Res) (vp0 : Value) (p0 : LP) (hp0 : Has G ty2 vp0 p0) (r : Bool) (h : impl_TicketDoneS p0 = some r) (H : Ctx w G) : Calls Tryz.prog 70 #[vp0] w fun e w' => e = .returned (.bool r) ∧ Holds M0 w w' [] G := by
 have H : Holds M0 w w [] G := zb H
 refine zg (args := [vp0]) (n := 10) Tryz.func70 q q q ?_
 unfold impl_TicketDoneS at h
 refine rR <| qA q q q <| B <| C <| zk <| qM q q q ?_
 obtain ⟨x1, ad, h⟩ := D h
 refine QC q q c77 (fun w' hb => w_impl_TicketValid w' G vp0 p0 (hp0) x1 ad (H.grow hb).ctx) (by rfl) <| qM q q q ?_
 obtain ⟨b3, ab, h⟩ := D h
 refine zh 4 9 (.bool b3) ?_ (fun md hmd hk => ?_)
 rotate_left
 ·obtain ⟨K, rfl⟩ := zr hmd
  rcases btf x1 with aa | aa
  ·skip
   have ab := if_t aa ab
   refine qM (J q aa) q q ?_
   obtain ⟨x6, ae, ab⟩ := D ab
   refine QC (J q aa) q c97 (fun w' hb => w_impl_TicketCourse w' G vp0 p0 (hp0) x6 ae (H.grow hb).ctx) (by rfl) <| A (J q aa) (qt_lss q q) q q <| A q (ze q aa q) q q ?_
   exact hk _ (p (vb ab) (cfn 3 q (u)))
  skip
  refine qS q aa q q <| qS q aa q q <| qS q aa q q <| A q (zf q aa q) q q ?_
  exact hk _ (p (vb (if_f aa ab)) (cfn 3 q (u)))
 refine qA q q q <| QL_nil fun a ha w8 af => ?_
 have ag := H.grow af
 refine X (S ?_ ha)
 refine W fun a ha => ?_
 obtain rfl := L h
 exact ret1 q ha q ⟨q, ag⟩
theorem w_impl_TableBill (w : World) (G : List Res) (A0 : Value) (B0 : LI) (C0 : Has G ty10 A0 B0) (A1 : Value) (B1 : List Int) (C1 : Has G tI A1 B1) (A2 : Value) (B2 : List Int) (C2 : Has G tI A2 B2) (B3 : Int) (A4 : Value) (B4 : LT) (C4 : Has G ty12 A4 B4) (p1 : Int) (r : Int) (h : impl_TableBillS B0 B1 B2 B3 B4 p1 = some r) (H : Ctx w G) : Calls Tryz.prog 45 #[.agg #[A0, A1, A2, iV B3, A4], iV p1] w fun e w' => e = .returned (iV r) ∧ Holds M0 w w' [] G := by
 have H : Holds M0 w w [] G := zb H
 refine zg (args := [.agg #[A0, A1, A2, iV B3, A4], iV p1]) (n := 54) Tryz.func45 q q q ?_
 unfold impl_TableBillS at h
 refine C <| Z ?_
 refine WL_box (cs := [A0, A1, A2, iV B3, A4]) H q q q q (fun b1 w2 H3 => ?_)
 refine qA q q q <| B <| C <| C <| zk ?_
 have aA := R H3.p0
 refine zm (cs := [A0, A1, A2, iV B3, A4]) us27 uo27 il27 aA q q q ?_
 change XL _ _ _ _ _ ((8, .agg #[A0, A1, A2, iV B3, A4]) :: _) _
 obtain ⟨x6, aB, h⟩ := D h
 refine QC q q c10 (fun w' hb => w_impl_HouseValid w' _ A0 B0 (C0.c) A1 B1 (C1.c) A2 B2 (C2.c) B3 A4 B4 (C4.c) x6 aB (H3.grow hb).ctx) (by rfl) <| A q (qt_not q) q q <| qM q q q ?_
 refine zh 3 14 (.bool ((!x6) || (decide (p1 < 0)))) ?_ (fun md hmd hk => ?_)
 rotate_left
 ·obtain ⟨K, rfl⟩ := zr hmd
  rcases btf (!x6) with ad | ad
  ·skip
   refine qS q ad q q <| qS q ad q q <| A q (ze q ad q) q q ?_
   exact hk _ (p (by rw [ad]; rfl) (cfn 2 q (u)))
  skip
  refine qM (J q ad) q q <| A (J q ad) (qt_lss q q) q q <| A q (zf q ad q) q q ?_
  exact hk _ (p (by rw [ad]; rfl) (cfn 2 q (u)))
 refine qM q q q ?_
 refine zh 6 21 (.bool (((!x6) || (decide (p1 < 0))) || (decide (p1 ≥ (List.length B4 : Int))))) ?_ (fun md hmd hk => ?_)
 rotate_left
 ·obtain ⟨K, rfl⟩ := zr hmd
  rcases btf ((!x6) || (decide (p1 < 0))) with ab | ab
  ·skip
   refine qS q ab q q <| qS q ab q q <| qS q ab q q <| qS q ab q q <| qS q ab q q <| A q (ze q ab q) q q ?_
   exact hk _ (p (by rw [ab]; rfl) (cfn 5 q (u)))
  skip
  refine qM (J q ab) q q <| qF uf27 fi27_4 nz25 (J q ab) q q ?_
  have aC := R H3.p0
  refine l u25 q aC q (J q ab) q q <| za H3.ctx (t := ty12) (C4.c) u25 (J q ab) q q <| A (J q ab) (qt_geq q q) q q <| A q (zf q ab q) q q ?_
  exact hk _ (p (by rw [ab]; rfl) (cfn 5 q (u)))
 refine QL_nil fun a ha aD aE => ?_
 have ah := H3.grow aE
 refine X (S ?_ ha)
 refine Y q (fun al => ?_) (fun al => ?_)
 ·have h := if_t al h
  refine rR <| qA q q q <| B <| W fun a ha => ?_
  obtain rfl := L h
  have aF := ah.q0
  exact m (ret1 q ha q ⟨q, aF⟩)
 have h := if_f al h
 refine y <| rR <| qA q q q <| B <| C <| rR <| qF uf27 fi27_4 nz25 q q q ?_
 have aG := R ah.p0
 refine l u25 q aG q q q q <| qM q q q ?_
 obtain ⟨ai, ao, h⟩ := D h
 refine b ah.ctx (C4.c) ao u25 i47 q q q q (fun bq br bs aH => ?_)
 refine qF uf47 fi47_1 nz45 q q q ?_
 obtain ⟨bt, aI, aJ⟩ := ah.at (C4.c) ao aH
 obtain ⟨bu, aK, aL⟩ := AtP.snd aI
 obtain ⟨bv, aM, aN⟩ := AtP.fst aK
 refine XL_load (t := ty4) u45 q q aM q q q (fun aj aO => ?_)
 have ap : Holds _ w aD [.ro ty2 aj ai.2.1, .bx b1 27 [A0, A1, A2, iV B3, A4]] G := aJ _ _ _ _ aO (fun k h => (fun k h => (fun _ h => h) k (aL k h)) k (aN k h))
 refine za ap.ctx (t := ty2) hR0 u45 q q q <| qM q q q <| B <| g ?_
 obtain ⟨aq, aP, h⟩ := D h
 have aQ := ap.p1
 refine fun aR ar => zp (I := fun s a w2 => match s with | (au, av) => (Fr a 54 [(1, iV p1), (2, pB b1), (5, iV au), (27, aj), (28, iV (List.length ai.2.1 : Int)), (29, iV av)] ∧ Holds M0 w w2 [.bx b1 27 [A0, A1, A2, iV B3, A4], .ro ty2 aj ai.2.1] G)) (O := fun o e a w2 => match o with | q0 => e = .exit 0 ∧ (Fr a 54 [(5, iV q0)] ∧ Holds M0 w w2 [] G)) aP ?_ ?_ ?_
 ·exact ⟨ar.sub ⟨q, q, q, q, q, q, trivial⟩, aQ⟩
 ·clear ar
  intro s bw a bz aa aS
  obtain ⟨au, av⟩ := s
  obtain ⟨ha, ak⟩ := aS
  refine S ?_ ha
  clear ha
  refine rR <| A q (qt_lss q q) q q <| B <| C ?_
  refine Y q (fun am => ?_) (fun am => ?_)
  ·have aa := if_t am aa
   refine y <| C <| g <| rR <| qM q q q ?_
   obtain ⟨ae, aw, aa⟩ := D aa
   refine b ak.ctx hR1 aw u45 i49 q q q q (fun bA bB bC aT => ?_)
   obtain ⟨bD, aU, bE⟩ := ak.atN hR1 aw aT
   refine XL_load_agg (t := ty2) us49 uo49 i49 aU q q q (fun bF aV => ?_)
   obtain ⟨c59, c60, bG, bH, rfl, bI, aW, aX⟩ := aV
   obtain ⟨rfl, _⟩ := aW
   obtain ⟨rfl, _⟩ := aX
   change XL _ _ _ _ _ ((33, .agg #[iV ae.1, iV ae.2]) :: _) _
   refine zq (cs := [iV 0, iV 0]) ak z49 q q q (fun aY bJ aZ => ?_)
   refine qA q q q ?_
   refine zl (cs' := [iV ae.1, iV ae.2]) aZ q il49 q q q q q (fun a0 af => ?_)
   refine rN <| qF uf49 fi49_1 nz3 q q q ?_
   have a1 := R af.p0
   refine l u3 q a1 q q q q <| A q (qt_eql q q) q q <| B ?_
   refine Y q (fun an => ?_) (fun an => ?_)
   ·have aa := if_t an aa
    refine WP_quiet (by kernel_rfl) (by kernel_rfl) <| qM q q q <| qF uf27 fi27_1 nz24 q q q ?_
    have a2 := R af.p1
    refine l u24 q a2 q q q q <| qF uf27 fi27_4 nz25 q q q ?_
    have a3 := R af.p1
    refine l u25 q a3 q q q q <| qM q q q ?_
    obtain ⟨a4, ax, aa⟩ := D aa
    refine b af.ctx (C4.c.c.c) ax u25 i47 q q q q (fun bK bL bM a5 => ?_)
    refine qF uf47 fi47_2 nz24 q q q ?_
    obtain ⟨bN, a6, a7⟩ := af.at (C4.c.c.c) ax a5
    obtain ⟨bO, a8, a9⟩ := AtP.snd a6
    obtain ⟨bP, ba, bb⟩ := AtP.snd a8
    refine XL_load (t := (.slice tI)) u24 q q ba q q q (fun bc bd => ?_)
    have ag : Holds _ w a0 [.ro tI bc a4.2.2, .bx aY 49 [iV ae.1, iV ae.2], .bx b1 27 [A0, A1, A2, iV B3, A4], .ro ty2 aj ai.2.1] G := a7 _ _ _ _ bd (fun k h => (fun k h => (fun _ h => h) k (a9 k h)) k (bb k h))
    refine qM q q q ?_
    obtain ⟨bQ, ay, aa⟩ := D aa
    refine b ag.ctx hR0 ay u24 i3 q q q q (fun bR bS bT be => ?_)
    obtain ⟨bU, bf, bV⟩ := ag.at hR0 ay be
    refine zt (k := .i64) u3 q bf q q q ?_
    obtain ⟨bW, az, aa⟩ := D aa
    refine b ag.ctx (C1.c.c.c.c) az u24 i3 q q q q (fun bX bY bZ bg => ?_)
    obtain ⟨b0, bh, b4⟩ := ag.at (C1.c.c.c.c) az bg
    refine zt (k := .i64) u3 q bh q q q <| A q (qt_add q q) q q <| qA q q q <| QL_nil fun a ha b5 bi => ?_
    have bj := ag.grow bi
    refine zi (X (S ?_ ha))
    refine Z <| A q (qt_add q q) q q <| qM q q q <| WL_nil fun a ha => ?_
    obtain rfl := L aa
    have bk := bj.q0.q0.p1.p1
    exact ⟨q, ha.sub ⟨q, q, q, q, q, q, trivial⟩, bk⟩
   have aa := if_f an aa
   refine WP_skip fun a ha => ?_
   refine zi (X (S ?_ ha))
   refine Z <| A q (qt_add q q) q q <| qM q q q <| WL_nil fun a ha => ?_
   obtain rfl := L aa
   have bl := af.q0.p1.p1
   exact ⟨q, ha.sub ⟨q, q, q, q, q, q, trivial⟩, bl⟩
  have aa := if_f am aa
  refine WP_exit fun a ha => ?_
  obtain rfl := L aa
  have bm := ak.q0.q0
  exact zo (⟨exit_ne, q, ha.sub ⟨q, trivial⟩, bm⟩)
 intro e aR b6 bn
 obtain ⟨b7, rfl⟩ : ∃ z, z = aq := ⟨aq, q⟩
 obtain ⟨rfl, bo⟩ := bn
 obtain ⟨ha, bp⟩ := bo
 refine zn (X (S ?_ ha))
 refine rR <| qM q q q <| qA q q q <| B <| W fun a ha => ?_
 obtain rfl := L h
 exact ret1 q ha q ⟨q, bp⟩
theorem w_impl_doClose (w : World) (G : List Res) (bp0 : Nat) (A0 : Value) (B0 : LI) (csp0_0 : List Value) (Fp0_0 : List Nat) (A1 : Value) (B1 : List Int) (A2 : Value) (B2 : List Int) (B3 : Int) (A4 : Value) (B4 : LT) (csp0_4 : List Value) (Fp0_4 : List Nat) (p1 : Int) (r : Int × LT × Bool) (h : impl_doCloseS B0 B1 B2 B3 B4 p1 = some r) (H : Ctx w ([.bx bp0 27 [A0, A1, A2, iV B3, A4], dpR 55 dt13 A0 csp0_0 B0 Fp0_0, .sl 3 tI A1 B1, .sl 3 tI A2 B2, dpR 47 dt14 A4 csp0_4 B4 Fp0_4] ++ G)) : Calls Tryz.prog 32 #[pB bp0, iV p1] w fun e w' => ∃ (wp0_4 : Value) (dsp0_4 : List Value) (Ep0_4 : List Nat), e = .returned (.bool r.2.2) ∧ Holds (([.bx bp0 27 [A0, A1, A2, iV B3, A4], dpR 55 dt13 A0 csp0_0 B0 Fp0_0, .sl 3 tI A1 B1, .sl 3 tI A2 B2, dpR 47 dt14 A4 csp0_4 B4 Fp0_4] : List Res).flatMap Res.own) w w' [.bx bp0 27 [A0, A1, A2, iV r.1, wp0_4], dpR 55 dt13 A0 csp0_0 B0 Fp0_0, .sl 3 tI A1 B1, .sl 3 tI A2 B2, dpR 47 dt14 wp0_4 dsp0_4 r.2.1 Ep0_4] G := by
 have H : Holds (([.bx bp0 27 [A0, A1, A2, iV B3, A4], dpR 55 dt13 A0 csp0_0 B0 Fp0_0, .sl 3 tI A1 B1, .sl 3 tI A2 B2, dpR 47 dt14 A4 csp0_4 B4 Fp0_4] : List Res).flatMap Res.own) w w [.bx bp0 27 [A0, A1, A2, iV B3, A4], dpR 55 dt13 A0 csp0_0 B0 Fp0_0, .sl 3 tI A1 B1, .sl 3 tI A2 B2, dpR 47 dt14 A4 csp0_4 B4 Fp0_4] G := zb H
 refine zg (args := [pB bp0, iV p1]) (n := 51) Tryz.func32 q q q ?_
 unfold impl_doCloseS at h
 refine rR <| qA q q q <| B <| C <| C <| zk <| qM q q q <| A q (qt_lss q q) q q <| qM q q q ?_
 refine zh 8 15 (.bool ((decide (p1 < 0)) || (decide (p1 ≥ (List.length B4 : Int))))) ?_ (fun md hmd hk => ?_)
 rotate_left
 ·obtain ⟨K, rfl⟩ := zr hmd
  rcases btf (decide (p1 < 0)) with ab | ab
  ·skip
   refine qS q ab q q <| qS q ab q q <| qS q ab q q <| qS q ab q q <| qS q ab q q <| qS q ab q q <| qS q ab q q <| A q (ze q ab q) q q ?_
   exact hk _ (p (by rw [ab]; rfl) (cfn 7 q (u)))
  skip
  refine qM (J q ab) q q <| qM (J q ab) q q <| qN (J q ab) q q <| qF uf27 fi27_4 nz25 (J q ab) q q ?_
  have aq := R H.p0
  refine l u25 q aq q (J q ab) q q ?_
  have V3 := H.viewG (Vw.c (Vw.d (Vw.c (Vw.c (Vw.d Vw.refl)))))
  refine za V3 (t := ty12) hR4 u25 (J q ab) q q <| A (J q ab) (qt_geq q q) q q <| A q (zf q ab q) q q ?_
  exact hk _ (p (by rw [ab]; rfl) (cfn 7 q (u)))
 refine qM q q q ?_
 obtain ⟨b4, ad, h⟩ := D h
 refine zh 11 27 (.bool b4) ?_ (fun md hmd hk => ?_)
 rotate_left
 ·obtain ⟨K, rfl⟩ := zr hmd
  rcases btf ((decide (p1 < 0)) || (decide (p1 ≥ (List.length B4 : Int)))) with aa | aa
  ·skip
   refine qS q aa q q <| qS q aa q q <| qS q aa q q <| qS q aa q q <| qS q aa q q <| qS q aa q q <| qS q aa q q <| qS q aa q q <| qS q aa q q <| qS q aa q q ?_
   refine A q (ze q aa q) q q ?_
   exact hk _ (p (vb (if_t aa ad)) (cfn 10 q (u)))
  skip
  have ad := if_f aa ad
  refine qM (J q aa) q q <| qN (J q aa) q q <| qF uf27 fi27_4 nz25 (J q aa) q q ?_
  have ar := R H.p0
  refine l u25 q ar q (J q aa) q q <| qM (J q aa) q q ?_
  obtain ⟨x8, ae, ad⟩ := D ad
  have au := H.viewG (Vw.c (Vw.d (Vw.c (Vw.c (Vw.d Vw.refl)))))
  refine b au hR4 ae u25 i47 (J q aa) q q q (fun aV aW aX av => ?_)
  refine qF uf47 fi47_1 nz45 (J q aa) q q ?_
  have ai := H.p4
  obtain ⟨aw, ax, ay, aY, aZ, a0⟩ := Holds.ns ai ((Foc.snd (Foc.fst Foc.refl))) ae av
  refine XL_load_cell u45 q ay (J q aa) q q ?_
  obtain ⟨az, aA, ad⟩ := D ad
  refine QC (J q aa) q c70 (fun w' hb => w_impl_TicketDone w' _ aw x8.2.1 hR0 az aA ((ai.grow hb).viewG (Vw.dp (NsOk.ns ((Foc.snd (Foc.fst Foc.refl))) ae ax (NsOk.self NsOk.nil)) (Vw.c (Vw.d (Vw.c (Vw.c Vw.refl))))))) (by rfl) <| A (J q aa) (qt_not q) q q <| A q (zf q aa q) q q ?_
  exact hk _ (p (vb ad) (cfn 10 q (u)))
 refine QL_nil fun a ha a1 aB => ?_
 have aj := H.grow aB
 refine X (S ?_ ha)
 refine Y q (fun af => ?_) (fun af => ?_)
 ·have h := if_t af h
  refine rR <| qA q q q <| B <| W fun a ha => ?_
  obtain rfl := L h
  have aC := aj.p4.p4.p4.p4.p4
  exact m (ret1 q ha q ⟨A4, csp0_4, Fp0_4, q, aC⟩)
 have h := if_f af h
 refine y <| C ?_
 obtain ⟨ak, aD, h⟩ := D h
 refine WP_join (M := fun a w2 => (Fr a 51 [(0, pB bp0), (1, iV p1)] ∧ Holds (([.bx bp0 27 [A0, A1, A2, iV B3, A4], dpR 55 dt13 A0 csp0_0 B0 Fp0_0, .sl 3 tI A1 B1, .sl 3 tI A2 B2, dpR 47 dt14 A4 csp0_4 B4 Fp0_4] : List Res).flatMap Res.own) w w2 [.bx bp0 27 [A0, A1, A2, iV (IntKind.wrap .i64 (B3 + ak)), A4], dpR 55 dt13 A0 csp0_0 B0 Fp0_0, .sl 3 tI A1 B1, .sl 3 tI A2 B2, dpR 47 dt14 A4 csp0_4 B4 Fp0_4] G)) ?_ ?_
 ·refine WP_ordersT (fun w1 w2 => Chg M0 w1 w2) 10 (by kernel_rfl) (fun ag aE => ?_)
  have al := aj.grow aE
  have ah : Ctx ag ([] ++ ([.bx bp0 27 [A0, A1, A2, iV B3, A4], .ro ty10 A0 B0, .sl 3 tI A1 B1, .sl 3 tI A2 B2, .ro ty12 A4 B4] ++ G)) := al.viewG (Vw.c (Vw.d (Vw.c (Vw.c (Vw.d Vw.refl)))))
  have aF : Holds _ ag ag [] ([.bx bp0 27 [A0, A1, A2, iV B3, A4], .ro ty10 A0 B0, .sl 3 tI A1 B1, .sl 3 tI A2 B2, .ro ty12 A4 B4] ++ G) := zb (Rs := []) ah
  have Hc := aF
  repeat' first
   | refine XDo 8 q <| zd q q c45 (w_impl_TableBill _ _ A0 B0 hR1 A1 B1 hS2 A2 B2 hS3 B3 A4 B4 hR4 p1 ak aD Hc.ctx) (by rfl) ?_; rintro _ _ ⟨rfl, HK⟩; refine ⟨_, q, ?_⟩; have Hc := Hc.cN0 [] HK; refine XN Hc.chg ?_
   | have Hc := al.cV0 [] Hc all_nil; refine XDo 10 q <| qN q q q <| XE q ?_
   | refine XDo 11 q <| qF uf27 fi27_3 nz3 q q q <| XE q ?_
   | refine XDo 12 q ?_; refine WL_store_bx Hc q il3 q q q q q (fun _ Hc => ?_); refine XE q ?_
   | refine XQ (i := 0) q (by decide +kernel) q Hc.chg q (fun _ => qt_move q) q q ?_
   | refine XQ (i := 1) q (by decide +kernel) q Hc.chg q (fun _ => qt_nilCheck q) q q ?_
   | refine XQ (i := 2) q (by decide +kernel) q Hc.chg q (fun _ => qt_fieldAddr uf27 fi27_3 nz3 q) q q ?_
   | have aG := HasB.bx (HasB.hd) Hc.ctx; refine XT (i := 3) q (by decide +kernel) q Hc.chg q (qs_cell u3 q q (aG.cell (i := 3) q) Hc.chg (Ctx.outB ah (HasB.hd))) q q ?_
   | refine XQ (i := 4) q (by decide +kernel) q Hc.chg q (fun _ => qt_move q) q q ?_
   | refine XQ (i := 5) q (by decide +kernel) q Hc.chg q (fun _ => qt_nilCheck q) q q ?_
   | have aH := HasB.bx (HasB.hd) Hc.ctx; refine XT (i := 6) q (by decide +kernel) q Hc.chg q (qs_agg (cs := [A0, A1, A2, iV B3, A4]) us27 uo27 il27 q (fun j z hj => by rw [Nat.zero_add]; exact aH.cell hj) Hc.chg (Ctx.outB ah (HasB.hd))) q q ?_; change XC _ _ _ _ _ _ _ _ ((34, .agg #[A0, A1, A2, iV B3, A4]) :: _) _
   | refine XQ (i := 7) q (by decide +kernel) q Hc.chg q (fun _ => qt_move q) q q ?_
   | refine XQ (i := 9) q (by decide +kernel) q Hc.chg q (fun _ => qt_add q q) q q ?_
   | refine XV [8] (by decide +kernel) q (allc ?_ alln)
   | refine XV [10] (by decide +kernel) q (allc ?_ alln)
   | refine XV [11] (by decide +kernel) q (allc ?_ alln)
   | refine XV [12] (by decide +kernel) q (allc ?_ alln)
   | refine XC_done (by decide +kernel) (fun a ha => ?_); have Hc := (((((Hc.p4).p4).p4).p4).p4); exact ⟨ha.sub ⟨q, q, trivial⟩, Hc⟩
 intro a aI aJ
 obtain ⟨ha, am⟩ := aJ
 refine S ?_ ha
 clear ha
 refine rR <| qM q q q <| qM q q q <| qN q q q <| qF uf27 fi27_4 nz25 q q q ?_
 have aK := R am.p0
 refine l u25 q aK q q q q <| qM q q q <| qM q q q <| A q (qt_add q q) q q ?_
 have an := am.p4
 obtain ⟨aL, aM, h⟩ := D h
 have aN := an.viewG (Vw.c (Vw.c (Vw.d (Vw.c (Vw.c Vw.refl)))))
 refine zd q q c71 (w_impl_Table aI _ A4 B4 csp0_4 Fp0_4 p1 (IntKind.wrap .i64 (p1 + 1)) aL aM aN) (by rfl) ?_
 rintro _ a2 ⟨aO, aP, aQ, rfl, aR⟩; refine ⟨_, q, ?_⟩
 have aS := an.cV1 [_] aR (zc Pure.dp all_nil)
 refine qN q q q <| qF uf27 fi27_4 nz25 q q q ?_
 have ao := aS.p1
 have ap := ao.viewG (Vw.c (Vw.d (Vw.d (Vw.c (Vw.c Vw.refl)))))
 refine WL_store_bx ao q il25 (ap.sliceCells hR1) (ap.sliceOne hR1) q q q (fun a3 aT => ?_)
 refine rN <| qA q q q <| B <| W fun a ha => ?_
 obtain rfl := L h
 have aU := aT.p1.p4.p4.p4.p4
 exact ret1 q ha q ⟨aO, aP, aQ, q, aU⟩
theorem w_impl_HouseDo (w : World) (G : List Res) (hGl : Glob G) (A0 : Value) (B0 : LI) (C0 : Has G ty10 A0 B0) (A1 : Value) (B1 : List Int) (C1 : Has G tI A1 B1) (A2 : Value) (B2 : List Int) (C2 : Has G tI A2 B2) (B3 : Int) (A4 : Value) (B4 : LT) (C4 : Has G ty12 A4 B4) (p1_0 : Int) (p1_1 : Int) (p1_2 : Int) (p1_3 : Int) (r : (LI × (List Int) × (List Int) × Int × LT) × Bool) (h : impl_HouseDoS B0 B1 B2 B3 B4 p1_0 p1_1 p1_2 p1_3 = some r) (H : Ctx w G) : Calls Tryz.prog 7 #[.agg #[A0, A1, A2, iV B3, A4], .agg #[iV p1_0, iV p1_1, iV p1_2, iV p1_3]] w fun e w' => ∃ (v1 : Value) (csv1 : List Value) (Fv1 : List Nat) (v4 : Value) (v5 : Value) (v6 : Value) (csv6 : List Value) (Fv6 : List Nat), e = .returned (.tuple #[.agg #[v1, v4, v5, iV r.1.2.2.2.1, v6], .bool r.2]) ∧ Holds M0 w w' [dpR 55 dt13 v1 csv1 r.1.1 Fv1, .sl 3 tI v4 r.1.2.1, .sl 3 tI v5 r.1.2.2.1, dpR 47 dt14 v6 csv6 r.1.2.2.2.2 Fv6] G := by
 have H : Holds M0 w w [] G := zb H
 refine zg (args := [.agg #[A0, A1, A2, iV B3, A4], .agg #[iV p1_0, iV p1_1, iV p1_2, iV p1_3]]) (n := 72) Tryz.func7 q q q ?_
 unfold impl_HouseDoS at h
 refine C <| Z ?_
 refine WL_box (cs := [A0, A1, A2, iV B3, A4]) H q q q q (fun b1 w2 H3 => ?_)
 refine WL_box (cs := [iV p1_0, iV p1_1, iV p1_2, iV p1_3]) H3 q q q q (fun b5 w6 H7 => ?_)
 refine zq (cs := [nS, nS, nS, iV 0, nS]) H7 z27 q q q (fun b9 dw aC => ?_)
 refine qA q q q <| B <| C <| C <| zk ?_
 have bi := R aC.p2
 refine zm (cs := [A0, A1, A2, iV B3, A4]) us27 uo27 il27 bi q q q ?_
 change XL _ _ _ _ _ ((8, .agg #[A0, A1, A2, iV B3, A4]) :: _) _
 obtain ⟨bj, bk, h⟩ := D h
 refine QC q q c10 (fun w' hb => w_impl_HouseValid w' _ A0 B0 (C0.c.c.c) A1 B1 (C1.c.c.c) A2 B2 (C2.c.c.c) B3 A4 B4 (C4.c.c.c) bj bk (aC.grow hb).ctx) (by rfl) <| A q (qt_not q) q q <| QL_nil fun a ha dx bl => ?_
 have ax := aC.grow bl
 refine X (S ?_ ha)
 refine Y q (fun aD => ?_) (fun aD => ?_)
 ·have h := if_t aD h
  refine rR <| A q (qt_build (args := []) (css := []) (cells := #[nS, nS, nS, iV 0, nS]) q trivial (by kernel_rfl)) q q ?_
  refine zl (cs' := [nS, nS, nS, iV 0, nS]) ax q il27 q q q q q (fun dy aZ => ?_)
  refine qA q q q <| B <| W fun a ha => ?_
  obtain rfl := L h
  have bm := R aZ.p0
  have bn := aZ.nD 55 dt13
  have bo := bn.nS 3 tI
  have bp := bo.nS 3 tI
  have bq := bp.nD 47 dt14
  have br := bq.q4.q4.q4.p1.p2.p3
  exact m (retct q ha q q (run_loadVar_bx (cs := [nS, nS, nS, iV 0, nS]) us27 uo27 il27 bm) ⟨(nS), [], [], (nS), (nS), (nS), [], [], q, br⟩)
 have h := if_f aD h
 refine y <| C <| C <| zk ?_
 have bs := R ax.p1
 refine zm (cs := [iV p1_0, iV p1_1, iV p1_2, iV p1_3]) us29 uo29 il29 bs q q q ?_
 change XL _ _ _ _ _ ((12, .agg #[iV p1_0, iV p1_1, iV p1_2, iV p1_3]) :: _) _
 obtain ⟨bt, bu, h⟩ := D h
 refine QC q q c26 (fun w' hb => w_impl_onlyNamed w' _ hGl.c.c.c p1_0 p1_1 p1_2 p1_3 bt bu (ax.grow hb).ctx) (by rfl) <| A q (qt_not q) q q <| QL_nil fun a ha a0 bv => ?_
 have ar := ax.grow bv
 refine X (S ?_ ha)
 refine Y q (fun aE => ?_) (fun aE => ?_)
 ·have h := if_t aE h
  refine C <| Z ?_
  have bw := R ar.p2
  refine zm (cs := [A0, A1, A2, iV B3, A4]) us27 uo27 il27 bw q q q ?_
  change XL _ _ _ _ _ ((15, .agg #[A0, A1, A2, iV B3, A4]) :: _) _
  obtain ⟨aF, bz, h⟩ := D h
  refine zd q q c27 (w_impl_copyHouse a0 _ A0 B0 (C0.c.c.c) A1 B1 (C1.c.c.c) A2 B2 (C2.c.c.c) B3 A4 B4 (C4.c.c.c) aF bz ar.ctx) (by rfl) ?_
  rintro _ dz ⟨aG, bA, bB, aH, aI, aJ, bC, bD, rfl, bE⟩; refine ⟨_, q, ?_⟩
  have bF := ar.cN4 [] bE
  have a1 := bF.p4
  have ay := a1.viewG (Vw.c (Vw.d (Vw.c (Vw.c (Vw.d (Vw.c (Vw.c Vw.refl)))))))
  refine zl (cs' := [aG, aH, aI, iV aF.2.2.2.1, aJ]) a1 q il27 q (T (ay.sliceOne hR1) (T (ay.sliceOne hS2) (T (ay.sliceOne hS3) (T q (T (ay.sliceOne hR4) q))))) q q q (fun dA a2 => ?_)
  refine qA q q q <| B <| W fun a ha => ?_
  obtain rfl := L h
  have bG := R a2.p0
  have bH := a2.q0.q4.q4.p3.p3.p3.p3
  exact m (retct q ha q q (run_loadVar_bx (cs := [aG, aH, aI, iV aF.2.2.2.1, aJ]) us27 uo27 il27 bG) ⟨aG, bA, bB, aH, aI, aJ, bC, bD, q, bH⟩)
 have h := if_f aE h
 refine y <| C <| Z ?_
 have bI := R ar.p2
 refine zm (cs := [A0, A1, A2, iV B3, A4]) us27 uo27 il27 bI q q q ?_
 change XL _ _ _ _ _ ((17, .agg #[A0, A1, A2, iV B3, A4]) :: _) _
 obtain ⟨ab, bJ, h⟩ := D h
 refine zd q q c27 (w_impl_copyHouse a0 _ A0 B0 (C0.c.c.c) A1 B1 (C1.c.c.c) A2 B2 (C2.c.c.c) B3 A4 B4 (C4.c.c.c) ab bJ ar.ctx) (by rfl) ?_
 rintro _ dB ⟨ae, ao, ap, af, ag, ah, al, am, rfl, bK⟩; refine ⟨_, q, ?_⟩
 have bL := ar.cN4 [] bK
 refine zq (cs := [nS, nS, nS, iV 0, nS]) bL z27 q q q (fun aq dC a3 => ?_)
 have az := a3.viewG (Vw.c (Vw.d (Vw.c (Vw.c (Vw.d (Vw.c (Vw.c (Vw.c Vw.refl))))))))
 refine zl (cs' := [ae, af, ag, iV ab.2.2.2.1, ah]) a3 q il27 q (T (az.sliceOne hR1) (T (az.sliceOne hS2) (T (az.sliceOne hS3) (T q (T (az.sliceOne hR4) q))))) q q q (fun av ad => ?_)
 refine rN <| qA q q q <| B <| C <| rR <| qF uf29 fi29_0 nz3 q q q ?_
 have bM := R ad.p6
 refine l u3 q bM q q q q <| B ?_
 obtain ⟨bN, aa, h⟩ := D h
 obtain ⟨a4, a5, an, a6⟩ := bN
 refine WP_join (M := fun a w2 => ∃ ai aj aK aL, Fr a 72 [(2, pB b1), (4, pB b9), (6, pB aq), (7, .bool a4)] ∧ Holds M0 w w2 [.bx b1 27 [A0, A1, A2, iV B3, A4], .bx b9 27 [nS, nS, nS, iV 0, nS], .bx aq 27 [ae, af, ai, iV an, aj], dpR 55 dt13 ae ao ab.1 ap, .sl 3 tI af ab.2.1, .sl 3 tI ai a5, dpR 47 dt14 aj aK a6 aL] G) ?_ ?_
 ·refine g ?_
  refine rR <| A q (qt_eql q q) q q <| qA q q q <| B ?_
  refine Y q (fun aM => ?_) (fun aM => ?_)
  ·have aa := if_t aM aa
   refine Z <| qF uf29 fi29_1 nz3 q q q ?_
   have bO := R ad.p6
   refine l u3 q bO q q q q <| qF uf29 fi29_2 nz3 q q q ?_
   have bP := R ad.p6
   refine l u3 q bP q q q q ?_
   have bQ := ad.p4
   have bR := bQ.p4
   have bS := bR.p4
   have bT := bS.p4
   have a7 := bT.p4
   obtain ⟨bU, bV, aa⟩ := D aa
   refine zd q q c28 (w_impl_doBuy av _ aq ae ab.1 ao ap af ab.2.1 ag ab.2.2.1 ab.2.2.2.1 ah ab.2.2.2.2 al am p1_1 p1_2 bU bV a7.ctx) (by rfl) ?_
   rintro _ dD ⟨rfl, bW⟩; refine ⟨_, q, ?_⟩
   have bX := a7.cN5 [_, _, _, _, _] bW
   refine qA q q q <| WL_nil fun a ha => ?_
   obtain ⟨rfl, rfl, rfl, rfl⟩ := (by simpa only [Option.some.injEq, Prod.mk.injEq] using aa : _)
   have bY := bX.q6.p4.p4.p4.p4.p4.p5.p6
   exact zi (X (⟨ag, ah, al, am, ha.sub ⟨q, q, q, q, trivial⟩, bY⟩))
  have aa := if_f aM aa
  refine rR <| A q (qt_eql q q) q q <| qA q q q <| B ?_
  refine Y q (fun aN => ?_) (fun aN => ?_)
  ·have aa := if_t aN aa
   refine Z <| qF uf29 fi29_1 nz3 q q q ?_
   have bZ := R ad.p6
   refine l u3 q bZ q q q q <| qF uf29 fi29_2 nz3 q q q ?_
   have b0 := R ad.p6
   refine l u3 q b0 q q q q ?_
   have b4 := ad.p4
   have b6 := b4.p4
   have b7 := b6.p4
   have b8 := b7.p4
   have a8 := b8.p4
   obtain ⟨ca, cb, aa⟩ := D aa
   refine zd q q c29 (w_impl_doMake av _ aq ae ab.1 ao ap af ab.2.1 ag ab.2.2.1 ab.2.2.2.1 ah ab.2.2.2.2 al am p1_1 p1_2 ca cb a8.ctx) (by rfl) ?_
   rintro _ dE ⟨cc, rfl, cd⟩; refine ⟨_, q, ?_⟩
   have ce := a8.cN5 [_, _, _, _, _] cd
   refine qA q q q <| WL_nil fun a ha => ?_
   obtain ⟨rfl, rfl, rfl, rfl⟩ := (by simpa only [Option.some.injEq, Prod.mk.injEq] using aa : _)
   have cf := ce.q6.p4.p4.p4.p4.p4.p5.p6
   exact zi (X (⟨cc, ah, al, am, ha.sub ⟨q, q, q, q, trivial⟩, cf⟩))
  have aa := if_f aN aa
  refine rR <| A q (qt_eql q q) q q <| qA q q q <| B ?_
  refine Y q (fun aO => ?_) (fun aO => ?_)
  ·have aa := if_t aO aa
   refine rR <| qF uf27 fi27_4 nz25 q q q ?_
   have cg := R ad.p0
   refine l u25 q cg q q q q <| qF uf29 fi29_1 nz3 q q q ?_
   have ch := R ad.p6
   refine l u3 q ch q q q q <| A q (qt_build (args := [(0, .tmp 40)]) (css := [#[iV p1_1]]) (cells := #[iV p1_1, nS, nS]) q ⟨q, trivial⟩ (by kernel_rfl)) q q ?_
   refine WL_buildD (Rs := []) (d := dt14) (args := [.tmp 41]) (xs := ([(p1_1, [], [])] : LT)) ad (DBltL.one (cs' := [iV p1_1, nS, nS]) (DBlt.cast (DBlt.pair (DBlt.int (k := .i64) (n := p1_1)) (DBlt.pair (DBlt.nil (e := 49) (d := dt3)) (DBlt.nil (e := 3) (d := (.leaf tI))))) q q) q) u25 j47 q q q q q q (fun dF dG dH dI ci => ?_)
   have cj := ci.p5
   obtain ⟨dJ, ck, aa⟩ := D aa
   refine WL_appendD cj ck u25 j47 q q q q q q (fun cl cm cn dK co => ?_)
   refine qF uf27 fi27_4 nz25 q q q ?_
   have a9 := co.p1
   have ba := a9.viewG (Vw.c (Vw.d (Vw.d (Vw.c (Vw.c (Vw.c (Vw.c (Vw.c Vw.refl))))))))
   refine WL_store_bx a9 q il25 (ba.sliceCells hR1) (ba.sliceOne hR1) q q q (fun dL cp => ?_)
   refine B <| Z <| qA q q q <| WL_nil fun a ha => ?_
   obtain ⟨rfl, rfl, rfl, rfl⟩ := (by simpa only [Option.some.injEq, Prod.mk.injEq] using aa : _)
   have cq := cp.q6.p1.p4.p4.p4.p4.p5.p6
   exact zi (X (⟨ag, cl, cm, cn, ha.sub ⟨q, q, q, q, trivial⟩, cq⟩))
  have aa := if_f aO aa
  refine rR <| A q (qt_eql q q) q q <| qA q q q <| B ?_
  refine Y q (fun aP => ?_) (fun aP => ?_)
  ·have aa := if_t aP aa
   refine Z <| qF uf29 fi29_1 nz3 q q q ?_
   have cr := R ad.p6
   refine l u3 q cr q q q q <| qF uf29 fi29_2 nz3 q q q ?_
   have ct := R ad.p6
   refine l u3 q ct q q q q <| qF uf29 fi29_3 nz3 q q q ?_
   have cu := R ad.p6
   refine l u3 q cu q q q q ?_
   have cv := ad.p4
   have cw := cv.p4
   have cx := cw.p4
   have cy := cx.p4
   have bb := cy.p4
   obtain ⟨cz, cA, aa⟩ := D aa
   refine zd q q c30 (w_impl_doOrder av _ aq ae ab.1 ao ap af ab.2.1 ag ab.2.2.1 ab.2.2.2.1 ah ab.2.2.2.2 al am p1_1 p1_2 p1_3 cz cA bb.ctx) (by rfl) ?_
   rintro _ dM ⟨cB, cC, rfl, cD⟩; refine ⟨_, q, ?_⟩
   have cE := bb.cN5 [_, _, _, _, _] cD
   refine qA q q q <| WL_nil fun a ha => ?_
   obtain ⟨rfl, rfl, rfl, rfl⟩ := (by simpa only [Option.some.injEq, Prod.mk.injEq] using aa : _)
   have cF := cE.q6.p4.p4.p4.p4.p4.p5.p6
   exact zi (X (⟨ag, ah, cB, cC, ha.sub ⟨q, q, q, q, trivial⟩, cF⟩))
  have aa := if_f aP aa
  refine rR <| A q (qt_eql q q) q q <| qA q q q <| B ?_
  refine Y q (fun aQ => ?_) (fun aQ => ?_)
  ·have aa := if_t aQ aa
   refine Z ?_
   have cG := ad.p4
   have cH := cG.p4
   have cI := cH.p4
   have cJ := cI.p4
   have bc := cJ.p4
   obtain ⟨cK, cL, aa⟩ := D aa
   refine zd q q c31 (w_impl_doWork av _ aq ae ab.1 ao ap af ab.2.1 ag ab.2.2.1 ab.2.2.2.1 ah ab.2.2.2.2 al am cK cL bc.ctx) (by rfl) ?_
   rintro _ dN ⟨cM, cN, rfl, cO⟩; refine ⟨_, q, ?_⟩
   have cP := bc.cN5 [_, _, _, _, _] cO
   refine qA q q q <| WL_nil fun a ha => ?_
   obtain ⟨rfl, rfl, rfl, rfl⟩ := (by simpa only [Option.some.injEq, Prod.mk.injEq] using aa : _)
   have cQ := cP.q6.p4.p4.p4.p4.p4.p5.p6
   exact zi (X (⟨ag, ah, cM, cN, ha.sub ⟨q, q, q, q, trivial⟩, cQ⟩))
  have aa := if_f aQ aa
  refine rR <| A q (qt_eql q q) q q <| qA q q q <| B ?_
  refine Y q (fun aR => ?_) (fun aR => ?_)
  ·have aa := if_t aR aa
   refine Z <| qF uf29 fi29_1 nz3 q q q ?_
   have cR := R ad.p6
   refine l u3 q cR q q q q ?_
   have cS := ad.p4
   have cT := cS.p4
   have cU := cT.p4
   have cV := cU.p4
   have bd := cV.p4
   obtain ⟨cW, cX, aa⟩ := D aa
   refine zd q q c32 (w_impl_doClose av _ aq ae ab.1 ao ap af ab.2.1 ag ab.2.2.1 ab.2.2.2.1 ah ab.2.2.2.2 al am p1_1 cW cX bd.ctx) (by rfl) ?_
   rintro _ dO ⟨cY, cZ, c0, rfl, c1⟩; refine ⟨_, q, ?_⟩
   have c2 := bd.cN5 [_, _, _, _, _] c1
   refine qA q q q <| WL_nil fun a ha => ?_
   obtain ⟨rfl, rfl, rfl, rfl⟩ := (by simpa only [Option.some.injEq, Prod.mk.injEq] using aa : _)
   have c3 := c2.q6.p4.p4.p4.p4.p4.p5.p6
   exact zi (X (⟨ag, cY, cZ, c0, ha.sub ⟨q, q, q, q, trivial⟩, c3⟩))
  have aa := if_f aR aa
  refine WP_skip fun a ha => ?_
  obtain ⟨rfl, rfl, rfl, rfl⟩ := (by simpa only [Option.some.injEq, Prod.mk.injEq] using aa : _)
  have c4 := ad.q6.p4.p4.p4.p4.p4.p5.p6
  exact zi (X (⟨ag, ah, al, am, ha.sub ⟨q, q, q, q, trivial⟩, c4⟩))
 intro a dP c5
 obtain ⟨ai, aj, aK, aL, ha, aS⟩ := c5
 refine S ?_ ha
 clear ha
 refine C <| C <| zk <| qM q q q <| A q (qt_not q) q q <| qM q q q ?_
 obtain ⟨da, au, h⟩ := D h
 refine zh 4 68 (.bool da) ?_ (fun md hmd hk => ?_)
 rotate_left
 ·obtain ⟨K, rfl⟩ := zr hmd
  rcases btf (!a4) with ak | ak
  ·skip
   refine qS q ak q q <| qS q ak q q <| qS q ak q q <| A q (ze q ak q) q q ?_
   exact hk _ (p (vb (if_t ak au)) (cfn 3 q (u)))
  skip
  have au := if_f ak au
  have db := R aS.p2
  refine zm (cs := [ae, af, ai, iV an, aj]) us27 uo27 il27 db (J q ak) q q ?_
  change XL _ _ _ _ _ ((65, .agg #[ae, af, ai, iV an, aj]) :: _) _
  obtain ⟨dc, dd, au⟩ := D au
  refine QC (J q ak) q c10 (fun w' hb => w_impl_HouseValid w' _ ae ab.1 hR3 af ab.2.1 hS4 ai a5 hS5 an aj a6 hR6 dc dd ((aS.grow hb).viewG (Vw.c (Vw.c (Vw.c (Vw.d (Vw.c (Vw.c (Vw.d Vw.refl))))))))) (by rfl) <| A (J q ak) (qt_not q) q q <| A q (zf q ak q) q q ?_
  exact hk _ (p (vb au) (cfn 3 q (u)))
 refine QL_nil fun a ha de df => ?_
 have aw := aS.grow df
 refine X (S ?_ ha)
 refine Y q (fun aT => ?_) (fun aT => ?_)
 ·have h := if_t aT h
  refine C <| Z ?_
  have dg := R aw.p0
  refine zm (cs := [A0, A1, A2, iV B3, A4]) us27 uo27 il27 dg q q q ?_
  change XL _ _ _ _ _ ((69, .agg #[A0, A1, A2, iV B3, A4]) :: _) _
  obtain ⟨aU, dh, h⟩ := D h
  have di := aw.viewG (Vw.c (Vw.c (Vw.c (Vw.d (Vw.c (Vw.c (Vw.d Vw.refl)))))))
  refine zd q q c27 (w_impl_copyHouse de _ A0 B0 (C0.c.c.c.c.c.c.c) A1 B1 (C1.c.c.c.c.c.c.c) A2 B2 (C2.c.c.c.c.c.c.c) B3 A4 B4 (C4.c.c.c.c.c.c.c) aU dh di) (by rfl) ?_
  rintro _ dQ ⟨aV, dj, dk, aW, aX, aY, dl, dm, rfl, dn⟩; refine ⟨_, q, ?_⟩
  have dq := aw.cV4 [] dn (zc Pure.dp (zc (Pure.sl q) (zc (Pure.sl q) (zc Pure.dp all_nil))))
  have be := dq.p5
  have aA := be.viewG (Vw.c (Vw.d (Vw.c (Vw.c (Vw.d (Vw.c (Vw.c (Vw.d (Vw.c (Vw.c (Vw.d Vw.refl)))))))))))
  refine zl (cs' := [aV, aW, aX, iV aU.2.2.2.1, aY]) be q il27 q (T (aA.sliceOne hR1) (T (aA.sliceOne hS2) (T (aA.sliceOne hS3) (T q (T (aA.sliceOne hR4) q))))) q q q (fun dR bf => ?_)
  refine qA q q q <| B <| W fun a ha => ?_
  obtain rfl := L h
  have dr := R bf.p0
  have ds := bf.q0.q4.q4.q4.q4.q4.q4.p3.p3.p3.p3
  exact m (retct q ha q q (run_loadVar_bx (cs := [aV, aW, aX, iV aU.2.2.2.1, aY]) us27 uo27 il27 dr) ⟨aV, dj, dk, aW, aX, aY, dl, dm, q, ds⟩)
 have h := if_f aT h
 refine y <| C <| Z ?_
 have dt := R aw.p2
 refine zm (cs := [ae, af, ai, iV an, aj]) us27 uo27 il27 dt q q q ?_
 change XL _ _ _ _ _ ((71, .agg #[ae, af, ai, iV an, aj]) :: _) _
 have bg := aw.p1
 have aB := bg.viewG (Vw.c (Vw.c (Vw.c (Vw.d (Vw.c (Vw.c (Vw.d Vw.refl)))))))
 refine zl (cs' := [ae, af, ai, iV an, aj]) bg q il27 q (T (aB.sliceOne hR3) (T (aB.sliceOne hS4) (T (aB.sliceOne hS5) (T q (T (aB.sliceOne hR6) q))))) q q q (fun dS bh => ?_)
 refine qA q q q <| B <| W fun a ha => ?_
 obtain rfl := L h
 have du := R bh.p0
 have dv := bh.q0.q0.q0.p3.p3.p3.p3
 exact retct q ha q q (run_loadVar_bx (cs := [ae, af, ai, iV an, aj]) us27 uo27 il27 du) ⟨ae, ao, ap, af, ai, aj, aK, aL, q, dv⟩
theorem w_laws_sameInts (w : World) (G : List Res) (vp0 : Value) (p0 : List Int) (hp0 : Has G tI vp0 p0) (vp1 : Value) (p1 : List Int) (hp1 : Has G tI vp1 p1) (r : Bool) (h : laws_sameIntsS p0 p1 = some r) (H : Ctx w G) : Calls Tryz.prog 19 #[vp0, vp1] w fun e w' => e = .returned (.bool r) ∧ Holds M0 w w' [] G := by
 have H : Holds M0 w w [] G := zb H
 refine zg (args := [vp0, vp1]) (n := 26) Tryz.func19 q q q ?_
 unfold laws_sameIntsS at h
 refine rR <| qA q q q <| B <| C <| rR <| qM q q q <| za H.ctx (t := tI) (hp0) u24 q q q <| qM q q q ?_
 refine za H.ctx (t := tI) (hp1) u24 q q q <| A q (qt_neq q q) q q <| B ?_
 refine Y q (fun ad => ?_) (fun ad => ?_)
 ·have h := if_t ad h
  refine rR <| qA q q q <| B <| W fun a ha => ?_
  obtain rfl := L h
  exact m (ret1 q ha q ⟨q, H⟩)
 have h := if_f ad h
 refine y <| C <| rR <| qA q q q <| B <| g ?_
 obtain ⟨o3, al, h⟩ := D h
 refine fun a5 ag => zp (I := fun s a w2 => match s with | s2 => (Fr a 26 [(0, vp0), (1, vp1), (5, iV s2)] ∧ Holds M0 w w2 [] G)) (O := fun o e a w2 => match o with | .inl _ => e = .exit 0 ∧ (Fr a 26 [] ∧ Holds M0 w w2 [] G) | .inr q0 => e = .ret ∧ (Fr a 26 [(4, .bool q0)] ∧ Holds M0 w w2 [] G)) al ?_ ?_ ?_
 ·exact ⟨ag.sub ⟨q, q, q, trivial⟩, H⟩
 ·clear ag
  intro s o9 a w7 aa am
  obtain ⟨s2, rfl⟩ : ∃ z, z = s := ⟨s, q⟩
  obtain ⟨ha, ab⟩ := am
  refine S ?_ ha
  clear ha
  refine C <| rR <| qM q q q <| qM q q q <| za ab.ctx (t := tI) (hp0) u24 q q q <| A q (qt_lss q q) q q <| B ?_
  refine Y q (fun ae => ?_) (fun ae => ?_)
  ·have aa := if_t ae aa
   refine y <| C <| g <| C <| WP_quiet (by kernel_rfl) (by kernel_rfl) <| qM q q q <| qM q q q ?_
   obtain ⟨ay, ah, aa⟩ := D aa
   refine b ab.ctx (hp0) ah u24 i3 q q q q (fun az aA aB an => ?_)
   obtain ⟨aC, ao, aD⟩ := ab.at (hp0) ah an
   refine zt (k := .i64) u3 q ao q q q <| qM q q q <| qM q q q ?_
   obtain ⟨aE, ai, aa⟩ := D aa
   refine b ab.ctx (hp1) ai u24 i3 q q q q (fun aF aG aH ap => ?_)
   obtain ⟨aI, aq, aJ⟩ := ab.at (hp1) ai ap
   refine zt (k := .i64) u3 q aq q q q <| A q (qt_neq q q) q q <| QL_nil fun a ha aK ar => ?_
   have aj := ab.grow ar
   refine X (S ?_ ha)
   refine Y q (fun af => ?_) (fun af => ?_)
   ·have aa := if_t af aa
    refine rR <| qA q q q <| B <| W fun a ha => ?_
    obtain rfl := L aa
    exact zj (m (⟨ret_ne, q, ha.sub ⟨q, trivial⟩, aj⟩))
   have aa := if_f af aa
   refine WP_skip fun a ha => ?_
   refine zi (X (S ?_ ha))
   refine Z <| qM q q q <| A q (qt_add q q) q q <| qA q q q <| WL_nil fun a ha => ?_
   obtain rfl := L aa
   exact ⟨q, ha.sub ⟨q, q, q, trivial⟩, aj⟩
  have aa := if_f ae aa
  refine WP_exit fun a ha => ?_
  obtain rfl := L aa
  exact zo (⟨exit_ne, q, ha.sub trivial, ab⟩)
 intro e a5 aL ak
 rcases o3 with o3 | o3
 ·skip
  obtain ⟨rfl, au⟩ := ak
  obtain ⟨ha, av⟩ := au
  refine zn (X (S ?_ ha))
  refine rR <| qA q q q <| B <| W fun a ha => ?_
  obtain rfl := L h
  exact ret1 q ha q ⟨q, av⟩
 skip
 obtain ⟨aM, rfl⟩ : ∃ z, z = o3 := ⟨o3, q⟩
 obtain ⟨rfl, aw⟩ := ak
 obtain ⟨ha, ax⟩ := aw
 obtain rfl := L h
 exact zj (m (ret1 q ha q ⟨q, ax⟩))
theorem w_laws_sameItem (w : World) (G : List Res) (B0 : Int) (A1 : Value) (B1 : LP) (C1 : Has G ty2 A1 B1) (B2 : Int) (p1_0 : Int) (A1_1 : Value) (p1_1 : LP) (hp1_1 : Has G ty2 A1_1 p1_1) (p1_2 : Int) (r : Bool) (h : laws_sameItemS B0 B1 B2 p1_0 p1_1 p1_2 = some r) (H : Ctx w G) : Calls Tryz.prog 39 #[.agg #[iV B0, A1, iV B2], .agg #[iV p1_0, A1_1, iV p1_2]] w fun e w' => e = .returned (.bool r) ∧ Holds M0 w w' [] G := by
 have H : Holds M0 w w [] G := zb H
 refine zg (args := [.agg #[iV B0, A1, iV B2], .agg #[iV p1_0, A1_1, iV p1_2]]) (n := 45) Tryz.func39 q q q ?_
 unfold laws_sameItemS at h
 refine C <| Z ?_
 refine WL_box (cs := [iV B0, A1, iV B2]) H q q q q (fun b1 w2 H3 => ?_)
 refine WL_box (cs := [iV p1_0, A1_1, iV p1_2]) H3 q q q q (fun b5 w6 H7 => ?_)
 refine qA q q q <| B <| C <| rR <| qF uf55 fi55_0 nz3 q q q ?_
 have ar := R H7.p1
 refine l u3 q ar q q q q <| qF uf55 fi55_0 nz3 q q q ?_
 have au := R H7.p0
 refine l u3 q au q q q q <| A q (qt_neq q q) q q <| qM q q q ?_
 refine zh 6 17 (.bool ((B0 != p1_0) || (B2 != p1_2))) ?_ (fun md hmd hk => ?_)
 rotate_left
 ·obtain ⟨Q, rfl⟩ := Md.seq_of hmd
  rcases btf (B0 != p1_0) with ab | ab
  ·skip
   refine qS q ab q q <| qS q ab q q <| qS q ab q q <| qS q ab q q <| qS q ab q q <| A q (ze q ab q) q q ?_
   exact hk _ (p (by rw [ab]; rfl) (cfn 5 q (u)))
  skip
  refine qF uf55 fi55_2 nz3 (J q ab) q q ?_
  have av := R H7.p1
  refine l u3 q av q (J q ab) q q <| qF uf55 fi55_2 nz3 (J q ab) q q ?_
  have aw := R H7.p0
  refine l u3 q aw q (J q ab) q q <| A (J q ab) (qt_neq q q) q q <| A q (zf q ab q) q q ?_
  exact hk _ (p (by rw [ab]; rfl) (cfn 5 q (u)))
 refine qM q q q ?_
 refine zh 8 26 (.bool (((B0 != p1_0) || (B2 != p1_2)) || ((List.length B1 : Int) != (List.length p1_1 : Int)))) ?_ (fun md hmd hk => ?_)
 rotate_left
 ·obtain ⟨Q, rfl⟩ := Md.seq_of hmd
  rcases btf ((B0 != p1_0) || (B2 != p1_2)) with aa | aa
  ·skip
   refine qS q aa q q <| qS q aa q q <| qS q aa q q <| qS q aa q q <| qS q aa q q <| qS q aa q q <| qS q aa q q <| A q (ze q aa q) q q ?_
   exact hk _ (p (by rw [aa]; rfl) (cfn 7 q (u)))
  skip
  refine qF uf55 fi55_1 nz53 (J q aa) q q ?_
  have ax := R H7.p1
  refine l u53 q ax q (J q aa) q q <| za H7.ctx (t := ty2) (C1.c.c) u53 (J q aa) q q <| qF uf55 fi55_1 nz53 (J q aa) q q ?_
  have ay := R H7.p0
  refine l u53 q ay q (J q aa) q q <| za H7.ctx (t := ty2) (hp1_1.c.c) u53 (J q aa) q q <| A (J q aa) (qt_neq q q) q q <| A q (zf q aa q) q q ?_
  exact hk _ (p (by rw [aa]; rfl) (cfn 7 q (u)))
 refine B ?_
 refine Y q (fun ai => ?_) (fun ai => ?_)
 ·have h := if_t ai h
  refine rR <| qA q q q <| B <| W fun a ha => ?_
  obtain rfl := L h
  have az := H7.q0.q0
  exact m (ret1 q ha q ⟨q, az⟩)
 have h := if_f ai h
 refine y <| C <| rR <| qA q q q <| B <| g ?_
 obtain ⟨af, aA, h⟩ := D h
 have aB := H7.p1
 refine fun aC al => zp (I := fun s a w2 => match s with | am => (Fr a 45 [(2, pB b1), (3, pB b5), (5, iV am)] ∧ Holds M0 w w2 [.bx b1 55 [iV B0, A1, iV B2], .bx b5 55 [iV p1_0, A1_1, iV p1_2]] G)) (O := fun o e a w2 => match o with | .inl _ => e = .exit 0 ∧ (Fr a 45 [] ∧ Holds M0 w w2 [] G) | .inr q0 => e = .ret ∧ (Fr a 45 [(4, .bool q0)] ∧ Holds M0 w w2 [] G)) aA ?_ ?_ ?_
 ·exact ⟨al.sub ⟨q, q, q, trivial⟩, aB⟩
 ·clear al
  intro s aZ a a0 ad aD
  obtain ⟨am, rfl⟩ : ∃ z, z = s := ⟨s, q⟩
  obtain ⟨ha, ae⟩ := aD
  refine S ?_ ha
  clear ha
  refine C <| rR <| qM q q q <| qF uf55 fi55_1 nz53 q q q ?_
  have aE := R ae.p0
  refine l u53 q aE q q q q <| za ae.ctx (t := ty2) (C1.c.c) u53 q q q <| A q (qt_lss q q) q q <| B ?_
  refine Y q (fun aj => ?_) (fun aj => ?_)
  ·have ad := if_t aj ad
   refine y <| C <| g <| C <| WP_quiet (by kernel_rfl) (by kernel_rfl) <| qF uf55 fi55_1 nz53 q q q ?_
   have aF := R ae.p0
   refine l u53 q aF q q q q <| qM q q q ?_
   obtain ⟨ag, an, ad⟩ := D ad
   refine b ae.ctx (C1.c.c) an u53 i57 q q q q (fun a1 a2 a3 aG => ?_)
   obtain ⟨a4, aH, a5⟩ := ae.atN (C1.c.c) an aG
   refine XL_load_agg (t := ty2) us57 uo57 i57 aH q q q (fun a6 aI => ?_)
   obtain ⟨a7, c45, a8, a9, rfl, ba, aJ, aK⟩ := aI
   obtain ⟨rfl, _⟩ := aJ
   obtain ⟨rfl, _⟩ := aK
   change XL _ _ _ _ _ ((38, .agg #[iV ag.1, iV ag.2]) :: _) _
   refine qF uf55 fi55_1 nz53 q q q ?_
   have aL := R ae.p1
   refine l u53 q aL q q q q <| qM q q q ?_
   obtain ⟨ah, ao, ad⟩ := D ad
   refine b ae.ctx (hp1_1.c.c) ao u53 i57 q q q q (fun bb bc bd aM => ?_)
   obtain ⟨be, aN, bf⟩ := ae.atN (hp1_1.c.c) ao aM
   refine XL_load_agg (t := ty2) us57 uo57 i57 aN q q q (fun bg aO => ?_)
   obtain ⟨c63, c64, bh, bi, rfl, bj, aP, aQ⟩ := aO
   obtain ⟨rfl, _⟩ := aP
   obtain ⟨rfl, _⟩ := aQ
   change XL _ _ _ _ _ ((43, .agg #[iV ah.1, iV ah.2]) :: _) _
   refine A q (qt_neqA q q (by kernel_rfl) (eqs57 ag.1 ah.1 ag.2 ah.2)) q q <| QL_nil fun a ha bk aR => ?_
   have ap := ae.grow aR
   refine X (S ?_ ha)
   refine Y q (fun ak => ?_) (fun ak => ?_)
   ·have ad := if_t ak ad
    refine rR <| qA q q q <| B <| W fun a ha => ?_
    obtain rfl := L ad
    have aS := ap.q0.q0
    exact zj (m (⟨ret_ne, q, ha.sub ⟨q, trivial⟩, aS⟩))
   have ad := if_f ak ad
   refine WP_skip fun a ha => ?_
   refine zi (X (S ?_ ha))
   refine Z <| qM q q q <| A q (qt_add q q) q q <| qA q q q <| WL_nil fun a ha => ?_
   obtain rfl := L ad
   have aT := ap.p1.p1
   exact ⟨q, ha.sub ⟨q, q, q, trivial⟩, aT⟩
  have ad := if_f aj ad
  refine WP_exit fun a ha => ?_
  obtain rfl := L ad
  have aU := ae.q0.q0
  exact zo (⟨exit_ne, q, ha.sub trivial, aU⟩)
 intro e aC bl aq
 rcases af with af | af
 ·skip
  obtain ⟨rfl, aV⟩ := aq
  obtain ⟨ha, aW⟩ := aV
  refine zn (X (S ?_ ha))
  refine rR <| qA q q q <| B <| W fun a ha => ?_
  obtain rfl := L h
  exact ret1 q ha q ⟨q, aW⟩
 skip
 obtain ⟨bm, rfl⟩ : ∃ z, z = af := ⟨af, q⟩
 obtain ⟨rfl, aX⟩ := aq
 obtain ⟨ha, aY⟩ := aX
 obtain rfl := L h
 exact zj (m (ret1 q ha q ⟨q, aY⟩))
theorem w_laws_sameTicket (w : World) (G : List Res) (vp0 : Value) (p0 : LP) (hp0 : Has G ty2 vp0 p0) (vp1 : Value) (p1 : LP) (hp1 : Has G ty2 vp1 p1) (r : Bool) (h : laws_sameTicketS p0 p1 = some r) (H : Ctx w G) : Calls Tryz.prog 40 #[vp0, vp1] w fun e w' => e = .returned (.bool r) ∧ Holds M0 w w' [] G := by
 have H : Holds M0 w w [] G := zb H
 refine zg (args := [vp0, vp1]) (n := 26) Tryz.func40 q q q ?_
 unfold laws_sameTicketS at h
 refine rR <| qA q q q <| B <| C <| rR <| qM q q q <| za H.ctx (t := ty2) (hp0) u45 q q q <| qM q q q ?_
 refine za H.ctx (t := ty2) (hp1) u45 q q q <| A q (qt_neq q q) q q <| B ?_
 refine Y q (fun af => ?_) (fun af => ?_)
 ·have h := if_t af h
  refine rR <| qA q q q <| B <| W fun a ha => ?_
  obtain rfl := L h
  exact m (ret1 q ha q ⟨q, H⟩)
 have h := if_f af h
 refine y <| C <| rR <| qA q q q <| B <| g ?_
 obtain ⟨o3, an, h⟩ := D h
 refine fun a5 ai => zp (I := fun s a w2 => match s with | s2 => (Fr a 26 [(0, vp0), (1, vp1), (5, iV s2)] ∧ Holds M0 w w2 [] G)) (O := fun o e a w2 => match o with | .inl _ => e = .exit 0 ∧ (Fr a 26 [] ∧ Holds M0 w w2 [] G) | .inr q0 => e = .ret ∧ (Fr a 26 [(4, .bool q0)] ∧ Holds M0 w w2 [] G)) an ?_ ?_ ?_
 ·exact ⟨ai.sub ⟨q, q, q, trivial⟩, H⟩
 ·clear ai
  intro s o9 a w7 aa ao
  obtain ⟨s2, rfl⟩ : ∃ z, z = s := ⟨s, q⟩
  obtain ⟨ha, ab⟩ := ao
  refine S ?_ ha
  clear ha
  refine C <| rR <| qM q q q <| qM q q q <| za ab.ctx (t := ty2) (hp0) u45 q q q <| A q (qt_lss q q) q q <| B ?_
  refine Y q (fun ag => ?_) (fun ag => ?_)
  ·have aa := if_t ag aa
   refine y <| C <| g <| C <| WP_quiet (by kernel_rfl) (by kernel_rfl) <| qM q q q <| qM q q q ?_
   obtain ⟨ad, aj, aa⟩ := D aa
   refine b ab.ctx (hp0) aj u45 i49 q q q q (fun aG aH aI ap => ?_)
   obtain ⟨aJ, aq, aK⟩ := ab.atN (hp0) aj ap
   refine XL_load_agg (t := ty2) us49 uo49 i49 aq q q q (fun aL ar => ?_)
   obtain ⟨c24, c25, aM, aN, rfl, aO, au, av⟩ := ar
   obtain ⟨rfl, _⟩ := au
   obtain ⟨rfl, _⟩ := av
   change XL _ _ _ _ _ ((20, .agg #[iV ad.1, iV ad.2]) :: _) _
   refine qM q q q <| qM q q q ?_
   obtain ⟨ae, ak, aa⟩ := D aa
   refine b ab.ctx (hp1) ak u45 i49 q q q q (fun aP aQ aR aw => ?_)
   obtain ⟨aS, ax, aT⟩ := ab.atN (hp1) ak aw
   refine XL_load_agg (t := ty2) us49 uo49 i49 ax q q q (fun aU ay => ?_)
   obtain ⟨c42, c43, aV, aW, rfl, aX, az, aA⟩ := ay
   obtain ⟨rfl, _⟩ := az
   obtain ⟨rfl, _⟩ := aA
   change XL _ _ _ _ _ ((24, .agg #[iV ae.1, iV ae.2]) :: _) _
   refine A q (qt_neqA q q (by kernel_rfl) (eqs49 ad.1 ae.1 ad.2 ae.2)) q q <| QL_nil fun a ha aY aB => ?_
   have al := ab.grow aB
   refine X (S ?_ ha)
   refine Y q (fun ah => ?_) (fun ah => ?_)
   ·have aa := if_t ah aa
    refine rR <| qA q q q <| B <| W fun a ha => ?_
    obtain rfl := L aa
    exact zj (m (⟨ret_ne, q, ha.sub ⟨q, trivial⟩, al⟩))
   have aa := if_f ah aa
   refine WP_skip fun a ha => ?_
   refine zi (X (S ?_ ha))
   refine Z <| qM q q q <| A q (qt_add q q) q q <| qA q q q <| WL_nil fun a ha => ?_
   obtain rfl := L aa
   exact ⟨q, ha.sub ⟨q, q, q, trivial⟩, al⟩
  have aa := if_f ag aa
  refine WP_exit fun a ha => ?_
  obtain rfl := L aa
  exact zo (⟨exit_ne, q, ha.sub trivial, ab⟩)
 intro e a5 aZ am
 rcases o3 with o3 | o3
 ·skip
  obtain ⟨rfl, aC⟩ := am
  obtain ⟨ha, aD⟩ := aC
  refine zn (X (S ?_ ha))
  refine rR <| qA q q q <| B <| W fun a ha => ?_
  obtain rfl := L h
  exact ret1 q ha q ⟨q, aD⟩
 skip
 obtain ⟨a0, rfl⟩ : ∃ z, z = o3 := ⟨o3, q⟩
 obtain ⟨rfl, aE⟩ := am
 obtain ⟨ha, aF⟩ := aE
 obtain rfl := L h
 exact zj (m (ret1 q ha q ⟨q, aF⟩))
end Go.Proofs.YtpabogkcmbkffaaGreatDoor
