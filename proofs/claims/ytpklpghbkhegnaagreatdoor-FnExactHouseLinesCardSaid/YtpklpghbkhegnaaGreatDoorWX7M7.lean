/- The walks: each Go function computes its shallow function. Printed by a program. -/
import Derived.Test.YtpklpghbkhegnaaGreatDoorWX7M6
set_option linter.unusedVariables false
set_option maxRecDepth 10000
set_option maxHeartbeats 8000000
namespace Go.Proofs.YtpklpghbkhegnaaGreatDoor
open Go Go.RowKit
theorem w_impl_firstIn {w G vp0 p0 p1 r} (h : impl_firstInS p0 p1 = some r) (hp0 : Has G ty4 vp0 p0) (H : Ctx w G) : Calls Tryz.prog 146 #[vp0, iV p1] w fun e w' => e = .returned (.tuple #[iV r.1, iV r.2]) ∧ Holds M0 w w' [] G := by
 refine F0 32 H Tryz.func146 q fun H => ?_
 refine rR <| qa q <| qa q <| B <| C <| rR <| qm q <| qz H.ctx (hp0) u65 q <| qm q <| B <| g <| O h fun o2 au h => ?_
 refine fun a4 av => zp (I := fun s1 a w2 => (Fr a 32 [(1, iV p1), (10, vp0), (11, iV (List.length p0 : Int)), (12, iV s1)] ∧ Holds M0 w w2 [] G)) (O := fun o e a w2 => match o with | .inl _ => e = .exit 0 ∧ (Fr a 32 [] ∧ Holds M0 w w2 [] G) | .inr (q0, q1) => e = .ret ∧ (Fr a 32 [(4, iV q0), (5, iV q1)] ∧ Holds M0 w w2 [] G)) au ?_ ?_ ?_
 ·exact ⟨av.s, H⟩
 ·rintro s1 _ a w6 ab ⟨ha, ag⟩
  refine S1 ha <| rR <| qi (qt_lss q q) q <| B <| C ?_
  refine Yh q ab (fun ab => ?_) (fun ab => ?_)
  ·refine y <| C <| g <| rR <| qm q <| O ab fun aj ak ab => qe ag (hp0) ak u65 i87 q fun _ _ aw => eV u87 aw q fun al am => qa q <| qa q <| rN <| qm q <| qz am.ctx hR0 u87 q <| qm q <| B <| g <| O ab fun ad ax ab => ?_
   refine fun aL ay => zp (I := fun ao a w2 => (Fr a 32 [(1, iV p1), (6, iV s1), (10, vp0), (11, iV (List.length p0 : Int)), (12, iV s1), (17, al), (18, iV (List.length aj : Int)), (19, iV ao)] ∧ Holds M0 w w2 [.ro ty2 al aj] G)) (O := fun o e a w2 => match o with | .inl _ => e = .exit 2 ∧ (Fr a 32 [(1, iV p1), (10, vp0), (11, iV (List.length p0 : Int)), (12, iV s1)] ∧ Holds M0 w w2 [] G) | .inr (q0, q1) => e = .ret ∧ (Fr a 32 [(4, iV q0), (5, iV q1)] ∧ Holds M0 w w2 [] G)) ax ?_ ?_ ?_
   ·exact ⟨ay.s, am⟩
   ·rintro ao _ a aM aa ⟨ha, ae⟩
    refine S1 ha <| rR <| qi (qt_lss q q) q <| B <| C ?_
    refine Yh q aa (fun aa => ?_) (fun aa => ?_)
    ·refine y <| C <| g <| rR <| qm q <| O aa fun af ap aa => qe ae hR0 ap u87 i103 q fun _ _ az => lP [iV af.1, iV af.2] us103 uo103 i103 az q q q q <| zq (cs := [iV 0, iV 0]) ae z103 q q q fun aQ aR aA => qa q <| zl (cs' := [iV af.1, iV af.2]) aA q il103 q q q q q fun aS ah => rN <| qf uf103 fi103_1 nz3 q <| ql u3 ah.p0 q <| qm q <| qi (qt_eql q q) q <| B ?_
     refine Yh q aa (fun aa => ?_) (fun aa => ?_)
     ·cases aa
      exact rR <| qm q <| qm q <| qa q <| qa q <| B <| W fun a ha => zj (m (⟨ret_ne, q, ha.s, ah.q0.q0⟩))
     cases aa
     exact WP_skip fun a ha => zi <| X <| S1 ha <| Z <| qi (qt_add q q) q <| qm q <| WL_nil fun a ha => ⟨q, ha.s, ah.q0⟩
    cases aa
    exact WP_exit fun a ha => zo (⟨exit_ne, q, ha.s, ae.q0⟩)
   intro e a aT aq
   rcases ad with ad | ad
   ·obtain ⟨rfl, ha, aE⟩ := aq
    cases ab
    exact zn <| zi <| X <| S1 ha <| Z <| qi (qt_add q q) q <| qm q <| WL_nil fun a ha => ⟨q, ha.s, aE⟩
   obtain ⟨aU, aV⟩ := ad
   obtain ⟨rfl, ha, aF⟩ := aq
   cases ab
   exact zj (zj (m (⟨ret_ne, q, ha.s, aF⟩)))
  cases ab
  exact WP_exit fun a ha => zo (⟨exit_ne, q, ha.s, ag⟩)
 intro e a aW ar
 rcases o2 with o2 | o2
 ·obtain ⟨rfl, ha, aG⟩ := ar
  cases h
  exact zn <| X <| S1 ha <| rR <| qa q <| qa q <| B <| W fun a ha => ret2 q ha q q ⟨q, aG⟩
 obtain ⟨aX, aY⟩ := o2
 obtain ⟨rfl, ha, aH⟩ := ar
 cases h
 exact zj (m (ret2 q ha q q ⟨q, aH⟩))
theorem w_impl_stateAfter {w G p0 p1 r} (h : impl_stateAfterS p0 p1 = some r) (H : Ctx w G) : Calls Tryz.prog 185 #[iV p0, iV p1] w fun e w' => e = .returned (.tuple #[iV r.1, .bool r.2]) ∧ Holds M0 w w' [] G := by
 refine F0 31 H Tryz.func185 q fun H => ?_
 refine rR <| qa q <| qa q <| B <| C <| rR <| qm q <| B <| g <| rR <| qi (qt_eql q q) q <| qa q <| B ?_
 refine Yh q h (fun h => ?_) (fun h => ?_)
 ·refine rR <| qm q <| qi (qt_eql q q) q <| B ?_
  refine Yh q h (fun h => ?_) (fun h => ?_)
  ·cases h
   exact rR <| qa q <| qa q <| B <| W fun a ha => zj (m (ret2 q ha q q ⟨q, H⟩))
  cases h
  exact WP_skip fun a ha => zi <| X <| S1 ha <| rR <| qa q <| qa q <| B <| W fun a ha => ret2 q ha q q ⟨q, H⟩
 refine rR <| qi (qt_eql q q) q <| qa q <| B ?_
 refine Yh q h (fun h => ?_) (fun h => ?_)
 ·refine rR <| qm q <| qi (qt_eql q q) q <| B ?_
  refine Yh q h (fun h => ?_) (fun h => ?_)
  ·cases h
   exact rR <| qa q <| qa q <| B <| W fun a ha => zj (m (ret2 q ha q q ⟨q, H⟩))
  cases h
  exact WP_skip fun a ha => zi <| X <| S1 ha <| rR <| qa q <| qa q <| B <| W fun a ha => ret2 q ha q q ⟨q, H⟩
 refine rR <| qi (qt_eql q q) q <| qa q <| B ?_
 refine Yh q h (fun h => ?_) (fun h => ?_)
 ·refine rR <| qm q <| qi (qt_eql q q) q <| B ?_
  refine Yh q h (fun h => ?_) (fun h => ?_)
  ·cases h
   exact rR <| qa q <| qa q <| B <| W fun a ha => zj (m (ret2 q ha q q ⟨q, H⟩))
  cases h
  exact WP_skip fun a ha => zi <| X <| S1 ha <| rR <| qa q <| qa q <| B <| W fun a ha => ret2 q ha q q ⟨q, H⟩
 refine rR <| qi (qt_eql q q) q <| qa q <| B ?_
 refine Yh q h (fun h => ?_) (fun h => ?_)
 ·refine rR <| qm q <| qi (qt_eql q q) q <| qm q ?_
  refine Ho (res := ((p0 == 0) || (p0 == 1))) 2 os (fun aa K2 ad => ?_) ?_
  ·exact jm aa q <| ji (qt_eql q q) aa q <| ad 2 q q q (oi aa)
  refine qm q ?_
  refine Ho (res := (((p0 == 0) || (p0 == 1)) || (p0 == 2))) 2 os (fun ab K5 ae => ?_) ?_
  ·exact jm ab q <| ji (qt_eql q q) ab q <| ae 2 q q q (oi ab)
  refine B ?_
  refine Yh q h (fun h => ?_) (fun h => ?_)
  ·cases h
   exact rR <| qa q <| qa q <| B <| W fun a ha => zj (m (ret2 q ha q q ⟨q, H⟩))
  cases h
  exact WP_skip fun a ha => zi <| X <| S1 ha <| rR <| qa q <| qa q <| B <| W fun a ha => ret2 q ha q q ⟨q, H⟩
 cases h
 exact WP_skip fun a ha => zi <| X <| S1 ha <| rR <| qa q <| qa q <| B <| W fun a ha => ret2 q ha q q ⟨q, H⟩
theorem w_impl_TicketDo {w G vp0 p0 p1 p2 r} (h : impl_TicketDoS p0 p1 p2 = some r) (hp0 : Has G ty2 vp0 p0) (H : Ctx w G) : Calls Tryz.prog 175 #[vp0, iV p1, iV p2] w fun e w' => ∃ (v1 : Value), e = .returned (.tuple #[v1, .bool r.2]) ∧ Holds M0 w w' [.sl 103 ty2 v1 r.1] G := by
 refine F0 49 H Tryz.func175 q fun H => ?_
 refine rR <| qa q <| qa q <| B <| C <| C <| zk <| qm q <| O h fun x1 ak h => qc q c116 H (fun _ => w_impl_TicketValid ak (hp0)) <| qi (qt_not q) q <| Qn H fun a ha w3 H5 => X <| S1 ha ?_
 refine Yh q h (fun h => ?_) (fun h => ?_)
 ·cases h
  exact rR <| qa q <| qa q <| B <| W fun a ha => have H7 := H5.nS 103 ty2; m (ret2 q ha q q ⟨(nS), q, H7⟩)
 refine y <| rR <| qm q <| O h fun x8 al h => U1 q c91 (w_impl_copyTicket al (hp0) H5.ctx) fun ad aC am => have aa := H5.cN1 [] am; qa q <| B <| C <| rR <| qm q <| qi (qt_lss q q) q <| qm q ?_
 refine Ho (res := ((decide (p1 < 0)) || (decide (p1 ≥ (List.length p0 : Int))))) 4 os (fun ab aD ao => ?_) ?_
 ·exact jm ab q <| jm ab q <| jz aa.ctx (hp0.c) u87 ab q <| ji (qt_geq q q) ab q <| ao 4 q q q (oi ab)
 refine B ?_
 refine Yh q h (fun h => ?_) (fun h => ?_)
 ·cases h
  exact rR <| qm q <| qa q <| qa q <| B <| W fun a ha => m (ret2 q ha q q ⟨ad, q, aa⟩)
 refine y <| rR <| qm q <| qm q <| O h fun aE ag h => qe aa (hp0.c) ag u87 i103 q fun _ _ ap => qf uf103 fi103_1 nz3 q <| eI u3 ap.s q <| qm q <| O h fun aq ar h => U0 q c185 (w_impl_stateAfter ar aa.ctx) fun aI au => have ae := aa.cN0 [] au; qm q <| qi (zv q q) q <| qi (zv q q) q <| qa q <| qa q <| B <| C <| rR <| qm q <| qi (qt_not q) q <| B ?_
 refine Yh q h (fun h => ?_) (fun h => ?_)
 ·cases h
  exact rR <| qm q <| qa q <| qa q <| B <| W fun a ha => m (ret2 q ha q q ⟨ad, q, ae⟩)
 refine y <| rR <| qm q <| qm q <| qm q <| O h fun aJ ah h => qb ae.ctx hS0 ah u87 i103 q fun aK aL aM av => qf uf103 fi103_1 nz3 q <| WL_storeH (fo := 1) (cs' := [iV aq.1]) ae ah av (Upd.snd (Upd.whole (Blt.int))) q il3 q q q q fun aN aj => B <| C <| C <| zk <| qm q <| O h fun aO aw h => qc q c116 aj (fun _ => w_impl_TicketValid aw hS0) <| qi (qt_not q) q <| Qn aj fun a ha aP af => X <| S1 ha ?_
 refine Yh q h (fun h => ?_) (fun h => ?_)
 ·refine rR <| qm q <| O h fun aQ ax h => U1 q c91 (w_impl_copyTicket ax (hp0.c) af.ctx) fun ay aR az => have aA := af.cN1 [] az; qa q <| qa q <| B <| W fun a ha => ?_
  cases h
  exact m (ret2 q ha q q ⟨ay, q, aA.q1⟩)
 cases h
 exact y <| rR <| qm q <| qa q <| qa q <| B <| W fun a ha => ret2 q ha q q ⟨ad, q, af⟩
theorem w_impl_TicketMay {w G vp0 p0 r} (h : impl_TicketMayS p0 = some r) (hp0 : Has G ty2 vp0 p0) (H : Ctx w G) : Calls Tryz.prog 163 #[vp0] w fun e w' => ∃ (v1 : Value), e = .returned (v1) ∧ Holds M0 w w' [.sl 3 tI v1 r] G := by
 refine F0 28 H Tryz.func163 q fun H => ?_
 refine rR <| qa q <| B <| C <| C <| zk <| qm q <| O h fun x1 ag h => qc q c116 H (fun _ => w_impl_TicketValid ag (hp0)) <| qi (qt_not q) q <| Qn H fun a ha w3 H5 => X <| S1 ha ?_
 refine Yh q h (fun h => ?_) (fun h => ?_)
 ·cases h
  exact rR <| qa q <| B <| W fun a ha => have H7 := H5.nS 3 tI; m (ret1 q ha q ⟨(nS), q, H7⟩)
 refine y <| rR <| qa q <| B <| C <| rR <| qm q <| qz H5.ctx (hp0) u87 q <| qm q <| B <| g <| have ah := H5.nS 3 tI; O h fun az aj h => ?_
 refine fun aA ak => zp (I := fun (s8, s9) a w2 => ∃ ab, Fr a 28 [(0, vp0), (3, ab), (11, iV (List.length p0 : Int)), (12, iV s9)] ∧ Holds M0 w w2 [.sl 3 tI ab s8] G) (O := fun q0 e a w2 => e = .exit 0 ∧ ∃ ae, Fr a 28 [(3, ae)] ∧ Holds M0 w w2 [.sl 3 tI ae q0] G) aj ?_ ?_ ?_
 ·exact ⟨(nS), ak.s, ah⟩
 ·rintro ⟨s8, s9⟩ _ a aB aa ⟨ab, ha, ad⟩
  refine S1 ha <| rR <| qi (qt_lss q q) q <| B <| C ?_
  refine Yh q aa (fun aa => ?_) (fun aa => ?_)
  ·refine y <| C <| g <| rR <| qm q <| qa q <| B <| C <| Z <| qm q <| qm q <| O aa fun aC al aa => U1 q c175 (w_impl_TicketDo al (hp0.c) ad.ctx) fun aD aE am => have af := ad.cN1 [] am; qm q <| qi (zv q q) q <| qi (zv q q) q <| qa q <| qa q <| rN <| qm q <| B ?_
   refine Yh q aa (fun aa => ?_) (fun aa => ?_)
   ·refine Z <| qm q <| qm q <| zs (t := tI) (args := [.tmp 23]) (xs := ([s9] : List Int)) af (BltL.cons (Blt.int) q (BltL.nil)) u23 j3 q q q q q q fun aF aG ao => O aa fun aH aq aa => zw ao.p2 hS1 aq u23 j3 q q q q q q fun ar aI au => qa q <| WL_nil fun a ha => zi <| X <| S1 ha <| Z <| qi (qt_add q q) q <| qm q <| WL_nil fun a ha => ?_
    cases aa
    exact ⟨q, ar, ha.s, au.q1.q1⟩
   cases aa
   exact WP_skip fun a ha => zi <| X <| S1 ha <| Z <| qi (qt_add q q) q <| qm q <| WL_nil fun a ha => ⟨q, ab, ha.s, af.q0⟩
  cases aa
  exact WP_exit fun a ha => zo (⟨exit_ne, q, ab, ha.s, ad⟩)
 rintro _ a aJ ⟨rfl, ax, ha, ay⟩
 refine zn <| X <| S1 ha <| rR <| qm q <| qa q <| B <| W fun a ha => ?_
 obtain rfl := L h
 exact ret1 q ha q ⟨ax, q, ay⟩
theorem w_impl_NextFire {w G vp0 p0 r} (h : impl_NextFireS p0 = some r) (hp0 : Has G ty4 vp0 p0) (H : Ctx w G) : Calls Tryz.prog 147 #[vp0] w fun e w' => e = .returned (.tuple #[iV r.1, iV r.2]) ∧ Holds M0 w w' [] G := by
 refine F0 27 H Tryz.func147 q fun H => ?_
 refine rR <| qa q <| qa q <| B <| C <| C <| zk <| qm q <| O h fun x1 aj h => qc q c124 H (fun _ => w_impl_KitchenValid aj (hp0)) <| qi (qt_not q) q <| Qn H fun a ha w3 H5 => X <| S1 ha ?_
 refine Yh q h (fun h => ?_) (fun h => ?_)
 ·cases h
  exact rR <| qa q <| qa q <| B <| W fun a ha => m (ret2 q ha q q ⟨q, H5⟩)
 refine y <| C <| rR <| qm q <| qz H5.ctx (hp0) u65 q <| qm q <| B <| g <| O h fun o8 ak h => ?_
 refine fun ay al => zp (I := fun s7 a w2 => (Fr a 27 [(10, vp0), (11, iV (List.length p0 : Int)), (12, iV s7)] ∧ Holds M0 w w2 [] G)) (O := fun o e a w2 => match o with | .inl _ => e = .exit 0 ∧ (Fr a 27 [] ∧ Holds M0 w w2 [] G) | .inr (q0, q1) => e = .ret ∧ (Fr a 27 [(2, iV q0), (3, iV q1)] ∧ Holds M0 w w2 [] G)) ak ?_ ?_ ?_
 ·exact ⟨al.s, H5⟩
 ·rintro s7 _ a az aa ⟨ha, ad⟩
  refine S1 ha <| rR <| qi (qt_lss q q) q <| B <| C ?_
  refine Yh q aa (fun aa => ?_) (fun aa => ?_)
  ·refine y <| C <| g <| rR <| qm q <| O aa fun aA ae aa => qe ad (hp0) ae u65 i87 q fun _ _ am => eV u87 am q fun aE af => qa q <| qa q <| rN <| qm q <| O aa fun aF ao aa => U1 q c163 (w_impl_TicketMay ao hR0 af.ctx) fun aG aH ap => have ab := af.cN1 [] ap; qa q <| rN <| qm q <| qz ab.ctx hS0 u23 q <| qi (qt_gtr q q) q <| B ?_
   refine Yh q aa (fun aa => ?_) (fun aa => ?_)
   ·refine C <| WP_quiet (by kernel_rfl) (by kernel_rfl) <| qm q <| qm q <| O aa fun aI ag aa => qe ab hS0 ag u23 i3 q fun _ _ aq => eI u3 aq q <| qa q <| qa q <| Qn ab fun a ha aM ar => X <| S1 ha <| W fun a ha => ?_
    cases aa
    exact zj (m (⟨ret_ne, q, ha.s, ar.q0.q0⟩))
   cases aa
   exact WP_skip fun a ha => zi <| X <| S1 ha <| Z <| qi (qt_add q q) q <| qm q <| WL_nil fun a ha => ⟨q, ha.s, ab.q0.q0⟩
  cases aa
  exact WP_exit fun a ha => zo (⟨exit_ne, q, ha.s, ad⟩)
 intro e a aN ah
 rcases o8 with o8 | o8
 ·obtain ⟨rfl, ha, aw⟩ := ah
  cases h
  exact zn <| X <| S1 ha <| rR <| qa q <| qa q <| B <| W fun a ha => ret2 q ha q q ⟨q, aw⟩
 obtain ⟨aO, aP⟩ := o8
 obtain ⟨rfl, ha, ax⟩ := ah
 cases h
 exact zj (m (ret2 q ha q q ⟨q, ax⟩))
theorem w_impl_WorkStep {w G vp0 p0 r} (h : impl_WorkStepS p0 = some r) (hp0 : Has G ty4 vp0 p0) (H : Ctx w G) : Calls Tryz.prog 121 #[vp0] w fun e w' => ∃ (v1 : Value) (csv1 : List Value) (Fv1 : List Nat), e = .returned (.tuple #[v1, .bool r.2]) ∧ Holds M0 w w' [dpR 87 dt6 v1 csv1 r.1 Fv1] G := by
 refine F0 62 H Tryz.func121 q fun H => ?_
 refine rR <| qa q <| qa q <| B <| C <| C <| zk <| qm q <| O h fun x1 au h => qc q c124 H (fun _ => w_impl_KitchenValid au (hp0)) <| qi (qt_not q) q <| Qn H fun a ha w3 H5 => X <| S1 ha ?_
 refine Yh q h (fun h => ?_) (fun h => ?_)
 ·cases h
  exact rR <| qa q <| qa q <| B <| W fun a ha => have H7 := H5.nD 87 dt6; m (ret2 q ha q q ⟨(nS), [], [], q, H7⟩)
 refine y <| rR <| qm q <| O h fun x8 av h => U3 q c145 (w_impl_copyKitchen av (hp0) H5.ctx) fun aa af aw bn ax => have ao := H5.cN1 [] ax; qa q <| B <| C <| rR <| qm q <| O h fun bo ay h => have az := ao.viewG (Vw.d Vw.refl); U0 q c146 (w_impl_firstIn ay (hp0.c) az) fun aA aB => have ab := ao.cV0 [] aB all_nil; qm q <| qi (zv q q) q <| qi (zv q q) q <| qa q <| qa q <| rN <| qm q <| qi (qt_geq q q) q <| B ?_
 refine Yh q h (fun h => ?_) (fun h => ?_)
 ·refine rR <| qm q <| qm q <| O h fun aC ag h => have aD := ab.viewG (Vw.d Vw.refl); qb aD hR0 ag u65 i87 q fun bp bq br aE => ?_
  obtain ⟨aF, ak, aG, bs, bt, bu⟩ := Holds.ns ab (Foc.refl) ag aE
  refine XL_load_cell u87 q aG q q q <| qm q <| O h fun bv ap h => ?_
  have aH : Ctx aA ([.ro ty2 aF aC, .ro ty4 aa x8] ++ G) := ab.viewG (Vw.dp (NsOk.ns (Foc.refl) ag ak (NsOk.self NsOk.nil)) Vw.refl)
  refine qb aH hR0 ap u87 i103 q fun bw bz bA aI => qf uf103 fi103_1 nz3 q ?_
  obtain ⟨bB, aJ⟩ := Holds.borrow ab (Foc.refl) ag ak
  refine WL_storeH (fo := 1) (cs' := [iV 3]) aJ ap aI (Upd.snd (Upd.whole (Blt.int))) q il3 q q q q fun bC aK => ?_
  obtain ⟨aN, aO⟩ := Holds.giveBack q aK.p1.p1 ak
  cases h
  exact rN <| qm q <| qa q <| qa q <| B <| W fun a ha => m (ret2 q ha q q ⟨aa, af, aN, q, aO⟩)
 refine y <| C <| rR <| qm q <| O h fun bD aP h => have aQ := ab.viewG (Vw.d Vw.refl); U0 q c146 (w_impl_firstIn aP (hp0.c) aQ) fun aR aS => have ad := ab.cV0 [] aS all_nil; qm q <| qi (zv q q) q <| qi (zv q q) q <| qa q <| qa q <| rN <| qm q <| qi (qt_geq q q) q <| B ?_
 refine Yh q h (fun h => ?_) (fun h => ?_)
 ·refine rR <| qm q <| qm q <| O h fun aT ah h => have aU := ad.viewG (Vw.d Vw.refl); qb aU hR0 ah u65 i87 q fun bE bF bG aV => ?_
  obtain ⟨aW, al, aX, bH, bI, bJ⟩ := Holds.ns ad (Foc.refl) ah aV
  refine XL_load_cell u87 q aX q q q <| qm q <| O h fun bK aq h => ?_
  have aY : Ctx aR ([.ro ty2 aW aT, .ro ty4 aa x8] ++ G) := ad.viewG (Vw.dp (NsOk.ns (Foc.refl) ah al (NsOk.self NsOk.nil)) Vw.refl)
  refine qb aY hR0 aq u87 i103 q fun bL bM bN aZ => qf uf103 fi103_1 nz3 q ?_
  obtain ⟨bO, a0⟩ := Holds.borrow ad (Foc.refl) ah al
  refine WL_storeH (fo := 1) (cs' := [iV 2]) a0 aq aZ (Upd.snd (Upd.whole (Blt.int))) q il3 q q q q fun bP a1 => ?_
  obtain ⟨a4, a5⟩ := Holds.giveBack q a1.p1.p1 al
  cases h
  exact rN <| qm q <| qa q <| qa q <| B <| W fun a ha => m (ret2 q ha q q ⟨aa, af, a4, q, a5⟩)
 refine y <| C <| rR <| qm q <| O h fun bQ a6 h => have a7 := ad.viewG (Vw.d Vw.refl); U0 q c147 (w_impl_NextFire a6 (hp0.c) a7) fun a8 a9 => have ae := ad.cV0 [] a9 all_nil; qm q <| qi (zv q q) q <| qi (zv q q) q <| qa q <| qa q <| rN <| qm q <| qi (qt_geq q q) q <| B ?_
 refine Yh q h (fun h => ?_) (fun h => ?_)
 ·refine rR <| qm q <| qm q <| O h fun ba aj h => have bb := ae.viewG (Vw.d Vw.refl); qb bb hR0 aj u65 i87 q fun bR bS bT bc => ?_
  obtain ⟨bd, am, be, bU, bV, bW⟩ := Holds.ns ae (Foc.refl) aj bc
  refine XL_load_cell u87 q be q q q <| qm q <| O h fun bX ar h => ?_
  have bf : Ctx a8 ([.ro ty2 bd ba, .ro ty4 aa x8] ++ G) := ae.viewG (Vw.dp (NsOk.ns (Foc.refl) aj am (NsOk.self NsOk.nil)) Vw.refl)
  refine qb bf hR0 ar u87 i103 q fun bY bZ b0 bg => qf uf103 fi103_1 nz3 q ?_
  obtain ⟨b4, bh⟩ := Holds.borrow ae (Foc.refl) aj am
  refine WL_storeH (fo := 1) (cs' := [iV 1]) bh ar bg (Upd.snd (Upd.whole (Blt.int))) q il3 q q q q fun b5 bi => ?_
  obtain ⟨bl, bm⟩ := Holds.giveBack q bi.p1.p1 am
  cases h
  exact rN <| qm q <| qa q <| qa q <| B <| W fun a ha => m (ret2 q ha q q ⟨aa, af, bl, q, bm⟩)
 cases h
 exact y <| rR <| qm q <| qa q <| qa q <| B <| W fun a ha => ret2 q ha q q ⟨aa, af, aw, q, ae⟩
theorem w_impl_doWork (w : World) (G : List Res) (bp0 : Nat) (A0 : Value) (B0 : LI) (csp0_0 : List Value) (Fp0_0 : List Nat) (A1 : Value) (B1 : List Int) (A2 : Value) (B2 : List Int) (B3 : Int) (A4 : Value) (B4 : LT) (csp0_4 : List Value) (Fp0_4 : List Nat) (r : LT × Bool) (h : impl_doWorkS B0 B1 B2 B3 B4 = some r) (H : Ctx w ([.bx bp0 31 [A0, A1, A2, iV B3, A4], dpR 95 dt15 A0 csp0_0 B0 Fp0_0, .sl 3 tI A1 B1, .sl 3 tI A2 B2, dpR 89 dt16 A4 csp0_4 B4 Fp0_4] ++ G)) : Calls Tryz.prog 85 #[pB bp0] w fun e w' => ∃ (dsp0_4 : List Value) (Ep0_4 : List Nat), e = .returned (.bool r.2) ∧ Holds (([.bx bp0 31 [A0, A1, A2, iV B3, A4], dpR 95 dt15 A0 csp0_0 B0 Fp0_0, .sl 3 tI A1 B1, .sl 3 tI A2 B2, dpR 89 dt16 A4 csp0_4 B4 Fp0_4] : List Res).flatMap Res.own) w w' [.bx bp0 31 [A0, A1, A2, iV B3, A4], dpR 95 dt15 A0 csp0_0 B0 Fp0_0, .sl 3 tI A1 B1, .sl 3 tI A2 B2, dpR 89 dt16 A4 dsp0_4 r.1 Ep0_4] G := by
 have H : Holds (([.bx bp0 31 [A0, A1, A2, iV B3, A4], dpR 95 dt15 A0 csp0_0 B0 Fp0_0, .sl 3 tI A1 B1, .sl 3 tI A2 B2, dpR 89 dt16 A4 csp0_4 B4 Fp0_4] : List Res).flatMap Res.own) w w [.bx bp0 31 [A0, A1, A2, iV B3, A4], dpR 95 dt15 A0 csp0_0 B0 Fp0_0, .sl 3 tI A1 B1, .sl 3 tI A2 B2, dpR 89 dt16 A4 csp0_4 B4 Fp0_4] G := zb H
 refine zg (args := [pB bp0]) (n := 33) Tryz.func85 q q q ?_
 unfold impl_doWorkS at h
 refine rR <| qa q <| rN <| qm q <| qn q <| have ax := R H.p0; zm (cs := [A0, A1, A2, iV B3, A4]) us31 uo31 il31 ax q q q ?_
 change XL _ _ _ _ _ ((10, .agg #[A0, A1, A2, iV B3, A4]) :: _) _
 obtain ⟨x2, ay, h⟩ := D h
 refine have V4 := H.viewG (Vw.c (Vw.d (Vw.c (Vw.c (Vw.d Vw.refl))))); zd q q c88 (w_impl_kitchenOf ay hR1 hS2 hS3 hR4 V4) q ?_
 rintro _ w5 ⟨v7, a2, F9, rfl, H6⟩; refine ⟨_, q, ?_⟩
 have am := H.cV1 [] H6 (zc Pure.dp all_nil)
 obtain ⟨ao, az, h⟩ := D h
 refine have aA := am.viewG (Vw.d (Vw.c (Vw.d (Vw.c (Vw.c (Vw.d Vw.refl)))))); zd q q c121 (w_impl_WorkStep az hR0 aA) q ?_
 rintro _ a3 ⟨ap, aB, aC, rfl, aD⟩; refine ⟨_, q, ?_⟩
 refine have ae := am.cV1 [] aD (zc Pure.dp all_nil); qm q <| qi (zv q q) q <| qi (zv q q) q <| qa q <| qa q <| B <| C <| rR <| qm q <| qi (qt_not q) q <| B ?_
 refine Y q (fun af => ?_) (fun af => ?_)
 ·refine have h := if_t af h; rR <| qa q <| B <| W fun a ha => ?_
  obtain rfl := L h
  exact m (ret1 q ha q ⟨csp0_4, Fp0_4, q, ae.q0.q0.p4.p4.p4.p4.p4⟩)
 refine have h := if_f af h; y <| C <| rR <| qm q <| have aF := ae.viewG (Vw.d (Vw.d (Vw.c (Vw.d (Vw.c (Vw.c (Vw.d Vw.refl))))))); qz aF hR0 u65 q <| qm q <| B <| g ?_
 obtain ⟨aq, aG, h⟩ := D h
 refine fun aI ar => zp (I := fun s a w2 => match s with | (ab, au) => ∃ ag ah FsK, 0 ≤ ab ∧ Fr a 33 [(0, pB bp0), (17, ap), (18, iV (List.length ao.1 : Int)), (19, iV ab)] ∧ Holds (([.bx bp0 31 [A0, A1, A2, iV B3, A4], dpR 95 dt15 A0 csp0_0 B0 Fp0_0, .sl 3 tI A1 B1, .sl 3 tI A2 B2, dpR 89 dt16 A4 csp0_4 B4 Fp0_4] : List Res).flatMap Res.own) w w2 [.bx bp0 31 [A0, A1, A2, iV B3, A4], dpR 95 dt15 A0 csp0_0 B0 Fp0_0, .sl 3 tI A1 B1, .sl 3 tI A2 B2, dpR 89 dt16 A4 ag au ah, sufR 87 dt6 ap aB ao.1 (Int.toNat ab) FsK] G) (O := fun o e a w2 => match o with | q0 => e = .exit 0 ∧ ∃ aJ aK, Fr a 33 [(0, pB bp0)] ∧ Holds (([.bx bp0 31 [A0, A1, A2, iV B3, A4], dpR 95 dt15 A0 csp0_0 B0 Fp0_0, .sl 3 tI A1 B1, .sl 3 tI A2 B2, dpR 89 dt16 A4 csp0_4 B4 Fp0_4] : List Res).flatMap Res.own) w w2 [.bx bp0 31 [A0, A1, A2, iV B3, A4], dpR 95 dt15 A0 csp0_0 B0 Fp0_0, .sl 3 tI A1 B1, .sl 3 tI A2 B2, dpR 89 dt16 A4 aJ q0 aK] G) aG ?_ ?_ ?_
 ·exact ⟨csp0_4, Fp0_4, aC, by decide, ar.sub ⟨q, q, q, q, trivial⟩, ((((ae.q1.p5.p5.p5.p5.p5.p5.suf.p5).p5).p5).p5).p5⟩
 ·clear ar
  intro s a4 a a5 aa aL
  obtain ⟨ab, au⟩ := s
  obtain ⟨ag, ah, FsK, hnn, ha, aj⟩ := aL
  refine S ?_ ha
  clear ha
  refine rR <| qi (qt_lss q q) q <| B <| C ?_
  refine Y q (fun ak => ?_) (fun ak => ?_)
  ·refine have aa := if_t ak aa; y <| C <| g <| rR <| qm q ?_
   obtain ⟨av, ad, aa⟩ := D aa
   obtain ⟨bK, capK, hvK, hmK⟩ := Holds.suf_at aj.p5 ad
   obtain ⟨vK, aM, hcK, hpK, hqK, HKa⟩ := Holds.take aj.p5 (zz ad) hvK
   refine XL_indexK ad u65 i87 q (by rw [hvK]; rfl) q q <| have al := HKa; XL_load_cell u87 q hcK q q q <| qa q <| qa q <| B <| Z <| qm q <| qn q <| qf uf31 fi31_4 nz29 q <| have aN := R al.p2; l u29 q aN q q q q <| qm q <| qm q ?_
   obtain ⟨a6, aw, aa⟩ := D aa
   refine have aO := al.viewG (Vw.c (Vw.c (Vw.c (Vw.d (Vw.c (Vw.c (Vw.d Vw.refl))))))); qb aO hR6 aw u29 i89 q fun a7 a8 a9 aP => qf uf89 fi89_1 nz87 q <| WL_storeD (Rs := [.sl 103 ty2 vK av]) (fo := 1) (cs' := [vK]) al.p6.p1 aw aP (Foc.snd (Foc.fst Foc.refl)) (DBlt.cast (DBlt.sl (e := 103) (t := ty2) (v := vK) (x := av) q) q q) (by rw [hpK]) il87 q q q fun aR aS ba aT => WL_nil fun a ha => ?_
   refine zi (X (S ?_ ha))
   refine Z <| qi (qt_add q q) q <| qm q <| WL_nil fun a ha => ?_
   obtain rfl := L aa
   have hwK : IntKind.wrap .i64 (ab + 1) = ab + 1 := IntWalk.i64_in _ ⟨by omega, by have := (geti_lt ad).2; simp only [maxLen] at hmK; omega⟩
   exact ⟨q, aR, aS, aM, by rw [hwK]; omega, ha.sub ⟨q, q, q, q, trivial⟩, by rw [hwK, show Int.toNat (ab + 1) = Int.toNat ab + 1 by omega]; exact aT.p1.p1.p5.p5.p5.p5⟩
  refine have aa := if_f ak aa; WP_exit fun a ha => ?_
  obtain rfl := L aa
  exact zo (⟨exit_ne, q, ag, ah, ha.sub ⟨q, trivial⟩, aj.q5.p4.p4.p4.p4.p4⟩)
 intro e aI bb aW
 obtain ⟨bc, rfl⟩ : ∃ z, z = aq := ⟨aq, q⟩
 obtain ⟨rfl, aX⟩ := aW
 obtain ⟨aY, aZ, ha, a0⟩ := aX
 refine zn (X (S ?_ ha))
 refine rR <| qa q <| B <| W fun a ha => ?_
 obtain rfl := L h
 exact ret1 q ha q ⟨aY, aZ, q, a0.p4.p4.p4.p4.p4⟩
theorem w_impl_TicketCourse {w G vp0 p0 r} (h : impl_TicketCourseS p0 = some r) (hp0 : Has G ty2 vp0 p0) (H : Ctx w G) : Calls Tryz.prog 148 #[vp0] w fun e w' => e = .returned (iV r) ∧ Holds M0 w w' [] G := by
 refine F0 32 H Tryz.func148 q fun H => ?_
 refine rR <| qa q <| B <| C <| C <| zk <| qm q <| O h fun x1 ak h => qc q c116 H (fun _ => w_impl_TicketValid ak (hp0)) <| qi (qt_not q) q <| Qn H fun a ha w3 H5 => X <| S1 ha ?_
 refine Yh q h (fun h => ?_) (fun h => ?_)
 ·cases h
  exact rR <| qa q <| B <| W fun a ha => m (ret1 q ha q ⟨q, H5⟩)
 refine y <| rR <| qa q <| B <| C <| rR <| qm q <| qz H5.ctx (hp0) u87 q <| qm q <| B <| g <| O h fun o9 al h => ?_
 refine fun az am => zp (I := fun (s7, s8) a w2 => (Fr a 32 [(3, iV s7), (9, vp0), (10, iV (List.length p0 : Int)), (11, iV s8)] ∧ Holds M0 w w2 [] G)) (O := fun q0 e a w2 => e = .exit 0 ∧ (Fr a 32 [(3, iV q0)] ∧ Holds M0 w w2 [] G)) al ?_ ?_ ?_
 ·exact ⟨am.s, H5⟩
 ·rintro ⟨s7, s8⟩ _ a aA aa ⟨ha, af⟩
  refine S1 ha <| rR <| qi (qt_lss q q) q <| B <| C ?_
  refine Yh q aa (fun aa => ?_) (fun aa => ?_)
  ·refine y <| C <| g <| rR <| O aa fun ab aj aa => qe af (hp0) aj u87 i103 q fun _ _ ao => lP [iV ab.1, iV ab.2] us103 uo103 i103 ao q q q q <| zq (cs := [iV 0, iV 0]) af z103 q q q fun aE aF ap => zl (cs' := [iV ab.1, iV ab.2]) ap q il103 q q q q q fun aG ag => B <| C <| zk <| eA ag.p0 us103 uo103 il103 q <| O aa fun aq ar aa => qc q c125 ag (fun _ => w_impl_finished ar) <| qi (qt_not q) q <| qm q ?_
   refine Ga (res := ((!aq) && ((decide (s7 < 0)) || (decide (ab.1 < s7))))) 8 an (fun ad aH au => ?_) ?_
   ·refine jm ad q <| ji (qt_lss q q) ad q <| jm ad q ?_
    refine Go (res := ((decide (s7 < 0)) || (decide (ab.1 < s7)))) (hw := (J q ad)) 4 os (fun ae aI av => ?_) ?_
    ·exact jf uf103 fi103_0 nz3 ae q <| jl u3 ag.p0 ae q <| jm ae q <| ji (qt_lss q q) ae q <| av 4 q q q (oi ae)
    exact au 4 q q q (ai ad)
   refine Qn ag fun a ha aJ ah => X <| S1 ha ?_
   refine Yh q aa (fun aa => ?_) (fun aa => ?_)
   ·cases aa
    exact Z <| qf uf103 fi103_0 nz3 q <| ql u3 ah.p0 q <| qa q <| WL_nil fun a ha => zi <| X <| S1 ha <| Z <| qi (qt_add q q) q <| qm q <| WL_nil fun a ha => ⟨q, ha.s, ah.q0⟩
   cases aa
   exact WP_skip fun a ha => zi <| X <| S1 ha <| Z <| qi (qt_add q q) q <| qm q <| WL_nil fun a ha => ⟨q, ha.s, ah.q0⟩
  cases aa
  exact WP_exit fun a ha => zo (⟨exit_ne, q, ha.s, af⟩)
 rintro _ a aK ⟨rfl, ha, ay⟩
 refine zn <| X <| S1 ha <| rR <| qm q <| qa q <| B <| W fun a ha => ?_
 obtain rfl := L h
 exact ret1 q ha q ⟨q, ay⟩
theorem w_impl_TicketDone {w G vp0 p0 r} (h : impl_TicketDoneS p0 = some r) (hp0 : Has G ty2 vp0 p0) (H : Ctx w G) : Calls Tryz.prog 122 #[vp0] w fun e w' => e = .returned (.bool r) ∧ Holds M0 w w' [] G := by
 refine F0 10 H Tryz.func122 q fun H => ?_
 refine rR <| qa q <| B <| C <| zk <| qm q <| O h fun x1 ad h => qc q c116 H (fun _ => w_impl_TicketValid ad (hp0)) <| qm q <| O h fun b3 aa h => ?_
 refine Ga (res := b3) 3 (if_f · aa) (fun ab K6 ae => ?_) ?_
 ·exact have aa := if_t ab aa; jm ab q <| O aa fun x8 af aa => jc ab q c148 H (fun _ => w_impl_TicketCourse af (hp0)) <| ji (qt_lss q q) ab q <| ae 3 q q q aa
 refine qa q <| Qn H fun a ha ah ag => X <| S1 ha <| W fun a ha => ?_
 obtain rfl := L h
 exact ret1 q ha q ⟨q, ag⟩
theorem w_impl_TableBill {w G A0 B0 A1 B1 A2 B2 B3 A4 B4 p1 r} (h : impl_TableBillS B0 B1 B2 B3 B4 p1 = some r) (C0 : Has G ty12 A0 B0) (C1 : Has G tI A1 B1) (C2 : Has G tI A2 B2) (C4 : Has G ty14 A4 B4) (H : Ctx w G) : Calls Tryz.prog 95 #[.agg #[A0, A1, A2, iV B3, A4], iV p1] w fun e w' => e = .returned (iV r) ∧ Holds M0 w w' [] G := by
 refine F0 54 H Tryz.func95 q fun H => ?_
 refine C <| Z <| WL_box (cs := [A0, A1, A2, iV B3, A4]) H q q q q fun b1 w2 H3 => qa q <| B <| C <| C <| zk <| eA H3.p0 us31 uo31 il31 q <| O h fun x6 ax h => qc q c39 H3 (fun _ => w_impl_HouseValid ax (C0.c) (C1.c) (C2.c) (C4.c)) <| qi (qt_not q) q <| qm q ?_
 refine Go (res := ((!x6) || (decide (p1 < 0)))) 2 os (fun aj K9 ay => ?_) ?_
 ·exact jm aj q <| ji (qt_lss q q) aj q <| ay 2 q q q (oi aj)
 refine qm q ?_
 refine Go (res := (((!x6) || (decide (p1 < 0))) || (decide (p1 ≥ (List.length B4 : Int))))) 5 os (fun ab aP az => ?_) ?_
 ·exact jm ab q <| jf uf31 fi31_4 nz29 ab q <| jl u29 H3.p0 ab q <| jz H3.ctx (C4.c) u29 ab q <| ji (qt_geq q q) ab q <| az 5 q q q (oi ab)
 refine Qn H3 fun a ha aQ af => X <| S1 ha ?_
 refine Yh q h (fun h => ?_) (fun h => ?_)
 ·cases h
  exact rR <| qa q <| B <| W fun a ha => m (ret1 q ha q ⟨q, af.q0⟩)
 refine y <| rR <| qa q <| B <| C <| rR <| qf uf31 fi31_4 nz29 q <| ql u29 af.p0 q <| qm q <| O h fun ak al h => qe af (C4.c) al u29 i89 q fun _ _ aB => qf uf89 fi89_1 nz87 q <| eV u87 aB.s.f q fun am ao => qz ao.ctx hR0 u87 q <| qm q <| B <| g <| O h fun aU aC h => ?_
 refine fun aV aE => zp (I := fun (ap, aq) a w2 => (Fr a 54 [(1, iV p1), (2, pB b1), (5, iV ap), (27, am), (28, iV (List.length ak.2.1 : Int)), (29, iV aq)] ∧ Holds M0 w w2 [.bx b1 31 [A0, A1, A2, iV B3, A4], .ro ty2 am ak.2.1] G)) (O := fun q0 e a w2 => e = .exit 0 ∧ (Fr a 54 [(5, iV q0)] ∧ Holds M0 w w2 [] G)) aC ?_ ?_ ?_
 ·exact ⟨aE.s, ao.p1⟩
 ·rintro ⟨ap, aq⟩ _ a aW aa ⟨ha, ag⟩
  refine S1 ha <| rR <| qi (qt_lss q q) q <| B <| C ?_
  refine Yh q aa (fun aa => ?_) (fun aa => ?_)
  ·refine y <| C <| g <| rR <| qm q <| O aa fun ah ar aa => qe ag hR1 ar u87 i103 q fun _ _ aF => lP [iV ah.1, iV ah.2] us103 uo103 i103 aF q q q q <| zq (cs := [iV 0, iV 0]) ag z103 q q q fun a0 a1 aG => qa q <| zl (cs' := [iV ah.1, iV ah.2]) aG q il103 q q q q q fun a2 ad => rN <| qf uf103 fi103_1 nz3 q <| ql u3 ad.p0 q <| qi (qt_eql q q) q <| B ?_
   refine Yh q aa (fun aa => ?_) (fun aa => ?_)
   ·refine WP_quiet (by kernel_rfl) (by kernel_rfl) <| qm q <| qf uf31 fi31_1 nz23 q <| ql u23 ad.p1 q <| qf uf31 fi31_4 nz29 q <| ql u29 ad.p1 q <| qm q <| O aa fun a3 au aa => qe ad (C4.c.c.c) au u29 i89 q fun _ _ aH => qf uf89 fi89_2 nz23 q <| eV u23 aH.s.s q fun a7 ae => qm q <| O aa fun a8 av aa => qe ae hR0 av u23 i3 q fun _ _ aI => eI u3 aI q <| O aa fun bc aw aa => qe ae (C1.c.c.c.c) aw u23 i3 q fun _ _ aJ => eI u3 aJ q <| qi (qt_add q q) q <| qa q <| Qn ae fun a ha bg aK => zi <| X <| S1 ha <| Z <| qi (qt_add q q) q <| qm q <| WL_nil fun a ha => ?_
    cases aa
    exact ⟨q, ha.s, aK.q0.q0.p1.p1⟩
   cases aa
   exact WP_skip fun a ha => zi <| X <| S1 ha <| Z <| qi (qt_add q q) q <| qm q <| WL_nil fun a ha => ⟨q, ha.s, ad.q0.p1.p1⟩
  cases aa
  exact WP_exit fun a ha => zo (⟨exit_ne, q, ha.s, ag.q0.q0⟩)
 rintro _ a bh ⟨rfl, ha, aO⟩
 refine zn <| X <| S1 ha <| rR <| qm q <| qa q <| B <| W fun a ha => ?_
 obtain rfl := L h
 exact ret1 q ha q ⟨q, aO⟩
theorem w_impl_doClose {w G bp0 A0 B0 csp0_0 Fp0_0 A1 B1 A2 B2 B3 A4 B4 csp0_4 Fp0_4 p1 r} (h : impl_doCloseS B0 B1 B2 B3 B4 p1 = some r) (H : Ctx w ([.bx bp0 31 [A0, A1, A2, iV B3, A4], dpR 95 dt15 A0 csp0_0 B0 Fp0_0, .sl 3 tI A1 B1, .sl 3 tI A2 B2, dpR 89 dt16 A4 csp0_4 B4 Fp0_4] ++ G)) : Calls Tryz.prog 86 #[pB bp0, iV p1] w fun e w' => ∃ (wp0_4 : Value) (dsp0_4 : List Value) (Ep0_4 : List Nat), e = .returned (.bool r.2.2) ∧ Holds (([.bx bp0 31 [A0, A1, A2, iV B3, A4], dpR 95 dt15 A0 csp0_0 B0 Fp0_0, .sl 3 tI A1 B1, .sl 3 tI A2 B2, dpR 89 dt16 A4 csp0_4 B4 Fp0_4] : List Res).flatMap Res.own) w w' [.bx bp0 31 [A0, A1, A2, iV r.1, wp0_4], dpR 95 dt15 A0 csp0_0 B0 Fp0_0, .sl 3 tI A1 B1, .sl 3 tI A2 B2, dpR 89 dt16 wp0_4 dsp0_4 r.2.1 Ep0_4] G := by
 refine F1 51 H Tryz.func86 q fun H => ?_
 refine rR <| qa q <| B <| C <| C <| zk <| qm q <| qi (qt_lss q q) q <| qm q ?_
 refine Go (res := ((decide (p1 < 0)) || (decide (p1 ≥ (List.length B4 : Int))))) 7 os (fun ab K2 aq => ?_) ?_
 ·exact jm ab q <| jm ab q <| jn ab q <| jf uf31 fi31_4 nz29 ab q <| jl u29 H.p0 ab q <| have V5 := H.viewG (Vw.c (Vw.d (Vw.c (Vw.c (Vw.d Vw.refl))))); jz V5 hR4 u29 ab q <| ji (qt_geq q q) ab q <| aq 7 q q q (oi ab)
 refine qm q <| O h fun b6 ad h => ?_
 refine Go (res := b6) 10 (if_t · ad) (fun aa K9 ar => ?_) ?_
 ·refine have ad := if_f aa ad; jm aa q <| jn aa q <| jf uf31 fi31_4 nz29 aa q <| jl u29 H.p0 aa q <| jm aa q <| O ad fun aR ae ad => have au := H.viewG (Vw.c (Vw.d (Vw.c (Vw.c (Vw.d Vw.refl))))); jb au hR4 ae u29 i89 aa q fun aS aT aU av => jf uf89 fi89_1 nz87 aa q <| have ah := H.p4; ?_
  obtain ⟨aV, aw, ax, aW, aX, aY⟩ := Holds.ns ah ((Foc.snd (Foc.fst Foc.refl))) ae av
  exact XL_load_cell u87 q ax (J q aa) q q <| O ad fun aZ ay ad => QC (J q aa) q c122 (fun w' hb => w_impl_TicketDone ay hR0 ((ah.grow hb).viewG (Vw.dp (NsOk.ns ((Foc.snd (Foc.fst Foc.refl))) ae aw (NsOk.self NsOk.nil)) (Vw.c (Vw.d (Vw.c (Vw.c Vw.refl))))))) (by rfl) <| ji (qt_not q) aa q <| ar 10 q q q ad
 refine Qn H fun a ha a0 aj => X <| S1 ha ?_
 refine Yh q h (fun h => ?_) (fun h => ?_)
 ·cases h
  exact rR <| qa q <| B <| W fun a ha => m (ret1 q ha q ⟨A4, csp0_4, Fp0_4, q, aj.p4.p4.p4.p4.p4⟩)
 refine y <| C <| O h fun aA aB h => ?_
 refine WP_join (M := fun a w2 => (Fr a 51 [(0, pB bp0), (1, iV p1)] ∧ Holds (([.bx bp0 31 [A0, A1, A2, iV B3, A4], dpR 95 dt15 A0 csp0_0 B0 Fp0_0, .sl 3 tI A1 B1, .sl 3 tI A2 B2, dpR 89 dt16 A4 csp0_4 B4 Fp0_4] : List Res).flatMap Res.own) w w2 [.bx bp0 31 [A0, A1, A2, iV (IntKind.wrap .i64 (B3 + aA)), A4], dpR 95 dt15 A0 csp0_0 B0 Fp0_0, .sl 3 tI A1 B1, .sl 3 tI A2 B2, dpR 89 dt16 A4 csp0_4 B4 Fp0_4] G)) ?_ ?_
 ·refine WP_ordersT (fun w1 w2 => Chg M0 w1 w2) 10 (by kernel_rfl) fun af aC => have ak := aj.grow aC; ?_
  have ag : Ctx af ([] ++ ([.bx bp0 31 [A0, A1, A2, iV B3, A4], .ro ty12 A0 B0, .sl 3 tI A1 B1, .sl 3 tI A2 B2, .ro ty14 A4 B4] ++ G)) := ak.viewG (Vw.c (Vw.d (Vw.c (Vw.c (Vw.d Vw.refl)))))
  have aD : Holds _ af af [] ([.bx bp0 31 [A0, A1, A2, iV B3, A4], .ro ty12 A0 B0, .sl 3 tI A1 B1, .sl 3 tI A2 B2, .ro ty14 A4 B4] ++ G) := zb (Rs := []) ag
  refine have Hc := aD; XQ (i := 0) q (by kernel_rfl) q Hc.chg q (fun _ => qt_move q) q q <| XQ (i := 1) q (by kernel_rfl) q Hc.chg q (fun _ => qt_nilCheck q) q q <| XQ (i := 2) q (by kernel_rfl) q Hc.chg q (fun _ => qt_fieldAddr uf31 fi31_3 nz3 q) q q <| have aE := HasB.bx (HasB.hd) Hc.ctx; XT (i := 3) q (by kernel_rfl) q Hc.chg q (qs_cell u3 q q (aE.cell (i := 3) q) Hc.chg (Ctx.outB ag (HasB.hd))) q q <| XQ (i := 4) q (by kernel_rfl) q Hc.chg q (fun _ => qt_move q) q q <| XQ (i := 5) q (by kernel_rfl) q Hc.chg q (fun _ => qt_nilCheck q) q q <| have aF := HasB.bx (HasB.hd) Hc.ctx; XT (i := 6) q (by kernel_rfl) q Hc.chg q (qs_agg (cs := [A0, A1, A2, iV B3, A4]) us31 uo31 il31 q (fun j z hj => by rw [Nat.zero_add]; exact aF.cell hj) Hc.chg (Ctx.outB ag (HasB.hd))) q q ?_
  change XC _ _ _ _ _ _ _ _ ((34, .agg #[A0, A1, A2, iV B3, A4]) :: _) _
  refine XQ (i := 7) q (by kernel_rfl) q Hc.chg q (fun _ => qt_move q) q q ?_
  repeat' first
   | refine XDo 8 q <| U0 q c95 (w_impl_TableBill aB hR1 hS2 hS3 hR4 Hc.ctx) fun _ HK => ?_; have Hc := Hc.cN0 [] HK; refine XN Hc.chg <| XQ (i := 9) q (by kernel_rfl) q Hc.chg q (fun _ => qt_add q q) q q ?_
   | have Hc := ak.cV0 [] Hc all_nil; refine XDo 10 q <| qn q <| XE q ?_
   | refine XDo 11 q <| qf uf31 fi31_3 nz3 q <| XE q ?_
   | refine XDo 12 q ?_; refine WL_store_bx Hc q il3 q q q q q (fun _ Hc => ?_); refine XE q ?_
   | refine XV [8] (by decide +kernel) q (allc ?_ alln)
   | refine XV [10] (by decide +kernel) q (allc ?_ alln)
   | refine XV [11] (by decide +kernel) q (allc ?_ alln)
   | refine XV [12] (by decide +kernel) q (allc ?_ alln)
   | refine XC_done (by decide +kernel) (fun a ha => ?_); have Hc := (((((Hc.p4).p4).p4).p4).p4); exact ⟨ha.s, Hc⟩
 rintro a aG ⟨ha, al⟩
 refine S1 ha <| rR <| qm q <| qm q <| qn q <| qf uf31 fi31_4 nz29 q <| ql u29 al.p0 q <| qm q <| qm q <| qi (qt_add q q) q <| have am := al.p4; O h fun aH aI h => have aJ := am.viewG (Vw.c (Vw.c (Vw.d (Vw.c (Vw.c Vw.refl))))); zd q q c123 (w_impl_Table aG _ A4 B4 csp0_4 Fp0_4 p1 (IntKind.wrap .i64 (p1 + 1)) aH aI aJ) (by rfl) ?_
 rintro _ a1 ⟨aK, aL, aM, rfl, aN⟩; refine ⟨_, q, ?_⟩
 cases h
 exact have aO := am.cV1 [_] aN (zc Pure.dp all_nil); qn q <| qf uf31 fi31_4 nz29 q <| have ao := aO.p1; have ap := ao.viewG (Vw.c (Vw.d (Vw.d (Vw.c (Vw.c Vw.refl))))); WL_store_bx ao q il29 (ap.sliceCells hR1) (ap.sliceOne hR1) q q q fun a2 aP => rN <| qa q <| B <| W fun a ha => ret1 q ha q ⟨aK, aL, aM, q, aP.p1.p4.p4.p4.p4⟩
theorem w_impl_HouseDo {w G A0 B0 A1 B1 A2 B2 B3 A4 B4 p1_0 p1_1 p1_2 p1_3 r} (h : impl_HouseDoS B0 B1 B2 B3 B4 p1_0 p1_1 p1_2 p1_3 = some r) (hGl : Glob G) (C0 : Has G ty12 A0 B0) (C1 : Has G tI A1 B1) (C2 : Has G tI A2 B2) (C4 : Has G ty14 A4 B4) (H : Ctx w G) : Calls Tryz.prog 41 #[.agg #[A0, A1, A2, iV B3, A4], .agg #[iV p1_0, iV p1_1, iV p1_2, iV p1_3]] w fun e w' => ∃ (v1 : Value) (csv1 : List Value) (Fv1 : List Nat) (v4 : Value) (v5 : Value) (v6 : Value) (csv6 : List Value) (Fv6 : List Nat), e = .returned (.tuple #[.agg #[v1, v4, v5, iV r.1.2.2.2.1, v6], .bool r.2]) ∧ Holds M0 w w' [dpR 95 dt15 v1 csv1 r.1.1 Fv1, .sl 3 tI v4 r.1.2.1, .sl 3 tI v5 r.1.2.2.1, dpR 89 dt16 v6 csv6 r.1.2.2.2.2 Fv6] G := by
 refine F0 72 H Tryz.func41 q fun H => ?_
 refine C <| Z <| WL_box (cs := [A0, A1, A2, iV B3, A4]) H q q q q fun b1 w2 H3 => WL_box (cs := [iV p1_0, iV p1_1, iV p1_2, iV p1_3]) H3 q q q q fun b5 w6 H7 => zq (cs := [nS, nS, nS, iV 0, nS]) H7 z31 q q q fun b9 cP az => qa q <| B <| C <| C <| zk <| eA az.p2 us31 uo31 il31 q <| O h fun cQ a6 h => qc q c39 az (fun _ => w_impl_HouseValid a6 (C0.c.c.c) (C1.c.c.c) (C2.c.c.c) (C4.c.c.c)) <| qi (qt_not q) q <| Qn az fun a ha cR ap => X <| S1 ha ?_
 refine Yh q h (fun h => ?_) (fun h => ?_)
 ·cases h
  exact rR <| qi (qt_build (args := []) (css := []) (cells := #[nS, nS, nS, iV 0, nS]) q trivial (by kernel_rfl)) q <| zl (cs' := [nS, nS, nS, iV 0, nS]) ap q il31 q q q q q fun cS aP => qa q <| B <| W fun a ha => have a7 := R aP.p0; have a8 := aP.nD 95 dt15; have a9 := a8.nS 3 tI; have ba := a9.nS 3 tI; have bb := ba.nD 89 dt16; m (retct q ha q q (run_loadVar_bx (cs := [nS, nS, nS, iV 0, nS]) us31 uo31 il31 a7) ⟨(nS), [], [], (nS), (nS), (nS), [], [], q, bb.q4.q4.q4.p1.p2.p3⟩)
 refine y <| C <| C <| zk <| eA ap.p1 us50 uo50 il50 q <| O h fun cT bd h => qc q c81 ap (fun _ => w_impl_onlyNamed bd hGl.c.c.c) <| qi (qt_not q) q <| Qn ap fun a ha cU aj => X <| S1 ha ?_
 refine Yh q h (fun h => ?_) (fun h => ?_)
 ·refine rR <| eA aj.p2 us31 uo31 il31 q <| O h fun aQ be h => zd q q c44 (w_impl_copyHouse be (C0.c.c.c) (C1.c.c.c) (C2.c.c.c) (C4.c.c.c) aj.ctx) q ?_
  rintro _ cV ⟨aA, bf, bg, aB, aC, aD, bh, bi, rfl, bj⟩; refine ⟨_, q, ?_⟩
  cases h
  exact have bk := aj.cN4 [] bj; have aR := bk.p4; have aq := aR.viewG (Vw.c (Vw.d (Vw.c (Vw.c (Vw.d (Vw.c (Vw.c Vw.refl))))))); zl (cs' := [aA, aB, aC, iV aQ.2.2.2.1, aD]) aR q il31 q (T (aq.sliceOne hR1) (T (aq.sliceOne hS2) (T (aq.sliceOne hS3) (T q (T (aq.sliceOne hR4) q))))) q q q fun cW aS => qa q <| B <| W fun a ha => have bl := R aS.p0; m (retct q ha q q (run_loadVar_bx (cs := [aA, aB, aC, iV aQ.2.2.2.1, aD]) us31 uo31 il31 bl) ⟨aA, bf, bg, aB, aC, aD, bh, bi, q, aS.q0.q4.q4.p3.p3.p3.p3⟩)
 refine y <| rR <| eA aj.p2 us31 uo31 il31 q <| O h fun ad bn h => zd q q c44 (w_impl_copyHouse bn (C0.c.c.c) (C1.c.c.c) (C2.c.c.c) (C4.c.c.c) aj.ctx) q ?_
 rintro _ cX ⟨af, aE, aF, ag, ae, ah, ar, au, rfl, bo⟩; refine ⟨_, q, ?_⟩
 refine have bp := aj.cN4 [] bo; zq (cs := [nS, nS, nS, iV 0, nS]) bp z31 q q q fun aG cY aT => have av := aT.viewG (Vw.c (Vw.d (Vw.c (Vw.c (Vw.d (Vw.c (Vw.c (Vw.c Vw.refl)))))))); zl (cs' := [af, ag, ae, iV ad.2.2.2.1, ah]) aT q il31 q (T (av.sliceOne hR1) (T (av.sliceOne hS2) (T (av.sliceOne hS3) (T q (T (av.sliceOne hR4) q))))) q q q fun bq ab => rN <| qa q <| B <| C <| rR <| qf uf50 fi50_0 nz3 q <| ql u3 ab.p6 q <| B <| O h fun br aa h => ?_
 obtain ⟨bs, bt, aH, bu⟩ := br
 refine WP_join (M := fun a w2 => ∃ ak al aI aJ, Fr a 72 [(2, pB b1), (4, pB b9), (6, pB aG), (7, .bool bs)] ∧ Holds M0 w w2 [.bx b1 31 [A0, A1, A2, iV B3, A4], .bx b9 31 [nS, nS, nS, iV 0, nS], .bx aG 31 [af, ag, ak, iV aH, al], dpR 95 dt15 af aE ad.1 aF, .sl 3 tI ag ad.2.1, .sl 3 tI ak bt, dpR 89 dt16 al aI bu aJ] G) ?_ ?_
 ·refine g <| rR <| qi (qt_eql q q) q <| qa q <| B ?_
  refine Yh q aa (fun aa => ?_) (fun aa => ?_)
  ·refine Z <| qf uf50 fi50_1 nz3 q <| ql u3 ab.p6 q <| qf uf50 fi50_2 nz3 q <| ql u3 ab.p6 q <| have aU := ab.p4.p4.p4.p4.p4; O aa fun cZ bB aa => U0 q c82 (w_impl_doBuy bB aU.ctx) fun c0 bC => have bD := aU.cN5 [_, _, _, _, _] bC; qa q <| WL_nil fun a ha => ?_
   cases aa
   exact zi (X (⟨ae, ah, ar, au, ha.s, bD.q6.p4.p4.p4.p4.p4.p5.p6⟩))
  refine rR <| qi (qt_eql q q) q <| qa q <| B ?_
  refine Yh q aa (fun aa => ?_) (fun aa => ?_)
  ·refine Z <| qf uf50 fi50_1 nz3 q <| ql u3 ab.p6 q <| qf uf50 fi50_2 nz3 q <| ql u3 ab.p6 q <| have aV := ab.p4.p4.p4.p4.p4; O aa fun c1 bJ aa => U1 q c83 (w_impl_doMake bJ aV.ctx) fun bK c2 bL => have bM := aV.cN5 [_, _, _, _, _] bL; qa q <| WL_nil fun a ha => ?_
   cases aa
   exact zi (X (⟨bK, ah, ar, au, ha.s, bM.q6.p4.p4.p4.p4.p4.p5.p6⟩))
  refine rR <| qi (qt_eql q q) q <| qa q <| B ?_
  refine Yh q aa (fun aa => ?_) (fun aa => ?_)
  ·refine rR <| qf uf31 fi31_4 nz29 q <| ql u29 ab.p0 q <| qf uf50 fi50_1 nz3 q <| ql u3 ab.p6 q <| qi (qt_build (args := [(0, .tmp 40)]) (css := [#[iV p1_1]]) (cells := #[iV p1_1, nS, nS]) q ⟨q, trivial⟩ (by kernel_rfl)) q <| WL_buildD (Rs := []) (d := dt16) (args := [.tmp 41]) (xs := ([(p1_1, [], [])] : LT)) ab (DBltL.one (cs' := [iV p1_1, nS, nS]) (DBlt.cast (DBlt.pair (DBlt.int (k := .i64) (n := p1_1)) (DBlt.pair (DBlt.nil (e := 103) (d := dt3)) (DBlt.nil (e := 3) (d := (.leaf tI))))) q q) q) u29 j89 q q q q q q fun c3 c4 da db bO => O aa fun dc bQ aa => WL_appendD bO.p5 bQ u29 j89 q q q q q q fun bR bS bT dd bU => qf uf31 fi31_4 nz29 q <| have aW := bU.p1; have aX := aW.viewG (Vw.c (Vw.d (Vw.d (Vw.c (Vw.c (Vw.c (Vw.c (Vw.c Vw.refl)))))))); WL_store_bx aW q il29 (aX.sliceCells hR1) (aX.sliceOne hR1) q q q fun de bV => B <| Z <| qa q <| WL_nil fun a ha => ?_
   obtain ⟨rfl, rfl, rfl, rfl⟩ := (by simpa only [Option.some.injEq, Prod.mk.injEq] using aa : _)
   exact zi (X (⟨ae, bR, bS, bT, ha.s, bV.q6.p1.p4.p4.p4.p4.p5.p6⟩))
  refine rR <| qi (qt_eql q q) q <| qa q <| B ?_
  refine Yh q aa (fun aa => ?_) (fun aa => ?_)
  ·refine Z <| qf uf50 fi50_1 nz3 q <| ql u3 ab.p6 q <| qf uf50 fi50_2 nz3 q <| ql u3 ab.p6 q <| qf uf50 fi50_3 nz3 q <| ql u3 ab.p6 q <| have aY := ab.p4.p4.p4.p4.p4; O aa fun df b4 aa => U2 q c84 (w_impl_doOrder b4 aY.ctx) fun b6 b7 dg b8 => have ca := aY.cN5 [_, _, _, _, _] b8; qa q <| WL_nil fun a ha => ?_
   cases aa
   exact zi (X (⟨ae, ah, b6, b7, ha.s, ca.q6.p4.p4.p4.p4.p4.p5.p6⟩))
  refine rR <| qi (qt_eql q q) q <| qa q <| B ?_
  refine Yh q aa (fun aa => ?_) (fun aa => ?_)
  ·refine Z <| have aZ := ab.p4.p4.p4.p4.p4; O aa fun cg ch aa => zd q q c85 (w_impl_doWork bq _ aG af ad.1 aE aF ag ad.2.1 ae ad.2.2.1 ad.2.2.2.1 ah ad.2.2.2.2 ar au cg ch aZ.ctx) (by rfl) ?_
   rintro _ dh ⟨ci, cj, rfl, ck⟩; refine ⟨_, q, ?_⟩
   cases aa
   exact have cl := aZ.cN5 [_, _, _, _, _] ck; qa q <| WL_nil fun a ha => zi (X (⟨ae, ah, ci, cj, ha.s, cl.q6.p4.p4.p4.p4.p4.p5.p6⟩))
  refine rR <| qi (qt_eql q q) q <| qa q <| B ?_
  refine Yh q aa (fun aa => ?_) (fun aa => ?_)
  ·refine Z <| qf uf50 fi50_1 nz3 q <| ql u3 ab.p6 q <| have a0 := ab.p4.p4.p4.p4.p4; O aa fun di cr aa => U3 q c86 (w_impl_doClose cr a0.ctx) fun ct cu cv dj cw => have cx := a0.cN5 [_, _, _, _, _] cw; qa q <| WL_nil fun a ha => ?_
   cases aa
   exact zi (X (⟨ae, ct, cu, cv, ha.s, cx.q6.p4.p4.p4.p4.p4.p5.p6⟩))
  cases aa
  exact WP_skip fun a ha => zi (X (⟨ae, ah, ar, au, ha.s, ab.q6.p4.p4.p4.p4.p4.p5.p6⟩))
 rintro a dk ⟨ak, al, aI, aJ, ha, aK⟩
 refine S1 ha <| C <| C <| zk <| qm q <| qi (qt_not q) q <| qm q <| O h fun cA am h => ?_
 refine Go (res := cA) 3 (if_t · am) (fun aw dl cB => ?_) ?_
 ·exact have am := if_f aw am; jA aK.p2 us31 uo31 il31 aw q <| O am fun dm cC am => QC (J q aw) q c39 (fun w' hb => w_impl_HouseValid cC hR3 hS4 hS5 hR6 ((aK.grow hb).viewG (Vw.c (Vw.c (Vw.c (Vw.d (Vw.c (Vw.c (Vw.d Vw.refl))))))))) (by rfl) <| ji (qt_not q) aw q <| cB 3 q q q am
 refine Qn aK fun a ha dn ao => X <| S1 ha ?_
 refine Yh q h (fun h => ?_) (fun h => ?_)
 ·refine rR <| eA ao.p0 us31 uo31 il31 q <| O h fun a1 cD h => have cE := ao.viewG (Vw.c (Vw.c (Vw.c (Vw.d (Vw.c (Vw.c (Vw.d Vw.refl))))))); zd q q c44 (w_impl_copyHouse cD (C0.c.c.c.c.c.c.c) (C1.c.c.c.c.c.c.c) (C2.c.c.c.c.c.c.c) (C4.c.c.c.c.c.c.c) cE) q ?_
  rintro _ dq ⟨aL, cF, cG, aM, aN, aO, cH, cI, rfl, cJ⟩; refine ⟨_, q, ?_⟩
  cases h
  exact have cK := ao.cV4 [] cJ (zc Pure.dp (zc (Pure.sl q) (zc (Pure.sl q) (zc Pure.dp all_nil)))); have a2 := cK.p5; have ax := a2.viewG (Vw.c (Vw.d (Vw.c (Vw.c (Vw.d (Vw.c (Vw.c (Vw.d (Vw.c (Vw.c (Vw.d Vw.refl))))))))))); zl (cs' := [aL, aM, aN, iV a1.2.2.2.1, aO]) a2 q il31 q (T (ax.sliceOne hR1) (T (ax.sliceOne hS2) (T (ax.sliceOne hS3) (T q (T (ax.sliceOne hR4) q))))) q q q fun dr a3 => qa q <| B <| W fun a ha => have cL := R a3.p0; m (retct q ha q q (run_loadVar_bx (cs := [aL, aM, aN, iV a1.2.2.2.1, aO]) us31 uo31 il31 cL) ⟨aL, cF, cG, aM, aN, aO, cH, cI, q, a3.q0.q4.q4.q4.q4.q4.q4.p3.p3.p3.p3⟩)
 cases h
 exact y <| rR <| eA ao.p2 us31 uo31 il31 q <| have a4 := ao.p1; have ay := a4.viewG (Vw.c (Vw.c (Vw.c (Vw.d (Vw.c (Vw.c (Vw.d Vw.refl))))))); zl (cs' := [af, ag, ak, iV aH, al]) a4 q il31 q (T (ay.sliceOne hR3) (T (ay.sliceOne hS4) (T (ay.sliceOne hS5) (T q (T (ay.sliceOne hR6) q))))) q q q fun ds a5 => qa q <| B <| W fun a ha => have cN := R a5.p0; retct q ha q q (run_loadVar_bx (cs := [af, ag, ak, iV aH, al]) us31 uo31 il31 cN) ⟨af, aE, aF, ag, ak, al, aI, aJ, q, a5.q0.q0.q0.p3.p3.p3.p3⟩
theorem w_impl_WorkLeft {w G vp0 p0 r} (h : impl_WorkLeftS p0 = some r) (hp0 : Has G ty4 vp0 p0) (H : Ctx w G) : Calls Tryz.prog 87 #[vp0] w fun e w' => e = .returned (iV r) ∧ Holds M0 w w' [] G := by
 refine F0 34 H Tryz.func87 q fun H => ?_
 refine rR <| qa q <| B <| C <| C <| zk <| qm q <| O h fun x1 ar h => qc q c124 H (fun _ => w_impl_KitchenValid ar (hp0)) <| qi (qt_not q) q <| Qn H fun a ha w3 H5 => X <| S1 ha ?_
 refine Yh q h (fun h => ?_) (fun h => ?_)
 ·cases h
  exact rR <| qa q <| B <| W fun a ha => m (ret1 q ha q ⟨q, H5⟩)
 refine y <| rR <| qa q <| B <| C <| rR <| qm q <| qz H5.ctx (hp0) u65 q <| qm q <| B <| g <| O h fun o9 au h => ?_
 refine fun aH av => zp (I := fun (s7, s8) a w2 => (Fr a 34 [(3, iV s7), (11, vp0), (12, iV (List.length p0 : Int)), (13, iV s8)] ∧ Holds M0 w w2 [] G)) (O := fun q0 e a w2 => e = .exit 0 ∧ (Fr a 34 [(3, iV q0)] ∧ Holds M0 w w2 [] G)) au ?_ ?_ ?_
 ·exact ⟨av.s, H5⟩
 ·rintro ⟨s7, s8⟩ _ a aI ab ⟨ha, af⟩
  refine S1 ha <| rR <| qi (qt_lss q q) q <| B <| C ?_
  refine Yh q ab (fun ab => ?_) (fun ab => ?_)
  ·refine y <| C <| g <| rR <| O ab fun aj ak ab => qe af (hp0) ak u65 i87 q fun _ _ aw => eV u87 aw q fun al am => qa q <| rN <| qm q <| qz am.ctx hR0 u87 q <| qm q <| B <| g <| O ab fun aM ax ab => ?_
   refine fun aN ay => zp (I := fun (ao, ap) a w2 => (Fr a 34 [(3, iV ao), (11, vp0), (12, iV (List.length p0 : Int)), (13, iV s8), (17, al), (18, iV (List.length aj : Int)), (19, iV ap)] ∧ Holds M0 w w2 [.ro ty2 al aj] G)) (O := fun q0 e a w2 => e = .exit 2 ∧ (Fr a 34 [(3, iV q0), (11, vp0), (12, iV (List.length p0 : Int)), (13, iV s8)] ∧ Holds M0 w w2 [] G)) ax ?_ ?_ ?_
   ·exact ⟨ay.s, am⟩
   ·rintro ⟨ao, ap⟩ _ a aO aa ⟨ha, ad⟩
    refine S1 ha <| rR <| qi (qt_lss q q) q <| B <| C ?_
    refine Yh q aa (fun aa => ?_) (fun aa => ?_)
    ·refine y <| C <| g <| rR <| O aa fun ae aq aa => qe ad hR0 aq u87 i103 q fun _ _ az => lP [iV ae.1, iV ae.2] us103 uo103 i103 az q q q q <| zq (cs := [iV 0, iV 0]) ad z103 q q q fun aS aT aA => zl (cs' := [iV ae.1, iV ae.2]) aA q il103 q q q q q fun aU ag => B <| C <| zk <| eA ag.p0 us103 uo103 il103 q <| O aa fun aV aB aa => qc q c125 ag (fun _ => w_impl_finished aB) <| qi (qt_not q) q <| Qn ag fun a ha aW ah => X <| S1 ha ?_
     refine Yh q aa (fun aa => ?_) (fun aa => ?_)
     ·cases aa
      exact Z <| qm q <| qf uf103 fi103_1 nz3 q <| ql u3 ah.p0 q <| qi (qt_sub q q) q <| qi (qt_add q q) q <| qa q <| WL_nil fun a ha => zi <| X <| S1 ha <| Z <| qi (qt_add q q) q <| qm q <| WL_nil fun a ha => ⟨q, ha.s, ah.q0⟩
     cases aa
     exact WP_skip fun a ha => zi <| X <| S1 ha <| Z <| qi (qt_add q q) q <| qm q <| WL_nil fun a ha => ⟨q, ha.s, ah.q0⟩
    cases aa
    exact WP_exit fun a ha => zo (⟨exit_ne, q, ha.s, ad.q0⟩)
   rintro _ a aX ⟨rfl, ha, aF⟩
   cases ab
   exact zn <| zi <| X <| S1 ha <| Z <| qi (qt_add q q) q <| qm q <| WL_nil fun a ha => ⟨q, ha.s, aF⟩
  cases ab
  exact WP_exit fun a ha => zo (⟨exit_ne, q, ha.s, af⟩)
 rintro _ a aY ⟨rfl, ha, aG⟩
 refine zn <| X <| S1 ha <| rR <| qm q <| qa q <| B <| W fun a ha => ?_
 obtain rfl := L h
 exact ret1 q ha q ⟨q, aG⟩
theorem w_impl_EndDeeds {w G A0 B0 A1 B1 A2 B2 B3 A4 B4 r} (h : impl_EndDeedsS B0 B1 B2 B3 B4 = some r) (C0 : Has G ty12 A0 B0) (C1 : Has G tI A1 B1) (C2 : Has G tI A2 B2) (C4 : Has G ty14 A4 B4) (H : Ctx w G) : Calls Tryz.prog 43 #[.agg #[A0, A1, A2, iV B3, A4]] w fun e w' => ∃ (v1 : Value), e = .returned (v1) ∧ Holds M0 w w' [.sl 50 ty10 v1 r] G := by
 refine F0 28 H Tryz.func43 q fun H => ?_
 refine C <| Z <| WL_box (cs := [A0, A1, A2, iV B3, A4]) H q q q q fun b1 w2 H3 => qa q <| B <| C <| C <| zk <| eA H3.p0 us31 uo31 il31 q <| O h fun x6 ar h => qc q c39 H3 (fun _ => w_impl_HouseValid ar (C0.c) (C1.c) (C2.c) (C4.c)) <| qi (qt_not q) q <| Qn H3 fun a ha w8 ae => X <| S1 ha ?_
 refine Yh q h (fun h => ?_) (fun h => ?_)
 ·cases h
  exact rR <| qa q <| B <| W fun a ha => have au := ae.nS 50 ty10; m (ret1 q ha q ⟨(nS), q, au.q1⟩)
 refine y <| rR <| qa q <| B <| C <| rR <| eA ae.p0 us31 uo31 il31 q <| O h fun a0 aw h => U3 q c88 (w_impl_kitchenOf aw (C0.c) (C1.c) (C2.c) (C4.c) ae.ctx) fun a1 a2 a3 a4 ax => have aj := ae.cN1 [] ax; O h fun ay az h => have aA := aj.viewG (Vw.d (Vw.c Vw.refl)); U0 q c87 (w_impl_WorkLeft az hR0 aA) fun a5 aB => have aC := aj.cV0 [] aB all_nil; qm q <| B <| g <| have aD := aC.nS 50 ty10; O h fun a6 aE h => ?_
 refine fun a7 aG => zp (I := fun (ak, al) a w2 => ∃ af, Fr a 28 [(1, pB b1), (3, af), (9, iV ay), (10, iV al)] ∧ Holds M0 w w2 [.bx b1 31 [A0, A1, A2, iV B3, A4], .sl 50 ty10 af ak] G) (O := fun q0 e a w2 => e = .exit 0 ∧ ∃ ad, Fr a 28 [(1, pB b1), (3, ad)] ∧ Holds M0 w w2 [.bx b1 31 [A0, A1, A2, iV B3, A4], .sl 50 ty10 ad q0] G) aE ?_ ?_ ?_
 ·exact ⟨(nS), aG.s, aD.q1.p1⟩
 ·rintro ⟨ak, al⟩ _ a a8 aa ⟨af, ha, am⟩
  refine S1 ha <| rR <| qi (qt_lss q q) q <| B <| C ?_
  refine Yh q aa (fun aa => ?_) (fun aa => ?_)
  ·refine y <| C <| g <| Z <| qm q <| qi (qt_build (args := [(0, .const (iV 4))]) (css := [#[iV 4]]) (cells := #[iV 4, iV 0, iV 0, iV 0]) q ⟨q, trivial⟩ (by kernel_rfl)) q <| zs (t := ty10) (args := [.tmp 13]) (xs := ([(4, 0, 0, 0)] : List (Int × Int × Int × Int))) am (BltL.cons (Blt.pair (Blt.int) (Blt.pair (Blt.int) (Blt.pair (Blt.int) (Blt.int)))) q (BltL.nil)) u60 j50 q q q q q q fun a9 ba aH => O aa fun bb aJ aa => zw aH.p2 hS1 aJ u60 j50 q q q q q q fun aK bc aL => qa q <| WL_nil fun a ha => zi <| X <| S1 ha <| Z <| qi (qt_add q q) q <| qm q <| WL_nil fun a ha => ?_
   cases aa
   exact ⟨q, aK, ha.s, aL.q1.p1⟩
  cases aa
  exact WP_exit fun a ha => zo (⟨exit_ne, q, af, ha.s, am.p1.p1⟩)
 rintro _ a bd ⟨rfl, aO, ha, ah⟩
 refine zn <| X <| S1 ha <| C <| rR <| qf uf31 fi31_4 nz29 q <| ql u29 ah.p0 q <| qz ah.ctx (C4.c.c) u29 q <| qm q <| B <| g <| O h fun be aP h => ?_
 refine fun bf aR => zp (I := fun (ao, ap) a w2 => ∃ ag, Fr a 28 [(3, ag), (19, iV (List.length B4 : Int)), (20, iV ap)] ∧ Holds M0 w w2 [.sl 50 ty10 ag ao] G) (O := fun q0 e a w2 => e = .exit 2 ∧ ∃ ad, Fr a 28 [(3, ad)] ∧ Holds M0 w w2 [.sl 50 ty10 ad q0] G) aP ?_ ?_ ?_
 ·exact ⟨aO, aR.s, ah.q0⟩
 ·rintro ⟨ao, ap⟩ _ a bg ab ⟨ag, ha, aq⟩
  refine S1 ha <| rR <| qi (qt_lss q q) q <| B <| C ?_
  refine Yh q ab (fun ab => ?_) (fun ab => ?_)
  ·refine y <| C <| g <| Z <| qm q <| qi (qt_build (args := [(0, .const (iV 5))]) (css := [#[iV 5]]) (cells := #[iV 5, iV 0, iV 0, iV 0]) q ⟨q, trivial⟩ (by kernel_rfl)) q <| zs (t := ty10) (args := [.tmp 23]) (xs := ([(5, 0, 0, 0)] : List (Int × Int × Int × Int))) aq (BltL.cons (Blt.pair (Blt.int) (Blt.pair (Blt.int) (Blt.pair (Blt.int) (Blt.int)))) q (BltL.nil)) u60 j50 q q q q q q fun bh bi aS => O ab fun bj aU ab => zw aS.p1 hS1 aU u60 j50 q q q q q q fun aV bk aW => qa q <| WL_nil fun a ha => zi <| X <| S1 ha <| Z <| qi (qt_add q q) q <| qm q <| WL_nil fun a ha => ?_
   cases ab
   exact ⟨q, aV, ha.s, aW.q1⟩
  cases ab
  exact WP_exit fun a ha => zo (⟨exit_ne, q, ag, ha.s, aq⟩)
 rintro _ a bl ⟨rfl, aY, ha, aZ⟩
 refine zn <| X <| S1 ha <| rR <| qm q <| qa q <| B <| W fun a ha => ?_
 obtain rfl := L h
 exact ret1 q ha q ⟨aY, q, aZ⟩
theorem w_impl_HouseRun {w G A0 B0 A1 B1 A2 B2 B3 A4 B4 vp1 p1 r} (h : impl_HouseRunS B0 B1 B2 B3 B4 p1 = some r) (hGl : Glob G) (C0 : Has G ty12 A0 B0) (C1 : Has G tI A1 B1) (C2 : Has G tI A2 B2) (C4 : Has G ty14 A4 B4) (hp1 : Has G ty10 vp1 p1) (H : Ctx w G) : Calls Tryz.prog 42 #[.agg #[A0, A1, A2, iV B3, A4], vp1] w fun e w' => ∃ (v1 : Value) (csv1 : List Value) (Fv1 : List Nat) (v4 : Value) (v5 : Value) (v6 : Value) (csv6 : List Value) (Fv6 : List Nat), e = .returned (.tuple #[.agg #[v1, v4, v5, iV r.1.2.2.2.1, v6], iV r.2]) ∧ Holds M0 w w' [dpR 95 dt15 v1 csv1 r.1.1 Fv1, .sl 3 tI v4 r.1.2.1, .sl 3 tI v5 r.1.2.2.1, dpR 89 dt16 v6 csv6 r.1.2.2.2.2 Fv6] G := by
 refine F0 37 H Tryz.func42 q fun H => ?_
 refine C <| Z <| WL_box (cs := [A0, A1, A2, iV B3, A4]) H q q q q fun b1 w2 H3 => zq (cs := [nS, nS, nS, iV 0, nS]) H3 z31 q q q fun b5 w6 H7 => qa q <| B <| C <| C <| zk <| eA H7.p1 us31 uo31 il31 q <| O h fun bQ ba h => qc q c39 H7 (fun _ => w_impl_HouseValid ba (C0.c.c) (C1.c.c) (C2.c.c) (C4.c.c)) <| qi (qt_not q) q <| Qn H7 fun a ha bR ad => X <| S1 ha ?_
 refine Yh q h (fun h => ?_) (fun h => ?_)
 ·cases h
  exact rR <| qi (qt_build (args := []) (css := []) (cells := #[nS, nS, nS, iV 0, nS]) q trivial (by kernel_rfl)) q <| zl (cs' := [nS, nS, nS, iV 0, nS]) ad q il31 q q q q q fun bS aG => qa q <| B <| W fun a ha => have bb := R aG.p0; have bc := aG.nD 95 dt15; have bd := bc.nS 3 tI; have be := bd.nS 3 tI; have bf := be.nD 89 dt16; m (retct q ha q q (run_loadVar_bx (cs := [nS, nS, nS, iV 0, nS]) us31 uo31 il31 bb) ⟨(nS), [], [], (nS), (nS), (nS), [], [], q, bf.q4.q4.p1.p2.p3⟩)
 refine y <| rR <| eA ad.p1 us31 uo31 il31 q <| O h fun bh bi h => zd q q c44 (w_impl_copyHouse bi (C0.c.c) (C1.c.c) (C2.c.c) (C4.c.c) ad.ctx) q ?_
 rintro _ bT ⟨aH, bj, bk, aI, aJ, aK, bl, bm, rfl, bn⟩; refine ⟨_, q, ?_⟩
 refine have bo := ad.cN4 [] bn; zq (cs := [nS, nS, nS, iV 0, nS]) bo z31 q q q fun ae bU aL => have af := aL.viewG (Vw.c (Vw.d (Vw.c (Vw.c (Vw.d (Vw.c (Vw.c Vw.refl))))))); zl (cs' := [aH, aI, aJ, iV bh.2.2.2.1, aK]) aL q il31 q (T (af.sliceOne hR1) (T (af.sliceOne hS2) (T (af.sliceOne hS3) (T q (T (af.sliceOne hR4) q))))) q q q fun bV aM => rN <| qa q <| B <| C <| rR <| qm q <| have bp := aM.viewG (Vw.c (Vw.d (Vw.c (Vw.c (Vw.d (Vw.c (Vw.c Vw.refl))))))); qz bp (hp1.c.c.c.c.c.c.c) u60 q <| qm q <| B <| g <| O h fun bq br h => ?_
 refine fun bW bt => zp (I := fun (aN, aO, aP, aQ, aR, aS, aT) a w2 => ∃ ag ax ay ah aj ak az aA, Fr a 37 [(4, pB b5), (6, pB ae), (7, iV aN), (18, vp1), (19, iV (List.length p1 : Int)), (20, iV aO)] ∧ Holds M0 w w2 [.bx b5 31 [nS, nS, nS, iV 0, nS], .bx ae 31 [ag, ah, aj, iV aS, ak], dpR 95 dt15 ag ax aP ay, .sl 3 tI ah aQ, .sl 3 tI aj aR, dpR 89 dt16 ak az aT aA] G) (O := fun (q0, q1, q2, q3, q4, q5) e a w2 => e = .exit 0 ∧ ∃ aU bu bv aV aW aX bw bz, Fr a 37 [(4, pB b5), (6, pB ae), (7, iV q0)] ∧ Holds M0 w w2 [.bx b5 31 [nS, nS, nS, iV 0, nS], .bx ae 31 [aU, aV, aW, iV q4, aX], dpR 95 dt15 aU bu q1 bv, .sl 3 tI aV q2, .sl 3 tI aW q3, dpR 89 dt16 aX bw q5 bz] G) br ?_ ?_ ?_
 ·exact ⟨aH, bj, bk, aI, aJ, aK, bl, bm, bt.s, aM.q6.p4.p4.p4.p4.p4.p5⟩
 ·rintro ⟨aN, aO, aP, aQ, aR, aS, aT⟩ _ a bX aa ⟨ag, ax, ay, ah, aj, ak, az, aA, ha, al⟩
  refine S1 ha <| rR <| qi (qt_lss q q) q <| B <| C ?_
  refine Yh q aa (fun aa => ?_) (fun aa => ?_)
  ·refine y <| C <| g <| rR <| O aa fun ab aY aa => have bA := al.viewG (Vw.c (Vw.c (Vw.d (Vw.c (Vw.c (Vw.d Vw.refl)))))); qb bA (hp1.c.c.c.c.c.c) aY u60 i50 q fun bY bZ b0 bB => lP [iV ab.1, iV ab.2.1, iV ab.2.2.1, iV ab.2.2.2] us50 uo50 i50 (al.el (hp1.c.c.c.c.c.c) aY bB) q q q q <| zq (cs := [iV 0, iV 0, iV 0, iV 0]) al z50 q q q fun b4 b6 bC => zl (cs' := [iV ab.1, iV ab.2.1, iV ab.2.2.1, iV ab.2.2.2]) bC q il50 q q q q q fun b7 am => rN <| eA am.p2 us31 uo31 il31 q <| eA am.p0 us50 uo50 il50 q <| O aa fun aZ bD aa => have bE := am.viewG (Vw.c (Vw.c (Vw.c (Vw.d (Vw.c (Vw.c (Vw.d Vw.refl))))))); zd q q c41 (w_impl_HouseDo bD hGl.c.c.c.c.c.c.c hR3 hS4 hS5 hR6 bE) q ?_
   rintro _ b8 ⟨ao, a0, a1, ap, aq, ar, a2, a3, rfl, bF⟩; refine ⟨_, q, ?_⟩
   refine have bG := am.cV4 [] bF (zc Pure.dp (zc (Pure.sl q) (zc (Pure.sl q) (zc Pure.dp all_nil)))); qm q <| qi (zv q q) q <| qi (zv q q) q <| zq (cs := [nS, nS, nS, iV 0, nS]) bG z31 q q q fun b9 ca a4 => have au := a4.viewG (Vw.c (Vw.d (Vw.c (Vw.c (Vw.d (Vw.c (Vw.c (Vw.c (Vw.d (Vw.c (Vw.c (Vw.d Vw.refl)))))))))))); zl (cs' := [ao, ap, aq, iV aZ.1.2.2.2.1, ar]) a4 q il31 q (T (au.sliceOne hR1) (T (au.sliceOne hS2) (T (au.sliceOne hS3) (T q (T (au.sliceOne hR4) q))))) q q q fun cb a5 => qa q <| rN <| eA a5.p0 us31 uo31 il31 q <| have a6 := a5.p7; have av := a6.viewG (Vw.c (Vw.c (Vw.d (Vw.c (Vw.c (Vw.d (Vw.c (Vw.c (Vw.d (Vw.c (Vw.c (Vw.d Vw.refl)))))))))))); zl (cs' := [ao, ap, aq, iV aZ.1.2.2.2.1, ar]) a6 q il31 q (T (av.sliceOne hR2) (T (av.sliceOne hS3) (T (av.sliceOne hS4) (T q (T (av.sliceOne hR5) q))))) q q q fun cc a7 => rN <| qm q <| B ?_
   refine Yh q aa (fun aa => ?_) (fun aa => ?_)
   ·cases aa
    exact Z <| qm q <| qi (qt_add q q) q <| qa q <| WL_nil fun a ha => zi <| X <| S1 ha <| Z <| qi (qt_add q q) q <| qm q <| WL_nil fun a ha => ⟨q, ao, a0, a1, ap, aq, ar, a2, a3, ha.s, a7.q1.q5.q6.q6.q6.q6.p4.p4.p4.p4.p4.p5⟩
   cases aa
   exact WP_skip fun a ha => zi <| X <| S1 ha <| Z <| qi (qt_add q q) q <| qm q <| WL_nil fun a ha => ⟨q, ao, a0, a1, ap, aq, ar, a2, a3, ha.s, a7.q1.q5.q6.q6.q6.q6.p4.p4.p4.p4.p4.p5⟩
  cases aa
  exact WP_exit fun a ha => zo (⟨exit_ne, q, ag, ax, ay, ah, aj, ak, az, aA, ha.s, al.p5.p5.p5.p5.p5.p5⟩)
 obtain ⟨cd, ce, cf, cg, a8, ch⟩ := bq
 rintro _ a ci ⟨rfl, aB, bK, bL, aC, aD, aE, bM, bN, ha, aF⟩
 cases h
 exact zn <| X <| S1 ha <| rR <| eA aF.p1 us31 uo31 il31 q <| qm q <| have aw := aF.viewG (Vw.c (Vw.c (Vw.d (Vw.c (Vw.c (Vw.d Vw.refl)))))); zl (cs' := [aB, aC, aD, iV a8, aE]) aF q il31 q (T (aw.sliceOne hR2) (T (aw.sliceOne hS3) (T (aw.sliceOne hS4) (T q (T (aw.sliceOne hR5) q))))) q q q fun cj a9 => qa q <| B <| W fun a ha => have bO := R a9.p0; retct q ha q q (run_loadVar_bx (cs := [aB, aC, aD, iV a8, aE]) us31 uo31 il31 bO) ⟨aB, bK, bL, aC, aD, aE, bM, bN, q, a9.q0.q0.p3.p3.p3.p3⟩
theorem w_impl_listText {w G vp0 p0 r} (h : impl_listTextS p0 = some r) (hGp : GlobP G) (hp0 : Has G tI vp0 p0) (H : Ctx w G) : Calls Tryz.prog 92 #[vp0] w fun e w' => e = .returned (strV r) ∧ Holds M0 w w' [] G := by
 refine F0 27 H Tryz.func92 q fun H => ?_
 refine rR <| qa q <| B <| C <| rR <| qm q <| qz H.ctx (hp0) u23 q <| qi (qt_eql q q) q <| B ?_
 refine Yh q h (fun h => ?_) (fun h => ?_)
 ·cases h
  exact rR <| qa q <| B <| W fun a ha => m (ret1 q ha q ⟨q, H⟩)
 refine y <| rR <| qm q <| qz H.ctx (hp0) u23 q <| O h fun x1 aj h => WL_makeH H aj u38 j9 q (fun _ => ⟨q, q⟩) q q q q q fun v3 w4 H5 => qa q <| B <| C <| rR <| qm q <| qz H5.ctx (hp0.c) u23 q <| qm q <| B <| g <| O h fun o9 ak h => ?_
 refine fun aA al => zp (I := fun (s7, s8) a w2 => (Fr a 27 [(3, v3), (12, vp0), (13, iV (List.length p0 : Int)), (14, iV s7)] ∧ Holds M0 w w2 [.sl 9 .str v3 s8] G)) (O := fun q0 e a w2 => e = .exit 0 ∧ (Fr a 27 [(3, v3)] ∧ Holds M0 w w2 [.sl 9 .str v3 q0] G)) ak ?_ ?_ ?_
 ·exact ⟨al.s, H5⟩
 ·rintro ⟨s7, s8⟩ _ a am aa ⟨ha, ab⟩
  refine S1 ha <| rR <| qi (qt_lss q q) q <| B <| C ?_
  refine Yh q aa (fun aa => ?_) (fun aa => ?_)
  ·refine y <| C <| g <| rR <| qm q <| O aa fun ao ad aa => qe ab (hp0.c) ad u23 i3 q fun _ _ ap => eI u3 ap q <| qa q <| qa q <| B <| Z <| qm q <| qm q <| qm q <| O aa fun ae aq aa => zd q q c93 (w_strconv_Itoa am _ hGp.c ao ae aq ab.ctx) (by rfl) ?_
   rintro _ aE ⟨rfl, ar⟩; refine ⟨_, q, ?_⟩
   refine have af := ab.cN0 [] ar; O aa fun aF ag aa => qb af.ctx hS0 ag u38 i9 q fun aG aH aI au => WL_storeH (fo := 0) (cs' := [strV ae]) af ag au (Upd.whole (Blt.str)) q il9 q q q q fun aJ av => WL_nil fun a ha => zi <| X <| S1 ha <| Z <| qi (qt_add q q) q <| qm q <| WL_nil fun a ha => ?_
   cases aa
   exact ⟨q, ha.s, av⟩
  cases aa
  exact WP_exit fun a ha => zo (⟨exit_ne, q, ha.s, ab⟩)
 rintro _ a aK ⟨rfl, ha, ah⟩
 refine zn <| X <| S1 ha <| C <| zk <| qm q <| O h fun aw ax h => QC q q c126 (fun w' hb => w_strings_Join w' _ v3 o9 hS0 ([44] : List UInt8) aw ax (ah.grow hb).ctx) (by rfl) <| qa q <| Qn ah fun a ha aL ay => X <| S1 ha <| W fun a ha => ?_
 obtain rfl := L h
 exact ret1 q ha q ⟨q, ay.q0⟩
theorem w_impl_answerTo {w G A0 B0 A1 B1 A2 B2 B3 A4 B4 p1 r} (h : impl_answerToS B0 B1 B2 B3 B4 p1 = some r) (hGm : GlobM G) (hGp : GlobP G) (C0 : Has G ty12 A0 B0) (C1 : Has G tI A1 B1) (C2 : Has G tI A2 B2) (C4 : Has G ty14 A4 B4) (H : Ctx w G) : Calls Tryz.prog 45 #[.agg #[A0, A1, A2, iV B3, A4], strV p1] w fun e w' => e = .returned (strV r) ∧ Holds M0 w w' [] G := by
 refine F0 69 H Tryz.func45 q fun H => ?_
 refine C <| Z <| WL_box (cs := [A0, A1, A2, iV B3, A4]) H q q q q fun b1 w2 H3 => qa q <| B <| C <| rR <| qm q <| B <| g <| C <| Z <| qi (qt_seql q q) q <| qa q <| B ?_
 refine Yh q h (fun h => ?_) (fun h => ?_)
 ·refine C <| zk <| qf uf31 fi31_2 nz23 q <| ql u23 H3.p0 q <| O h fun x6 am h => qc q c92 H3 (fun _ => w_impl_listText am hGp.c (C2.c)) <| qa q <| Qn H3 fun a ha w8 ao => X <| S1 ha <| W fun a ha => ?_
  obtain rfl := L h
  exact zj (m (ret1 q ha q ⟨q, ao.q0⟩))
 refine rR <| qi (qt_seql q q) q <| qa q <| B ?_
 refine Yh q h (fun h => ?_) (fun h => ?_)
 ·refine C <| zk <| qf uf31 fi31_3 nz3 q <| ql u3 H3.p0 q <| O h fun aq ar h => QC q q c93 (fun w' hb => w_strconv_Itoa w' _ hGp.c B3 aq ar (H3.grow hb).ctx) (by rfl) <| qa q <| Qn H3 fun a ha a7 au => X <| S1 ha <| W fun a ha => ?_
  obtain rfl := L h
  exact zj (m (ret1 q ha q ⟨q, au.q0⟩))
 refine rR <| qi (qt_seql q q) q <| qa q <| B ?_
 refine Yh q h (fun h => ?_) (fun h => ?_)
 ·refine C <| zk <| qf uf31 fi31_4 nz29 q <| ql u29 H3.p0 q <| qz H3.ctx (C4.c) u29 q <| O h fun aw ax h => QC q q c93 (fun w' hb => w_strconv_Itoa w' _ hGp.c (List.length B4 : Int) aw ax (H3.grow hb).ctx) (by rfl) <| qa q <| Qn H3 fun a ha a8 ay => X <| S1 ha <| W fun a ha => ?_
  obtain rfl := L h
  exact zj (m (ret1 q ha q ⟨q, ay.q0⟩))
 refine rR <| qi (qt_seql q q) q <| qa q <| B ?_
 refine Yh q h (fun h => ?_) (fun h => ?_)
 ·refine rR <| eA H3.p0 us31 uo31 il31 q <| O h fun a9 aA h => U3 q c88 (w_impl_kitchenOf aA (C0.c) (C1.c) (C2.c) (C4.c) H3.ctx) fun ba bb bc bd aB => have ag := H3.cN1 [] aB; O h fun aC aD h => have aE := ag.viewG (Vw.d (Vw.c Vw.refl)); U0 q c87 (w_impl_WorkLeft aD hR0 aE) fun aF aG => have ah := ag.cV0 [] aG all_nil; O h fun aH aI h => have aJ := ah.viewG (Vw.d (Vw.c Vw.refl)); zd q q c93 (w_strconv_Itoa aF _ hGp.c.c aC aH aI aJ) (by rfl) ?_
  rintro _ be ⟨rfl, aK⟩; refine ⟨_, q, ?_⟩
  refine have aL := ah.cV0 [] aK all_nil; qa q <| B <| W fun a ha => ?_
  obtain rfl := L h
  exact zj (m (ret1 q ha q ⟨q, aL.q0.q0⟩))
 refine WP_skip fun a ha => zi <| X <| S1 ha <| rR <| qm q <| O h fun ab aN h => zd q q c94 (w_strings_Cut w2 _ hGm.c p1 ([32] : List UInt8) ab aN H3.ctx) (by rfl) ?_
 rintro _ bf ⟨rfl, aO⟩; refine ⟨_, q, ?_⟩
 refine have aj := H3.cN0 [] aO; qm q <| qi (zv q q) q <| qi (zv q q) q <| qi (zv q q) q <| qa q <| qa q <| qa q <| B <| C <| Z <| qm q <| O h fun ak aP h => U0 q c80 (w_impl_readNumber aP aj.ctx) fun bg aQ => have aa := aj.cN0 [] aQ; qm q <| qi (zv q q) q <| qi (zv q q) q <| qa q <| qa q <| B <| C <| g <| C <| Z <| qm q <| qm q ?_
 refine Ha (res := (ak.2 && (ab.1 == ([98, 105, 108, 108] : List UInt8)))) 2 an (fun ad bh aR => ?_) ?_
 ·exact jm ad q <| ji (qt_seql q q) ad q <| aR 2 q q q (ai ad)
 refine qa q <| B ?_
 refine Yh q h (fun h => ?_) (fun h => ?_)
 ·refine C <| zk <| eA aa.p0 us31 uo31 il31 q <| qm q <| O h fun aS aT h => qc q c95 aa (fun _ => w_impl_TableBill aT (C0.c) (C1.c) (C2.c) (C4.c)) <| qa q <| Qn aa fun a ha bi ae => X <| S1 ha <| C <| rR <| qm q <| qi (qt_lss q q) q <| B ?_
  refine Yh q h (fun h => ?_) (fun h => ?_)
  ·cases h
   exact rR <| qa q <| B <| W fun a ha => m (zj (m (ret1 q ha q ⟨q, ae.q0⟩)))
  refine y <| C <| zk <| qm q <| O h fun aV aW h => QC q q c93 (fun w' hb => w_strconv_Itoa w' _ hGp.c aS aV aW (ae.grow hb).ctx) (by rfl) <| qa q <| Qn ae fun a ha bj aX => X <| S1 ha <| W fun a ha => ?_
  obtain rfl := L h
  exact zj (m (ret1 q ha q ⟨q, aX.q0⟩))
 refine rR <| qm q <| qm q ?_
 refine Ha (res := (ak.2 && (ab.1 == ([102, 114, 101, 101] : List UInt8)))) 2 an (fun af bk aZ => ?_) ?_
 ·exact jm af q <| ji (qt_seql q q) af q <| aZ 2 q q q (ai af)
 refine qa q <| B ?_
 refine Yh q h (fun h => ?_) (fun h => ?_)
 ·refine rR <| qf uf31 fi31_0 nz28 q <| ql u28 aa.p0 q <| qm q <| O h fun bl a0 h => U1 q c96 (w_impl_FreeOf a0 (C0.c) aa.ctx) fun bm bn a1 => have al := aa.cN1 [] a1; O h fun bo a2 h => U0 q c92 (w_impl_listText a2 hGp.c.c hS0 al.ctx) fun bp a3 => have a4 := al.cN0 [] a3; qa q <| B <| W fun a ha => ?_
  obtain rfl := L h
  exact zj (m (ret1 q ha q ⟨q, a4.q0.q0⟩))
 cases h
 exact WP_skip fun a ha => zi <| X <| S1 ha <| rR <| qa q <| B <| W fun a ha => ret1 q ha q ⟨q, aa.q0⟩
end Go.Proofs.YtpklpghbkhegnaaGreatDoor
