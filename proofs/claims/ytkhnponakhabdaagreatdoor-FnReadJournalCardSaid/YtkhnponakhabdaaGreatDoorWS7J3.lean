/- The walks: each Go function computes its shallow function. Printed by a program. -/
import Derived.Test.YtkhnponakhabdaaGreatDoorWS7J2
set_option linter.unusedVariables false
set_option maxRecDepth 10000
set_option maxHeartbeats 8000000
namespace Go.Proofs.YtkhnponakhabdaaGreatDoor
open Go Go.RowKit
theorem w_spec_l7Tickets {w G A0 B0 A1 B1 A2 B2 B3 A4 B4 r} (h : spec_l7TicketsS B0 B1 B2 B3 B4 = some r) (C0 : Has G ty12 A0 B0) (C1 : Has G tI A1 B1) (C2 : Has G tI A2 B2) (C4 : Has G ty14 A4 B4) (H : Ctx w G) : Calls Tryz.prog 56 #[.agg #[A0, A1, A2, iV B3, A4]] w fun e w' => ∃ (v1 : Value), e = .returned (v1) ∧ Holds M0 w w' [.sl 36 ty4 v1 r] G := by
 refine F0 23 H Tryz.func56 q fun H => ?_
 refine C <| Z <| WL_box (cs := [A0, A1, A2, iV B3, A4]) H q q q q fun b1 w2 H3 => qa q <| B <| C <| Z <| zs (t := ty4) (args := []) (xs := ([] : List LP)) H3 (BltL.nil) u89 j36 q q q q q q fun v5 w6 H7 => qa q <| B <| C <| rR <| qa q <| B <| g <| O h fun aA aj h => ?_
 refine fun aB al => zp (I := fun (s9, ae) a w2 => ∃ ad, Fr a 23 [(1, pB b1), (3, ad), (4, iV ae)] ∧ Holds M0 w w2 [.bx b1 27 [A0, A1, A2, iV B3, A4], .sl 36 ty4 ad s9] G) (O := fun q0 e a w2 => e = .exit 0 ∧ ∃ af, Fr a 23 [(3, af)] ∧ Holds M0 w w2 [.sl 36 ty4 af q0] G) aj ?_ ?_ ?_
 ·exact ⟨v5, al.s, H7.p1⟩
 ·rintro ⟨s9, ae⟩ _ a aC aa ⟨ad, ha, ab⟩
  refine S1 ha <| C <| rR <| qm q <| qf uf27 fi27_4 nz25 q <| ql u25 ab.p0 q <| qz ab.ctx (C4.c.c) u25 q <| qi (qt_lss q q) q <| B ?_
  refine Yh q aa (fun aa => ?_) (fun aa => ?_)
  ·refine y <| C <| g <| Z <| qm q <| qf uf27 fi27_4 nz25 q <| ql u25 ab.p0 q <| qm q <| O aa fun am ag aa => qe ab (C4.c.c) ag u25 i38 q fun _ _ ao => qf uf38 fi38_1 nz36 q <| eV u36 ao.s.f q fun aG ah => zs (t := ty4) (args := [.tmp 19]) (xs := ([am.2.1] : List LP)) ah (BltL.cons (Blt.slice hO0) (ah.ctx.sliceList hR0) (BltL.nil)) u89 j36 q q q q q q fun aH aI ap => O aa fun aJ ar aa => zw ap.p3 hS1 ar u89 j36 q q q q q q fun au aK av => qa q <| WL_nil fun a ha => zi <| X <| S1 ha <| Z <| qm q <| qi (qt_add q q) q <| qa q <| WL_nil fun a ha => ?_
   cases aa
   exact ⟨q, au, ha.s, av.q1.q1.p1⟩
  cases aa
  exact WP_exit fun a ha => zo (⟨exit_ne, q, ad, ha.s, ab.q0⟩)
 rintro _ a aL ⟨rfl, ay, ha, az⟩
 refine zn <| X <| S1 ha <| rR <| qm q <| qa q <| B <| W fun a ha => ?_
 obtain rfl := L h
 exact ret1 q ha q ⟨ay, q, az⟩
theorem w_spec_KitchenValid {w G vp0 p0 r} (h : spec_KitchenValidS p0 = some r) (hp0 : Has G ty4 vp0 p0) (H : Ctx w G) : Calls Tryz.prog 102 #[vp0] w fun e w' => e = .returned (.bool r) ∧ Holds M0 w w' [] G := by
 refine F0 19 H Tryz.func102 q fun H => ?_
 refine rR <| qa q <| B <| C <| rR <| qa q <| B <| g <| O h fun o2 aj h => ?_
 refine fun a4 ak => zp (I := fun s1 a w2 => (Fr a 19 [(0, vp0), (3, iV s1)] ∧ Holds M0 w w2 [] G)) (O := fun o e a w2 => match o with | .inl _ => e = .exit 0 ∧ (Fr a 19 [(0, vp0)] ∧ Holds M0 w w2 [] G) | .inr q0 => e = .ret ∧ (Fr a 19 [(2, .bool q0)] ∧ Holds M0 w w2 [] G)) aj ?_ ?_ ?_
 ·exact ⟨ak.s, H⟩
 ·rintro s1 _ a w6 aa ⟨ha, ab⟩
  refine S1 ha <| C <| rR <| qm q <| qm q <| qz ab.ctx (hp0) u89 q <| qi (qt_lss q q) q <| B ?_
  refine Yh q aa (fun aa => ?_) (fun aa => ?_)
  ·refine y <| C <| g <| C <| zk <| qm q <| qm q <| O aa fun ar ad aa => qe ab (hp0) ad u89 i36 q fun _ _ al => eV u36 al q fun ax ae => O aa fun ay am aa => qc q c40 ae (fun _ => w_spec_TicketValid am hR0) <| qi (qt_not q) q <| Qn ae fun a ha az af => X <| S1 ha ?_
   refine Yh q aa (fun aa => ?_) (fun aa => ?_)
   ·cases aa
    exact rR <| qa q <| B <| W fun a ha => zj (m (⟨ret_ne, q, ha.s, af.q0⟩))
   cases aa
   exact WP_skip fun a ha => zi <| X <| S1 ha <| Z <| qm q <| qi (qt_add q q) q <| qa q <| WL_nil fun a ha => ⟨q, ha.s, af.q0⟩
  cases aa
  exact WP_exit fun a ha => zo (⟨exit_ne, q, ha.s, ab⟩)
 intro e a aA ag
 rcases o2 with o2 | o2
 ·obtain ⟨rfl, ha, ah⟩ := ag
  cases h
  exact zn <| X <| S1 ha <| rR <| qm q <| qz ah.ctx (hp0) u89 q <| qi (qt_leq q q) q <| qa q <| B <| W fun a ha => ret1 q ha q ⟨q, ah⟩
 obtain ⟨rfl, ha, aq⟩ := ag
 obtain rfl := L h
 exact zj (m (ret1 q ha q ⟨q, aq⟩))
theorem w_spec_l4Copy {w G vp0 p0 r} (h : spec_l4CopyS p0 = some r) (hp0 : Has G ty4 vp0 p0) (H : Ctx w G) : Calls Tryz.prog 143 #[vp0] w fun e w' => ∃ (v1 : Value), e = .returned (v1) ∧ Holds M0 w w' [.sl 36 ty4 v1 r] G := by
 refine F0 22 H Tryz.func143 q fun H => ?_
 refine rR <| qa q <| B <| C <| Z <| zs (t := ty4) (args := []) (xs := ([] : List LP)) H (BltL.nil) u89 j36 q q q q q q fun v1 w2 H3 => qa q <| B <| C <| rR <| qa q <| B <| g <| O h fun o7 aj h => ?_
 refine fun a9 ak => zp (I := fun (s5, s6) a w2 => ∃ ab, Fr a 22 [(0, vp0), (3, ab), (4, iV s6)] ∧ Holds M0 w w2 [.sl 36 ty4 ab s5] G) (O := fun q0 e a w2 => e = .exit 0 ∧ ∃ ae, Fr a 22 [(3, ae)] ∧ Holds M0 w w2 [.sl 36 ty4 ae q0] G) aj ?_ ?_ ?_
 ·exact ⟨v1, ak.s, H3⟩
 ·rintro ⟨s5, s6⟩ _ a aC aa ⟨ab, ha, ad⟩
  refine S1 ha <| C <| rR <| qm q <| qm q <| qz ad.ctx (hp0.c) u89 q <| qi (qt_lss q q) q <| B ?_
  refine Yh q aa (fun aa => ?_) (fun aa => ?_)
  ·refine y <| C <| g <| Z <| qm q <| zs (t := ty2) (args := []) (xs := ([] : LP)) ad (BltL.nil) u36 j123 q q q q q q fun aD aE af => qm q <| qm q <| O aa fun aF ag aa => qe af (hp0.c.c) ag u89 i36 q fun _ _ al => eV u36 al q fun aJ am => O aa fun ap aq aa => zw am.p1 hR1 aq u36 j123 q q q q q q fun aK aL ar => have ah := ar.freeze; zs (t := ty4) (args := [.tmp 18]) (xs := ([ap] : List LP)) ah (BltL.cons (Blt.slice hO0) (ah.ctx.sliceList hR0) (BltL.nil)) u89 j36 q q q q q q fun aM aN au => O aa fun aO aw aa => zw au.p3 hS1 aw u89 j36 q q q q q q fun ax aP ay => qa q <| WL_nil fun a ha => ?_
   cases aa
   exact zi <| X <| S1 ha <| Z <| qm q <| qi (qt_add q q) q <| qa q <| WL_nil fun a ha => ⟨q, ax, ha.s, ay.q1.q1.q1⟩
  cases aa
  exact WP_exit fun a ha => zo (⟨exit_ne, q, ab, ha.s, ad⟩)
 rintro _ a aQ ⟨rfl, aA, ha, aB⟩
 refine zn <| X <| S1 ha <| rR <| qm q <| qa q <| B <| W fun a ha => ?_
 obtain rfl := L h
 exact ret1 q ha q ⟨aA, q, aB⟩
theorem w_spec_l4Next {w G p0 p1 r} (h : spec_l4NextS p0 p1 = some r) (H : Ctx w G) : Calls Tryz.prog 160 #[iV p0, iV p1] w fun e w' => e = .returned (iV r) ∧ Holds M0 w w' [] G := by
 refine F0 33 H Tryz.func160 q fun H => ?_
 refine rR <| qa q <| B <| C <| g <| rR <| qm q <| qi (qt_eql q q) q <| qm q ?_
 refine Ha (res := ((p1 == 0) && (p0 == 0))) 2 an (fun aa K2 af => ?_) ?_
 ·exact jm aa q <| ji (qt_eql q q) aa q <| af 2 q q q (ai aa)
 refine qa q <| B ?_
 refine Yh q h (fun h => ?_) (fun h => ?_)
 ·cases h
  exact rR <| qa q <| B <| W fun a ha => zj (m (ret1 q ha q ⟨q, H⟩))
 refine rR <| qm q <| qi (qt_eql q q) q <| qm q ?_
 refine Ha (res := ((p1 == 1) && (p0 == 1))) 2 an (fun ab K5 ag => ?_) ?_
 ·exact jm ab q <| ji (qt_eql q q) ab q <| ag 2 q q q (ai ab)
 refine qa q <| B ?_
 refine Yh q h (fun h => ?_) (fun h => ?_)
 ·cases h
  exact rR <| qa q <| B <| W fun a ha => zj (m (ret1 q ha q ⟨q, H⟩))
 refine rR <| qm q <| qi (qt_eql q q) q <| qm q ?_
 refine Ha (res := ((p1 == 2) && (p0 == 2))) 2 an (fun ad K8 ah => ?_) ?_
 ·exact jm ad q <| ji (qt_eql q q) ad q <| ah 2 q q q (ai ad)
 refine qa q <| B ?_
 refine Yh q h (fun h => ?_) (fun h => ?_)
 ·cases h
  exact rR <| qa q <| B <| W fun a ha => zj (m (ret1 q ha q ⟨q, H⟩))
 refine rR <| qm q <| qi (qt_eql q q) q <| qm q ?_
 refine Ha (res := ((p1 == 3) && (decide (p0 < 3)))) 2 an (fun ae ak aj => ?_) ?_
 ·exact jm ae q <| ji (qt_lss q q) ae q <| aj 2 q q q (ai ae)
 refine qa q <| B ?_
 refine Yh q h (fun h => ?_) (fun h => ?_)
 ·cases h
  exact rR <| qa q <| B <| W fun a ha => zj (m (ret1 q ha q ⟨q, H⟩))
 cases h
 exact WP_skip fun a ha => zi <| X <| S1 ha <| rR <| qa q <| B <| W fun a ha => ret1 q ha q ⟨q, H⟩
theorem w_spec_TicketDo {w G vp0 p0 p1 p2 r} (h : spec_TicketDoS p0 p1 p2 = some r) (hp0 : Has G ty2 vp0 p0) (H : Ctx w G) : Calls Tryz.prog 144 #[vp0, iV p1, iV p2] w fun e w' => ∃ (v1 : Value), e = .returned (.tuple #[v1, .bool r.2]) ∧ Holds M0 w w' [.sl 123 ty2 v1 r.1] G := by
 refine F0 46 H Tryz.func144 q fun H => ?_
 refine rR <| qa q <| qa q <| B <| C <| C <| zk <| qm q <| O h fun x1 ak h => qc q c40 H (fun _ => w_spec_TicketValid ak (hp0)) <| qi (qt_not q) q <| Qn H fun a ha w3 H5 => X <| S1 ha ?_
 refine Yh q h (fun h => ?_) (fun h => ?_)
 ·cases h
  exact C <| Z <| zs (t := ty2) (args := []) (xs := ([] : LP)) H5 (BltL.nil) u36 j123 q q q q q q fun v7 w8 H9 => qa q <| qa q <| B <| W fun a ha => m (ret2 q ha q q ⟨v7, q, H9⟩)
 refine y <| C <| Z <| zs (t := ty2) (args := []) (xs := ([] : LP)) H5 (BltL.nil) u36 j123 q q q q q q fun aB aC al => qm q <| O h fun aD am h => zw al (hp0.c) am u36 j123 q q q q q q fun ab aE ad => qa q <| B <| C <| C <| zk <| qm q <| qm q <| qz ad.ctx (hp0.c) u36 q <| qi (qt_sub q q) q <| O h fun aF ao h => qc q c39 ad (fun _ => w_spec_l1In ao) <| qi (qt_not q) q <| Qn ad fun a ha aG aa => X <| S1 ha ?_
 refine Yh q h (fun h => ?_) (fun h => ?_)
 ·cases h
  exact rR <| qm q <| qa q <| qa q <| B <| W fun a ha => m (ret2 q ha q q ⟨ab, q, aa⟩)
 refine y <| C <| zk <| qm q <| qm q <| O h fun aH af h => qe aa (hp0.c) af u36 i123 q fun _ _ ap => qf uf123 fi123_1 nz3 q <| eI u3 ap.s q <| qm q <| O h fun aq ar h => qc q c160 aa (fun _ => w_spec_l4Next ar) <| qa q <| Qn aa fun a ha aL ae => X <| S1 ha <| C <| rR <| qm q <| qi (qt_lss q q) q <| B ?_
 refine Yh q h (fun h => ?_) (fun h => ?_)
 ·cases h
  exact rR <| qm q <| qa q <| qa q <| B <| W fun a ha => m (ret2 q ha q q ⟨ab, q, ae⟩)
 refine y <| rR <| qm q <| qm q <| qm q <| O h fun aM ag h => qb ae.ctx hS0 ag u36 i123 q fun aN aO aP au => qf uf123 fi123_1 nz3 q <| WL_storeH (fo := 1) (cs' := [iV aq]) ae ag au (Upd.snd (Upd.whole (Blt.int))) q il3 q q q q fun aQ ah => B <| C <| C <| zk <| qm q <| O h fun aR av h => qc q c40 ah (fun _ => w_spec_TicketValid av hS0) <| qi (qt_not q) q <| Qn ah fun a ha aS aj => X <| S1 ha ?_
 refine Yh q h (fun h => ?_) (fun h => ?_)
 ·refine C <| Z <| zs (t := ty2) (args := []) (xs := ([] : LP)) aj (BltL.nil) u36 j123 q q q q q q fun aT aU aw => qm q <| O h fun aV ax h => zw aw (hp0.c.c) ax u36 j123 q q q q q q fun ay aW az => qa q <| qa q <| B <| W fun a ha => ?_
  cases h
  exact m (ret2 q ha q q ⟨ay, q, az.q1⟩)
 cases h
 exact y <| rR <| qm q <| qa q <| qa q <| B <| W fun a ha => ret2 q ha q q ⟨ab, q, aj⟩
theorem w_spec_TicketMay {w G vp0 p0 r} (h : spec_TicketMayS p0 = some r) (hp0 : Has G ty2 vp0 p0) (H : Ctx w G) : Calls Tryz.prog 161 #[vp0] w fun e w' => ∃ (v1 : Value), e = .returned (v1) ∧ Holds M0 w w' [.sl 3 tI v1 r] G := by
 refine F0 26 H Tryz.func161 q fun H => ?_
 refine rR <| qa q <| B <| C <| Z <| zs (t := tI) (args := []) (xs := ([] : List Int)) H (BltL.nil) u24 j3 q q q q q q fun v1 w2 H3 => qa q <| B <| C <| rR <| qa q <| B <| g <| O h fun o7 ag h => ?_
 refine fun a9 ah => zp (I := fun (s5, s6) a w2 => ∃ ab, Fr a 26 [(0, vp0), (3, ab), (4, iV s6)] ∧ Holds M0 w w2 [.sl 3 tI ab s5] G) (O := fun q0 e a w2 => e = .exit 0 ∧ ∃ ae, Fr a 26 [(3, ae)] ∧ Holds M0 w w2 [.sl 3 tI ae q0] G) ag ?_ ?_ ?_
 ·exact ⟨v1, ah.s, H3⟩
 ·rintro ⟨s5, s6⟩ _ a ax aa ⟨ab, ha, ad⟩
  refine S1 ha <| C <| rR <| qm q <| qm q <| qz ad.ctx (hp0.c) u36 q <| qi (qt_lss q q) q <| B ?_
  refine Yh q aa (fun aa => ?_) (fun aa => ?_)
  ·refine y <| C <| g <| rR <| qm q <| qm q <| O aa fun ay aj aa => U1 q c144 (w_spec_TicketDo aj (hp0.c) ad.ctx) fun az aA ak => have af := ad.cN1 [] ak; qm q <| qi (zv q q) q <| qi (zv q q) q <| qa q <| qa q <| rN <| qm q <| B ?_
   refine Yh q aa (fun aa => ?_) (fun aa => ?_)
   ·refine Z <| qm q <| qm q <| zs (t := tI) (args := [.tmp 22]) (xs := ([s6] : List Int)) af (BltL.cons (Blt.int) q (BltL.nil)) u24 j3 q q q q q q fun aB aC al => O aa fun aD ao aa => zw al.p2 hS1 ao u24 j3 q q q q q q fun ap aE aq => qa q <| WL_nil fun a ha => zi <| X <| S1 ha <| Z <| qm q <| qi (qt_add q q) q <| qa q <| WL_nil fun a ha => ?_
    cases aa
    exact ⟨q, ap, ha.s, aq.q1.q1⟩
   cases aa
   exact WP_skip fun a ha => zi <| X <| S1 ha <| Z <| qm q <| qi (qt_add q q) q <| qa q <| WL_nil fun a ha => ⟨q, ab, ha.s, af.q0⟩
  cases aa
  exact WP_exit fun a ha => zo (⟨exit_ne, q, ab, ha.s, ad⟩)
 rintro _ a aF ⟨rfl, av, ha, aw⟩
 refine zn <| X <| S1 ha <| rR <| qm q <| qa q <| B <| W fun a ha => ?_
 obtain rfl := L h
 exact ret1 q ha q ⟨av, q, aw⟩
theorem w_spec_NextFire {w G vp0 p0 r} (h : spec_NextFireS p0 = some r) (hp0 : Has G ty4 vp0 p0) (H : Ctx w G) : Calls Tryz.prog 145 #[vp0] w fun e w' => e = .returned (.tuple #[iV r.1, iV r.2]) ∧ Holds M0 w w' [] G := by
 refine F0 28 H Tryz.func145 q fun H => ?_
 refine rR <| qa q <| qa q <| B <| C <| rR <| qa q <| B <| g <| O h fun o2 am h => ?_
 refine fun a4 ao => zp (I := fun s1 a w2 => (Fr a 28 [(0, vp0), (4, iV s1)] ∧ Holds M0 w w2 [] G)) (O := fun o e a w2 => match o with | .inl _ => e = .exit 0 ∧ (Fr a 28 [] ∧ Holds M0 w w2 [] G) | .inr (q0, q1) => e = .ret ∧ (Fr a 28 [(2, iV q0), (3, iV q1)] ∧ Holds M0 w w2 [] G)) am ?_ ?_ ?_
 ·exact ⟨ao.s, H⟩
 ·rintro s1 _ a w6 aa ⟨ha, ae⟩
  refine S1 ha <| C <| C <| zk <| qm q <| qm q <| qz ae.ctx (hp0) u89 q <| qi (qt_lss q q) q <| qm q <| O aa fun ap ab aa => ?_
  refine Ga (res := ap) 2 (if_f · ab) (fun af aD aq => ?_) ?_
  ·exact have ab := if_t af ab; jm af q <| O ab fun aE ar ab => jc af q c102 ae (fun _ => w_spec_KitchenValid ar (hp0)) <| aq 2 q q q ab
  refine Qn ae fun a ha aF ag => X <| S1 ha ?_
  refine Yh q aa (fun aa => ?_) (fun aa => ?_)
  ·refine y <| C <| g <| rR <| qm q <| qm q <| O aa fun aG ah aa => qe ag (hp0) ah u89 i36 q fun _ _ au => eV u36 au q fun aK aj => O aa fun aL av aa => U1 q c161 (w_spec_TicketMay av hR0 aj.ctx) fun aM aN aw => have ad := aj.cN1 [] aw; qa q <| rN <| qm q <| qz ad.ctx hS0 u24 q <| qi (qt_gtr q q) q <| B ?_
   refine Yh q aa (fun aa => ?_) (fun aa => ?_)
   ·refine C <| WP_quiet (by kernel_rfl) (by kernel_rfl) <| qm q <| qm q <| O aa fun aO ak aa => qe ad hS0 ak u24 i3 q fun _ _ ax => eI u3 ax q <| qa q <| qa q <| Qn ad fun a ha aS ay => X <| S1 ha <| W fun a ha => ?_
    cases aa
    exact zj (m (⟨ret_ne, q, ha.s, ay.q0.q0⟩))
   cases aa
   exact WP_skip fun a ha => zi <| X <| S1 ha <| Z <| qm q <| qi (qt_add q q) q <| qa q <| WL_nil fun a ha => ⟨q, ha.s, ad.q0.q0⟩
  cases aa
  exact WP_exit fun a ha => zo (⟨exit_ne, q, ha.s, ag⟩)
 intro e a aT al
 rcases o2 with o2 | o2
 ·obtain ⟨rfl, ha, aB⟩ := al
  cases h
  exact zn <| X <| S1 ha <| rR <| qa q <| qa q <| B <| W fun a ha => ret2 q ha q q ⟨q, aB⟩
 obtain ⟨aU, aV⟩ := o2
 obtain ⟨rfl, ha, aC⟩ := al
 cases h
 exact zj (m (ret2 q ha q q ⟨q, aC⟩))
theorem w_spec_WorkStep {w G vp0 p0 r} (h : spec_WorkStepS p0 = some r) (hp0 : Has G ty4 vp0 p0) (H : Ctx w G) : Calls Tryz.prog 126 #[vp0] w fun e w' => ∃ (v1 : Value), e = .returned (.tuple #[v1, .bool r.2]) ∧ Holds M0 w w' [.sl 36 ty4 v1 r.1] G := by
 refine F0 77 H Tryz.func126 q fun H => ?_
 refine rR <| qa q <| qa q <| B <| C <| C <| zk <| qm q <| O h fun x1 aN h => qc q c102 H (fun _ => w_spec_KitchenValid aN (hp0)) <| qi (qt_not q) q <| Qn H fun a ha w3 H5 => X <| S1 ha ?_
 refine Yh q h (fun h => ?_) (fun h => ?_)
 ·cases h
  exact C <| Z <| zs (t := ty4) (args := []) (xs := ([] : List LP)) H5 (BltL.nil) u89 j36 q q q q q q fun v7 w8 H9 => qa q <| qa q <| B <| W fun a ha => m (ret2 q ha q q ⟨v7, q, H9⟩)
 refine y <| rR <| qm q <| O h fun bu aO h => U1 q c143 (w_spec_l4Copy aO (hp0) H5.ctx) fun ab bv aP => have aQ := H5.cN1 [] aP; qa q <| B <| C <| rR <| qa q <| B <| g <| O h fun ah aR h => ?_
 refine fun bw aS => zp (I := fun (ag, ar) a w2 => (Fr a 77 [(0, vp0), (4, ab), (5, iV ag)] ∧ Holds M0 w w2 [.sl 36 ty4 ab ar] G)) (O := fun o e a w2 => match o with | .inl q0 => e = .exit 0 ∧ (Fr a 77 [(0, vp0), (4, ab)] ∧ Holds M0 w w2 [.sl 36 ty4 ab q0] G) | .inr (q0, q1, q2) => e = .ret ∧ ∃ ad, Fr a 77 [(2, ad), (3, .bool q1)] ∧ Holds M0 w w2 [.sl 36 ty4 ad q0] G) aR ?_ ?_ ?_
 ·exact ⟨aS.s, aQ⟩
 ·rintro ⟨ag, ar⟩ _ a bz ae ⟨ha, au⟩
  refine S1 ha <| C <| rR <| qm q <| qi (qt_geq q q) q <| B ?_
  refine Yh q ae (fun ae => ?_) (fun ae => ?_)
  ·refine y <| C <| g <| rR <| qa q <| B <| g <| O ae fun aj aT ae => ?_
   refine fun bA aU => zp (I := fun (ak, av) a w2 => (Fr a 77 [(0, vp0), (4, ab), (5, iV ag), (6, iV ak)] ∧ Holds M0 w w2 [.sl 36 ty4 ab av] G)) (O := fun o e a w2 => match o with | .inl q0 => e = .exit 2 ∧ (Fr a 77 [(0, vp0), (4, ab), (5, iV ag)] ∧ Holds M0 w w2 [.sl 36 ty4 ab q0] G) | .inr (q0, q1, q2) => e = .ret ∧ ∃ ad, Fr a 77 [(2, ad), (3, .bool q1)] ∧ Holds M0 w w2 [.sl 36 ty4 ad q0] G) aT ?_ ?_ ?_
   ·exact ⟨aU.s, au⟩
   ·rintro ⟨ak, av⟩ _ a bB af ⟨ha, ao⟩
    refine S1 ha <| C <| rR <| qm q <| qm q <| qz ao.ctx (hp0.c) u89 q <| qi (qt_lss q q) q <| B ?_
    refine Yh q af (fun af => ?_) (fun af => ?_)
    ·refine y <| C <| g <| rR <| qa q <| B <| g <| O af fun al aV af => ?_
     refine fun bC aW => zp (I := fun (aw, ax) a w2 => (Fr a 77 [(0, vp0), (4, ab), (5, iV ag), (6, iV ak), (7, iV aw)] ∧ Holds M0 w w2 [.sl 36 ty4 ab ax] G)) (O := fun o e a w2 => match o with | .inl q0 => e = .exit 4 ∧ (Fr a 77 [(0, vp0), (4, ab), (5, iV ag), (6, iV ak)] ∧ Holds M0 w w2 [.sl 36 ty4 ab q0] G) | .inr (q0, q1, q2) => e = .ret ∧ ∃ ad, Fr a 77 [(2, ad), (3, .bool q1)] ∧ Holds M0 w w2 [.sl 36 ty4 ad q0] G) aV ?_ ?_ ?_
     ·exact ⟨aW.s, ao⟩
     ·rintro ⟨aw, ax⟩ _ a bD aa ⟨ha, ay⟩
      refine S1 ha <| C <| rR <| qm q <| qm q <| qm q <| O aa fun bE az aa => qe ay (hp0.c) az u89 i36 q fun _ _ aX => eV u36 aX q fun bI am => qz am.ctx hR0 u36 q <| qi (qt_lss q q) q <| B ?_
      refine Yh q aa (fun aa => ?_) (fun aa => ?_)
      ·refine y <| C <| g <| rR <| qm q <| qm q <| O aa fun bJ aA aa => qe am (hp0.c.c) aA u89 i36 q fun _ _ aY => eV u36 aY q fun bN aB => qm q <| qm q <| O aa fun bO aZ aa => U1 q c144 (w_spec_TicketDo aZ hR0 aB.ctx) fun a0 bP a1 => have ap := aB.cN1 [] a1; qm q <| qi (zv q q) q <| qi (zv q q) q <| qa q <| qa q <| rN <| qm q <| B ?_
       refine Yh q aa (fun aa => ?_) (fun aa => ?_)
       ·refine rR <| qm q <| qm q <| qm q <| O aa fun bQ aC aa => qb ap.ctx hS3 aC u89 i36 q fun bR bS bT a2 => have aD := ap.p3.p1.freeze.p1; WL_storeH (fo := 0) (cs' := [a0]) aD aC a2 (Upd.whole (Blt.slice hO1)) (aD.ctx.sliceList hR1) il36 q q q q fun bU a6 => rN <| qm q <| qa q <| qa q <| B <| W fun a ha => ?_
        cases aa
        exact zj (m (⟨ret_ne, q, ab, ha.s, a6.q1.q1.q1⟩))
       cases aa
       exact WP_skip fun a ha => zi <| X <| S1 ha <| Z <| qm q <| qi (qt_add q q) q <| qa q <| WL_nil fun a ha => ⟨q, ha.s, ap.q0.q0.q0⟩
      cases aa
      exact WP_exit fun a ha => zo (⟨exit_ne, q, ha.s, am.q0⟩)
     intro e a bV aE
     rcases al with al | al
     ·obtain ⟨rfl, ha, ba⟩ := aE
      cases af
      exact zn <| zi <| X <| S1 ha <| Z <| qm q <| qi (qt_add q q) q <| qa q <| WL_nil fun a ha => ⟨q, ha.s, ba⟩
     obtain ⟨bW, bX, bY⟩ := al
     obtain ⟨rfl, bb, ha, bc⟩ := aE
     cases af
     exact zj (zj (m (⟨ret_ne, q, bb, ha.s, bc⟩)))
    cases af
    exact WP_exit fun a ha => zo (⟨exit_ne, q, ha.s, ao⟩)
   intro e a bZ aF
   rcases aj with aj | aj
   ·obtain ⟨rfl, ha, bd⟩ := aF
    cases ae
    exact zn <| zi <| X <| S1 ha <| Z <| qm q <| qi (qt_sub q q) q <| qa q <| WL_nil fun a ha => ⟨q, ha.s, bd⟩
   obtain ⟨p105, b0, b4⟩ := aj
   obtain ⟨rfl, be, ha, bf⟩ := aF
   cases ae
   exact zj (zj (m (⟨ret_ne, q, be, ha.s, bf⟩)))
  cases ae
  exact WP_exit fun a ha => zo (⟨exit_ne, q, ha.s, au⟩)
 intro e a b5 aG
 rcases ah with ah | ah
 ·obtain ⟨rfl, ha, aH⟩ := aG
  refine zn <| X <| S1 ha <| rR <| qm q <| O h fun b6 bg h => U0 q c145 (w_spec_NextFire bg (hp0.c) aH.ctx) fun b7 bh => have aq := aH.cN0 [] bh; qm q <| qi (zv q q) q <| qi (zv q q) q <| qa q <| qa q <| B <| C <| rR <| qm q <| qi (qt_lss q q) q <| B ?_
  refine Yh q h (fun h => ?_) (fun h => ?_)
  ·cases h
   exact rR <| qm q <| qa q <| qa q <| B <| W fun a ha => m (ret2 q ha q q ⟨ab, q, aq⟩)
  refine y <| rR <| qm q <| qm q <| O h fun b8 aI h => qe aq (hp0.c) aI u89 i36 q fun _ _ bi => eV u36 bi q fun cc aJ => qm q <| O h fun cd bj h => U1 q c144 (w_spec_TicketDo bj hR0 aJ.ctx) fun bk ce bl => have aK := aJ.cN1 [] bl; qm q <| qi (zv q q) q <| qi (zv q q) q <| qa q <| qa q <| rN <| qm q <| qm q <| qm q <| O h fun cf aL h => qb aK.ctx hS2 aL u89 i36 q fun cg ch ci bm => have aM := aK.p2.p1.freeze.p1; WL_storeH (fo := 0) (cs' := [bk]) aM aL bm (Upd.whole (Blt.slice hO1)) (aM.ctx.sliceList hR1) il36 q q q q fun cj bq => rN <| qm q <| qa q <| qa q <| B <| W fun a ha => ?_
  cases h
  exact ret2 q ha q q ⟨ab, q, bq.q1.q1⟩
 obtain ⟨ck, cl, cm⟩ := ah
 obtain ⟨rfl, bs, ha, bt⟩ := aG
 cases h
 exact zj (m (ret2 q ha q q ⟨bs, q, bt⟩))
theorem w_spec_l7Work {w G A0 B0 A1 B1 A2 B2 B3 A4 B4 r} (h : spec_l7WorkS B0 B1 B2 B3 B4 = some r) (H : Ctx w ([.sl 70 ty12 A0 B0, .sl 3 tI A1 B1, .sl 3 tI A2 B2, .sl 38 ty14 A4 B4] ++ G)) : Calls Tryz.prog 100 #[.agg #[A0, A1, A2, iV B3, A4]] w fun e w' => ∃ (v1 : Value) (v2 : Value) (v3 : Value) (v4 : Value), e = .returned (.tuple #[.agg #[v1, v2, v3, iV r.1.2.2.2.1, v4], .bool r.2]) ∧ Holds (([.sl 70 ty12 A0 B0, .sl 3 tI A1 B1, .sl 3 tI A2 B2, .sl 38 ty14 A4 B4] : List Res).flatMap Res.own) w w' [.sl 70 ty12 v1 r.1.1, .sl 3 tI v2 r.1.2.1, .sl 3 tI v3 r.1.2.2.1, .sl 38 ty14 v4 r.1.2.2.2.2] G := by
 refine F1 33 H Tryz.func100 q fun H => ?_
 refine C <| Z <| WL_box (cs := [A0, A1, A2, iV B3, A4]) H q q q q fun b1 w2 H3 => zq (cs := [nS, nS, nS, iV 0, nS]) H3 z27 q q q fun b5 w6 H7 => qa q <| rN <| eA H7.p1 us27 uo27 il27 q <| O h fun aP aw h => U1 q c56 (w_spec_l7Tickets aw hS2 hS3 hS4 hS5 H7.ctx) fun aQ aR ax => have ah := H7.cN1 [] ax; O h fun ay az h => U1 q c126 (w_spec_WorkStep az hS0 ah.ctx) fun aj aS aA => have af := ah.cN1 [] aA; qm q <| qi (zv q q) q <| qi (zv q q) q <| qa q <| qa q <| B <| C <| rR <| qm q <| qi (qt_not q) q <| B ?_
 refine Yh q h (fun h => ?_) (fun h => ?_)
 ·cases h
  exact rR <| eA af.p3 us27 uo27 il27 q <| have ab := af.p2; zl (cs' := [A0, A1, A2, iV B3, A4]) ab q il27 q (T (ab.ctx.sliceOne hS4) (T (ab.ctx.sliceOne hS5) (T (ab.ctx.sliceOne hS6) (T q (T (ab.ctx.sliceOne hS7) q))))) q q q fun aT ak => qa q <| B <| W fun a ha => have aB := R ak.p0; m (retct q ha q q (run_loadVar_bx (cs := [A0, A1, A2, iV B3, A4]) us27 uo27 il27 aB) ⟨A0, A1, A2, A4, q, ak.q0.q0.q0.q0.p3.p3.p3.p3⟩)
 refine y <| C <| rR <| qa q <| B <| g <| O h fun aU aD h => ?_
 refine fun aV aF => zp (I := fun (al, am) a w2 => (Fr a 33 [(1, pB b1), (2, pB b5), (4, aj), (6, iV al)] ∧ Holds (([.sl 70 ty12 A0 B0, .sl 3 tI A1 B1, .sl 3 tI A2 B2, .sl 38 ty14 A4 B4] : List Res).flatMap Res.own) w w2 [.bx b1 27 [A0, A1, A2, iV B3, A4], .sl 70 ty12 A0 B0, .sl 3 tI A1 B1, .sl 3 tI A2 B2, .sl 38 ty14 A4 am, .bx b5 27 [nS, nS, nS, iV 0, nS], .sl 36 ty4 aj ay.1] G)) (O := fun q0 e a w2 => e = .exit 0 ∧ (Fr a 33 [(1, pB b1), (2, pB b5)] ∧ Holds (([.sl 70 ty12 A0 B0, .sl 3 tI A1 B1, .sl 3 tI A2 B2, .sl 38 ty14 A4 B4] : List Res).flatMap Res.own) w w2 [.bx b1 27 [A0, A1, A2, iV B3, A4], .sl 70 ty12 A0 B0, .sl 3 tI A1 B1, .sl 3 tI A2 B2, .sl 38 ty14 A4 q0, .bx b5 27 [nS, nS, nS, iV 0, nS]] G)) aD ?_ ?_ ?_
 ·exact ⟨aF.s, af.q1.p1.p6.p6.p6.p6.p6⟩
 ·rintro ⟨al, am⟩ _ a aW aa ⟨ha, ae⟩
  refine S1 ha <| C <| rR <| qm q <| qf uf27 fi27_4 nz25 q <| ql u25 ae.p0 q <| qz ae.ctx hS4 u25 q <| qi (qt_lss q q) q <| B ?_
  refine Yh q aa (fun aa => ?_) (fun aa => ?_)
  ·refine y <| C <| g <| WP_tail 7 (by kernel_rfl) (by kernel_rfl) fun aX aG => have ag := ae.grow aG; qf uf27 fi27_4 nz25 q <| ql u25 ag.p0 q <| qm q <| qm q <| qm q <| O aa fun aY ao aa => qe ag hS6 ao u89 i36 q fun _ _ aH => eV u36 aH q fun aI ap => SL_nil <| O aa fun a2 aq aa => qb ap.ctx hS5 aq u25 i38 q fun a3 a4 a5 aJ => qf uf38 fi38_1 nz36 q <| have ar := ap.p5; WL_storeH (fo := 1) (cs' := [aI]) ar aq aJ (Upd.snd (Upd.fst (Upd.whole (Blt.slice hO1)) q)) (ar.ctx.sliceList hR1) il36 q q q q fun a6 aK => WL_nil fun a ha => zi <| X <| S1 ha <| Z <| qm q <| qi (qt_add q q) q <| qa q <| WL_nil fun a ha => ?_
   cases aa
   exact ⟨q, ha.s, aK.q1.p6.p6.p2.p6.p6.p6.p6⟩
  cases aa
  exact WP_exit fun a ha => zo (⟨exit_ne, q, ha.s, ae.q6.p5.p5.p5.p5.p5.p5⟩)
 rintro _ a a7 ⟨rfl, ha, au⟩
 cases h
 exact zn <| X <| S1 ha <| rR <| eA au.p0 us27 uo27 il27 q <| have ad := au.p5; zl (cs' := [A0, A1, A2, iV B3, A4]) ad q il27 q (T (ad.ctx.sliceOne hS2) (T (ad.ctx.sliceOne hS3) (T (ad.ctx.sliceOne hS4) (T q (T (ad.ctx.sliceOne hS5) q))))) q q q fun a8 av => qa q <| B <| W fun a ha => have aN := R av.p0; retct q ha q q (run_loadVar_bx (cs := [A0, A1, A2, iV B3, A4]) us27 uo27 il27 aN) ⟨A0, A1, A2, A4, q, av.q0.q0.p3.p3.p3.p3⟩
theorem w_spec_TicketCourse {w G vp0 p0 r} (h : spec_TicketCourseS p0 = some r) (hp0 : Has G ty2 vp0 p0) (H : Ctx w G) : Calls Tryz.prog 146 #[vp0] w fun e w' => e = .returned (iV r) ∧ Holds M0 w w' [] G := by
 refine F0 40 H Tryz.func146 q fun H => ?_
 refine rR <| qa q <| rN <| qa q <| B <| C <| C <| Z <| qa q <| B <| g <| O h fun o3 ap h => ?_
 refine fun a5 aq => zp (I := fun (s1, s2) a w2 => (Fr a 40 [(0, vp0), (3, iV s1), (4, iV s2)] ∧ Holds M0 w w2 [] G)) (O := fun q0 e a w2 => e = .exit 0 ∧ (Fr a 40 [(3, iV q0)] ∧ Holds M0 w w2 [] G)) ap ?_ ?_ ?_
 ·exact ⟨aq.s, H⟩
 ·rintro ⟨s1, s2⟩ _ a w7 aa ⟨ha, aj⟩
  refine S1 ha <| C <| C <| zk <| qm q <| qm q <| qz aj.ctx (hp0) u36 q <| qi (qt_lss q q) q <| qm q <| O aa fun ar ae aa => ?_
  refine Ga (res := ar) 2 (if_f · ae) (fun ak aE au => ?_) ?_
  ·exact have ae := if_t ak ae; jm ak q <| O ae fun aF av ae => jc ak q c40 aj (fun _ => w_spec_TicketValid av (hp0)) <| au 2 q q q ae
  refine Qn aj fun a ha aG ab => X <| S1 ha ?_
  refine Yh q aa (fun aa => ?_) (fun aa => ?_)
  ·refine y <| C <| g <| rR <| qm q <| qm q <| O aa fun aH al aa => qe ab (hp0) al u36 i123 q fun _ _ aw => qf uf123 fi123_1 nz3 q <| eI u3 aw.s q <| qi (qt_lss q q) q <| qm q <| O aa fun ax af aa => ?_
   refine Ha (res := ax) 11 (if_f · af) (fun ah aL ay => ?_) ?_
   ·refine have af := if_t ah af; jm ah q <| ji (qt_lss q q) ah q <| jm ah q <| O af fun az ag af => ?_
    refine Ho (res := az) (hw := (J q ah)) 7 (if_t · ag) (fun ad aM aA => ?_) ?_
    ·exact have ag := if_f ad ag; jm ad q <| jm ad q <| O ag fun aN am ag => je ab (hp0) am u36 i123 ad q fun _ _ aB => jf uf123 fi123_0 nz3 ad q <| jI u3 aB.f ad q <| jm ad q <| ji (qt_lss q q) ad q <| aA 7 q q q ag
    exact ay 4 q q q af
   refine B ?_
   refine Yh q aa (fun aa => ?_) (fun aa => ?_)
   ·refine Z <| qm q <| qm q <| O aa fun aR ao aa => qe ab (hp0) ao u36 i123 q fun _ _ aC => qf uf123 fi123_0 nz3 q <| eI u3 aC.f q <| qa q <| WL_nil fun a ha => zi <| X <| S1 ha <| Z <| qm q <| qi (qt_add q q) q <| qa q <| WL_nil fun a ha => ?_
    cases aa
    exact ⟨q, ha.s, ab⟩
   cases aa
   exact WP_skip fun a ha => zi <| X <| S1 ha <| Z <| qm q <| qi (qt_add q q) q <| qa q <| WL_nil fun a ha => ⟨q, ha.s, ab⟩
  cases aa
  exact WP_exit fun a ha => zo (⟨exit_ne, q, ha.s, ab⟩)
 rintro _ a aV ⟨rfl, ha, aD⟩
 refine zn <| X <| S1 ha <| rR <| qm q <| qa q <| B <| W fun a ha => ?_
 obtain rfl := L h
 exact ret1 q ha q ⟨q, aD⟩
theorem w_spec_TicketDone {w G vp0 p0 r} (h : spec_TicketDoneS p0 = some r) (hp0 : Has G ty2 vp0 p0) (H : Ctx w G) : Calls Tryz.prog 127 #[vp0] w fun e w' => e = .returned (.bool r) ∧ Holds M0 w w' [] G := by
 refine F0 10 H Tryz.func127 q fun H => ?_
 refine rR <| qa q <| B <| C <| zk <| qm q <| O h fun x1 ad h => qc q c40 H (fun _ => w_spec_TicketValid ad (hp0)) <| qm q <| O h fun b3 aa h => ?_
 refine Ga (res := b3) 3 (if_f · aa) (fun ab K6 ae => ?_) ?_
 ·exact have aa := if_t ab aa; jm ab q <| O aa fun x8 af aa => jc ab q c146 H (fun _ => w_spec_TicketCourse af (hp0)) <| ji (qt_lss q q) ab q <| ae 3 q q q aa
 refine qa q <| Qn H fun a ha ah ag => X <| S1 ha <| W fun a ha => ?_
 obtain rfl := L h
 exact ret1 q ha q ⟨q, ag⟩
theorem w_spec_TableBill {w G A0 B0 A1 B1 A2 B2 B3 A4 B4 p1 r} (h : spec_TableBillS B0 B1 B2 B3 B4 p1 = some r) (C0 : Has G ty12 A0 B0) (C1 : Has G tI A1 B1) (C2 : Has G tI A2 B2) (C4 : Has G ty14 A4 B4) (H : Ctx w G) : Calls Tryz.prog 57 #[.agg #[A0, A1, A2, iV B3, A4], iV p1] w fun e w' => e = .returned (iV r) ∧ Holds M0 w w' [] G := by
 refine F0 57 H Tryz.func57 q fun H => ?_
 refine C <| Z <| WL_box (cs := [A0, A1, A2, iV B3, A4]) H q q q q fun b1 w2 H3 => qa q <| B <| C <| C <| zk <| eA H3.p0 us27 uo27 il27 q <| O h fun x6 av h => qc q c11 H3 (fun _ => w_spec_HouseValid av (C0.c) (C1.c) (C2.c) (C4.c)) <| qi (qt_not q) q <| qm q <| O h fun b8 ae h => ?_
 refine Go (res := b8) 7 (if_t · ae) (fun ab aM aw => ?_) ?_
 ·exact have ae := if_f ab ae; jm ab q <| jf uf27 fi27_4 nz25 ab q <| jl u25 H3.p0 ab q <| jz H3.ctx (C4.c) u25 ab q <| ji (qt_sub q q) ab q <| O ae fun aN ax ae => jc ab q c39 H3 (fun _ => w_spec_l1In ax) <| ji (qt_not q) ab q <| aw 7 q q q ae
 refine Qn H3 fun a ha aO aj => X <| S1 ha ?_
 refine Yh q h (fun h => ?_) (fun h => ?_)
 ·cases h
  exact rR <| qa q <| B <| W fun a ha => m (ret1 q ha q ⟨q, aj.q0⟩)
 refine y <| rR <| qa q <| B <| C <| rR <| qa q <| B <| g <| O h fun aP az h => ?_
 refine fun aQ aA => zp (I := fun (ak, al) a w2 => (Fr a 57 [(1, iV p1), (2, pB b1), (5, iV ak), (6, iV al)] ∧ Holds M0 w w2 [.bx b1 27 [A0, A1, A2, iV B3, A4]] G)) (O := fun q0 e a w2 => e = .exit 0 ∧ (Fr a 57 [(5, iV q0)] ∧ Holds M0 w w2 [] G)) az ?_ ?_ ?_
 ·exact ⟨aA.s, aj⟩
 ·rintro ⟨ak, al⟩ _ a aR aa ⟨ha, ah⟩
  refine S1 ha <| C <| rR <| qm q <| qf uf27 fi27_4 nz25 q <| ql u25 ah.p0 q <| qm q <| O aa fun aS am aa => qe ah (C4.c) am u25 i38 q fun _ _ aB => qf uf38 fi38_1 nz36 q <| eV u36 aB.s.f q fun aW af => qz af.ctx hR0 u36 q <| qi (qt_lss q q) q <| B ?_
  refine Yh q aa (fun aa => ?_) (fun aa => ?_)
  ·refine y <| C <| g <| rR <| qf uf27 fi27_4 nz25 q <| ql u25 af.p1 q <| qm q <| O aa fun aX ao aa => qe af (C4.c.c) ao u25 i38 q fun _ _ aC => qf uf38 fi38_1 nz36 q <| eV u36 aC.s.f q fun a1 ad => qm q <| O aa fun a2 ap aa => qe ad hR0 ap u36 i123 q fun _ _ aD => qf uf123 fi123_1 nz3 q <| eI u3 aD.s q <| qi (qt_eql q q) q <| B ?_
   refine Yh q aa (fun aa => ?_) (fun aa => ?_)
   ·refine WP_quiet (by kernel_rfl) (by kernel_rfl) <| qm q <| qf uf27 fi27_1 nz24 q <| ql u24 ad.p2 q <| qf uf27 fi27_4 nz25 q <| ql u25 ad.p2 q <| qm q <| O aa fun a6 aq aa => qe ad (C4.c.c.c) aq u25 i38 q fun _ _ aE => qf uf38 fi38_2 nz24 q <| eV u24 aE.s.s q fun ba ag => qm q <| O aa fun bb ar aa => qe ag hR0 ar u24 i3 q fun _ _ aF => eI u3 aF q <| O aa fun bf au aa => qe ag (C1.c.c.c.c) au u24 i3 q fun _ _ aG => eI u3 aG q <| qi (qt_add q q) q <| qa q <| Qn ag fun a ha bj aH => zi <| X <| S1 ha <| Z <| qm q <| qi (qt_add q q) q <| qa q <| WL_nil fun a ha => ?_
    cases aa
    exact ⟨q, ha.s, aH.q0.q0.q0⟩
   cases aa
   exact WP_skip fun a ha => zi <| X <| S1 ha <| Z <| qm q <| qi (qt_add q q) q <| qa q <| WL_nil fun a ha => ⟨q, ha.s, ad.q0.q0⟩
  cases aa
  exact WP_exit fun a ha => zo (⟨exit_ne, q, ha.s, af.q0.q0⟩)
 rintro _ a bk ⟨rfl, ha, aL⟩
 refine zn <| X <| S1 ha <| rR <| qm q <| qa q <| B <| W fun a ha => ?_
 obtain rfl := L h
 exact ret1 q ha q ⟨q, aL⟩
theorem w_spec_l7Close {w G A0 B0 A1 B1 A2 B2 B3 A4 B4 p1 r} (h : spec_l7CloseS B0 B1 B2 B3 B4 p1 = some r) (H : Ctx w ([.sl 70 ty12 A0 B0, .sl 3 tI A1 B1, .sl 3 tI A2 B2, .sl 38 ty14 A4 B4] ++ G)) : Calls Tryz.prog 101 #[.agg #[A0, A1, A2, iV B3, A4], iV p1] w fun e w' => ∃ (v1 : Value) (v2 : Value) (v3 : Value) (v4 : Value), e = .returned (.tuple #[.agg #[v1, v2, v3, iV r.1.2.2.2.1, v4], .bool r.2]) ∧ Holds (([.sl 70 ty12 A0 B0, .sl 3 tI A1 B1, .sl 3 tI A2 B2, .sl 38 ty14 A4 B4] : List Res).flatMap Res.own) w w' [.sl 70 ty12 v1 r.1.1, .sl 3 tI v2 r.1.2.1, .sl 3 tI v3 r.1.2.2.1, .sl 38 ty14 v4 r.1.2.2.2.2] G := by
 refine F1 54 H Tryz.func101 q fun H => ?_
 refine C <| Z <| WL_box (cs := [A0, A1, A2, iV B3, A4]) H q q q q fun b1 w2 H3 => zq (cs := [nS, nS, nS, iV 0, nS]) H3 z27 q q q fun b5 w6 H7 => qa q <| B <| C <| C <| WP_quiet (by kernel_rfl) (by kernel_rfl) <| qm q <| qf uf27 fi27_4 nz25 q <| ql u25 H7.p1 q <| qz H7.ctx hS5 u25 q <| qi (qt_sub q q) q <| O h fun a0 az h => qc q c39 H7 (fun _ => w_spec_l1In az) <| qi (qt_not q) q <| qm q <| O h fun aA ab h => ?_
 refine Go (res := aA) 8 (if_t · ab) (fun aa a1 aB => ?_) ?_
 ·exact have ab := if_f aa ab; jf uf27 fi27_4 nz25 aa q <| jl u25 H7.p1 aa q <| jm aa q <| O ab fun a2 ap ab => je H7 hS5 ap u25 i38 aa q fun _ _ aC => jf uf38 fi38_1 nz36 aa q <| jV u36 aC.s.f aa q fun a6 aD => O ab fun a7 aE ab => jc aa q c127 aD (fun _ => w_spec_TicketDone aE hR0) <| ji (qt_not q) aa q <| aB 8 q q q ab
 refine qm q <| O h fun aF af h => ?_
 refine Go (res := aF) 7 (if_t · af) (fun ad a8 aG => ?_) ?_
 ·exact have af := if_f ad af; jf uf27 fi27_3 nz3 ad q <| jl u3 H7.p1 ad q <| jA H7.p1 us27 uo27 il27 ad q <| jm ad q <| O af fun a9 aH af => jc ad q c57 H7 (fun _ => w_spec_TableBill aH hS2 hS3 hS4 hS5) <| ji (qt_add q q) ad q <| ji (qt_gtr q q) ad q <| aG 7 q q q af
 refine Qn H7 fun a ha ba ae => X <| S1 ha ?_
 refine Yh q h (fun h => ?_) (fun h => ?_)
 ·cases h
  exact rR <| eA ae.p1 us27 uo27 il27 q <| zl (cs' := [A0, A1, A2, iV B3, A4]) ae q il27 q (T (ae.ctx.sliceOne hS2) (T (ae.ctx.sliceOne hS3) (T (ae.ctx.sliceOne hS4) (T q (T (ae.ctx.sliceOne hS5) q))))) q q q fun bb aq => qa q <| B <| W fun a ha => have aI := R aq.p0; m (retct q ha q q (run_loadVar_bx (cs := [A0, A1, A2, iV B3, A4]) us27 uo27 il27 aI) ⟨A0, A1, A2, A4, q, aq.q0.q0.p3.p3.p3.p3⟩)
 refine y <| C <| O h fun ag aK h => ?_
 refine WP_join (M := fun a w2 => (Fr a 54 [(1, iV p1), (2, pB b1), (4, pB b5)] ∧ Holds (([.sl 70 ty12 A0 B0, .sl 3 tI A1 B1, .sl 3 tI A2 B2, .sl 38 ty14 A4 B4] : List Res).flatMap Res.own) w w2 [.bx b1 27 [A0, A1, A2, iV (IntKind.wrap .i64 (B3 + ag)), A4], .sl 70 ty12 A0 B0, .sl 3 tI A1 B1, .sl 3 tI A2 B2, .sl 38 ty14 A4 B4, .bx b5 27 [nS, nS, nS, iV 0, nS]] G)) ?_ ?_
 ·refine WP_ordersT (fun w1 w2 => Chg M0 w1 w2) 6 (by kernel_rfl) fun ak aL => have ar := ae.grow aL; ?_
  have al : Ctx ak ([] ++ ([.bx b5 27 [nS, nS, nS, iV 0, nS], .bx b1 27 [A0, A1, A2, iV B3, A4], .sl 70 ty12 A0 B0, .sl 3 tI A1 B1, .sl 3 tI A2 B2, .sl 38 ty14 A4 B4] ++ G)) := ar.ctx
  have aM : Holds _ ak ak [] ([.bx b5 27 [nS, nS, nS, iV 0, nS], .bx b1 27 [A0, A1, A2, iV B3, A4], .sl 70 ty12 A0 B0, .sl 3 tI A1 B1, .sl 3 tI A2 B2, .sl 38 ty14 A4 B4] ++ G) := zb (Rs := []) al
  refine have Hc := aM; XQ (i := 0) q (by kernel_rfl) q Hc.chg q (fun _ => qt_fieldAddr uf27 fi27_3 nz3 q) q q <| have aN := HasB.bx (HasB.c (HasB.hd)) Hc.ctx; XT (i := 1) q (by kernel_rfl) q Hc.chg q (qs_cell u3 q q (aN.cell (i := 3) q) Hc.chg (Ctx.outB al (HasB.c (HasB.hd)))) q q <| have aO := HasB.bx (HasB.c (HasB.hd)) Hc.ctx; XT (i := 2) q (by kernel_rfl) q Hc.chg q (qs_agg (cs := [A0, A1, A2, iV B3, A4]) us27 uo27 il27 q (fun j z hj => by rw [Nat.zero_add]; exact aO.cell hj) Hc.chg (Ctx.outB al (HasB.c (HasB.hd)))) q q ?_
  change XC _ _ _ _ _ _ _ _ ((35, .agg #[A0, A1, A2, iV B3, A4]) :: _) _
  refine XQ (i := 3) q (by kernel_rfl) q Hc.chg q (fun _ => qt_move q) q q ?_
  repeat' first
   | refine XDo 4 q <| U0 q c57 (w_spec_TableBill aK hS2 hS3 hS4 hS5 Hc.ctx) fun _ HK => ?_; have Hc := Hc.cN0 [] HK; refine XN Hc.chg <| XQ (i := 5) q (by kernel_rfl) q Hc.chg q (fun _ => qt_add q q) q q ?_
   | have Hc := ar.cN0 [] Hc; refine XDo 6 q <| qf uf27 fi27_3 nz3 q <| XE q ?_
   | refine XDo 7 q ?_; have Hc := Hc.p1; refine WL_store_bx Hc q il3 q q q q q (fun _ Hc => ?_); refine XE q ?_
   | refine XV [4] (by decide +kernel) q (allc ?_ alln)
   | refine XV [6] (by decide +kernel) q (allc ?_ alln)
   | refine XV [7] (by decide +kernel) q (allc ?_ alln)
   | refine XC_done (by decide +kernel) (fun a ha => ?_); have Hc := ((((((Hc.p1).p5).p5).p5).p5).p5); exact ⟨ha.s, Hc⟩
 rintro a bc ⟨ha, aP⟩
 refine S1 ha <| C <| O h fun bd au h => O h fun be aQ h => O h fun bf av h => O h fun aR aS h => ?_
 refine WP_join (M := fun a w2 => ∃ ah, Fr a 54 [(2, pB b1), (4, pB b5)] ∧ Holds (([.sl 70 ty12 A0 B0, .sl 3 tI A1 B1, .sl 3 tI A2 B2, .sl 38 ty14 A4 B4] : List Res).flatMap Res.own) w w2 [.bx b1 27 [A0, A1, A2, iV (IntKind.wrap .i64 (B3 + ag)), ah], .sl 70 ty12 A0 B0, .sl 3 tI A1 B1, .sl 3 tI A2 B2, .sl 38 ty14 ah aR, .bx b5 27 [nS, nS, nS, iV 0, nS]] G) ?_ ?_
 ·refine WP_ordersT (fun w1 w2 => Chg M0 w1 w2) 12 (by kernel_rfl) fun am aT => have aw := aP.grow aT; ?_
  have ao : Ctx am ([] ++ ([.bx b1 27 [A0, A1, A2, iV (IntKind.wrap .i64 (B3 + ag)), A4], .sl 70 ty12 A0 B0, .sl 3 tI A1 B1, .sl 3 tI A2 B2, .sl 38 ty14 A4 B4, .bx b5 27 [nS, nS, nS, iV 0, nS]] ++ G)) := aw.ctx
  have aU : Holds _ am am [] ([.bx b1 27 [A0, A1, A2, iV (IntKind.wrap .i64 (B3 + ag)), A4], .sl 70 ty12 A0 B0, .sl 3 tI A1 B1, .sl 3 tI A2 B2, .sl 38 ty14 A4 B4, .bx b5 27 [nS, nS, nS, iV 0, nS]] ++ G) := zb (Rs := []) ao
  refine have Hc := aU; XQ (i := 1) q (by kernel_rfl) q Hc.chg q (fun _ => qt_fieldAddr uf27 fi27_4 nz25 q) q q <| have aV := HasB.bx (HasB.hd) Hc.ctx; XT (i := 2) q (by kernel_rfl) q Hc.chg q (qs_cell u25 q q (aV.cell (i := 4) q) Hc.chg (Ctx.outB ao (HasB.hd))) q q <| XQ (i := 3) q (by kernel_rfl) q Hc.chg q (fun _ => qt_move q) q q <| XT (i := 4) q (by kernel_rfl) q Hc.chg q (qs_slice Hc.ctx hS4 au u25 i38 q ⟨_, q⟩ q) q q <| XQ (i := 6) q (by kernel_rfl) q Hc.chg q (fun _ => qt_fieldAddr uf27 fi27_4 nz25 q) q q <| have aW := HasB.bx (HasB.hd) Hc.ctx; XT (i := 7) q (by kernel_rfl) q Hc.chg q (qs_cell u25 q q (aW.cell (i := 4) q) Hc.chg (Ctx.outB ao (HasB.hd))) q q <| XQ (i := 8) q (by kernel_rfl) q Hc.chg q (fun _ => qt_move q) q q <| XQ (i := 9) q (by kernel_rfl) q Hc.chg q (fun _ => qt_add q q) q q <| XT (i := 10) q (by kernel_rfl) q Hc.chg q (qs_slice Hc.ctx hS4 av u25 i38 ⟨_, q⟩ q q) q q ?_
  repeat' first
   | refine XDo 0 q ?_; refine zs (t := ty14) (args := []) (xs := ([] : LT)) Hc (BltL.nil) u25 j38 q q q q q q (fun bg _ Hc => ?_); refine XN Hc.chg ?_
   | refine XDo 5 q ?_; refine zw Hc (Has.sub hS5 au) aQ u25 j38 q q q q q q (fun bh _ Hc => ?_); refine XN Hc.chg ?_
   | refine XDo 11 q ?_; refine zw Hc (Has.sub hS5 av) aS u25 j38 q q q q q q (fun aX _ Hc => ?_); refine XN Hc.chg ?_
   | have Hc := aw.cN1 [] Hc; refine XDo 12 q <| qf uf27 fi27_4 nz25 q <| XE q ?_
   | refine XDo 13 q ?_; have Hc := Hc.p1; refine WL_store_bx Hc q il25 (Hc.ctx.sliceCells hS1) (Hc.ctx.sliceOne hS1) q q q (fun _ Hc => ?_); refine XE q ?_
   | refine XV [0] (by decide +kernel) q (allc ?_ alln)
   | refine XV [5] (by decide +kernel) q (allc ?_ alln)
   | refine XV [11] (by decide +kernel) q (allc ?_ alln)
   | refine XV [12] (by decide +kernel) q (allc ?_ alln)
   | refine XV [13] (by decide +kernel) q (allc ?_ alln)
   | refine XC_done (by decide +kernel) (fun a ha => ?_); have Hc := (((((((Hc.q5).p5).p2).p5).p5).p5).p5); exact ⟨aX, ha.s, Hc⟩
 rintro a bi ⟨ah, ha, ax⟩
 cases h
 exact S1 ha <| rR <| eA ax.p0 us27 uo27 il27 q <| have aj := ax.p5; zl (cs' := [A0, A1, A2, iV (IntKind.wrap .i64 (B3 + ag)), ah]) aj q il27 q (T (aj.ctx.sliceOne hS2) (T (aj.ctx.sliceOne hS3) (T (aj.ctx.sliceOne hS4) (T q (T (aj.ctx.sliceOne hS5) q))))) q q q fun bj ay => qa q <| B <| W fun a ha => have aY := R ay.p0; retct q ha q q (run_loadVar_bx (cs := [A0, A1, A2, iV (IntKind.wrap .i64 (B3 + ag)), ah]) us27 uo27 il27 aY) ⟨A0, A1, A2, ah, q, ay.q0.q0.p3.p3.p3.p3⟩
theorem w_spec_HouseDo {w G A0 B0 A1 B1 A2 B2 B3 A4 B4 p1_0 p1_1 p1_2 p1_3 r} (h : spec_HouseDoS B0 B1 B2 B3 B4 p1_0 p1_1 p1_2 p1_3 = some r) (C0 : Has G ty12 A0 B0) (C1 : Has G tI A1 B1) (C2 : Has G tI A2 B2) (C4 : Has G ty14 A4 B4) (H : Ctx w G) : Calls Tryz.prog 50 #[.agg #[A0, A1, A2, iV B3, A4], .agg #[iV p1_0, iV p1_1, iV p1_2, iV p1_3]] w fun e w' => ∃ (v1 : Value) (v2 : Value) (v3 : Value) (v4 : Value), e = .returned (.tuple #[.agg #[v1, v2, v3, iV r.1.2.2.2.1, v4], .bool r.2]) ∧ Holds M0 w w' [.sl 70 ty12 v1 r.1.1, .sl 3 tI v2 r.1.2.1, .sl 3 tI v3 r.1.2.2.1, .sl 38 ty14 v4 r.1.2.2.2.2] G := by
 refine F0 137 H Tryz.func50 q fun H => ?_
 refine C <| Z <| WL_box (cs := [A0, A1, A2, iV B3, A4]) H q q q q fun b1 w2 H3 => WL_box (cs := [iV p1_0, iV p1_1, iV p1_2, iV p1_3]) H3 q q q q fun b5 w6 H7 => zq (cs := [nS, nS, nS, iV 0, nS]) H7 z27 q q q fun b9 eT bt => qa q <| B <| C <| C <| zk <| eA bt.p2 us27 uo27 il27 q <| O h fun eU cJ h => qc q c11 bt (fun _ => w_spec_HouseValid cJ (C0.c.c.c) (C1.c.c.c) (C2.c.c.c) (C4.c.c.c)) <| qi (qt_not q) q <| Qn bt fun a ha eW aX => X <| S1 ha ?_
 refine Yh q h (fun h => ?_) (fun h => ?_)
 ·cases h
  exact rR <| qi (qt_build (args := []) (css := []) (cells := #[nS, nS, nS, iV 0, nS]) q trivial (by kernel_rfl)) q <| zl (cs' := [nS, nS, nS, iV 0, nS]) aX q il27 q q q q q fun eX cg => qa q <| B <| W fun a ha => have cK := R cg.p0; have cL := cg.nS 70 ty12; have cM := cL.nS 3 tI; have cN := cM.nS 3 tI; have cO := cN.nS 38 ty14; m (retct q ha q q (run_loadVar_bx (cs := [nS, nS, nS, iV 0, nS]) us27 uo27 il27 cK) ⟨(nS), (nS), (nS), (nS), q, cO.q4.q4.q4.p1.p2.p3⟩)
 refine y <| rR <| eA aX.p2 us27 uo27 il27 q <| O h fun af cQ h => U4 q c33 (w_spec_l7Copy cQ (C0.c.c.c) (C1.c.c.c) (C2.c.c.c) (C4.c.c.c) aX.ctx) fun ab ad ae ag eY cR => have cS := aX.cN4 [] cR; zq (cs := [nS, nS, nS, iV 0, nS]) cS z27 q q q fun eZ e0 av => zl (cs' := [ab, ad, ae, iV af.2.2.2.1, ag]) av q il27 q (T (av.ctx.sliceOne hS1) (T (av.ctx.sliceOne hS2) (T (av.ctx.sliceOne hS3) (T q (T (av.ctx.sliceOne hS4) q))))) q q q fun e1 aa => rN <| qa q <| B <| C <| g <| rR <| qf uf52 fi52_0 nz3 q <| ql u3 aa.p6 q <| qi (qt_neq q q) q <| qm q ?_
 refine Ha (res := ((p1_0 != 3) && (p1_3 != 0))) 3 an (fun aY e2 cT => ?_) ?_
 ·exact jf uf52 fi52_3 nz3 aY q <| jl u3 aa.p6 aY q <| ji (qt_neq q q) aY q <| cT 3 q q q (ai aY)
 refine qm q ?_
 refine Ho (res := (((p1_0 != 3) && (p1_3 != 0)) || ((decide (p1_0 ≥ 4)) && (p1_2 != 0)))) 8 os (fun ah e3 cU => ?_) ?_
 ·refine jf uf52 fi52_0 nz3 ah q <| jl u3 aa.p6 ah q <| ji (qt_geq q q) ah q <| jm ah q ?_
  refine Ha (res := ((decide (p1_0 ≥ 4)) && (p1_2 != 0))) (hw := (J q ah)) 3 an (fun aZ e4 cV => ?_) ?_
  ·exact jf uf52 fi52_2 nz3 aZ q <| jl u3 aa.p6 aZ q <| ji (qt_neq q q) aZ q <| cV 3 q q q (ai aZ)
  exact cU 5 q q q (oi ah)
 refine qm q ?_
 refine Ho (res := ((((p1_0 != 3) && (p1_3 != 0)) || ((decide (p1_0 ≥ 4)) && (p1_2 != 0))) || ((p1_0 == 4) && (p1_1 != 0)))) 8 os (fun aj e5 cW => ?_) ?_
 ·refine jf uf52 fi52_0 nz3 aj q <| jl u3 aa.p6 aj q <| ji (qt_eql q q) aj q <| jm aj q ?_
  refine Ha (res := ((p1_0 == 4) && (p1_1 != 0))) (hw := (J q aj)) 3 an (fun a0 e6 cX => ?_) ?_
  ·exact jf uf52 fi52_1 nz3 a0 q <| jl u3 aa.p6 a0 q <| ji (qt_neq q q) a0 q <| cX 3 q q q (ai a0)
  exact cW 5 q q q (oi aj)
 refine qm q ?_
 refine Ho (res := (((((p1_0 != 3) && (p1_3 != 0)) || ((decide (p1_0 ≥ 4)) && (p1_2 != 0))) || ((p1_0 == 4) && (p1_1 != 0))) || ((p1_0 == 2) && (p1_2 != 0)))) 8 os (fun ak e7 cY => ?_) ?_
 ·refine jf uf52 fi52_0 nz3 ak q <| jl u3 aa.p6 ak q <| ji (qt_eql q q) ak q <| jm ak q ?_
  refine Ha (res := ((p1_0 == 2) && (p1_2 != 0))) (hw := (J q ak)) 3 an (fun a1 e8 cZ => ?_) ?_
  ·exact jf uf52 fi52_2 nz3 a1 q <| jl u3 aa.p6 a1 q <| ji (qt_neq q q) a1 q <| cZ 3 q q q (ai a1)
  exact cY 5 q q q (oi ak)
 refine qa q <| B ?_
 refine Yh q h (fun h => ?_) (fun h => ?_)
 ·cases h
  exact rR <| eA aa.p0 us27 uo27 il27 q <| have aw := aa.p5; zl (cs' := [ab, ad, ae, iV af.2.2.2.1, ag]) aw q il27 q (T (aw.ctx.sliceOne hS2) (T (aw.ctx.sliceOne hS3) (T (aw.ctx.sliceOne hS4) (T q (T (aw.ctx.sliceOne hS5) q))))) q q q fun e9 ch => qa q <| B <| W fun a ha => have c0 := R ch.p0; zj (m (retct q ha q q (run_loadVar_bx (cs := [ab, ad, ae, iV af.2.2.2.1, ag]) us27 uo27 il27 c0) ⟨ab, ad, ae, ag, q, ch.q0.q0.q4.q4.p3.p3.p3.p3⟩))
 refine rR <| qf uf52 fi52_0 nz3 q <| ql u3 aa.p6 q <| qi (qt_eql q q) q <| qa q <| B ?_
 refine Yh q h (fun h => ?_) (fun h => ?_)
 ·refine Z <| eA aa.p0 us27 uo27 il27 q <| qf uf52 fi52_1 nz3 q <| ql u3 aa.p6 q <| qf uf52 fi52_2 nz3 q <| ql u3 aa.p6 q <| have ci := aa.p4.p4.p4.p4; O h fun bu c5 h => U4 q c97 (w_spec_l7Buy c5 ci.ctx) fun a2 a3 a4 a5 fa c6 => have c7 := ci.cN4 [_, _, _, _] c6; qm q <| qi (zv q q) q <| qi (zv q q) q <| have ax := c7.p4; zl (cs' := [a2, a3, a4, iV bu.1.2.2.2.1, a5]) ax q il27 q (T (ax.ctx.sliceOne hS1) (T (ax.ctx.sliceOne hS2) (T (ax.ctx.sliceOne hS3) (T q (T (ax.ctx.sliceOne hS4) q))))) q q q fun fb bv => qa q <| WL_nil fun a ha => zi <| X <| S1 ha <| C <| C <| zk <| qm q <| qi (qt_not q) q <| qm q <| O h fun c8 al h => ?_
  refine Go (res := c8) 3 (if_t · al) (fun a6 fc da => ?_) ?_
  ·exact have al := if_f a6 al; jA bv.p0 us27 uo27 il27 a6 q <| O al fun fd db al => jc a6 q c11 bv (fun _ => w_spec_HouseValid db hS1 hS2 hS3 hS4) <| ji (qt_not q) a6 q <| da 3 q q q al
  refine Qn bv fun a ha fe ay => X <| S1 ha ?_
  refine Yh q h (fun h => ?_) (fun h => ?_)
  ·refine rR <| eA ay.p7 us27 uo27 il27 q <| O h fun cj dc h => U4 q c33 (w_spec_l7Copy dc (C0.c.c.c.c.c.c.c.c) (C1.c.c.c.c.c.c.c.c) (C2.c.c.c.c.c.c.c.c) (C4.c.c.c.c.c.c.c.c) ay.ctx) fun bw bz bA bB ff dd => have de := ay.cN4 [] dd; have az := de.p9; zl (cs' := [bw, bz, bA, iV cj.2.2.2.1, bB]) az q il27 q (T (az.ctx.sliceOne hS1) (T (az.ctx.sliceOne hS2) (T (az.ctx.sliceOne hS3) (T q (T (az.ctx.sliceOne hS4) q))))) q q q fun fg ck => qa q <| B <| W fun a ha => ?_
   cases h
   refine have df := R ck.p0; ?_
   exact m (retct q ha q q (run_loadVar_bx (cs := [bw, bz, bA, iV cj.2.2.2.1, bB]) us27 uo27 il27 df) ⟨bw, bz, bA, bB, q, ck.q0.q4.q4.q4.q4.q4.q4.q4.p3.p3.p3.p3⟩)
  cases h
  exact y <| rR <| eA ay.p0 us27 uo27 il27 q <| have aA := ay.p5; zl (cs' := [a2, a3, a4, iV bu.1.2.2.2.1, a5]) aA q il27 q (T (aA.ctx.sliceOne hS2) (T (aA.ctx.sliceOne hS3) (T (aA.ctx.sliceOne hS4) (T q (T (aA.ctx.sliceOne hS5) q))))) q q q fun fh cl => qa q <| B <| W fun a ha => have dh := R cl.p0; retct q ha q q (run_loadVar_bx (cs := [a2, a3, a4, iV bu.1.2.2.2.1, a5]) us27 uo27 il27 dh) ⟨a2, a3, a4, a5, q, cl.q0.q0.q4.q4.p3.p3.p3.p3⟩
 refine rR <| qf uf52 fi52_0 nz3 q <| ql u3 aa.p6 q <| qi (qt_eql q q) q <| qa q <| B ?_
 refine Yh q h (fun h => ?_) (fun h => ?_)
 ·refine Z <| eA aa.p0 us27 uo27 il27 q <| qf uf52 fi52_1 nz3 q <| ql u3 aa.p6 q <| qf uf52 fi52_2 nz3 q <| ql u3 aa.p6 q <| have cm := aa.p4.p4.p4.p4; O h fun bC dm h => U4 q c98 (w_spec_l7Make dm cm.ctx) fun a7 a8 a9 ba fi dn => have dq := cm.cN4 [_, _, _, _] dn; qm q <| qi (zv q q) q <| qi (zv q q) q <| have aB := dq.p4; zl (cs' := [a7, a8, a9, iV bC.1.2.2.2.1, ba]) aB q il27 q (T (aB.ctx.sliceOne hS1) (T (aB.ctx.sliceOne hS2) (T (aB.ctx.sliceOne hS3) (T q (T (aB.ctx.sliceOne hS4) q))))) q q q fun fj bD => qa q <| WL_nil fun a ha => zi <| X <| S1 ha <| C <| C <| zk <| qm q <| qi (qt_not q) q <| qm q <| O h fun dr am h => ?_
  refine Go (res := dr) 3 (if_t · am) (fun bb fk ds => ?_) ?_
  ·exact have am := if_f bb am; jA bD.p0 us27 uo27 il27 bb q <| O am fun fl dt am => jc bb q c11 bD (fun _ => w_spec_HouseValid dt hS1 hS2 hS3 hS4) <| ji (qt_not q) bb q <| ds 3 q q q am
  refine Qn bD fun a ha fm aC => X <| S1 ha ?_
  refine Yh q h (fun h => ?_) (fun h => ?_)
  ·refine rR <| eA aC.p7 us27 uo27 il27 q <| O h fun cn du h => U4 q c33 (w_spec_l7Copy du (C0.c.c.c.c.c.c.c.c) (C1.c.c.c.c.c.c.c.c) (C2.c.c.c.c.c.c.c.c) (C4.c.c.c.c.c.c.c.c) aC.ctx) fun bE bF bG bH fn dv => have dw := aC.cN4 [] dv; have aD := dw.p9; zl (cs' := [bE, bF, bG, iV cn.2.2.2.1, bH]) aD q il27 q (T (aD.ctx.sliceOne hS1) (T (aD.ctx.sliceOne hS2) (T (aD.ctx.sliceOne hS3) (T q (T (aD.ctx.sliceOne hS4) q))))) q q q fun fo co => qa q <| B <| W fun a ha => ?_
   cases h
   refine have dx := R co.p0; ?_
   exact m (retct q ha q q (run_loadVar_bx (cs := [bE, bF, bG, iV cn.2.2.2.1, bH]) us27 uo27 il27 dx) ⟨bE, bF, bG, bH, q, co.q0.q4.q4.q4.q4.q4.q4.q4.p3.p3.p3.p3⟩)
  cases h
  exact y <| rR <| eA aC.p0 us27 uo27 il27 q <| have aE := aC.p5; zl (cs' := [a7, a8, a9, iV bC.1.2.2.2.1, ba]) aE q il27 q (T (aE.ctx.sliceOne hS2) (T (aE.ctx.sliceOne hS3) (T (aE.ctx.sliceOne hS4) (T q (T (aE.ctx.sliceOne hS5) q))))) q q q fun fp cp => qa q <| B <| W fun a ha => have dz := R cp.p0; retct q ha q q (run_loadVar_bx (cs := [a7, a8, a9, iV bC.1.2.2.2.1, ba]) us27 uo27 il27 dz) ⟨a7, a8, a9, ba, q, cp.q0.q0.q4.q4.p3.p3.p3.p3⟩
 refine rR <| qf uf52 fi52_0 nz3 q <| ql u3 aa.p6 q <| qi (qt_eql q q) q <| qa q <| B ?_
 refine Yh q h (fun h => ?_) (fun h => ?_)
 ·refine rR <| qf uf27 fi27_4 nz25 q <| ql u25 aa.p0 q <| qf uf52 fi52_1 nz3 q <| ql u3 aa.p6 q <| qi (qt_build (args := [(0, .tmp 87)]) (css := [#[iV p1_1]]) (cells := #[iV p1_1, nS, nS]) q ⟨q, trivial⟩ (by kernel_rfl)) q <| zs (t := ty14) (args := [.tmp 88]) (xs := ([(p1_1, [], [])] : LT)) aa (BltL.cons (Blt.pair (Blt.int) (Blt.pair (Blt.slice (HasRo.nil)) (Blt.slice (HasRo.nil)))) q (BltL.nil)) u25 j38 q q q q q q fun fq fr dB => O h fun fs dD h => zw dB.p5 hS1 dD u25 j38 q q q q q q fun bI ft dE => qf uf27 fi27_4 nz25 q <| have bJ := dE.p2; WL_store_bx bJ q il25 (bJ.ctx.sliceCells hS1) (bJ.ctx.sliceOne hS1) q q q fun fu bK => B <| Z <| qa q <| WL_nil fun a ha => zi <| X <| S1 ha <| C <| C <| zk <| qm q <| qi (qt_not q) q <| qm q <| O h fun dF ao h => ?_
  refine Go (res := dF) 3 (if_t · ao) (fun bc fv dG => ?_) ?_
  ·exact have ao := if_f bc ao; jA bK.p0 us27 uo27 il27 bc q <| O ao fun fw dH ao => jc bc q c11 bK (fun _ => w_spec_HouseValid dH hS3 hS4 hS5 hS1) <| ji (qt_not q) bc q <| dG 3 q q q ao
  refine Qn bK fun a ha fx aF => X <| S1 ha ?_
  refine Yh q h (fun h => ?_) (fun h => ?_)
  ·refine rR <| eA aF.p8 us27 uo27 il27 q <| O h fun cq dI h => U4 q c33 (w_spec_l7Copy dI (C0.c.c.c.c.c.c.c.c.c) (C1.c.c.c.c.c.c.c.c.c) (C2.c.c.c.c.c.c.c.c.c) (C4.c.c.c.c.c.c.c.c.c) aF.ctx) fun bL bM bN bO fy dJ => have dK := aF.cN4 [] dJ; have aG := dK.p10; zl (cs' := [bL, bM, bN, iV cq.2.2.2.1, bO]) aG q il27 q (T (aG.ctx.sliceOne hS1) (T (aG.ctx.sliceOne hS2) (T (aG.ctx.sliceOne hS3) (T q (T (aG.ctx.sliceOne hS4) q))))) q q q fun fz cr => qa q <| B <| W fun a ha => ?_
   cases h
   refine have dL := R cr.p0; ?_
   exact m (retct q ha q q (run_loadVar_bx (cs := [bL, bM, bN, iV cq.2.2.2.1, bO]) us27 uo27 il27 dL) ⟨bL, bM, bN, bO, q, cr.q0.q4.q4.q4.q4.q4.q4.q4.q4.p3.p3.p3.p3⟩)
  cases h
  exact y <| rR <| eA aF.p0 us27 uo27 il27 q <| have aH := aF.p6; zl (cs' := [ab, ad, ae, iV af.2.2.2.1, bI]) aH q il27 q (T (aH.ctx.sliceOne hS4) (T (aH.ctx.sliceOne hS5) (T (aH.ctx.sliceOne hS6) (T q (T (aH.ctx.sliceOne hS2) q))))) q q q fun fA ct => qa q <| B <| W fun a ha => have dN := R ct.p0; retct q ha q q (run_loadVar_bx (cs := [ab, ad, ae, iV af.2.2.2.1, bI]) us27 uo27 il27 dN) ⟨ab, ad, ae, bI, q, ct.q0.q0.q1.q4.q4.p3.p3.p3⟩
 refine rR <| qf uf52 fi52_0 nz3 q <| ql u3 aa.p6 q <| qi (qt_eql q q) q <| qa q <| B ?_
 refine Yh q h (fun h => ?_) (fun h => ?_)
 ·refine Z <| eA aa.p0 us27 uo27 il27 q <| qf uf52 fi52_1 nz3 q <| ql u3 aa.p6 q <| qf uf52 fi52_2 nz3 q <| ql u3 aa.p6 q <| qf uf52 fi52_3 nz3 q <| ql u3 aa.p6 q <| have cu := aa.p4.p4.p4.p4; O h fun bP dS h => U4 q c99 (w_spec_l7Order dS cu.ctx) fun bd be bf bg fB dT => have dU := cu.cN4 [_, _, _, _] dT; qm q <| qi (zv q q) q <| qi (zv q q) q <| have aI := dU.p4; zl (cs' := [bd, be, bf, iV bP.1.2.2.2.1, bg]) aI q il27 q (T (aI.ctx.sliceOne hS1) (T (aI.ctx.sliceOne hS2) (T (aI.ctx.sliceOne hS3) (T q (T (aI.ctx.sliceOne hS4) q))))) q q q fun fC bQ => qa q <| WL_nil fun a ha => zi <| X <| S1 ha <| C <| C <| zk <| qm q <| qi (qt_not q) q <| qm q <| O h fun dV ap h => ?_
  refine Go (res := dV) 3 (if_t · ap) (fun bh fD dW => ?_) ?_
  ·exact have ap := if_f bh ap; jA bQ.p0 us27 uo27 il27 bh q <| O ap fun fE dX ap => jc bh q c11 bQ (fun _ => w_spec_HouseValid dX hS1 hS2 hS3 hS4) <| ji (qt_not q) bh q <| dW 3 q q q ap
  refine Qn bQ fun a ha fF aJ => X <| S1 ha ?_
  refine Yh q h (fun h => ?_) (fun h => ?_)
  ·refine rR <| eA aJ.p7 us27 uo27 il27 q <| O h fun cv dY h => U4 q c33 (w_spec_l7Copy dY (C0.c.c.c.c.c.c.c.c) (C1.c.c.c.c.c.c.c.c) (C2.c.c.c.c.c.c.c.c) (C4.c.c.c.c.c.c.c.c) aJ.ctx) fun bR bS bT bU fG dZ => have d0 := aJ.cN4 [] dZ; have aK := d0.p9; zl (cs' := [bR, bS, bT, iV cv.2.2.2.1, bU]) aK q il27 q (T (aK.ctx.sliceOne hS1) (T (aK.ctx.sliceOne hS2) (T (aK.ctx.sliceOne hS3) (T q (T (aK.ctx.sliceOne hS4) q))))) q q q fun fH cw => qa q <| B <| W fun a ha => ?_
   cases h
   refine have d1 := R cw.p0; ?_
   exact m (retct q ha q q (run_loadVar_bx (cs := [bR, bS, bT, iV cv.2.2.2.1, bU]) us27 uo27 il27 d1) ⟨bR, bS, bT, bU, q, cw.q0.q4.q4.q4.q4.q4.q4.q4.p3.p3.p3.p3⟩)
  cases h
  exact y <| rR <| eA aJ.p0 us27 uo27 il27 q <| have aL := aJ.p5; zl (cs' := [bd, be, bf, iV bP.1.2.2.2.1, bg]) aL q il27 q (T (aL.ctx.sliceOne hS2) (T (aL.ctx.sliceOne hS3) (T (aL.ctx.sliceOne hS4) (T q (T (aL.ctx.sliceOne hS5) q))))) q q q fun fI cx => qa q <| B <| W fun a ha => have d3 := R cx.p0; retct q ha q q (run_loadVar_bx (cs := [bd, be, bf, iV bP.1.2.2.2.1, bg]) us27 uo27 il27 d3) ⟨bd, be, bf, bg, q, cx.q0.q0.q4.q4.p3.p3.p3.p3⟩
 refine rR <| qf uf52 fi52_0 nz3 q <| ql u3 aa.p6 q <| qi (qt_eql q q) q <| qa q <| B ?_
 refine Yh q h (fun h => ?_) (fun h => ?_)
 ·refine Z <| eA aa.p0 us27 uo27 il27 q <| have cy := aa.p4.p4.p4.p4; O h fun bV d8 h => U4 q c100 (w_spec_l7Work d8 cy.ctx) fun bi bj bk bl fJ d9 => have ea := cy.cN4 [_, _, _, _] d9; qm q <| qi (zv q q) q <| qi (zv q q) q <| have aM := ea.p4; zl (cs' := [bi, bj, bk, iV bV.1.2.2.2.1, bl]) aM q il27 q (T (aM.ctx.sliceOne hS1) (T (aM.ctx.sliceOne hS2) (T (aM.ctx.sliceOne hS3) (T q (T (aM.ctx.sliceOne hS4) q))))) q q q fun fK bW => qa q <| WL_nil fun a ha => zi <| X <| S1 ha <| C <| C <| zk <| qm q <| qi (qt_not q) q <| qm q <| O h fun eb aq h => ?_
  refine Go (res := eb) 3 (if_t · aq) (fun bm fL ec => ?_) ?_
  ·exact have aq := if_f bm aq; jA bW.p0 us27 uo27 il27 bm q <| O aq fun fM ed aq => jc bm q c11 bW (fun _ => w_spec_HouseValid ed hS1 hS2 hS3 hS4) <| ji (qt_not q) bm q <| ec 3 q q q aq
  refine Qn bW fun a ha fN aN => X <| S1 ha ?_
  refine Yh q h (fun h => ?_) (fun h => ?_)
  ·refine rR <| eA aN.p7 us27 uo27 il27 q <| O h fun cz ee h => U4 q c33 (w_spec_l7Copy ee (C0.c.c.c.c.c.c.c.c) (C1.c.c.c.c.c.c.c.c) (C2.c.c.c.c.c.c.c.c) (C4.c.c.c.c.c.c.c.c) aN.ctx) fun bX bY bZ b0 fO ef => have eg := aN.cN4 [] ef; have aO := eg.p9; zl (cs' := [bX, bY, bZ, iV cz.2.2.2.1, b0]) aO q il27 q (T (aO.ctx.sliceOne hS1) (T (aO.ctx.sliceOne hS2) (T (aO.ctx.sliceOne hS3) (T q (T (aO.ctx.sliceOne hS4) q))))) q q q fun fP cA => qa q <| B <| W fun a ha => ?_
   cases h
   refine have eh := R cA.p0; ?_
   exact m (retct q ha q q (run_loadVar_bx (cs := [bX, bY, bZ, iV cz.2.2.2.1, b0]) us27 uo27 il27 eh) ⟨bX, bY, bZ, b0, q, cA.q0.q4.q4.q4.q4.q4.q4.q4.p3.p3.p3.p3⟩)
  cases h
  exact y <| rR <| eA aN.p0 us27 uo27 il27 q <| have aP := aN.p5; zl (cs' := [bi, bj, bk, iV bV.1.2.2.2.1, bl]) aP q il27 q (T (aP.ctx.sliceOne hS2) (T (aP.ctx.sliceOne hS3) (T (aP.ctx.sliceOne hS4) (T q (T (aP.ctx.sliceOne hS5) q))))) q q q fun fQ cB => qa q <| B <| W fun a ha => have ej := R cB.p0; retct q ha q q (run_loadVar_bx (cs := [bi, bj, bk, iV bV.1.2.2.2.1, bl]) us27 uo27 il27 ej) ⟨bi, bj, bk, bl, q, cB.q0.q0.q4.q4.p3.p3.p3.p3⟩
 refine rR <| qf uf52 fi52_0 nz3 q <| ql u3 aa.p6 q <| qi (qt_eql q q) q <| qa q <| B ?_
 refine Yh q h (fun h => ?_) (fun h => ?_)
 ·refine Z <| eA aa.p0 us27 uo27 il27 q <| qf uf52 fi52_1 nz3 q <| ql u3 aa.p6 q <| have cC := aa.p4.p4.p4.p4; O h fun b4 ep h => U4 q c101 (w_spec_l7Close ep cC.ctx) fun bn bo bp bq fR er => have es := cC.cN4 [_, _, _, _] er; qm q <| qi (zv q q) q <| qi (zv q q) q <| have aQ := es.p4; zl (cs' := [bn, bo, bp, iV b4.1.2.2.2.1, bq]) aQ q il27 q (T (aQ.ctx.sliceOne hS1) (T (aQ.ctx.sliceOne hS2) (T (aQ.ctx.sliceOne hS3) (T q (T (aQ.ctx.sliceOne hS4) q))))) q q q fun fS b6 => qa q <| WL_nil fun a ha => zi <| X <| S1 ha <| C <| C <| zk <| qm q <| qi (qt_not q) q <| qm q <| O h fun et ar h => ?_
  refine Go (res := et) 3 (if_t · ar) (fun br fU eu => ?_) ?_
  ·exact have ar := if_f br ar; jA b6.p0 us27 uo27 il27 br q <| O ar fun fV ew ar => jc br q c11 b6 (fun _ => w_spec_HouseValid ew hS1 hS2 hS3 hS4) <| ji (qt_not q) br q <| eu 3 q q q ar
  refine Qn b6 fun a ha fW aR => X <| S1 ha ?_
  refine Yh q h (fun h => ?_) (fun h => ?_)
  ·refine rR <| eA aR.p7 us27 uo27 il27 q <| O h fun cD ey h => U4 q c33 (w_spec_l7Copy ey (C0.c.c.c.c.c.c.c.c) (C1.c.c.c.c.c.c.c.c) (C2.c.c.c.c.c.c.c.c) (C4.c.c.c.c.c.c.c.c) aR.ctx) fun b7 b8 ca cb fX ez => have eC := aR.cN4 [] ez; have aS := eC.p9; zl (cs' := [b7, b8, ca, iV cD.2.2.2.1, cb]) aS q il27 q (T (aS.ctx.sliceOne hS1) (T (aS.ctx.sliceOne hS2) (T (aS.ctx.sliceOne hS3) (T q (T (aS.ctx.sliceOne hS4) q))))) q q q fun fY cE => qa q <| B <| W fun a ha => ?_
   cases h
   refine have eD := R cE.p0; ?_
   exact m (retct q ha q q (run_loadVar_bx (cs := [b7, b8, ca, iV cD.2.2.2.1, cb]) us27 uo27 il27 eD) ⟨b7, b8, ca, cb, q, cE.q0.q4.q4.q4.q4.q4.q4.q4.p3.p3.p3.p3⟩)
  cases h
  exact y <| rR <| eA aR.p0 us27 uo27 il27 q <| have aT := aR.p5; zl (cs' := [bn, bo, bp, iV b4.1.2.2.2.1, bq]) aT q il27 q (T (aT.ctx.sliceOne hS2) (T (aT.ctx.sliceOne hS3) (T (aT.ctx.sliceOne hS4) (T q (T (aT.ctx.sliceOne hS5) q))))) q q q fun fZ cF => qa q <| B <| W fun a ha => have eF := R cF.p0; retct q ha q q (run_loadVar_bx (cs := [bn, bo, bp, iV b4.1.2.2.2.1, bq]) us27 uo27 il27 eF) ⟨bn, bo, bp, bq, q, cF.q0.q0.q4.q4.p3.p3.p3.p3⟩
 refine WP_skip fun a ha => zi <| X <| S1 ha <| C <| C <| zk <| qm q <| qi (qt_not q) q <| qm q <| O h fun eH au h => ?_
 refine Go (res := eH) 3 (if_t · au) (fun bs f0 eJ => ?_) ?_
 ·exact have au := if_f bs au; jA aa.p0 us27 uo27 il27 bs q <| O au fun f1 eK au => jc bs q c11 aa (fun _ => w_spec_HouseValid eK hS1 hS2 hS3 hS4) <| ji (qt_not q) bs q <| eJ 3 q q q au
 refine Qn aa fun a ha f2 aU => X <| S1 ha ?_
 refine Yh q h (fun h => ?_) (fun h => ?_)
 ·refine rR <| eA aU.p7 us27 uo27 il27 q <| O h fun cG eL h => U4 q c33 (w_spec_l7Copy eL (C0.c.c.c.c.c.c.c.c) (C1.c.c.c.c.c.c.c.c) (C2.c.c.c.c.c.c.c.c) (C4.c.c.c.c.c.c.c.c) aU.ctx) fun cc cd ce cf f3 eM => have eN := aU.cN4 [] eM; have aV := eN.p9; zl (cs' := [cc, cd, ce, iV cG.2.2.2.1, cf]) aV q il27 q (T (aV.ctx.sliceOne hS1) (T (aV.ctx.sliceOne hS2) (T (aV.ctx.sliceOne hS3) (T q (T (aV.ctx.sliceOne hS4) q))))) q q q fun f4 cH => qa q <| B <| W fun a ha => ?_
  cases h
  refine have eO := R cH.p0; ?_
  exact m (retct q ha q q (run_loadVar_bx (cs := [cc, cd, ce, iV cG.2.2.2.1, cf]) us27 uo27 il27 eO) ⟨cc, cd, ce, cf, q, cH.q0.q4.q4.q4.q4.q4.q4.q4.p3.p3.p3.p3⟩)
 cases h
 exact y <| rR <| eA aU.p0 us27 uo27 il27 q <| have aW := aU.p5; zl (cs' := [ab, ad, ae, iV af.2.2.2.1, ag]) aW q il27 q (T (aW.ctx.sliceOne hS2) (T (aW.ctx.sliceOne hS3) (T (aW.ctx.sliceOne hS4) (T q (T (aW.ctx.sliceOne hS5) q))))) q q q fun f5 cI => qa q <| B <| W fun a ha => have eQ := R cI.p0; retct q ha q q (run_loadVar_bx (cs := [ab, ad, ae, iV af.2.2.2.1, ag]) us27 uo27 il27 eQ) ⟨ab, ad, ae, ag, q, cI.q0.q0.q4.q4.p3.p3.p3.p3⟩
end Go.Proofs.YtkhnponakhabdaaGreatDoor
