/- The walks: each Go function computes its shallow function. Printed by a program. -/
import Derived.Test.YtpabogkcmbkffaaGreatDoorWS7R2
set_option linter.unusedVariables false
set_option maxRecDepth 10000
set_option maxHeartbeats 8000000
namespace Go.Proofs.YtpabogkcmbkffaaGreatDoor
open Go Go.RowKit
theorem w_spec_l7Tickets {w : World} {G : List Res} {A0 : Value} {B0 : LI} (C0 : Has G ty12 A0 B0) {A1 : Value} {B1 : List Int} (C1 : Has G tI A1 B1) {A2 : Value} {B2 : List Int} (C2 : Has G tI A2 B2) {B3 : Int} {A4 : Value} {B4 : LT} (C4 : Has G ty14 A4 B4) {r : (List LP)} (h : spec_l7TicketsS B0 B1 B2 B3 B4 = some r) (H : Ctx w G) : Calls Tryz.prog 49 #[.agg #[A0, A1, A2, iV B3, A4]] w fun e w' => ∃ (v1 : Value), e = .returned (v1) ∧ Holds M0 w w' [.sl 45 ty4 v1 r] G := by
 refine E0 (n := 23) H Tryz.func49 q q q fun H => ?_
 unfold spec_l7TicketsS at h
 refine C <| Z <| WL_box (cs := [A0, A1, A2, iV B3, A4]) H q q q q fun b1 w2 H3 => qA q q q <| B <| C <| Z <| zs (t := ty4) (args := []) (xs := ([] : List LP)) H3 (BltL.nil) u81 j45 q q q q q q fun v5 w6 H7 => qA q q q <| B <| C <| rR <| qA q q q <| B <| g <| O h fun aA aj h => have ak := H7.p1; ?_
 refine fun aB al => zp (I := fun s a w2 => match s with | (s9, ae) => ∃ ad, Fr a 23 [(1, pB b1), (3, ad), (4, iV ae)] ∧ Holds M0 w w2 [.bx b1 27 [A0, A1, A2, iV B3, A4], .sl 45 ty4 ad s9] G) (O := fun o e a w2 => match o with | q0 => e = .exit 0 ∧ ∃ af, Fr a 23 [(3, af)] ∧ Holds M0 w w2 [.sl 45 ty4 af q0] G) aj ?_ ?_ ?_
 ·exact ⟨v5, al.s, ak⟩
 ·rintro ⟨s9, ae⟩ _ a aC aa ⟨ad, ha, ab⟩
  refine S1 ha <| C <| rR <| qM q q q <| qF uf27 fi27_4 nz25 q q q <| l u25 q (R ab.p0) q q q q <| za ab.ctx (t := ty14) (C4.c.c) u25 q q q <| A q (qt_lss q q) q q <| B ?_
  refine Yh q aa (fun aa => ?_) (fun aa => ?_)
  ·refine y <| C <| g <| Z <| qM q q q <| qF uf27 fi27_4 nz25 q q q <| l u25 q (R ab.p0) q q q q <| qM q q q <| O aa fun am ag aa => b ab.ctx (C4.c.c) ag u25 i47 q q q q fun aD aE aF ao => qF uf47 fi47_1 nz45 q q q <| lV u45 q (ab.el (C4.c.c) ag ao).s.f q q q fun aG ah => zs (t := ty4) (args := [.tmp 19]) (xs := ([am.2.1] : List LP)) ah (BltL.cons (Blt.slice hO0) (ah.ctx.sliceList hR0) (BltL.nil)) u81 j45 q q q q q q fun aH aI ap => have aq := ap.p3; O aa fun aJ ar aa => zw aq hS1 ar u81 j45 q q q q q q fun au aK av => qA q q q <| WL_nil fun a ha => zi <| X <| S1 ha <| Z <| qM q q q <| A q (qt_add q q) q q <| qA q q q <| WL_nil fun a ha => ?_
   cases aa
   have aw := av.q1.q1.p1
   exact ⟨q, au, ha.s, aw⟩
  refine WP_exit fun a ha => ?_
  cases aa
  have ax := ab.q0
  exact zo (⟨exit_ne, q, ad, ha.s, ax⟩)
 rintro _ a aL ⟨rfl, ay, ha, az⟩
 refine zn <| X <| S1 ha <| rR <| qM q q q <| qA q q q <| B <| W fun a ha => ?_
 obtain rfl := L h
 exact ret1 q ha q ⟨ay, q, az⟩
theorem w_spec_KitchenValid {w : World} {G : List Res} {vp0 : Value} {p0 : List LP} (hp0 : Has G ty4 vp0 p0) {r : Bool} (h : spec_KitchenValidS p0 = some r) (H : Ctx w G) : Calls Tryz.prog 85 #[vp0] w fun e w' => e = .returned (.bool r) ∧ Holds M0 w w' [] G := by
 refine E0 (n := 19) H Tryz.func85 q q q fun H => ?_
 unfold spec_KitchenValidS at h
 refine rR <| qA q q q <| B <| C <| rR <| qA q q q <| B <| g <| O h fun o2 aj h => ?_
 refine fun a4 ak => zp (I := fun s a w2 => match s with | s1 => (Fr a 19 [(0, vp0), (3, iV s1)] ∧ Holds M0 w w2 [] G)) (O := fun o e a w2 => match o with | .inl _ => e = .exit 0 ∧ (Fr a 19 [(0, vp0)] ∧ Holds M0 w w2 [] G) | .inr q0 => e = .ret ∧ (Fr a 19 [(2, .bool q0)] ∧ Holds M0 w w2 [] G)) aj ?_ ?_ ?_
 ·exact ⟨ak.s, H⟩
 ·rintro s1 _ a w6 aa ⟨ha, ab⟩
  refine S1 ha <| C <| rR <| qM q q q <| qM q q q <| za ab.ctx (t := ty4) (hp0) u81 q q q <| A q (qt_lss q q) q q <| B ?_
  refine Yh q aa (fun aa => ?_) (fun aa => ?_)
  ·refine y <| C <| g <| C <| zk <| qM q q q <| qM q q q <| O aa fun ar ad aa => b ab.ctx (hp0) ad u81 i45 q q q q fun au av aw al => lV u45 q (ab.el (hp0) ad al) q q q fun ax ae => O aa fun ay am aa => Qc q q c53 ae (fun _ => w_spec_TicketValid hR0 am) q <| A q (qt_not q) q q <| Qn ae fun a ha az af => X <| S1 ha ?_
   refine Yh q aa (fun aa => ?_) (fun aa => ?_)
   ·refine rR <| qA q q q <| B <| W fun a ha => ?_
    cases aa
    have ao := af.q0
    exact zj (m (⟨ret_ne, q, ha.s, ao⟩))
   refine WP_skip fun a ha => zi <| X <| S1 ha <| Z <| qM q q q <| A q (qt_add q q) q q <| qA q q q <| WL_nil fun a ha => ?_
   cases aa
   have ap := af.q0
   exact ⟨q, ha.s, ap⟩
  refine WP_exit fun a ha => ?_
  cases aa
  exact zo (⟨exit_ne, q, ha.s, ab⟩)
 intro e a aA ag
 rcases o2 with o2 | o2
 ·obtain ⟨rfl, ha, ah⟩ := ag
  refine zn <| X <| S1 ha <| rR <| qM q q q <| za ah.ctx (t := ty4) (hp0) u81 q q q <| A q (qt_leq q q) q q <| qA q q q <| B <| W fun a ha => ?_
  cases h
  exact ret1 q ha q ⟨q, ah⟩
 obtain ⟨rfl, ha, aq⟩ := ag
 obtain rfl := L h
 exact zj (m (ret1 q ha q ⟨q, aq⟩))
theorem w_spec_l4Copy {w : World} {G : List Res} {vp0 : Value} {p0 : List LP} (hp0 : Has G ty4 vp0 p0) {r : (List LP)} (h : spec_l4CopyS p0 = some r) (H : Ctx w G) : Calls Tryz.prog 98 #[vp0] w fun e w' => ∃ (v1 : Value), e = .returned (v1) ∧ Holds M0 w w' [.sl 45 ty4 v1 r] G := by
 refine E0 (n := 22) H Tryz.func98 q q q fun H => ?_
 unfold spec_l4CopyS at h
 refine rR <| qA q q q <| B <| C <| Z <| zs (t := ty4) (args := []) (xs := ([] : List LP)) H (BltL.nil) u81 j45 q q q q q q fun v1 w2 H3 => qA q q q <| B <| C <| rR <| qA q q q <| B <| g <| O h fun o7 aj h => ?_
 refine fun a9 ak => zp (I := fun s a w2 => match s with | (s5, s6) => ∃ ab, Fr a 22 [(0, vp0), (3, ab), (4, iV s6)] ∧ Holds M0 w w2 [.sl 45 ty4 ab s5] G) (O := fun o e a w2 => match o with | q0 => e = .exit 0 ∧ ∃ ae, Fr a 22 [(3, ae)] ∧ Holds M0 w w2 [.sl 45 ty4 ae q0] G) aj ?_ ?_ ?_
 ·exact ⟨v1, ak.s, H3⟩
 ·rintro ⟨s5, s6⟩ _ a aC aa ⟨ab, ha, ad⟩
  refine S1 ha <| C <| rR <| qM q q q <| qM q q q <| za ad.ctx (t := ty4) (hp0.c) u81 q q q <| A q (qt_lss q q) q q <| B ?_
  refine Yh q aa (fun aa => ?_) (fun aa => ?_)
  ·refine y <| C <| g <| Z <| qM q q q <| zs (t := ty2) (args := []) (xs := ([] : LP)) ad (BltL.nil) u45 j49 q q q q q q fun aD aE af => qM q q q <| qM q q q <| O aa fun aF ag aa => b af.ctx (hp0.c.c) ag u81 i45 q q q q fun aG aH aI al => lV u45 q (af.el (hp0.c.c) ag al) q q q fun aJ am => have ao := am.p1; O aa fun ap aq aa => zw ao hR1 aq u45 j49 q q q q q q fun aK aL ar => have ah := ar.freeze; zs (t := ty4) (args := [.tmp 18]) (xs := ([ap] : List LP)) ah (BltL.cons (Blt.slice hO0) (ah.ctx.sliceList hR0) (BltL.nil)) u81 j45 q q q q q q fun aM aN au => have av := au.p3; O aa fun aO aw aa => zw av hS1 aw u81 j45 q q q q q q fun ax aP ay => qA q q q <| WL_nil fun a ha => ?_
   refine zi <| X <| S1 ha <| Z <| qM q q q <| A q (qt_add q q) q q <| qA q q q <| WL_nil fun a ha => ?_
   cases aa
   have az := ay.q1.q1.q1
   exact ⟨q, ax, ha.s, az⟩
  refine WP_exit fun a ha => ?_
  cases aa
  exact zo (⟨exit_ne, q, ab, ha.s, ad⟩)
 rintro _ a aQ ⟨rfl, aA, ha, aB⟩
 refine zn <| X <| S1 ha <| rR <| qM q q q <| qA q q q <| B <| W fun a ha => ?_
 obtain rfl := L h
 exact ret1 q ha q ⟨aA, q, aB⟩
theorem w_spec_l4Next {w : World} {G : List Res} {p0 : Int} {p1 : Int} {r : Int} (h : spec_l4NextS p0 p1 = some r) (H : Ctx w G) : Calls Tryz.prog 111 #[iV p0, iV p1] w fun e w' => e = .returned (iV r) ∧ Holds M0 w w' [] G := by
 refine E0 (n := 33) H Tryz.func111 q q q fun H => ?_
 unfold spec_l4NextS at h
 refine rR <| qA q q q <| B <| C <| g <| rR <| qM q q q <| A q (qt_eql q q) q q <| qM q q q ?_
 refine Ha (res := ((p1 == 0) && (p0 == 0))) 2 an (fun aa K2 af => ?_) ?_
 ·exact qM (J q aa) q q <| A (J q aa) (qt_eql q q) q q <| af 2 q q q (ai aa)
 refine qA q q q <| B ?_
 refine Yh q h (fun h => ?_) (fun h => ?_)
 ·refine rR <| qA q q q <| B <| W fun a ha => ?_
  cases h
  exact zj (m (ret1 q ha q ⟨q, H⟩))
 refine rR <| qM q q q <| A q (qt_eql q q) q q <| qM q q q ?_
 refine Ha (res := ((p1 == 1) && (p0 == 1))) 2 an (fun ab K5 ag => ?_) ?_
 ·exact qM (J q ab) q q <| A (J q ab) (qt_eql q q) q q <| ag 2 q q q (ai ab)
 refine qA q q q <| B ?_
 refine Yh q h (fun h => ?_) (fun h => ?_)
 ·refine rR <| qA q q q <| B <| W fun a ha => ?_
  cases h
  exact zj (m (ret1 q ha q ⟨q, H⟩))
 refine rR <| qM q q q <| A q (qt_eql q q) q q <| qM q q q ?_
 refine Ha (res := ((p1 == 2) && (p0 == 2))) 2 an (fun ad K8 ah => ?_) ?_
 ·exact qM (J q ad) q q <| A (J q ad) (qt_eql q q) q q <| ah 2 q q q (ai ad)
 refine qA q q q <| B ?_
 refine Yh q h (fun h => ?_) (fun h => ?_)
 ·refine rR <| qA q q q <| B <| W fun a ha => ?_
  cases h
  exact zj (m (ret1 q ha q ⟨q, H⟩))
 refine rR <| qM q q q <| A q (qt_eql q q) q q <| qM q q q ?_
 refine Ha (res := ((p1 == 3) && (decide (p0 < 3)))) 2 an (fun ae ak aj => ?_) ?_
 ·exact qM (J q ae) q q <| A (J q ae) (qt_lss q q) q q <| aj 2 q q q (ai ae)
 refine qA q q q <| B ?_
 refine Yh q h (fun h => ?_) (fun h => ?_)
 ·refine rR <| qA q q q <| B <| W fun a ha => ?_
  cases h
  exact zj (m (ret1 q ha q ⟨q, H⟩))
 refine WP_skip fun a ha => zi <| X <| S1 ha <| rR <| qA q q q <| B <| W fun a ha => ?_
 cases h
 exact ret1 q ha q ⟨q, H⟩
theorem w_spec_TicketDo {w : World} {G : List Res} {vp0 : Value} {p0 : LP} (hp0 : Has G ty2 vp0 p0) {p1 : Int} {p2 : Int} {r : LP × Bool} (h : spec_TicketDoS p0 p1 p2 = some r) (H : Ctx w G) : Calls Tryz.prog 99 #[vp0, iV p1, iV p2] w fun e w' => ∃ (v1 : Value), e = .returned (.tuple #[v1, .bool r.2]) ∧ Holds M0 w w' [.sl 49 ty2 v1 r.1] G := by
 refine E0 (n := 46) H Tryz.func99 q q q fun H => ?_
 unfold spec_TicketDoS at h
 refine rR <| qA q q q <| qA q q q <| B <| C <| C <| zk <| qM q q q <| O h fun x1 ak h => Qc q q c53 H (fun _ => w_spec_TicketValid (hp0) ak) q <| A q (qt_not q) q q <| Qn H fun a ha w3 H5 => X <| S1 ha ?_
 refine Yh q h (fun h => ?_) (fun h => ?_)
 ·refine C <| Z <| zs (t := ty2) (args := []) (xs := ([] : LP)) H5 (BltL.nil) u45 j49 q q q q q q fun v7 w8 H9 => qA q q q <| qA q q q <| B <| W fun a ha => ?_
  cases h
  exact m (ret2 q ha q q ⟨v7, q, H9⟩)
 refine y <| C <| Z <| zs (t := ty2) (args := []) (xs := ([] : LP)) H5 (BltL.nil) u45 j49 q q q q q q fun aB aC al => qM q q q <| O h fun aD am h => zw al (hp0.c) am u45 j49 q q q q q q fun ab aE ad => qA q q q <| B <| C <| C <| zk <| qM q q q <| qM q q q <| za ad.ctx (t := ty2) (hp0.c) u45 q q q <| A q (qt_sub q q) q q <| O h fun aF ao h => Qc q q c52 ad (fun _ => w_spec_l1In ao) q <| A q (qt_not q) q q <| Qn ad fun a ha aG aa => X <| S1 ha ?_
 refine Yh q h (fun h => ?_) (fun h => ?_)
 ·refine rR <| qM q q q <| qA q q q <| qA q q q <| B <| W fun a ha => ?_
  cases h
  exact m (ret2 q ha q q ⟨ab, q, aa⟩)
 refine y <| C <| zk <| qM q q q <| qM q q q <| O h fun aH af h => b aa.ctx (hp0.c) af u45 i49 q q q q fun aI aJ aK ap => qF uf49 fi49_1 nz3 q q q <| lI u3 q (aa.el (hp0.c) af ap).s q q q <| qM q q q <| O h fun aq ar h => Qc q q c111 aa (fun _ => w_spec_l4Next ar) q <| qA q q q <| Qn aa fun a ha aL ae => X <| S1 ha <| C <| rR <| qM q q q <| A q (qt_lss q q) q q <| B ?_
 refine Yh q h (fun h => ?_) (fun h => ?_)
 ·refine rR <| qM q q q <| qA q q q <| qA q q q <| B <| W fun a ha => ?_
  cases h
  exact m (ret2 q ha q q ⟨ab, q, ae⟩)
 refine y <| rR <| qM q q q <| qM q q q <| qM q q q <| O h fun aM ag h => b ae.ctx hS0 ag u45 i49 q q q q fun aN aO aP au => qF uf49 fi49_1 nz3 q q q <| WL_storeH (fo := 1) (cs' := [iV aq]) ae ag au (Upd.snd (Upd.whole (Blt.int))) q il3 q q q q fun aQ ah => B <| C <| C <| zk <| qM q q q <| O h fun aR av h => Qc q q c53 ah (fun _ => w_spec_TicketValid hS0 av) q <| A q (qt_not q) q q <| Qn ah fun a ha aS aj => X <| S1 ha ?_
 refine Yh q h (fun h => ?_) (fun h => ?_)
 ·refine C <| Z <| zs (t := ty2) (args := []) (xs := ([] : LP)) aj (BltL.nil) u45 j49 q q q q q q fun aT aU aw => qM q q q <| O h fun aV ax h => zw aw (hp0.c.c) ax u45 j49 q q q q q q fun ay aW az => qA q q q <| qA q q q <| B <| W fun a ha => ?_
  cases h
  have aA := az.q1
  exact m (ret2 q ha q q ⟨ay, q, aA⟩)
 refine y <| rR <| qM q q q <| qA q q q <| qA q q q <| B <| W fun a ha => ?_
 cases h
 exact ret2 q ha q q ⟨ab, q, aj⟩
theorem w_spec_TicketMay {w : World} {G : List Res} {vp0 : Value} {p0 : LP} (hp0 : Has G ty2 vp0 p0) {r : (List Int)} (h : spec_TicketMayS p0 = some r) (H : Ctx w G) : Calls Tryz.prog 112 #[vp0] w fun e w' => ∃ (v1 : Value), e = .returned (v1) ∧ Holds M0 w w' [.sl 3 tI v1 r] G := by
 refine E0 (n := 26) H Tryz.func112 q q q fun H => ?_
 unfold spec_TicketMayS at h
 refine rR <| qA q q q <| B <| C <| Z <| zs (t := tI) (args := []) (xs := ([] : List Int)) H (BltL.nil) u24 j3 q q q q q q fun v1 w2 H3 => qA q q q <| B <| C <| rR <| qA q q q <| B <| g <| O h fun o7 ag h => ?_
 refine fun a9 ah => zp (I := fun s a w2 => match s with | (s5, s6) => ∃ ab, Fr a 26 [(0, vp0), (3, ab), (4, iV s6)] ∧ Holds M0 w w2 [.sl 3 tI ab s5] G) (O := fun o e a w2 => match o with | q0 => e = .exit 0 ∧ ∃ ae, Fr a 26 [(3, ae)] ∧ Holds M0 w w2 [.sl 3 tI ae q0] G) ag ?_ ?_ ?_
 ·exact ⟨v1, ah.s, H3⟩
 ·rintro ⟨s5, s6⟩ _ a ax aa ⟨ab, ha, ad⟩
  refine S1 ha <| C <| rR <| qM q q q <| qM q q q <| za ad.ctx (t := ty2) (hp0.c) u45 q q q <| A q (qt_lss q q) q q <| B ?_
  refine Yh q aa (fun aa => ?_) (fun aa => ?_)
  ·refine y <| C <| g <| rR <| qM q q q <| qM q q q <| O aa fun ay aj aa => V1 q q c99 (w_spec_TicketDo (hp0.c) aj ad.ctx) q fun az aA ak => have af := ad.cN1 [] ak; qM q q q <| A q (zv q q) q q <| A q (zv q q) q q <| qA q q q <| qA q q q <| rN <| qM q q q <| B ?_
   refine Yh q aa (fun aa => ?_) (fun aa => ?_)
   ·refine Z <| qM q q q <| qM q q q <| zs (t := tI) (args := [.tmp 22]) (xs := ([s6] : List Int)) af (BltL.cons (Blt.int) q (BltL.nil)) u24 j3 q q q q q q fun aB aC al => have am := al.p2; O aa fun aD ao aa => zw am hS1 ao u24 j3 q q q q q q fun ap aE aq => qA q q q <| WL_nil fun a ha => zi <| X <| S1 ha <| Z <| qM q q q <| A q (qt_add q q) q q <| qA q q q <| WL_nil fun a ha => ?_
    cases aa
    have ar := aq.q1.q1
    exact ⟨q, ap, ha.s, ar⟩
   refine WP_skip fun a ha => zi <| X <| S1 ha <| Z <| qM q q q <| A q (qt_add q q) q q <| qA q q q <| WL_nil fun a ha => ?_
   cases aa
   have au := af.q0
   exact ⟨q, ab, ha.s, au⟩
  refine WP_exit fun a ha => ?_
  cases aa
  exact zo (⟨exit_ne, q, ab, ha.s, ad⟩)
 rintro _ a aF ⟨rfl, av, ha, aw⟩
 refine zn <| X <| S1 ha <| rR <| qM q q q <| qA q q q <| B <| W fun a ha => ?_
 obtain rfl := L h
 exact ret1 q ha q ⟨av, q, aw⟩
theorem w_spec_NextFire {w : World} {G : List Res} {vp0 : Value} {p0 : List LP} (hp0 : Has G ty4 vp0 p0) {r : Int × Int} (h : spec_NextFireS p0 = some r) (H : Ctx w G) : Calls Tryz.prog 100 #[vp0] w fun e w' => e = .returned (.tuple #[iV r.1, iV r.2]) ∧ Holds M0 w w' [] G := by
 refine E0 (n := 28) H Tryz.func100 q q q fun H => ?_
 unfold spec_NextFireS at h
 refine rR <| qA q q q <| qA q q q <| B <| C <| rR <| qA q q q <| B <| g <| O h fun o2 am h => ?_
 refine fun a4 ao => zp (I := fun s a w2 => match s with | s1 => (Fr a 28 [(0, vp0), (4, iV s1)] ∧ Holds M0 w w2 [] G)) (O := fun o e a w2 => match o with | .inl _ => e = .exit 0 ∧ (Fr a 28 [] ∧ Holds M0 w w2 [] G) | .inr (q0, q1) => e = .ret ∧ (Fr a 28 [(2, iV q0), (3, iV q1)] ∧ Holds M0 w w2 [] G)) am ?_ ?_ ?_
 ·exact ⟨ao.s, H⟩
 ·rintro s1 _ a w6 aa ⟨ha, ae⟩
  refine S1 ha <| C <| C <| zk <| qM q q q <| qM q q q <| za ae.ctx (t := ty4) (hp0) u81 q q q <| A q (qt_lss q q) q q <| qM q q q <| O aa fun ap ab aa => ?_
  refine Ga (res := ap) 2 (if_f · ab) (fun af aD aq => ?_) ?_
  ·exact have ab := if_t af ab; qM (J q af) q q <| O ab fun aE ar ab => Qc (J q af) q c85 ae (fun _ => w_spec_KitchenValid (hp0) ar) q <| aq 2 q q q ab
  refine Qn ae fun a ha aF ag => X <| S1 ha ?_
  refine Yh q aa (fun aa => ?_) (fun aa => ?_)
  ·refine y <| C <| g <| rR <| qM q q q <| qM q q q <| O aa fun aG ah aa => b ag.ctx (hp0) ah u81 i45 q q q q fun aH aI aJ au => lV u45 q (ag.el (hp0) ah au) q q q fun aK aj => O aa fun aL av aa => V1 q q c112 (w_spec_TicketMay hR0 av aj.ctx) q fun aM aN aw => have ad := aj.cN1 [] aw; qA q q q <| rN <| qM q q q <| za ad.ctx (t := tI) hS0 u24 q q q <| A q (qt_gtr q q) q q <| B ?_
   refine Yh q aa (fun aa => ?_) (fun aa => ?_)
   ·refine C <| WP_quiet (by kernel_rfl) (by kernel_rfl) <| qM q q q <| qM q q q <| O aa fun aO ak aa => b ad.ctx hS0 ak u24 i3 q q q q fun aP aQ aR ax => lI u3 q (ad.el hS0 ak ax) q q q <| qA q q q <| qA q q q <| Qn ad fun a ha aS ay => X <| S1 ha <| W fun a ha => ?_
    cases aa
    have az := ay.q0.q0
    exact zj (m (⟨ret_ne, q, ha.s, az⟩))
   refine WP_skip fun a ha => zi <| X <| S1 ha <| Z <| qM q q q <| A q (qt_add q q) q q <| qA q q q <| WL_nil fun a ha => ?_
   cases aa
   have aA := ad.q0.q0
   exact ⟨q, ha.s, aA⟩
  refine WP_exit fun a ha => ?_
  cases aa
  exact zo (⟨exit_ne, q, ha.s, ag⟩)
 intro e a aT al
 rcases o2 with o2 | o2
 ·obtain ⟨rfl, ha, aB⟩ := al
  refine zn <| X <| S1 ha <| rR <| qA q q q <| qA q q q <| B <| W fun a ha => ?_
  cases h
  exact ret2 q ha q q ⟨q, aB⟩
 obtain ⟨aU, aV⟩ := o2
 obtain ⟨rfl, ha, aC⟩ := al
 cases h
 exact zj (m (ret2 q ha q q ⟨q, aC⟩))
theorem w_spec_WorkStep {w : World} {G : List Res} {vp0 : Value} {p0 : List LP} (hp0 : Has G ty4 vp0 p0) {r : (List LP) × Bool} (h : spec_WorkStepS p0 = some r) (H : Ctx w G) : Calls Tryz.prog 73 #[vp0] w fun e w' => ∃ (v1 : Value), e = .returned (.tuple #[v1, .bool r.2]) ∧ Holds M0 w w' [.sl 45 ty4 v1 r.1] G := by
 refine E0 (n := 77) H Tryz.func73 q q q fun H => ?_
 unfold spec_WorkStepS at h
 refine rR <| qA q q q <| qA q q q <| B <| C <| C <| zk <| qM q q q <| O h fun x1 aN h => Qc q q c85 H (fun _ => w_spec_KitchenValid (hp0) aN) q <| A q (qt_not q) q q <| Qn H fun a ha w3 H5 => X <| S1 ha ?_
 refine Yh q h (fun h => ?_) (fun h => ?_)
 ·refine C <| Z <| zs (t := ty4) (args := []) (xs := ([] : List LP)) H5 (BltL.nil) u81 j45 q q q q q q fun v7 w8 H9 => qA q q q <| qA q q q <| B <| W fun a ha => ?_
  cases h
  exact m (ret2 q ha q q ⟨v7, q, H9⟩)
 refine y <| rR <| qM q q q <| O h fun bu aO h => V1 q q c98 (w_spec_l4Copy (hp0) aO H5.ctx) q fun ab bv aP => have aQ := H5.cN1 [] aP; qA q q q <| B <| C <| rR <| qA q q q <| B <| g <| O h fun ah aR h => ?_
 refine fun bw aS => zp (I := fun s a w2 => match s with | (ag, ar) => (Fr a 77 [(0, vp0), (4, ab), (5, iV ag)] ∧ Holds M0 w w2 [.sl 45 ty4 ab ar] G)) (O := fun o e a w2 => match o with | .inl q0 => e = .exit 0 ∧ (Fr a 77 [(0, vp0), (4, ab)] ∧ Holds M0 w w2 [.sl 45 ty4 ab q0] G) | .inr (q0, q1, q2) => e = .ret ∧ ∃ ad, Fr a 77 [(2, ad), (3, .bool q1)] ∧ Holds M0 w w2 [.sl 45 ty4 ad q0] G) aR ?_ ?_ ?_
 ·exact ⟨aS.s, aQ⟩
 ·rintro ⟨ag, ar⟩ _ a bz ae ⟨ha, au⟩
  refine S1 ha <| C <| rR <| qM q q q <| A q (qt_geq q q) q q <| B ?_
  refine Yh q ae (fun ae => ?_) (fun ae => ?_)
  ·refine y <| C <| g <| rR <| qA q q q <| B <| g <| O ae fun aj aT ae => ?_
   refine fun bA aU => zp (I := fun s a w2 => match s with | (ak, av) => (Fr a 77 [(0, vp0), (4, ab), (5, iV ag), (6, iV ak)] ∧ Holds M0 w w2 [.sl 45 ty4 ab av] G)) (O := fun o e a w2 => match o with | .inl q0 => e = .exit 2 ∧ (Fr a 77 [(0, vp0), (4, ab), (5, iV ag)] ∧ Holds M0 w w2 [.sl 45 ty4 ab q0] G) | .inr (q0, q1, q2) => e = .ret ∧ ∃ ad, Fr a 77 [(2, ad), (3, .bool q1)] ∧ Holds M0 w w2 [.sl 45 ty4 ad q0] G) aT ?_ ?_ ?_
   ·exact ⟨aU.s, au⟩
   ·rintro ⟨ak, av⟩ _ a bB af ⟨ha, ao⟩
    refine S1 ha <| C <| rR <| qM q q q <| qM q q q <| za ao.ctx (t := ty4) (hp0.c) u81 q q q <| A q (qt_lss q q) q q <| B ?_
    refine Yh q af (fun af => ?_) (fun af => ?_)
    ·refine y <| C <| g <| rR <| qA q q q <| B <| g <| O af fun al aV af => ?_
     refine fun bC aW => zp (I := fun s a w2 => match s with | (aw, ax) => (Fr a 77 [(0, vp0), (4, ab), (5, iV ag), (6, iV ak), (7, iV aw)] ∧ Holds M0 w w2 [.sl 45 ty4 ab ax] G)) (O := fun o e a w2 => match o with | .inl q0 => e = .exit 4 ∧ (Fr a 77 [(0, vp0), (4, ab), (5, iV ag), (6, iV ak)] ∧ Holds M0 w w2 [.sl 45 ty4 ab q0] G) | .inr (q0, q1, q2) => e = .ret ∧ ∃ ad, Fr a 77 [(2, ad), (3, .bool q1)] ∧ Holds M0 w w2 [.sl 45 ty4 ad q0] G) aV ?_ ?_ ?_
     ·exact ⟨aW.s, ao⟩
     ·rintro ⟨aw, ax⟩ _ a bD aa ⟨ha, ay⟩
      refine S1 ha <| C <| rR <| qM q q q <| qM q q q <| qM q q q <| O aa fun bE az aa => b ay.ctx (hp0.c) az u81 i45 q q q q fun bF bG bH aX => lV u45 q (ay.el (hp0.c) az aX) q q q fun bI am => za am.ctx (t := ty2) hR0 u45 q q q <| A q (qt_lss q q) q q <| B ?_
      refine Yh q aa (fun aa => ?_) (fun aa => ?_)
      ·refine y <| C <| g <| rR <| qM q q q <| qM q q q <| O aa fun bJ aA aa => b am.ctx (hp0.c.c) aA u81 i45 q q q q fun bK bL bM aY => lV u45 q (am.el (hp0.c.c) aA aY) q q q fun bN aB => qM q q q <| qM q q q <| O aa fun bO aZ aa => V1 q q c99 (w_spec_TicketDo hR0 aZ aB.ctx) q fun a0 bP a1 => have ap := aB.cN1 [] a1; qM q q q <| A q (zv q q) q q <| A q (zv q q) q q <| qA q q q <| qA q q q <| rN <| qM q q q <| B ?_
       refine Yh q aa (fun aa => ?_) (fun aa => ?_)
       ·refine rR <| qM q q q <| qM q q q <| qM q q q <| O aa fun bQ aC aa => b ap.ctx hS3 aC u81 i45 q q q q fun bR bS bT a2 => have a3 := ap.p3; have a4 := a3.p1; have a5 := a4.freeze; have aD := a5.p1; WL_storeH (fo := 0) (cs' := [a0]) aD aC a2 (Upd.whole (Blt.slice hO1)) (aD.ctx.sliceList hR1) il45 q q q q fun bU a6 => rN <| qM q q q <| qA q q q <| qA q q q <| B <| W fun a ha => ?_
        cases aa
        have a7 := a6.q1.q1.q1
        exact zj (m (⟨ret_ne, q, ab, ha.s, a7⟩))
       refine WP_skip fun a ha => zi <| X <| S1 ha <| Z <| qM q q q <| A q (qt_add q q) q q <| qA q q q <| WL_nil fun a ha => ?_
       cases aa
       have a8 := ap.q0.q0.q0
       exact ⟨q, ha.s, a8⟩
      refine WP_exit fun a ha => ?_
      cases aa
      have a9 := am.q0
      exact zo (⟨exit_ne, q, ha.s, a9⟩)
     intro e a bV aE
     rcases al with al | al
     ·obtain ⟨rfl, ha, ba⟩ := aE
      refine zn <| zi <| X <| S1 ha <| Z <| qM q q q <| A q (qt_add q q) q q <| qA q q q <| WL_nil fun a ha => ?_
      cases af
      exact ⟨q, ha.s, ba⟩
     obtain ⟨bW, bX, bY⟩ := al
     obtain ⟨rfl, bb, ha, bc⟩ := aE
     cases af
     exact zj (zj (m (⟨ret_ne, q, bb, ha.s, bc⟩)))
    refine WP_exit fun a ha => ?_
    cases af
    exact zo (⟨exit_ne, q, ha.s, ao⟩)
   intro e a bZ aF
   rcases aj with aj | aj
   ·obtain ⟨rfl, ha, bd⟩ := aF
    refine zn <| zi <| X <| S1 ha <| Z <| qM q q q <| A q (qt_sub q q) q q <| qA q q q <| WL_nil fun a ha => ?_
    cases ae
    exact ⟨q, ha.s, bd⟩
   obtain ⟨p105, b0, b4⟩ := aj
   obtain ⟨rfl, be, ha, bf⟩ := aF
   cases ae
   exact zj (zj (m (⟨ret_ne, q, be, ha.s, bf⟩)))
  refine WP_exit fun a ha => ?_
  cases ae
  exact zo (⟨exit_ne, q, ha.s, au⟩)
 intro e a b5 aG
 rcases ah with ah | ah
 ·obtain ⟨rfl, ha, aH⟩ := aG
  refine zn <| X <| S1 ha <| rR <| qM q q q <| O h fun b6 bg h => V0 q q c100 (w_spec_NextFire (hp0.c) bg aH.ctx) q fun b7 bh => have aq := aH.cN0 [] bh; qM q q q <| A q (zv q q) q q <| A q (zv q q) q q <| qA q q q <| qA q q q <| B <| C <| rR <| qM q q q <| A q (qt_lss q q) q q <| B ?_
  refine Yh q h (fun h => ?_) (fun h => ?_)
  ·refine rR <| qM q q q <| qA q q q <| qA q q q <| B <| W fun a ha => ?_
   cases h
   exact m (ret2 q ha q q ⟨ab, q, aq⟩)
  refine y <| rR <| qM q q q <| qM q q q <| O h fun b8 aI h => b aq.ctx (hp0.c) aI u81 i45 q q q q fun b9 ca cb bi => lV u45 q (aq.el (hp0.c) aI bi) q q q fun cc aJ => qM q q q <| O h fun cd bj h => V1 q q c99 (w_spec_TicketDo hR0 bj aJ.ctx) q fun bk ce bl => have aK := aJ.cN1 [] bl; qM q q q <| A q (zv q q) q q <| A q (zv q q) q q <| qA q q q <| qA q q q <| rN <| qM q q q <| qM q q q <| qM q q q <| O h fun cf aL h => b aK.ctx hS2 aL u81 i45 q q q q fun cg ch ci bm => have bn := aK.p2; have bo := bn.p1; have bp := bo.freeze; have aM := bp.p1; WL_storeH (fo := 0) (cs' := [bk]) aM aL bm (Upd.whole (Blt.slice hO1)) (aM.ctx.sliceList hR1) il45 q q q q fun cj bq => rN <| qM q q q <| qA q q q <| qA q q q <| B <| W fun a ha => ?_
  cases h
  have br := bq.q1.q1
  exact ret2 q ha q q ⟨ab, q, br⟩
 obtain ⟨ck, cl, cm⟩ := ah
 obtain ⟨rfl, bs, ha, bt⟩ := aG
 cases h
 exact zj (m (ret2 q ha q q ⟨bs, q, bt⟩))
theorem w_spec_l7Work {w : World} {G : List Res} {A0 : Value} {B0 : LI} {A1 : Value} {B1 : List Int} {A2 : Value} {B2 : List Int} {B3 : Int} {A4 : Value} {B4 : LT} {r : (LI × (List Int) × (List Int) × Int × LT) × Bool} (h : spec_l7WorkS B0 B1 B2 B3 B4 = some r) (H : Ctx w ([.sl 55 ty12 A0 B0, .sl 3 tI A1 B1, .sl 3 tI A2 B2, .sl 47 ty14 A4 B4] ++ G)) : Calls Tryz.prog 37 #[.agg #[A0, A1, A2, iV B3, A4]] w fun e w' => ∃ (v1 : Value) (v2 : Value) (v3 : Value) (v4 : Value), e = .returned (.tuple #[.agg #[v1, v2, v3, iV r.1.2.2.2.1, v4], .bool r.2]) ∧ Holds (([.sl 55 ty12 A0 B0, .sl 3 tI A1 B1, .sl 3 tI A2 B2, .sl 47 ty14 A4 B4] : List Res).flatMap Res.own) w w' [.sl 55 ty12 v1 r.1.1, .sl 3 tI v2 r.1.2.1, .sl 3 tI v3 r.1.2.2.1, .sl 47 ty14 v4 r.1.2.2.2.2] G := by
 refine E1 (n := 33) H Tryz.func37 q q q fun H => ?_
 unfold spec_l7WorkS at h
 refine C <| Z <| WL_box (cs := [A0, A1, A2, iV B3, A4]) H q q q q fun b1 w2 H3 => zq (cs := [nS, nS, nS, iV 0, nS]) H3 z27 q q q fun b5 w6 H7 => qA q q q <| rN <| lA (R H7.p1) us27 uo27 il27 q q q <| O h fun aP aw h => V1 q q c49 (w_spec_l7Tickets hS2 hS3 hS4 hS5 aw H7.ctx) q fun aQ aR ax => have ah := H7.cN1 [] ax; O h fun ay az h => V1 q q c73 (w_spec_WorkStep hS0 az ah.ctx) q fun aj aS aA => have af := ah.cN1 [] aA; qM q q q <| A q (zv q q) q q <| A q (zv q q) q q <| qA q q q <| qA q q q <| B <| C <| rR <| qM q q q <| A q (qt_not q) q q <| B ?_
 refine Yh q h (fun h => ?_) (fun h => ?_)
 ·refine rR <| lA (R af.p3) us27 uo27 il27 q q q <| have ab := af.p2; zl (cs' := [A0, A1, A2, iV B3, A4]) ab q il27 q (T (ab.ctx.sliceOne hS4) (T (ab.ctx.sliceOne hS5) (T (ab.ctx.sliceOne hS6) (T q (T (ab.ctx.sliceOne hS7) q))))) q q q fun aT ak => qA q q q <| B <| W fun a ha => ?_
  cases h
  refine have aB := R ak.p0; have aC := ak.q0.q0.q0.q0.p3.p3.p3.p3; ?_
  exact m (retct q ha q q (run_loadVar_bx (cs := [A0, A1, A2, iV B3, A4]) us27 uo27 il27 aB) ⟨A0, A1, A2, A4, q, aC⟩)
 refine y <| C <| rR <| qA q q q <| B <| g <| O h fun aU aD h => have aE := af.q1.p1.p6.p6.p6.p6.p6; ?_
 refine fun aV aF => zp (I := fun s a w2 => match s with | (al, am) => (Fr a 33 [(1, pB b1), (2, pB b5), (4, aj), (6, iV al)] ∧ Holds (([.sl 55 ty12 A0 B0, .sl 3 tI A1 B1, .sl 3 tI A2 B2, .sl 47 ty14 A4 B4] : List Res).flatMap Res.own) w w2 [.bx b1 27 [A0, A1, A2, iV B3, A4], .sl 55 ty12 A0 B0, .sl 3 tI A1 B1, .sl 3 tI A2 B2, .sl 47 ty14 A4 am, .bx b5 27 [nS, nS, nS, iV 0, nS], .sl 45 ty4 aj ay.1] G)) (O := fun o e a w2 => match o with | q0 => e = .exit 0 ∧ (Fr a 33 [(1, pB b1), (2, pB b5)] ∧ Holds (([.sl 55 ty12 A0 B0, .sl 3 tI A1 B1, .sl 3 tI A2 B2, .sl 47 ty14 A4 B4] : List Res).flatMap Res.own) w w2 [.bx b1 27 [A0, A1, A2, iV B3, A4], .sl 55 ty12 A0 B0, .sl 3 tI A1 B1, .sl 3 tI A2 B2, .sl 47 ty14 A4 q0, .bx b5 27 [nS, nS, nS, iV 0, nS]] G)) aD ?_ ?_ ?_
 ·exact ⟨aF.s, aE⟩
 ·rintro ⟨al, am⟩ _ a aW aa ⟨ha, ae⟩
  refine S1 ha <| C <| rR <| qM q q q <| qF uf27 fi27_4 nz25 q q q <| l u25 q (R ae.p0) q q q q <| za ae.ctx (t := ty14) hS4 u25 q q q <| A q (qt_lss q q) q q <| B ?_
  refine Yh q aa (fun aa => ?_) (fun aa => ?_)
  ·refine y <| C <| g <| WP_tail 7 (by kernel_rfl) (by kernel_rfl) fun aX aG => have ag := ae.grow aG; qF uf27 fi27_4 nz25 q q q <| l u25 q (R ag.p0) q q q q <| qM q q q <| qM q q q <| qM q q q <| O aa fun aY ao aa => b ag.ctx hS6 ao u81 i45 q q q q fun aZ a0 a1 aH => lV u45 q (ag.el hS6 ao aH) q q q fun aI ap => SL_nil <| O aa fun a2 aq aa => b ap.ctx hS5 aq u25 i47 q q q q fun a3 a4 a5 aJ => qF uf47 fi47_1 nz45 q q q <| have ar := ap.p5; WL_storeH (fo := 1) (cs' := [aI]) ar aq aJ (Upd.snd (Upd.fst (Upd.whole (Blt.slice hO1)) q)) (ar.ctx.sliceList hR1) il45 q q q q fun a6 aK => WL_nil fun a ha => zi <| X <| S1 ha <| Z <| qM q q q <| A q (qt_add q q) q q <| qA q q q <| WL_nil fun a ha => ?_
   cases aa
   have aL := aK.q1.p6.p6.p2.p6.p6.p6.p6
   exact ⟨q, ha.s, aL⟩
  refine WP_exit fun a ha => ?_
  cases aa
  have aM := ae.q6.p5.p5.p5.p5.p5.p5
  exact zo (⟨exit_ne, q, ha.s, aM⟩)
 rintro _ a a7 ⟨rfl, ha, au⟩
 refine zn <| X <| S1 ha <| rR <| lA (R au.p0) us27 uo27 il27 q q q <| have ad := au.p5; zl (cs' := [A0, A1, A2, iV B3, A4]) ad q il27 q (T (ad.ctx.sliceOne hS2) (T (ad.ctx.sliceOne hS3) (T (ad.ctx.sliceOne hS4) (T q (T (ad.ctx.sliceOne hS5) q))))) q q q fun a8 av => qA q q q <| B <| W fun a ha => ?_
 cases h
 refine have aN := R av.p0; have aO := av.q0.q0.p3.p3.p3.p3; ?_
 exact retct q ha q q (run_loadVar_bx (cs := [A0, A1, A2, iV B3, A4]) us27 uo27 il27 aN) ⟨A0, A1, A2, A4, q, aO⟩
theorem w_spec_TicketCourse {w : World} {G : List Res} {vp0 : Value} {p0 : LP} (hp0 : Has G ty2 vp0 p0) {r : Int} (h : spec_TicketCourseS p0 = some r) (H : Ctx w G) : Calls Tryz.prog 101 #[vp0] w fun e w' => e = .returned (iV r) ∧ Holds M0 w w' [] G := by
 refine E0 (n := 40) H Tryz.func101 q q q fun H => ?_
 unfold spec_TicketCourseS at h
 refine rR <| qA q q q <| rN <| qA q q q <| B <| C <| C <| Z <| qA q q q <| B <| g <| O h fun o3 ap h => ?_
 refine fun a5 aq => zp (I := fun s a w2 => match s with | (s1, s2) => (Fr a 40 [(0, vp0), (3, iV s1), (4, iV s2)] ∧ Holds M0 w w2 [] G)) (O := fun o e a w2 => match o with | q0 => e = .exit 0 ∧ (Fr a 40 [(3, iV q0)] ∧ Holds M0 w w2 [] G)) ap ?_ ?_ ?_
 ·exact ⟨aq.s, H⟩
 ·rintro ⟨s1, s2⟩ _ a w7 aa ⟨ha, aj⟩
  refine S1 ha <| C <| C <| zk <| qM q q q <| qM q q q <| za aj.ctx (t := ty2) (hp0) u45 q q q <| A q (qt_lss q q) q q <| qM q q q <| O aa fun ar ae aa => ?_
  refine Ga (res := ar) 2 (if_f · ae) (fun ak aE au => ?_) ?_
  ·exact have ae := if_t ak ae; qM (J q ak) q q <| O ae fun aF av ae => Qc (J q ak) q c53 aj (fun _ => w_spec_TicketValid (hp0) av) q <| au 2 q q q ae
  refine Qn aj fun a ha aG ab => X <| S1 ha ?_
  refine Yh q aa (fun aa => ?_) (fun aa => ?_)
  ·refine y <| C <| g <| rR <| qM q q q <| qM q q q <| O aa fun aH al aa => b ab.ctx (hp0) al u45 i49 q q q q fun aI aJ aK aw => qF uf49 fi49_1 nz3 q q q <| lI u3 q (ab.el (hp0) al aw).s q q q <| A q (qt_lss q q) q q <| qM q q q <| O aa fun ax af aa => ?_
   refine Ha (res := ax) 11 (if_f · af) (fun ah aL ay => ?_) ?_
   ·refine have af := if_t ah af; qM (J q ah) q q <| A (J q ah) (qt_lss q q) q q <| qM (J q ah) q q <| O af fun az ag af => ?_
    refine Ho (res := az) (hw := (J q ah)) 7 (if_t · ag) (fun ad aM aA => ?_) ?_
    ·exact have ag := if_f ad ag; qM (J q ad) q q <| qM (J q ad) q q <| O ag fun aN am ag => b ab.ctx (hp0) am u45 i49 (J q ad) q q q fun aO aP aQ aB => qF uf49 fi49_0 nz3 (J q ad) q q <| lI u3 q (ab.el (hp0) am aB).f (J q ad) q q <| qM (J q ad) q q <| A (J q ad) (qt_lss q q) q q <| aA 7 q q q ag
    exact ay 4 q q q af
   refine B ?_
   refine Yh q aa (fun aa => ?_) (fun aa => ?_)
   ·refine Z <| qM q q q <| qM q q q <| O aa fun aR ao aa => b ab.ctx (hp0) ao u45 i49 q q q q fun aS aT aU aC => qF uf49 fi49_0 nz3 q q q <| lI u3 q (ab.el (hp0) ao aC).f q q q <| qA q q q <| WL_nil fun a ha => zi <| X <| S1 ha <| Z <| qM q q q <| A q (qt_add q q) q q <| qA q q q <| WL_nil fun a ha => ?_
    cases aa
    exact ⟨q, ha.s, ab⟩
   refine WP_skip fun a ha => zi <| X <| S1 ha <| Z <| qM q q q <| A q (qt_add q q) q q <| qA q q q <| WL_nil fun a ha => ?_
   cases aa
   exact ⟨q, ha.s, ab⟩
  refine WP_exit fun a ha => ?_
  cases aa
  exact zo (⟨exit_ne, q, ha.s, ab⟩)
 rintro _ a aV ⟨rfl, ha, aD⟩
 refine zn <| X <| S1 ha <| rR <| qM q q q <| qA q q q <| B <| W fun a ha => ?_
 obtain rfl := L h
 exact ret1 q ha q ⟨q, aD⟩
theorem w_spec_TicketDone {w : World} {G : List Res} {vp0 : Value} {p0 : LP} (hp0 : Has G ty2 vp0 p0) {r : Bool} (h : spec_TicketDoneS p0 = some r) (H : Ctx w G) : Calls Tryz.prog 74 #[vp0] w fun e w' => e = .returned (.bool r) ∧ Holds M0 w w' [] G := by
 refine E0 (n := 10) H Tryz.func74 q q q fun H => ?_
 unfold spec_TicketDoneS at h
 refine rR <| qA q q q <| B <| C <| zk <| qM q q q <| O h fun x1 ad h => Qc q q c53 H (fun _ => w_spec_TicketValid (hp0) ad) q <| qM q q q <| O h fun b3 aa h => ?_
 refine Ga (res := b3) 3 (if_f · aa) (fun ab K6 ae => ?_) ?_
 ·exact have aa := if_t ab aa; qM (J q ab) q q <| O aa fun x8 af aa => Qc (J q ab) q c101 H (fun _ => w_spec_TicketCourse (hp0) af) q <| A (J q ab) (qt_lss q q) q q <| ae 3 q q q aa
 refine qA q q q <| Qn H fun a ha ah ag => X <| S1 ha <| W fun a ha => ?_
 obtain rfl := L h
 exact ret1 q ha q ⟨q, ag⟩
theorem w_spec_TableBill {w : World} {G : List Res} {A0 : Value} {B0 : LI} (C0 : Has G ty12 A0 B0) {A1 : Value} {B1 : List Int} (C1 : Has G tI A1 B1) {A2 : Value} {B2 : List Int} (C2 : Has G tI A2 B2) {B3 : Int} {A4 : Value} {B4 : LT} (C4 : Has G ty14 A4 B4) {p1 : Int} {r : Int} (h : spec_TableBillS B0 B1 B2 B3 B4 p1 = some r) (H : Ctx w G) : Calls Tryz.prog 75 #[.agg #[A0, A1, A2, iV B3, A4], iV p1] w fun e w' => e = .returned (iV r) ∧ Holds M0 w w' [] G := by
 refine E0 (n := 57) H Tryz.func75 q q q fun H => ?_
 unfold spec_TableBillS at h
 refine C <| Z <| WL_box (cs := [A0, A1, A2, iV B3, A4]) H q q q q fun b1 w2 H3 => qA q q q <| B <| C <| C <| zk <| lA (R H3.p0) us27 uo27 il27 q q q <| O h fun x6 av h => Qc q q c17 H3 (fun _ => w_spec_HouseValid (C0.c) (C1.c) (C2.c) (C4.c) av) q <| A q (qt_not q) q q <| qM q q q <| O h fun b8 ae h => ?_
 refine Go (res := b8) 7 (if_t · ae) (fun ab aM aw => ?_) ?_
 ·exact have ae := if_f ab ae; qM (J q ab) q q <| qF uf27 fi27_4 nz25 (J q ab) q q <| l u25 q (R H3.p0) q (J q ab) q q <| za H3.ctx (t := ty14) (C4.c) u25 (J q ab) q q <| A (J q ab) (qt_sub q q) q q <| O ae fun aN ax ae => Qc (J q ab) q c52 H3 (fun _ => w_spec_l1In ax) q <| A (J q ab) (qt_not q) q q <| aw 7 q q q ae
 refine Qn H3 fun a ha aO aj => X <| S1 ha ?_
 refine Yh q h (fun h => ?_) (fun h => ?_)
 ·refine rR <| qA q q q <| B <| W fun a ha => ?_
  cases h
  have ay := aj.q0
  exact m (ret1 q ha q ⟨q, ay⟩)
 refine y <| rR <| qA q q q <| B <| C <| rR <| qA q q q <| B <| g <| O h fun aP az h => ?_
 refine fun aQ aA => zp (I := fun s a w2 => match s with | (ak, al) => (Fr a 57 [(1, iV p1), (2, pB b1), (5, iV ak), (6, iV al)] ∧ Holds M0 w w2 [.bx b1 27 [A0, A1, A2, iV B3, A4]] G)) (O := fun o e a w2 => match o with | q0 => e = .exit 0 ∧ (Fr a 57 [(5, iV q0)] ∧ Holds M0 w w2 [] G)) az ?_ ?_ ?_
 ·exact ⟨aA.s, aj⟩
 ·rintro ⟨ak, al⟩ _ a aR aa ⟨ha, ah⟩
  refine S1 ha <| C <| rR <| qM q q q <| qF uf27 fi27_4 nz25 q q q <| l u25 q (R ah.p0) q q q q <| qM q q q <| O aa fun aS am aa => b ah.ctx (C4.c) am u25 i47 q q q q fun aT aU aV aB => qF uf47 fi47_1 nz45 q q q <| lV u45 q (ah.el (C4.c) am aB).s.f q q q fun aW af => za af.ctx (t := ty2) hR0 u45 q q q <| A q (qt_lss q q) q q <| B ?_
  refine Yh q aa (fun aa => ?_) (fun aa => ?_)
  ·refine y <| C <| g <| rR <| qF uf27 fi27_4 nz25 q q q <| l u25 q (R af.p1) q q q q <| qM q q q <| O aa fun aX ao aa => b af.ctx (C4.c.c) ao u25 i47 q q q q fun aY aZ a0 aC => qF uf47 fi47_1 nz45 q q q <| lV u45 q (af.el (C4.c.c) ao aC).s.f q q q fun a1 ad => qM q q q <| O aa fun a2 ap aa => b ad.ctx hR0 ap u45 i49 q q q q fun a3 a4 a5 aD => qF uf49 fi49_1 nz3 q q q <| lI u3 q (ad.el hR0 ap aD).s q q q <| A q (qt_eql q q) q q <| B ?_
   refine Yh q aa (fun aa => ?_) (fun aa => ?_)
   ·refine WP_quiet (by kernel_rfl) (by kernel_rfl) <| qM q q q <| qF uf27 fi27_1 nz24 q q q <| l u24 q (R ad.p2) q q q q <| qF uf27 fi27_4 nz25 q q q <| l u25 q (R ad.p2) q q q q <| qM q q q <| O aa fun a6 aq aa => b ad.ctx (C4.c.c.c) aq u25 i47 q q q q fun a7 a8 a9 aE => qF uf47 fi47_2 nz24 q q q <| lV u24 q (ad.el (C4.c.c.c) aq aE).s.s q q q fun ba ag => qM q q q <| O aa fun bb ar aa => b ag.ctx hR0 ar u24 i3 q q q q fun bc bd be aF => lI u3 q (ag.el hR0 ar aF) q q q <| O aa fun bf au aa => b ag.ctx (C1.c.c.c.c) au u24 i3 q q q q fun bg bh bi aG => lI u3 q (ag.el (C1.c.c.c.c) au aG) q q q <| A q (qt_add q q) q q <| qA q q q <| Qn ag fun a ha bj aH => zi <| X <| S1 ha <| Z <| qM q q q <| A q (qt_add q q) q q <| qA q q q <| WL_nil fun a ha => ?_
    cases aa
    have aI := aH.q0.q0.q0
    exact ⟨q, ha.s, aI⟩
   refine WP_skip fun a ha => zi <| X <| S1 ha <| Z <| qM q q q <| A q (qt_add q q) q q <| qA q q q <| WL_nil fun a ha => ?_
   cases aa
   have aJ := ad.q0.q0
   exact ⟨q, ha.s, aJ⟩
  refine WP_exit fun a ha => ?_
  cases aa
  have aK := af.q0.q0
  exact zo (⟨exit_ne, q, ha.s, aK⟩)
 rintro _ a bk ⟨rfl, ha, aL⟩
 refine zn <| X <| S1 ha <| rR <| qM q q q <| qA q q q <| B <| W fun a ha => ?_
 obtain rfl := L h
 exact ret1 q ha q ⟨q, aL⟩
theorem w_spec_l7Close {w : World} {G : List Res} {A0 : Value} {B0 : LI} {A1 : Value} {B1 : List Int} {A2 : Value} {B2 : List Int} {B3 : Int} {A4 : Value} {B4 : LT} {p1 : Int} {r : (LI × (List Int) × (List Int) × Int × LT) × Bool} (h : spec_l7CloseS B0 B1 B2 B3 B4 p1 = some r) (H : Ctx w ([.sl 55 ty12 A0 B0, .sl 3 tI A1 B1, .sl 3 tI A2 B2, .sl 47 ty14 A4 B4] ++ G)) : Calls Tryz.prog 38 #[.agg #[A0, A1, A2, iV B3, A4], iV p1] w fun e w' => ∃ (v1 : Value) (v2 : Value) (v3 : Value) (v4 : Value), e = .returned (.tuple #[.agg #[v1, v2, v3, iV r.1.2.2.2.1, v4], .bool r.2]) ∧ Holds (([.sl 55 ty12 A0 B0, .sl 3 tI A1 B1, .sl 3 tI A2 B2, .sl 47 ty14 A4 B4] : List Res).flatMap Res.own) w w' [.sl 55 ty12 v1 r.1.1, .sl 3 tI v2 r.1.2.1, .sl 3 tI v3 r.1.2.2.1, .sl 47 ty14 v4 r.1.2.2.2.2] G := by
 refine E1 (n := 54) H Tryz.func38 q q q fun H => ?_
 unfold spec_l7CloseS at h
 refine C <| Z <| WL_box (cs := [A0, A1, A2, iV B3, A4]) H q q q q fun b1 w2 H3 => zq (cs := [nS, nS, nS, iV 0, nS]) H3 z27 q q q fun b5 w6 H7 => qA q q q <| B <| C <| C <| WP_quiet (by kernel_rfl) (by kernel_rfl) <| qM q q q <| qF uf27 fi27_4 nz25 q q q <| l u25 q (R H7.p1) q q q q <| za H7.ctx (t := ty14) hS5 u25 q q q <| A q (qt_sub q q) q q <| O h fun a0 az h => Qc q q c52 H7 (fun _ => w_spec_l1In az) q <| A q (qt_not q) q q <| qM q q q <| O h fun aA ab h => ?_
 refine Go (res := aA) 8 (if_t · ab) (fun aa a1 aB => ?_) ?_
 ·exact have ab := if_f aa ab; qF uf27 fi27_4 nz25 (J q aa) q q <| l u25 q (R H7.p1) q (J q aa) q q <| qM (J q aa) q q <| O ab fun a2 ap ab => b H7.ctx hS5 ap u25 i47 (J q aa) q q q fun a3 a4 a5 aC => qF uf47 fi47_1 nz45 (J q aa) q q <| lV u45 q (H7.el hS5 ap aC).s.f (J q aa) q q fun a6 aD => O ab fun a7 aE ab => Qc (J q aa) q c74 aD (fun _ => w_spec_TicketDone hR0 aE) q <| A (J q aa) (qt_not q) q q <| aB 8 q q q ab
 refine qM q q q <| O h fun aF af h => ?_
 refine Go (res := aF) 7 (if_t · af) (fun ad a8 aG => ?_) ?_
 ·exact have af := if_f ad af; qF uf27 fi27_3 nz3 (J q ad) q q <| l u3 q (R H7.p1) q (J q ad) q q <| lA (R H7.p1) us27 uo27 il27 (J q ad) q q <| qM (J q ad) q q <| O af fun a9 aH af => Qc (J q ad) q c75 H7 (fun _ => w_spec_TableBill hS2 hS3 hS4 hS5 aH) q <| A (J q ad) (qt_add q q) q q <| A (J q ad) (qt_gtr q q) q q <| aG 7 q q q af
 refine Qn H7 fun a ha ba ae => X <| S1 ha ?_
 refine Yh q h (fun h => ?_) (fun h => ?_)
 ·refine rR <| lA (R ae.p1) us27 uo27 il27 q q q <| zl (cs' := [A0, A1, A2, iV B3, A4]) ae q il27 q (T (ae.ctx.sliceOne hS2) (T (ae.ctx.sliceOne hS3) (T (ae.ctx.sliceOne hS4) (T q (T (ae.ctx.sliceOne hS5) q))))) q q q fun bb aq => qA q q q <| B <| W fun a ha => ?_
  cases h
  refine have aI := R aq.p0; have aJ := aq.q0.q0.p3.p3.p3.p3; ?_
  exact m (retct q ha q q (run_loadVar_bx (cs := [A0, A1, A2, iV B3, A4]) us27 uo27 il27 aI) ⟨A0, A1, A2, A4, q, aJ⟩)
 refine y <| C <| O h fun ag aK h => ?_
 refine WP_join (M := fun a w2 => (Fr a 54 [(1, iV p1), (2, pB b1), (4, pB b5)] ∧ Holds (([.sl 55 ty12 A0 B0, .sl 3 tI A1 B1, .sl 3 tI A2 B2, .sl 47 ty14 A4 B4] : List Res).flatMap Res.own) w w2 [.bx b1 27 [A0, A1, A2, iV (IntKind.wrap .i64 (B3 + ag)), A4], .sl 55 ty12 A0 B0, .sl 3 tI A1 B1, .sl 3 tI A2 B2, .sl 47 ty14 A4 B4, .bx b5 27 [nS, nS, nS, iV 0, nS]] G)) ?_ ?_
 ·refine WP_ordersT (fun w1 w2 => Chg M0 w1 w2) 6 (by kernel_rfl) fun ak aL => have ar := ae.grow aL; ?_
  have al : Ctx ak ([] ++ ([.bx b5 27 [nS, nS, nS, iV 0, nS], .bx b1 27 [A0, A1, A2, iV B3, A4], .sl 55 ty12 A0 B0, .sl 3 tI A1 B1, .sl 3 tI A2 B2, .sl 47 ty14 A4 B4] ++ G)) := ar.ctx
  have aM : Holds _ ak ak [] ([.bx b5 27 [nS, nS, nS, iV 0, nS], .bx b1 27 [A0, A1, A2, iV B3, A4], .sl 55 ty12 A0 B0, .sl 3 tI A1 B1, .sl 3 tI A2 B2, .sl 47 ty14 A4 B4] ++ G) := zb (Rs := []) al
  refine have Hc := aM; XQ (i := 0) q (by kernel_rfl) q Hc.chg q (fun _ => qt_fieldAddr uf27 fi27_3 nz3 q) q q <| have aN := HasB.bx (HasB.c (HasB.hd)) Hc.ctx; XT (i := 1) q (by kernel_rfl) q Hc.chg q (qs_cell u3 q q (aN.cell (i := 3) q) Hc.chg (Ctx.outB al (HasB.c (HasB.hd)))) q q <| have aO := HasB.bx (HasB.c (HasB.hd)) Hc.ctx; XT (i := 2) q (by kernel_rfl) q Hc.chg q (qs_agg (cs := [A0, A1, A2, iV B3, A4]) us27 uo27 il27 q (fun j z hj => by rw [Nat.zero_add]; exact aO.cell hj) Hc.chg (Ctx.outB al (HasB.c (HasB.hd)))) q q ?_
  change XC _ _ _ _ _ _ _ _ ((35, .agg #[A0, A1, A2, iV B3, A4]) :: _) _
  refine XQ (i := 3) q (by kernel_rfl) q Hc.chg q (fun _ => qt_move q) q q ?_
  repeat' first
   | refine XDo 4 q <| V0 q q c75 (w_spec_TableBill hS2 hS3 hS4 hS5 aK Hc.ctx) q fun _ HK => ?_; have Hc := Hc.cN0 [] HK; refine XN Hc.chg <| XQ (i := 5) q (by kernel_rfl) q Hc.chg q (fun _ => qt_add q q) q q ?_
   | have Hc := ar.cN0 [] Hc; refine XDo 6 q <| qF uf27 fi27_3 nz3 q q q <| XE q ?_
   | refine XDo 7 q ?_; have Hc := Hc.p1; refine WL_store_bx Hc q il3 q q q q q (fun _ Hc => ?_); refine XE q ?_
   | refine XV [4] (by decide +kernel) q (allc ?_ alln)
   | refine XV [6] (by decide +kernel) q (allc ?_ alln)
   | refine XV [7] (by decide +kernel) q (allc ?_ alln)
   | refine XC_done (by decide +kernel) (fun a ha => ?_); have Hc := ((((((Hc.p1).p5).p5).p5).p5).p5); exact ⟨ha.s, Hc⟩
 rintro a bc ⟨ha, aP⟩
 refine S1 ha <| C <| O h fun bd au h => O h fun be aQ h => O h fun bf av h => O h fun aR aS h => ?_
 refine WP_join (M := fun a w2 => ∃ ah, Fr a 54 [(2, pB b1), (4, pB b5)] ∧ Holds (([.sl 55 ty12 A0 B0, .sl 3 tI A1 B1, .sl 3 tI A2 B2, .sl 47 ty14 A4 B4] : List Res).flatMap Res.own) w w2 [.bx b1 27 [A0, A1, A2, iV (IntKind.wrap .i64 (B3 + ag)), ah], .sl 55 ty12 A0 B0, .sl 3 tI A1 B1, .sl 3 tI A2 B2, .sl 47 ty14 ah aR, .bx b5 27 [nS, nS, nS, iV 0, nS]] G) ?_ ?_
 ·refine WP_ordersT (fun w1 w2 => Chg M0 w1 w2) 12 (by kernel_rfl) fun am aT => have aw := aP.grow aT; ?_
  have ao : Ctx am ([] ++ ([.bx b1 27 [A0, A1, A2, iV (IntKind.wrap .i64 (B3 + ag)), A4], .sl 55 ty12 A0 B0, .sl 3 tI A1 B1, .sl 3 tI A2 B2, .sl 47 ty14 A4 B4, .bx b5 27 [nS, nS, nS, iV 0, nS]] ++ G)) := aw.ctx
  have aU : Holds _ am am [] ([.bx b1 27 [A0, A1, A2, iV (IntKind.wrap .i64 (B3 + ag)), A4], .sl 55 ty12 A0 B0, .sl 3 tI A1 B1, .sl 3 tI A2 B2, .sl 47 ty14 A4 B4, .bx b5 27 [nS, nS, nS, iV 0, nS]] ++ G) := zb (Rs := []) ao
  refine have Hc := aU; XQ (i := 1) q (by kernel_rfl) q Hc.chg q (fun _ => qt_fieldAddr uf27 fi27_4 nz25 q) q q <| have aV := HasB.bx (HasB.hd) Hc.ctx; XT (i := 2) q (by kernel_rfl) q Hc.chg q (qs_cell u25 q q (aV.cell (i := 4) q) Hc.chg (Ctx.outB ao (HasB.hd))) q q <| XQ (i := 3) q (by kernel_rfl) q Hc.chg q (fun _ => qt_move q) q q <| XT (i := 4) q (by kernel_rfl) q Hc.chg q (qs_slice Hc.ctx hS4 au u25 i47 q ⟨_, q⟩ q) q q <| XQ (i := 6) q (by kernel_rfl) q Hc.chg q (fun _ => qt_fieldAddr uf27 fi27_4 nz25 q) q q <| have aW := HasB.bx (HasB.hd) Hc.ctx; XT (i := 7) q (by kernel_rfl) q Hc.chg q (qs_cell u25 q q (aW.cell (i := 4) q) Hc.chg (Ctx.outB ao (HasB.hd))) q q <| XQ (i := 8) q (by kernel_rfl) q Hc.chg q (fun _ => qt_move q) q q <| XQ (i := 9) q (by kernel_rfl) q Hc.chg q (fun _ => qt_add q q) q q <| XT (i := 10) q (by kernel_rfl) q Hc.chg q (qs_slice Hc.ctx hS4 av u25 i47 ⟨_, q⟩ q q) q q ?_
  repeat' first
   | refine XDo 0 q ?_; refine zs (t := ty14) (args := []) (xs := ([] : LT)) Hc (BltL.nil) u25 j47 q q q q q q (fun bg _ Hc => ?_); refine XN Hc.chg ?_
   | refine XDo 5 q ?_; refine zw Hc (Has.sub hS5 au) aQ u25 j47 q q q q q q (fun bh _ Hc => ?_); refine XN Hc.chg ?_
   | refine XDo 11 q ?_; refine zw Hc (Has.sub hS5 av) aS u25 j47 q q q q q q (fun aX _ Hc => ?_); refine XN Hc.chg ?_
   | have Hc := aw.cN1 [] Hc; refine XDo 12 q <| qF uf27 fi27_4 nz25 q q q <| XE q ?_
   | refine XDo 13 q ?_; have Hc := Hc.p1; refine WL_store_bx Hc q il25 (Hc.ctx.sliceCells hS1) (Hc.ctx.sliceOne hS1) q q q (fun _ Hc => ?_); refine XE q ?_
   | refine XV [0] (by decide +kernel) q (allc ?_ alln)
   | refine XV [5] (by decide +kernel) q (allc ?_ alln)
   | refine XV [11] (by decide +kernel) q (allc ?_ alln)
   | refine XV [12] (by decide +kernel) q (allc ?_ alln)
   | refine XV [13] (by decide +kernel) q (allc ?_ alln)
   | refine XC_done (by decide +kernel) (fun a ha => ?_); have Hc := (((((((Hc.q5).p5).p2).p5).p5).p5).p5); exact ⟨aX, ha.s, Hc⟩
 rintro a bi ⟨ah, ha, ax⟩
 refine S1 ha <| rR <| lA (R ax.p0) us27 uo27 il27 q q q <| have aj := ax.p5; zl (cs' := [A0, A1, A2, iV (IntKind.wrap .i64 (B3 + ag)), ah]) aj q il27 q (T (aj.ctx.sliceOne hS2) (T (aj.ctx.sliceOne hS3) (T (aj.ctx.sliceOne hS4) (T q (T (aj.ctx.sliceOne hS5) q))))) q q q fun bj ay => qA q q q <| B <| W fun a ha => ?_
 cases h
 refine have aY := R ay.p0; have aZ := ay.q0.q0.p3.p3.p3.p3; ?_
 exact retct q ha q q (run_loadVar_bx (cs := [A0, A1, A2, iV (IntKind.wrap .i64 (B3 + ag)), ah]) us27 uo27 il27 aY) ⟨A0, A1, A2, ah, q, aZ⟩
end Go.Proofs.YtpabogkcmbkffaaGreatDoor
