/- The walks: each Go function computes its shallow function. Printed by a program. -/
import Derived.Test.YtpabogkcmbkffaaGreatDoorWS7R5
set_option linter.unusedVariables false
set_option maxRecDepth 10000
set_option maxHeartbeats 8000000
namespace Go.Proofs.YtpabogkcmbkffaaGreatDoor
open Go Go.RowKit
theorem w_impl_doOrder {w : World} {G : List Res} {bp0 : Nat} {A0 : Value} {B0 : LI} {csp0_0 : List Value} {Fp0_0 : List Nat} {A1 : Value} {B1 : List Int} {A2 : Value} {B2 : List Int} {B3 : Int} {A4 : Value} {B4 : LT} {csp0_4 : List Value} {Fp0_4 : List Nat} {p1 : Int} {p2 : Int} {p3 : Int} {r : (List Int) × LT × Bool} (h : impl_doOrderS B0 B1 B2 B3 B4 p1 p2 p3 = some r) (H : Ctx w ([.bx bp0 27 [A0, A1, A2, iV B3, A4], dpR 55 dt15 A0 csp0_0 B0 Fp0_0, .sl 3 tI A1 B1, .sl 3 tI A2 B2, dpR 47 dt16 A4 csp0_4 B4 Fp0_4] ++ G)) : Calls Tryz.prog 30 #[pB bp0, iV p1, iV p2, iV p3] w fun e w' => ∃ (dsp0_4 : List Value) (Ep0_4 : List Nat), e = .returned (.bool r.2.2) ∧ Holds (([.bx bp0 27 [A0, A1, A2, iV B3, A4], dpR 55 dt15 A0 csp0_0 B0 Fp0_0, .sl 3 tI A1 B1, .sl 3 tI A2 B2, dpR 47 dt16 A4 csp0_4 B4 Fp0_4] : List Res).flatMap Res.own) w w' [.bx bp0 27 [A0, A1, A2, iV B3, A4], dpR 55 dt15 A0 csp0_0 B0 Fp0_0, .sl 3 tI A1 B1, .sl 3 tI A2 r.1, dpR 47 dt16 A4 dsp0_4 r.2.1 Ep0_4] G := by
 refine E1 (n := 79) H Tryz.func30 q q q fun H => ?_
 unfold impl_doOrderS at h
 refine rR <| qA q q q <| B <| C <| rR <| qM q q q <| A q (qt_lss q q) q q <| qM q q q ?_
 refine Ho (res := ((decide (p1 < 0)) || (decide (p1 ≥ (List.length B4 : Int))))) 7 os (fun ag K2 aD => ?_) ?_
 ·exact qM (J q ag) q q <| qM (J q ag) q q <| qN (J q ag) q q <| qF uf27 fi27_4 nz25 (J q ag) q q <| l u25 q (R H.p0) q (J q ag) q q <| have V5 := H.viewG (Vw.c (Vw.d (Vw.c (Vw.c (Vw.d Vw.refl))))); za V5 (t := ty14) hR4 u25 (J q ag) q q <| A (J q ag) (qt_geq q q) q q <| aD 7 q q q (oi ag)
 refine B ?_
 refine Yh q h (fun h => ?_) (fun h => ?_)
 ·refine rR <| qA q q q <| B <| W fun a ha => ?_
  cases h
  have H6 := H.p4.p4.p4.p4.p4
  exact m (ret1 q ha q ⟨csp0_4, Fp0_4, q, H6⟩)
 refine y <| rR <| qM q q q <| qN q q q <| qF uf27 fi27_4 nz25 q q q <| l u25 q (R H.p0) q q q q <| qM q q q <| O h fun x8 af h => have aE := H.viewG (Vw.c (Vw.d (Vw.c (Vw.c (Vw.d Vw.refl))))); b aE hR4 af u25 i47 q q q q fun aF aG bt ah => qA q q q <| B <| C <| C <| O h fun bu av h => O h fun aH aw h => O h fun aI ax h => ?_
 refine WP_join (M := fun a w2 => (Fr a 79 [(0, pB bp0), (2, iV p2), (3, iV p3), (9, .pointer (some ⟨aF, (aG + Int.toNat p1 * Ty.size ty14), none⟩)), (48, .bool aI)] ∧ Holds (([.bx bp0 27 [A0, A1, A2, iV B3, A4], dpR 55 dt15 A0 csp0_0 B0 Fp0_0, .sl 3 tI A1 B1, .sl 3 tI A2 B2, dpR 47 dt16 A4 csp0_4 B4 Fp0_4] : List Res).flatMap Res.own) w w2 [.bx bp0 27 [A0, A1, A2, iV B3, A4], dpR 55 dt15 A0 csp0_0 B0 Fp0_0, .sl 3 tI A1 B1, .sl 3 tI A2 B2, dpR 47 dt16 A4 csp0_4 B4 Fp0_4] G)) ?_ ?_
 ·refine WP_ordersT (fun w1 w2 => Chg M0 w1 w2) 22 (by kernel_rfl) fun am aJ => have ao := H.grow aJ; ?_
  have aj : Ctx am ([] ++ ([.bx bp0 27 [A0, A1, A2, iV B3, A4], .ro ty12 A0 B0, .sl 3 tI A1 B1, .sl 3 tI A2 B2, .ro ty14 A4 B4] ++ G)) := ao.viewG (Vw.c (Vw.d (Vw.c (Vw.c (Vw.d Vw.refl)))))
  have aa : Holds _ am am [] ([.bx bp0 27 [A0, A1, A2, iV B3, A4], .ro ty12 A0 B0, .sl 3 tI A1 B1, .sl 3 tI A2 B2, .ro ty14 A4 B4] ++ G) := zb (Rs := []) aj
  rcases btf (!aH) with ab | ab
  ·have aK := if_t ab ax
   obtain rfl := L aK
   refine XQ (i := 0) q (by kernel_rfl) q aa.chg q (fun _ => qt_move q) q q <| XQ (i := 1) q (by kernel_rfl) q aa.chg q (fun _ => qt_nilCheck q) q q <| XQ (i := 2) q (by kernel_rfl) q aa.chg q (fun _ => qt_fieldAddr uf27 fi27_0 nz23 q) q q <| have aL := HasB.bx (HasB.hd) aa.ctx; XT (i := 3) q (by kernel_rfl) q aa.chg q (qs_cell u23 q q (aL.cell (i := 0) q) aa.chg (Ctx.outB aj (HasB.hd))) q q <| XQ (i := 4) q (by kernel_rfl) q aa.chg q (fun _ => qt_move q) q q <| XQ (i := 5) q (by kernel_rfl) q aa.chg q (fun _ => qt_nilCheck q) q q <| XQ (i := 6) q (by kernel_rfl) q aa.chg q (fun _ => qt_fieldAddr uf47 fi47_0 nz3 q) q q ?_
   obtain ⟨bv, aM, bw⟩ := aa.at hR4 af ah
   obtain ⟨bz, aN, bA⟩ := AtP.fst aM
   refine XT (i := 7) q (by kernel_rfl) q aa.chg q (qs_cell u3 q q (AtP.cInt aN) aa.chg (Ctx.outHas aj hR4 af ah)) q q <| XQ (i := 9) q (by kernel_rfl) q aa.chg q (fun _ => qt_move q) q q <| X1 8 (by kernel_rfl) q <| V1 q q c68 (w_impl_FreeOf hR1 av aa.ctx) q fun bB bC aO => have ap := aa.cN1 [] aO; XN ap.chg <| X1 10 (by kernel_rfl) q <| V0 q q c67 (w_slices_Contains___int_int hS0 aw ap.ctx) q fun bD aP => have ae := ap.cN0 [] aP; XN ae.chg <| XQ (i := 11) q (by kernel_rfl) q ae.chg q (fun _ => qt_not q) q q <| XQ (i := 12) q (by kernel_rfl) q ae.chg q (fun _ => qt_move q) q q <| XS (i := 13) q (by kernel_rfl) q ae.chg q ab q q <| XS (i := 14) q (by kernel_rfl) q ae.chg q ab q q <| XS (i := 15) q (by kernel_rfl) q ae.chg q ab q q <| XS (i := 16) q (by kernel_rfl) q ae.chg q ab q q <| XS (i := 17) q (by kernel_rfl) q ae.chg q ab q q <| XS (i := 18) q (by kernel_rfl) q ae.chg q ab q q <| XS (i := 19) q (by kernel_rfl) q ae.chg q ab q q ?_
   exact XS (i := 20) q (by kernel_rfl) q ae.chg q ab q q <| XQ (i := 21) q (by kernel_rfl) q ae.chg q (fun _ => ze q ab q) q q <| have aQ := ao.cV1 [] ae (zc (Pure.sl q) all_nil); XC_done (by kernel_rfl) fun a ha => have aR := aQ.q0.p4.p4.p4.p4.p4; ⟨ha.s, aR⟩
  refine have aq := if_f ab ax; O aq fun bE al aq => ?_
  obtain rfl := L aq
  refine XQ (i := 0) q (by kernel_rfl) q aa.chg q (fun _ => qt_move q) q q <| XQ (i := 1) q (by kernel_rfl) q aa.chg q (fun _ => qt_nilCheck q) q q <| XQ (i := 2) q (by kernel_rfl) q aa.chg q (fun _ => qt_fieldAddr uf27 fi27_0 nz23 q) q q <| have aS := HasB.bx (HasB.hd) aa.ctx; XT (i := 3) q (by kernel_rfl) q aa.chg q (qs_cell u23 q q (aS.cell (i := 0) q) aa.chg (Ctx.outB aj (HasB.hd))) q q <| XQ (i := 4) q (by kernel_rfl) q aa.chg q (fun _ => qt_move q) q q <| XQ (i := 5) q (by kernel_rfl) q aa.chg q (fun _ => qt_nilCheck q) q q <| XQ (i := 6) q (by kernel_rfl) q aa.chg q (fun _ => qt_fieldAddr uf47 fi47_0 nz3 q) q q ?_
  obtain ⟨bF, aT, bG⟩ := aa.at hR4 af ah
  obtain ⟨bH, aU, bI⟩ := AtP.fst aT
  refine XT (i := 7) q (by kernel_rfl) q aa.chg q (qs_cell u3 q q (AtP.cInt aU) aa.chg (Ctx.outHas aj hR4 af ah)) q q <| XQ (i := 9) q (by kernel_rfl) q aa.chg q (fun _ => qt_move q) q q <| X1 8 (by kernel_rfl) q <| V1 q q c68 (w_impl_FreeOf hR1 av aa.ctx) q fun bJ bK aV => have ar := aa.cN1 [] aV; XN ar.chg <| X1 10 (by kernel_rfl) q <| V0 q q c67 (w_slices_Contains___int_int hS0 aw ar.ctx) q fun bL aW => have ad := ar.cN0 [] aW; XN ad.chg <| XQ (i := 11) q (by kernel_rfl) q ad.chg q (fun _ => qt_not q) q q <| XQ (i := 12) q (by kernel_rfl) q ad.chg q (fun _ => qt_move q) q q <| XQ (i := 13) q (by kernel_rfl) q ad.chg (J q ab) (fun _ => qt_move q) q q <| XQ (i := 14) q (by kernel_rfl) q ad.chg (J q ab) (fun _ => qt_nilCheck q) q q <| XQ (i := 15) q (by kernel_rfl) q ad.chg (J q ab) (fun _ => qt_fieldAddr uf27 fi27_2 nz24 q) q q <| have aX := HasB.bx (HasB.c (HasB.hd)) ad.ctx; XT (i := 16) q (by kernel_rfl) q ad.chg (J q ab) (qs_cell u24 q q (aX.cell (i := 2) q) ad.chg (Ctx.outB aj (HasB.hd))) q q <| XQ (i := 17) q (by kernel_rfl) q ad.chg (J q ab) (fun _ => qt_move q) q q ?_
  obtain ⟨bM, bN, bO, au⟩ := Ctx.isAt ad.ctx hS4 al
  refine XT (i := 18) q (by kernel_rfl) q ad.chg (J q ab) (qs_index al au u24 i3 q q) q q ?_
  obtain ⟨bP, aY, bQ⟩ := ad.at hS4 al au
  exact XT (i := 19) q (by kernel_rfl) q ad.chg (J q ab) (qs_cell u3 q q (AtP.cInt aY) ad.chg (Ctx.outHas aj hS3 al au)) q q <| XQ (i := 20) q (by kernel_rfl) q ad.chg (J q ab) (fun _ => qt_lss q q) q q <| XQ (i := 21) q (by kernel_rfl) q ad.chg q (fun _ => zf q ab q) q q <| have aZ := ao.cV1 [] ad (zc (Pure.sl q) all_nil); XC_done (by kernel_rfl) fun a ha => have a0 := aZ.q0.p4.p4.p4.p4.p4; ⟨ha.s, a0⟩
 rintro a bR ⟨ha, ak⟩
 refine S1 ha ?_
 refine Yh q h (fun h => ?_) (fun h => ?_)
 ·refine rR <| qA q q q <| B <| W fun a ha => ?_
  cases h
  have a1 := ak.p4.p4.p4.p4.p4
  exact m (ret1 q ha q ⟨csp0_4, Fp0_4, q, a1⟩)
 refine y <| rR <| qM q q q <| qN q q q <| qF uf27 fi27_2 nz24 q q q <| l u24 q (R ak.p0) q q q q <| qM q q q <| O h fun a2 ay h => have az := ak.viewG (Vw.c (Vw.d (Vw.c (Vw.c (Vw.d Vw.refl))))); b az hS3 ay u24 i3 q q q q fun bS bT bU a3 => lI u3 q (ak.el hS3 ay a3) q q q <| A q (qt_sub q q) q q <| O h fun bV aA h => b az hS3 aA u24 i3 q q q q fun bW bX bY a4 => have a5 := ak.p3; WL_storeH (fo := 0) (cs' := [iV (IntKind.wrap .i64 (a2 - 1))]) a5 aA a4 (Upd.whole (Blt.int)) q il3 q q q q fun bZ a6 => rN <| qM q q q <| qM q q q <| qN q q q <| qF uf47 fi47_1 nz45 q q q <| have aB := a6.p4; ?_
 obtain ⟨b0, a7, a8, b4, b5, b6⟩ := Holds.ns aB ((Foc.snd (Foc.fst Foc.refl))) af ah
 refine XL_load_cell u45 q a8 q q q <| qM q q q <| A q (qt_build (args := [(0, .tmp 63), (1, .const (iV 0))]) (css := [#[iV p3], #[iV 0]]) (cells := #[iV p3, iV 0]) q ⟨q, q, trivial⟩ (by kernel_rfl)) q q <| zs (t := ty2) (args := [.tmp 64]) (xs := ([(p3, 0)] : LP)) aB (BltL.cons (Blt.pair (Blt.int) (Blt.int)) q (BltL.nil)) u45 j49 q q q q q q fun b7 b8 a9 => have ba := a9.p1; ?_
 obtain ⟨b9, bb⟩ := Holds.borrow ba ((Foc.snd (Foc.fst Foc.refl))) af a7
 refine O h fun ca bc h => zw bb hS2 bc u45 j49 q q q q q q fun cb cc bd => qN q q q <| qF uf47 fi47_1 nz45 q q q <| have be := bd.p1; have bf := be.p1; WL_storeHole q bf ah il45 q q q fun cd ce cf aC => rN <| qM q q q <| qM q q q <| qN q q q <| qF uf47 fi47_2 nz24 q q q ?_
 obtain ⟨cg, bg, bh, ch, ci, cj⟩ := Holds.ns aC ((Foc.snd (Foc.snd Foc.refl))) (geti_set af) (set_len ah)
 refine XL_load_cell u24 q bh q q q <| qM q q q <| zs (t := tI) (args := [.tmp 74]) (xs := ([p2] : List Int)) aC (BltL.cons (Blt.int) q (BltL.nil)) u24 j3 q q q q q q fun ck cl bi => have bj := bi.p1; ?_
 obtain ⟨cm, bk⟩ := Holds.borrow bj ((Foc.snd (Foc.snd Foc.refl))) (geti_set af) bg
 refine O h fun cn bl h => zw bk hS2 bl u24 j3 q q q q q q fun co cp bm => qN q q q <| qF uf47 fi47_2 nz24 q q q <| have bn := bm.p1; have bo := bn.p1; WL_storeHole q bo (set_len ah) il24 q q q fun bp bq cq br => rN <| qA q q q <| B <| W fun a ha => ?_
 cases h
 have bs := br.q1.q1.p1.p4.p4.p4
 exact ret1 q ha q ⟨bp, bq, q, bs⟩
theorem w_impl_kitchenOf {w : World} {G : List Res} {A0 : Value} {B0 : LI} (C0 : Has G ty12 A0 B0) {A1 : Value} {B1 : List Int} (C1 : Has G tI A1 B1) {A2 : Value} {B2 : List Int} (C2 : Has G tI A2 B2) {B3 : Int} {A4 : Value} {B4 : LT} (C4 : Has G ty14 A4 B4) {r : (List LP)} (h : impl_kitchenOfS B0 B1 B2 B3 B4 = some r) (H : Ctx w G) : Calls Tryz.prog 47 #[.agg #[A0, A1, A2, iV B3, A4]] w fun e w' => ∃ (v1 : Value) (csv1 : List Value) (Fv1 : List Nat), e = .returned (v1) ∧ Holds M0 w w' [dpR 45 dt6 v1 csv1 r Fv1] G := by
 refine E0 (n := 26) H Tryz.func47 q q q fun H => ?_
 unfold impl_kitchenOfS at h
 refine C <| Z <| WL_box (cs := [A0, A1, A2, iV B3, A4]) H q q q q fun b1 w2 H3 => qA q q q <| rN <| qF uf27 fi27_4 nz25 q q q <| l u25 q (R H3.p0) q q q q <| za H3.ctx (t := ty14) (C4.c) u25 q q q <| O h fun x6 aA h => WL_makeD (d := dt6) H3 aA u81 j45 q (DBlt.cast (DBlt.nil (e := 49) (d := dt3)) q q) q q q q q fun v8 aB aC w9 ah => qA q q q <| B <| C <| rR <| qF uf27 fi27_4 nz25 q q q <| l u25 q (R ah.p1) q q q q <| have aD := ah.viewG (Vw.d (Vw.c Vw.refl)); za aD (t := ty14) (C4.c.c) u25 q q q <| qM q q q <| B <| g <| O h fun ba aE h => have aF := ah.q1; ?_
 refine fun bb aG => zp (I := fun s a w2 => match s with | (ao, aj) => ∃ ad ae, Fr a 26 [(3, v8), (11, A4), (12, iV (List.length B4 : Int)), (13, iV ao)] ∧ Holds M0 w w2 [dpR 45 dt6 v8 ad aj ae] G) (O := fun o e a w2 => match o with | q0 => e = .exit 0 ∧ ∃ aH aI, Fr a 26 [(3, v8)] ∧ Holds M0 w w2 [dpR 45 dt6 v8 aH q0 aI] G) aE ?_ ?_ ?_
 ·exact ⟨aB, aC, aG.s, aF⟩
 ·rintro ⟨ao, aj⟩ _ a aJ aa ⟨ad, ae, ha, ak⟩
  refine S1 ha <| rR <| A q (qt_lss q q) q q <| B <| C ?_
  refine Yh q aa (fun aa => ?_) (fun aa => ?_)
  ·refine y <| C <| g <| rR <| qM q q q <| O aa fun ab ap aa => have aK := ak.viewG (Vw.d Vw.refl); b aK (C4.c) ap u25 i47 q q q q fun bc bd be aL => ?_
   obtain ⟨bf, aM, aN⟩ := ak.atN (C4.c) ap aL
   refine XL_load_agg (t := ty14) us47 uo47 i47 aM q q q fun bg aO => ?_
   obtain ⟨c40, c41, bh, bi, rfl, aq, aP, aQ⟩ := aO
   obtain ⟨rfl, _⟩ := aP
   obtain ⟨c47, bj, bk, bl, rfl, ar, aR, aS⟩ := aQ
   obtain ⟨af, rfl, aT⟩ := Rep.sl_inv aR
   obtain ⟨ag, rfl, aU⟩ := Rep.sl_inv aS
   have aV : Holds _ w aJ [.ro ty2 af ab.2.1, .ro tI ag ab.2.2, dpR 45 dt6 v8 ad aj ae] G := aN [.ro ty2 af ab.2.1, .ro tI ag ab.2.2] ⟨⟨_, _, _, _, q, aT, (fun k h => (fun k h => (fun _ h => h) k (by rw [aq]; exact zx _ h)) k (by rw [ar]; exact List.mem_append_left _ h))⟩, ⟨_, _, _, _, q, aU, (fun k h => (fun k h => (fun _ h => h) k (by rw [aq]; exact zx _ h)) k (by rw [ar]; exact zx _ h))⟩, trivial⟩
   change XL _ _ _ _ _ ((17, .agg #[iV ab.1, af, ag]) :: _) _
   refine zq (cs := [iV 0, nS, nS]) aV z47 q q q fun bm bn au => qA q q q <| have av := au.viewG (Vw.c (Vw.c (Vw.c (Vw.d Vw.refl)))); zl (cs' := [iV ab.1, af, ag]) au q il47 q (T q (T (av.sliceOne hR1) (T (av.sliceOne hR2) q))) q q q fun bo al => B <| Z <| qM q q q <| qM q q q <| qF uf47 fi47_1 nz45 q q q <| l u45 q (R al.p0) q q q q <| O aa fun aw aW aa => have aX := al.viewG (Vw.c (Vw.c (Vw.c (Vw.d Vw.refl)))); V1 q q c64 (w_impl_copyTicket hR1 aW aX) q fun am bp aY => have ax := al.cV1 [] aY (zc (Pure.sl q) all_nil); O aa fun bq ay aa => have aZ := ax.viewG (Vw.c (Vw.c (Vw.c (Vw.c (Vw.d Vw.refl))))); b aZ hR4 ay u81 i45 q q q q fun br bs bt a0 => have a1 := ax.p4; have az := a1.p1; have a2 := az.viewG (Vw.c (Vw.d (Vw.c (Vw.c (Vw.c Vw.refl))))); ?_
   refine WL_storeD (Rs := [.sl 49 ty2 am aw]) (fo := 0) (cs' := [am]) az ay a0 (Foc.refl) (DBlt.cast (DBlt.sl (e := 49) (t := ty2) (v := am) (x := aw) q) q q) (a2.sliceList hS0) il45 q q q fun a3 a4 bu a5 => WL_nil fun a ha => zi <| X <| S1 ha <| Z <| A q (qt_add q q) q q <| qM q q q <| WL_nil fun a ha => ?_
   cases aa
   have a6 := a5.q1.q1.q1
   exact ⟨q, a3, a4, ha.s, a6⟩
  refine WP_exit fun a ha => ?_
  cases aa
  exact zo (⟨exit_ne, q, ad, ae, ha.s, ak⟩)
 rintro _ a bv ⟨rfl, a7, a8, ha, a9⟩
 refine zn <| X <| S1 ha <| rR <| qM q q q <| qA q q q <| B <| W fun a ha => ?_
 obtain rfl := L h
 exact ret1 q ha q ⟨v8, a7, a8, q, a9⟩
theorem w_impl_KitchenValid {w : World} {G : List Res} {vp0 : Value} {p0 : List LP} (hp0 : Has G ty4 vp0 p0) {r : Bool} (h : impl_KitchenValidS p0 = some r) (H : Ctx w G) : Calls Tryz.prog 83 #[vp0] w fun e w' => e = .returned (.bool r) ∧ Holds M0 w w' [] G := by
 refine E0 (n := 18) H Tryz.func83 q q q fun H => ?_
 unfold impl_KitchenValidS at h
 refine rR <| qA q q q <| B <| C <| rR <| qM q q q <| za H.ctx (t := ty4) (hp0) u81 q q q <| A q (qt_gtr q q) q q <| B ?_
 refine Yh q h (fun h => ?_) (fun h => ?_)
 ·refine rR <| qA q q q <| B <| W fun a ha => ?_
  cases h
  exact m (ret1 q ha q ⟨q, H⟩)
 refine y <| C <| rR <| qM q q q <| za H.ctx (t := ty4) (hp0) u81 q q q <| qM q q q <| B <| g <| O h fun o2 ah h => ?_
 refine fun a4 aj => zp (I := fun s a w2 => match s with | s1 => (Fr a 18 [(8, vp0), (9, iV (List.length p0 : Int)), (10, iV s1)] ∧ Holds M0 w w2 [] G)) (O := fun o e a w2 => match o with | .inl _ => e = .exit 0 ∧ (Fr a 18 [] ∧ Holds M0 w w2 [] G) | .inr q0 => e = .ret ∧ (Fr a 18 [(2, .bool q0)] ∧ Holds M0 w w2 [] G)) ah ?_ ?_ ?_
 ·exact ⟨aj.s, H⟩
 ·rintro s1 _ a w6 aa ⟨ha, ab⟩
  refine S1 ha <| rR <| A q (qt_lss q q) q q <| B <| C ?_
  refine Yh q aa (fun aa => ?_) (fun aa => ?_)
  ·refine y <| C <| g <| rR <| O aa fun ar ad aa => b ab.ctx (hp0) ad u81 i45 q q q q fun au av aw ak => lV u45 q (ab.el (hp0) ad ak) q q q fun ax ae => qA q q q <| B <| C <| zk <| qM q q q <| O aa fun ay al aa => Qc q q c77 ae (fun _ => w_impl_TicketValid hR0 al) q <| A q (qt_not q) q q <| Qn ae fun a ha az af => X <| S1 ha ?_
   refine Yh q aa (fun aa => ?_) (fun aa => ?_)
   ·refine rR <| qA q q q <| B <| W fun a ha => ?_
    cases aa
    have am := af.q0
    exact zj (m (⟨ret_ne, q, ha.s, am⟩))
   refine WP_skip fun a ha => zi <| X <| S1 ha <| Z <| A q (qt_add q q) q q <| qM q q q <| WL_nil fun a ha => ?_
   cases aa
   have ao := af.q0
   exact ⟨q, ha.s, ao⟩
  refine WP_exit fun a ha => ?_
  cases aa
  exact zo (⟨exit_ne, q, ha.s, ab⟩)
 intro e a aA ag
 rcases o2 with o2 | o2
 ·obtain ⟨rfl, ha, ap⟩ := ag
  refine zn <| X <| S1 ha <| rR <| qA q q q <| B <| W fun a ha => ?_
  cases h
  exact ret1 q ha q ⟨q, ap⟩
 obtain ⟨rfl, ha, aq⟩ := ag
 obtain rfl := L h
 exact zj (m (ret1 q ha q ⟨q, aq⟩))
theorem w_impl_copyKitchen {w : World} {G : List Res} {vp0 : Value} {p0 : List LP} (hp0 : Has G ty4 vp0 p0) {r : (List LP)} (h : impl_copyKitchenS p0 = some r) (H : Ctx w G) : Calls Tryz.prog 94 #[vp0] w fun e w' => ∃ (v1 : Value) (csv1 : List Value) (Fv1 : List Nat), e = .returned (v1) ∧ Holds M0 w w' [dpR 45 dt6 v1 csv1 r Fv1] G := by
 refine E0 (n := 26) H Tryz.func94 q q q fun H => ?_
 unfold impl_copyKitchenS at h
 refine rR <| qA q q q <| B <| C <| rR <| qM q q q <| za H.ctx (t := ty4) (hp0) u81 q q q <| A q (qt_eql q q) q q <| B ?_
 refine Yh q h (fun h => ?_) (fun h => ?_)
 ·refine rR <| qA q q q <| B <| W fun a ha => ?_
  cases h
  have H1 := H.nD 45 dt6
  exact m (ret1 q ha q ⟨(nS), [], [], q, H1⟩)
 refine y <| rR <| qM q q q <| za H.ctx (t := ty4) (hp0) u81 q q q <| O h fun x2 aq h => WL_makeD (d := dt6) H aq u81 j45 q (DBlt.cast (DBlt.nil (e := 49) (d := dt3)) q q) q q q q q fun v4 ar F8 w5 H6 => qA q q q <| B <| C <| rR <| qM q q q <| have au := H6.viewG (Vw.d Vw.refl); za au (t := ty4) (hp0.c) u81 q q q <| qM q q q <| B <| g <| O h fun aP av h => ?_
 refine fun aQ aw => zp (I := fun s a w2 => match s with | (ag, ah) => ∃ ab ad, Fr a 26 [(3, v4), (12, vp0), (13, iV (List.length p0 : Int)), (14, iV ag)] ∧ Holds M0 w w2 [dpR 45 dt6 v4 ab ah ad] G) (O := fun o e a w2 => match o with | q0 => e = .exit 0 ∧ ∃ ax ay, Fr a 26 [(3, v4)] ∧ Holds M0 w w2 [dpR 45 dt6 v4 ax q0 ay] G) av ?_ ?_ ?_
 ·exact ⟨ar, F8, aw.s, H6⟩
 ·rintro ⟨ag, ah⟩ _ a aR aa ⟨ab, ad, ha, ae⟩
  refine S1 ha <| rR <| A q (qt_lss q q) q q <| B <| C ?_
  refine Yh q aa (fun aa => ?_) (fun aa => ?_)
  ·refine y <| C <| g <| rR <| qM q q q <| O aa fun aS aj aa => have az := ae.viewG (Vw.d Vw.refl); b az (hp0.c) aj u81 i45 q q q q fun aT aU aV aA => lV u45 q (ae.el (hp0.c) aj aA) q q q fun aW ak => qA q q q <| qA q q q <| B <| Z <| qM q q q <| qM q q q <| qM q q q <| O aa fun al aB aa => have aC := ak.viewG (Vw.c (Vw.d Vw.refl)); V1 q q c64 (w_impl_copyTicket hR0 aB aC) q fun af aX aD => have am := ak.cV1 [] aD (zc (Pure.sl q) all_nil); O aa fun aY ao aa => have aE := am.viewG (Vw.c (Vw.c (Vw.d Vw.refl))); b aE hR2 ao u81 i45 q q q q fun aZ a0 a1 aF => have aG := am.p2; have ap := aG.p1; have aH := ap.viewG (Vw.c (Vw.d (Vw.c Vw.refl))); ?_
   refine WL_storeD (Rs := [.sl 49 ty2 af al]) (fo := 0) (cs' := [af]) ap ao aF (Foc.refl) (DBlt.cast (DBlt.sl (e := 49) (t := ty2) (v := af) (x := al) q) q q) (aH.sliceList hS0) il45 q q q fun aI aJ a2 aK => WL_nil fun a ha => zi <| X <| S1 ha <| Z <| A q (qt_add q q) q q <| qM q q q <| WL_nil fun a ha => ?_
   cases aa
   have aL := aK.q1
   exact ⟨q, aI, aJ, ha.s, aL⟩
  refine WP_exit fun a ha => ?_
  cases aa
  exact zo (⟨exit_ne, q, ab, ad, ha.s, ae⟩)
 rintro _ a a3 ⟨rfl, aM, aN, ha, aO⟩
 refine zn <| X <| S1 ha <| rR <| qM q q q <| qA q q q <| B <| W fun a ha => ?_
 obtain rfl := L h
 exact ret1 q ha q ⟨v4, aM, aN, q, aO⟩
theorem w_impl_firstIn {w : World} {G : List Res} {vp0 : Value} {p0 : List LP} (hp0 : Has G ty4 vp0 p0) {p1 : Int} {r : Int × Int} (h : impl_firstInS p0 p1 = some r) (H : Ctx w G) : Calls Tryz.prog 95 #[vp0, iV p1] w fun e w' => e = .returned (.tuple #[iV r.1, iV r.2]) ∧ Holds M0 w w' [] G := by
 refine E0 (n := 32) H Tryz.func95 q q q fun H => ?_
 unfold impl_firstInS at h
 refine rR <| qA q q q <| qA q q q <| B <| C <| rR <| qM q q q <| za H.ctx (t := ty4) (hp0) u81 q q q <| qM q q q <| B <| g <| O h fun o2 au h => ?_
 refine fun a4 av => zp (I := fun s a w2 => match s with | s1 => (Fr a 32 [(1, iV p1), (10, vp0), (11, iV (List.length p0 : Int)), (12, iV s1)] ∧ Holds M0 w w2 [] G)) (O := fun o e a w2 => match o with | .inl _ => e = .exit 0 ∧ (Fr a 32 [] ∧ Holds M0 w w2 [] G) | .inr (q0, q1) => e = .ret ∧ (Fr a 32 [(4, iV q0), (5, iV q1)] ∧ Holds M0 w w2 [] G)) au ?_ ?_ ?_
 ·exact ⟨av.s, H⟩
 ·rintro s1 _ a w6 ab ⟨ha, ag⟩
  refine S1 ha <| rR <| A q (qt_lss q q) q q <| B <| C ?_
  refine Yh q ab (fun ab => ?_) (fun ab => ?_)
  ·refine y <| C <| g <| rR <| qM q q q <| O ab fun aj ak ab => b ag.ctx (hp0) ak u81 i45 q q q q fun aM aN aO aw => lV u45 q (ag.el (hp0) ak aw) q q q fun al am => qA q q q <| qA q q q <| rN <| qM q q q <| za am.ctx (t := ty2) hR0 u45 q q q <| qM q q q <| B <| g <| O ab fun ad ax ab => ?_
   refine fun aP ay => zp (I := fun s a w2 => match s with | ao => (Fr a 32 [(1, iV p1), (6, iV s1), (10, vp0), (11, iV (List.length p0 : Int)), (12, iV s1), (17, al), (18, iV (List.length aj : Int)), (19, iV ao)] ∧ Holds M0 w w2 [.ro ty2 al aj] G)) (O := fun o e a w2 => match o with | .inl _ => e = .exit 2 ∧ (Fr a 32 [(1, iV p1), (10, vp0), (11, iV (List.length p0 : Int)), (12, iV s1)] ∧ Holds M0 w w2 [] G) | .inr (q0, q1) => e = .ret ∧ (Fr a 32 [(4, iV q0), (5, iV q1)] ∧ Holds M0 w w2 [] G)) ax ?_ ?_ ?_
   ·exact ⟨ay.s, am⟩
   ·rintro ao _ a aQ aa ⟨ha, ae⟩
    refine S1 ha <| rR <| A q (qt_lss q q) q q <| B <| C ?_
    refine Yh q aa (fun aa => ?_) (fun aa => ?_)
    ·refine y <| C <| g <| rR <| qM q q q <| O aa fun af ap aa => b ae.ctx hR0 ap u45 i49 q q q q fun aR aS aT az => ?_
     obtain ⟨aU, aA, aV⟩ := ae.atN hR0 ap az
     refine XL_load_agg (t := ty2) us49 uo49 i49 aA q q q fun aW aB => ?_
     obtain ⟨c41, c42, aX, aY, rfl, aZ, aC, aD⟩ := aB
     obtain ⟨rfl, _⟩ := aC
     obtain ⟨rfl, _⟩ := aD
     change XL _ _ _ _ _ ((23, .agg #[iV af.1, iV af.2]) :: _) _
     refine zq (cs := [iV 0, iV 0]) ae z49 q q q fun a0 a1 aE => qA q q q <| zl (cs' := [iV af.1, iV af.2]) aE q il49 q q q q q fun a2 ah => rN <| qF uf49 fi49_1 nz3 q q q <| l u3 q (R ah.p0) q q q q <| qM q q q <| A q (qt_eql q q) q q <| B ?_
     refine Yh q aa (fun aa => ?_) (fun aa => ?_)
     ·refine rR <| qM q q q <| qM q q q <| qA q q q <| qA q q q <| B <| W fun a ha => ?_
      cases aa
      have aF := ah.q0.q0
      exact zj (m (⟨ret_ne, q, ha.s, aF⟩))
     refine WP_skip fun a ha => zi <| X <| S1 ha <| Z <| A q (qt_add q q) q q <| qM q q q <| WL_nil fun a ha => ?_
     cases aa
     have aG := ah.q0
     exact ⟨q, ha.s, aG⟩
    refine WP_exit fun a ha => ?_
    cases aa
    have aH := ae.q0
    exact zo (⟨exit_ne, q, ha.s, aH⟩)
   intro e a a3 aq
   rcases ad with ad | ad
   ·obtain ⟨rfl, ha, aI⟩ := aq
    refine zn <| zi <| X <| S1 ha <| Z <| A q (qt_add q q) q q <| qM q q q <| WL_nil fun a ha => ?_
    cases ab
    exact ⟨q, ha.s, aI⟩
   obtain ⟨a5, a6⟩ := ad
   obtain ⟨rfl, ha, aJ⟩ := aq
   cases ab
   exact zj (zj (m (⟨ret_ne, q, ha.s, aJ⟩)))
  refine WP_exit fun a ha => ?_
  cases ab
  exact zo (⟨exit_ne, q, ha.s, ag⟩)
 intro e a a7 ar
 rcases o2 with o2 | o2
 ·obtain ⟨rfl, ha, aK⟩ := ar
  refine zn <| X <| S1 ha <| rR <| qA q q q <| qA q q q <| B <| W fun a ha => ?_
  cases h
  exact ret2 q ha q q ⟨q, aK⟩
 obtain ⟨a8, a9⟩ := o2
 obtain ⟨rfl, ha, aL⟩ := ar
 cases h
 exact zj (m (ret2 q ha q q ⟨q, aL⟩))
theorem w_impl_stateAfter {w : World} {G : List Res} {p0 : Int} {p1 : Int} {r : Int × Bool} (h : impl_stateAfterS p0 p1 = some r) (H : Ctx w G) : Calls Tryz.prog 120 #[iV p0, iV p1] w fun e w' => e = .returned (.tuple #[iV r.1, .bool r.2]) ∧ Holds M0 w w' [] G := by
 refine E0 (n := 31) H Tryz.func120 q q q fun H => ?_
 unfold impl_stateAfterS at h
 refine rR <| qA q q q <| qA q q q <| B <| C <| rR <| qM q q q <| B <| g <| rR <| A q (qt_eql q q) q q <| qA q q q <| B ?_
 refine Yh q h (fun h => ?_) (fun h => ?_)
 ·refine rR <| qM q q q <| A q (qt_eql q q) q q <| B ?_
  refine Yh q h (fun h => ?_) (fun h => ?_)
  ·refine rR <| qA q q q <| qA q q q <| B <| W fun a ha => ?_
   cases h
   exact zj (m (ret2 q ha q q ⟨q, H⟩))
  refine WP_skip fun a ha => zi <| X <| S1 ha <| rR <| qA q q q <| qA q q q <| B <| W fun a ha => ?_
  cases h
  exact ret2 q ha q q ⟨q, H⟩
 refine rR <| A q (qt_eql q q) q q <| qA q q q <| B ?_
 refine Yh q h (fun h => ?_) (fun h => ?_)
 ·refine rR <| qM q q q <| A q (qt_eql q q) q q <| B ?_
  refine Yh q h (fun h => ?_) (fun h => ?_)
  ·refine rR <| qA q q q <| qA q q q <| B <| W fun a ha => ?_
   cases h
   exact zj (m (ret2 q ha q q ⟨q, H⟩))
  refine WP_skip fun a ha => zi <| X <| S1 ha <| rR <| qA q q q <| qA q q q <| B <| W fun a ha => ?_
  cases h
  exact ret2 q ha q q ⟨q, H⟩
 refine rR <| A q (qt_eql q q) q q <| qA q q q <| B ?_
 refine Yh q h (fun h => ?_) (fun h => ?_)
 ·refine rR <| qM q q q <| A q (qt_eql q q) q q <| B ?_
  refine Yh q h (fun h => ?_) (fun h => ?_)
  ·refine rR <| qA q q q <| qA q q q <| B <| W fun a ha => ?_
   cases h
   exact zj (m (ret2 q ha q q ⟨q, H⟩))
  refine WP_skip fun a ha => zi <| X <| S1 ha <| rR <| qA q q q <| qA q q q <| B <| W fun a ha => ?_
  cases h
  exact ret2 q ha q q ⟨q, H⟩
 refine rR <| A q (qt_eql q q) q q <| qA q q q <| B ?_
 refine Yh q h (fun h => ?_) (fun h => ?_)
 ·refine rR <| qM q q q <| A q (qt_eql q q) q q <| qM q q q ?_
  refine Ho (res := ((p0 == 0) || (p0 == 1))) 2 os (fun aa K2 ad => ?_) ?_
  ·exact qM (J q aa) q q <| A (J q aa) (qt_eql q q) q q <| ad 2 q q q (oi aa)
  refine qM q q q ?_
  refine Ho (res := (((p0 == 0) || (p0 == 1)) || (p0 == 2))) 2 os (fun ab K5 ae => ?_) ?_
  ·exact qM (J q ab) q q <| A (J q ab) (qt_eql q q) q q <| ae 2 q q q (oi ab)
  refine B ?_
  refine Yh q h (fun h => ?_) (fun h => ?_)
  ·refine rR <| qA q q q <| qA q q q <| B <| W fun a ha => ?_
   cases h
   exact zj (m (ret2 q ha q q ⟨q, H⟩))
  refine WP_skip fun a ha => zi <| X <| S1 ha <| rR <| qA q q q <| qA q q q <| B <| W fun a ha => ?_
  cases h
  exact ret2 q ha q q ⟨q, H⟩
 refine WP_skip fun a ha => zi <| X <| S1 ha <| rR <| qA q q q <| qA q q q <| B <| W fun a ha => ?_
 cases h
 exact ret2 q ha q q ⟨q, H⟩
theorem w_impl_TicketDo {w : World} {G : List Res} {vp0 : Value} {p0 : LP} (hp0 : Has G ty2 vp0 p0) {p1 : Int} {p2 : Int} {r : LP × Bool} (h : impl_TicketDoS p0 p1 p2 = some r) (H : Ctx w G) : Calls Tryz.prog 115 #[vp0, iV p1, iV p2] w fun e w' => ∃ (v1 : Value), e = .returned (.tuple #[v1, .bool r.2]) ∧ Holds M0 w w' [.sl 49 ty2 v1 r.1] G := by
 refine E0 (n := 49) H Tryz.func115 q q q fun H => ?_
 unfold impl_TicketDoS at h
 refine rR <| qA q q q <| qA q q q <| B <| C <| C <| zk <| qM q q q <| O h fun x1 ak h => Qc q q c77 H (fun _ => w_impl_TicketValid (hp0) ak) q <| A q (qt_not q) q q <| Qn H fun a ha w3 H5 => X <| S1 ha ?_
 refine Yh q h (fun h => ?_) (fun h => ?_)
 ·refine rR <| qA q q q <| qA q q q <| B <| W fun a ha => ?_
  cases h
  have H7 := H5.nS 49 ty2
  exact m (ret2 q ha q q ⟨(nS), q, H7⟩)
 refine y <| rR <| qM q q q <| O h fun x8 al h => V1 q q c64 (w_impl_copyTicket (hp0) al H5.ctx) q fun ad aC am => have aa := H5.cN1 [] am; qA q q q <| B <| C <| rR <| qM q q q <| A q (qt_lss q q) q q <| qM q q q ?_
 refine Ho (res := ((decide (p1 < 0)) || (decide (p1 ≥ (List.length p0 : Int))))) 4 os (fun ab aD ao => ?_) ?_
 ·exact qM (J q ab) q q <| qM (J q ab) q q <| za aa.ctx (t := ty2) (hp0.c) u45 (J q ab) q q <| A (J q ab) (qt_geq q q) q q <| ao 4 q q q (oi ab)
 refine B ?_
 refine Yh q h (fun h => ?_) (fun h => ?_)
 ·refine rR <| qM q q q <| qA q q q <| qA q q q <| B <| W fun a ha => ?_
  cases h
  exact m (ret2 q ha q q ⟨ad, q, aa⟩)
 refine y <| rR <| qM q q q <| qM q q q <| O h fun aE ag h => b aa.ctx (hp0.c) ag u45 i49 q q q q fun aF aG aH ap => qF uf49 fi49_1 nz3 q q q <| lI u3 q (aa.el (hp0.c) ag ap).s q q q <| qM q q q <| O h fun aq ar h => V0 q q c120 (w_impl_stateAfter ar aa.ctx) q fun aI au => have ae := aa.cN0 [] au; qM q q q <| A q (zv q q) q q <| A q (zv q q) q q <| qA q q q <| qA q q q <| B <| C <| rR <| qM q q q <| A q (qt_not q) q q <| B ?_
 refine Yh q h (fun h => ?_) (fun h => ?_)
 ·refine rR <| qM q q q <| qA q q q <| qA q q q <| B <| W fun a ha => ?_
  cases h
  exact m (ret2 q ha q q ⟨ad, q, ae⟩)
 refine y <| rR <| qM q q q <| qM q q q <| qM q q q <| O h fun aJ ah h => b ae.ctx hS0 ah u45 i49 q q q q fun aK aL aM av => qF uf49 fi49_1 nz3 q q q <| WL_storeH (fo := 1) (cs' := [iV aq.1]) ae ah av (Upd.snd (Upd.whole (Blt.int))) q il3 q q q q fun aN aj => B <| C <| C <| zk <| qM q q q <| O h fun aO aw h => Qc q q c77 aj (fun _ => w_impl_TicketValid hS0 aw) q <| A q (qt_not q) q q <| Qn aj fun a ha aP af => X <| S1 ha ?_
 refine Yh q h (fun h => ?_) (fun h => ?_)
 ·refine rR <| qM q q q <| O h fun aQ ax h => V1 q q c64 (w_impl_copyTicket (hp0.c) ax af.ctx) q fun ay aR az => have aA := af.cN1 [] az; qA q q q <| qA q q q <| B <| W fun a ha => ?_
  cases h
  have aB := aA.q1
  exact m (ret2 q ha q q ⟨ay, q, aB⟩)
 refine y <| rR <| qM q q q <| qA q q q <| qA q q q <| B <| W fun a ha => ?_
 cases h
 exact ret2 q ha q q ⟨ad, q, af⟩
theorem w_impl_TicketMay {w : World} {G : List Res} {vp0 : Value} {p0 : LP} (hp0 : Has G ty2 vp0 p0) {r : (List Int)} (h : impl_TicketMayS p0 = some r) (H : Ctx w G) : Calls Tryz.prog 110 #[vp0] w fun e w' => ∃ (v1 : Value), e = .returned (v1) ∧ Holds M0 w w' [.sl 3 tI v1 r] G := by
 refine E0 (n := 28) H Tryz.func110 q q q fun H => ?_
 unfold impl_TicketMayS at h
 refine rR <| qA q q q <| B <| C <| C <| zk <| qM q q q <| O h fun x1 ag h => Qc q q c77 H (fun _ => w_impl_TicketValid (hp0) ag) q <| A q (qt_not q) q q <| Qn H fun a ha w3 H5 => X <| S1 ha ?_
 refine Yh q h (fun h => ?_) (fun h => ?_)
 ·refine rR <| qA q q q <| B <| W fun a ha => ?_
  cases h
  have H7 := H5.nS 3 tI
  exact m (ret1 q ha q ⟨(nS), q, H7⟩)
 refine y <| rR <| qA q q q <| B <| C <| rR <| qM q q q <| za H5.ctx (t := ty2) (hp0) u45 q q q <| qM q q q <| B <| g <| have ah := H5.nS 3 tI; O h fun az aj h => ?_
 refine fun aA ak => zp (I := fun s a w2 => match s with | (s8, s9) => ∃ ab, Fr a 28 [(0, vp0), (3, ab), (11, iV (List.length p0 : Int)), (12, iV s9)] ∧ Holds M0 w w2 [.sl 3 tI ab s8] G) (O := fun o e a w2 => match o with | q0 => e = .exit 0 ∧ ∃ ae, Fr a 28 [(3, ae)] ∧ Holds M0 w w2 [.sl 3 tI ae q0] G) aj ?_ ?_ ?_
 ·exact ⟨(nS), ak.s, ah⟩
 ·rintro ⟨s8, s9⟩ _ a aB aa ⟨ab, ha, ad⟩
  refine S1 ha <| rR <| A q (qt_lss q q) q q <| B <| C ?_
  refine Yh q aa (fun aa => ?_) (fun aa => ?_)
  ·refine y <| C <| g <| rR <| qM q q q <| qA q q q <| B <| C <| Z <| qM q q q <| qM q q q <| O aa fun aC al aa => V1 q q c115 (w_impl_TicketDo (hp0.c) al ad.ctx) q fun aD aE am => have af := ad.cN1 [] am; qM q q q <| A q (zv q q) q q <| A q (zv q q) q q <| qA q q q <| qA q q q <| rN <| qM q q q <| B ?_
   refine Yh q aa (fun aa => ?_) (fun aa => ?_)
   ·refine Z <| qM q q q <| qM q q q <| zs (t := tI) (args := [.tmp 23]) (xs := ([s9] : List Int)) af (BltL.cons (Blt.int) q (BltL.nil)) u24 j3 q q q q q q fun aF aG ao => have ap := ao.p2; O aa fun aH aq aa => zw ap hS1 aq u24 j3 q q q q q q fun ar aI au => qA q q q <| WL_nil fun a ha => zi <| X <| S1 ha <| Z <| A q (qt_add q q) q q <| qM q q q <| WL_nil fun a ha => ?_
    cases aa
    have av := au.q1.q1
    exact ⟨q, ar, ha.s, av⟩
   refine WP_skip fun a ha => zi <| X <| S1 ha <| Z <| A q (qt_add q q) q q <| qM q q q <| WL_nil fun a ha => ?_
   cases aa
   have aw := af.q0
   exact ⟨q, ab, ha.s, aw⟩
  refine WP_exit fun a ha => ?_
  cases aa
  exact zo (⟨exit_ne, q, ab, ha.s, ad⟩)
 rintro _ a aJ ⟨rfl, ax, ha, ay⟩
 refine zn <| X <| S1 ha <| rR <| qM q q q <| qA q q q <| B <| W fun a ha => ?_
 obtain rfl := L h
 exact ret1 q ha q ⟨ax, q, ay⟩
theorem w_impl_NextFire {w : World} {G : List Res} {vp0 : Value} {p0 : List LP} (hp0 : Has G ty4 vp0 p0) {r : Int × Int} (h : impl_NextFireS p0 = some r) (H : Ctx w G) : Calls Tryz.prog 96 #[vp0] w fun e w' => e = .returned (.tuple #[iV r.1, iV r.2]) ∧ Holds M0 w w' [] G := by
 refine E0 (n := 27) H Tryz.func96 q q q fun H => ?_
 unfold impl_NextFireS at h
 refine rR <| qA q q q <| qA q q q <| B <| C <| C <| zk <| qM q q q <| O h fun x1 aj h => Qc q q c83 H (fun _ => w_impl_KitchenValid (hp0) aj) q <| A q (qt_not q) q q <| Qn H fun a ha w3 H5 => X <| S1 ha ?_
 refine Yh q h (fun h => ?_) (fun h => ?_)
 ·refine rR <| qA q q q <| qA q q q <| B <| W fun a ha => ?_
  cases h
  exact m (ret2 q ha q q ⟨q, H5⟩)
 refine y <| C <| rR <| qM q q q <| za H5.ctx (t := ty4) (hp0) u81 q q q <| qM q q q <| B <| g <| O h fun o8 ak h => ?_
 refine fun ay al => zp (I := fun s a w2 => match s with | s7 => (Fr a 27 [(10, vp0), (11, iV (List.length p0 : Int)), (12, iV s7)] ∧ Holds M0 w w2 [] G)) (O := fun o e a w2 => match o with | .inl _ => e = .exit 0 ∧ (Fr a 27 [] ∧ Holds M0 w w2 [] G) | .inr (q0, q1) => e = .ret ∧ (Fr a 27 [(2, iV q0), (3, iV q1)] ∧ Holds M0 w w2 [] G)) ak ?_ ?_ ?_
 ·exact ⟨al.s, H5⟩
 ·rintro s7 _ a az aa ⟨ha, ad⟩
  refine S1 ha <| rR <| A q (qt_lss q q) q q <| B <| C ?_
  refine Yh q aa (fun aa => ?_) (fun aa => ?_)
  ·refine y <| C <| g <| rR <| qM q q q <| O aa fun aA ae aa => b ad.ctx (hp0) ae u81 i45 q q q q fun aB aC aD am => lV u45 q (ad.el (hp0) ae am) q q q fun aE af => qA q q q <| qA q q q <| rN <| qM q q q <| O aa fun aF ao aa => V1 q q c110 (w_impl_TicketMay hR0 ao af.ctx) q fun aG aH ap => have ab := af.cN1 [] ap; qA q q q <| rN <| qM q q q <| za ab.ctx (t := tI) hS0 u24 q q q <| A q (qt_gtr q q) q q <| B ?_
   refine Yh q aa (fun aa => ?_) (fun aa => ?_)
   ·refine C <| WP_quiet (by kernel_rfl) (by kernel_rfl) <| qM q q q <| qM q q q <| O aa fun aI ag aa => b ab.ctx hS0 ag u24 i3 q q q q fun aJ aK aL aq => lI u3 q (ab.el hS0 ag aq) q q q <| qA q q q <| qA q q q <| Qn ab fun a ha aM ar => X <| S1 ha <| W fun a ha => ?_
    cases aa
    have au := ar.q0.q0
    exact zj (m (⟨ret_ne, q, ha.s, au⟩))
   refine WP_skip fun a ha => zi <| X <| S1 ha <| Z <| A q (qt_add q q) q q <| qM q q q <| WL_nil fun a ha => ?_
   cases aa
   have av := ab.q0.q0
   exact ⟨q, ha.s, av⟩
  refine WP_exit fun a ha => ?_
  cases aa
  exact zo (⟨exit_ne, q, ha.s, ad⟩)
 intro e a aN ah
 rcases o8 with o8 | o8
 ·obtain ⟨rfl, ha, aw⟩ := ah
  refine zn <| X <| S1 ha <| rR <| qA q q q <| qA q q q <| B <| W fun a ha => ?_
  cases h
  exact ret2 q ha q q ⟨q, aw⟩
 obtain ⟨aO, aP⟩ := o8
 obtain ⟨rfl, ha, ax⟩ := ah
 cases h
 exact zj (m (ret2 q ha q q ⟨q, ax⟩))
theorem w_impl_WorkStep {w : World} {G : List Res} {vp0 : Value} {p0 : List LP} (hp0 : Has G ty4 vp0 p0) {r : (List LP) × Bool} (h : impl_WorkStepS p0 = some r) (H : Ctx w G) : Calls Tryz.prog 69 #[vp0] w fun e w' => ∃ (v1 : Value) (csv1 : List Value) (Fv1 : List Nat), e = .returned (.tuple #[v1, .bool r.2]) ∧ Holds M0 w w' [dpR 45 dt6 v1 csv1 r.1 Fv1] G := by
 refine E0 (n := 62) H Tryz.func69 q q q fun H => ?_
 unfold impl_WorkStepS at h
 refine rR <| qA q q q <| qA q q q <| B <| C <| C <| zk <| qM q q q <| O h fun x1 au h => Qc q q c83 H (fun _ => w_impl_KitchenValid (hp0) au) q <| A q (qt_not q) q q <| Qn H fun a ha w3 H5 => X <| S1 ha ?_
 refine Yh q h (fun h => ?_) (fun h => ?_)
 ·refine rR <| qA q q q <| qA q q q <| B <| W fun a ha => ?_
  cases h
  have H7 := H5.nD 45 dt6
  exact m (ret2 q ha q q ⟨(nS), [], [], q, H7⟩)
 refine y <| rR <| qM q q q <| O h fun x8 av h => V3 q q c94 (w_impl_copyKitchen (hp0) av H5.ctx) q fun aa af aw bn ax => have ao := H5.cN1 [] ax; qA q q q <| B <| C <| rR <| qM q q q <| O h fun bo ay h => have az := ao.viewG (Vw.d Vw.refl); V0 q q c95 (w_impl_firstIn (hp0.c) ay az) q fun aA aB => have ab := ao.cV0 [] aB all_nil; qM q q q <| A q (zv q q) q q <| A q (zv q q) q q <| qA q q q <| qA q q q <| rN <| qM q q q <| A q (qt_geq q q) q q <| B ?_
 refine Yh q h (fun h => ?_) (fun h => ?_)
 ·refine rR <| qM q q q <| qM q q q <| O h fun aC ag h => have aD := ab.viewG (Vw.d Vw.refl); b aD hR0 ag u81 i45 q q q q fun bp bq br aE => ?_
  obtain ⟨aF, ak, aG, bs, bt, bu⟩ := Holds.ns ab (Foc.refl) ag aE
  refine XL_load_cell u45 q aG q q q <| qM q q q <| O h fun bv ap h => ?_
  have aH : Ctx aA ([.ro ty2 aF aC, .ro ty4 aa x8] ++ G) := ab.viewG (Vw.dp (NsOk.ns (Foc.refl) ag ak (NsOk.self NsOk.nil)) Vw.refl)
  refine b aH hR0 ap u45 i49 q q q q fun bw bz bA aI => qF uf49 fi49_1 nz3 q q q ?_
  obtain ⟨bB, aJ⟩ := Holds.borrow ab (Foc.refl) ag ak
  refine WL_storeH (fo := 1) (cs' := [iV 3]) aJ ap aI (Upd.snd (Upd.whole (Blt.int))) q il3 q q q q fun bC aK => have aL := aK.p1; have aM := aL.p1; ?_
  obtain ⟨aN, aO⟩ := Holds.giveBack q aM ak
  refine rN <| qM q q q <| qA q q q <| qA q q q <| B <| W fun a ha => ?_
  cases h
  exact m (ret2 q ha q q ⟨aa, af, aN, q, aO⟩)
 refine y <| C <| rR <| qM q q q <| O h fun bD aP h => have aQ := ab.viewG (Vw.d Vw.refl); V0 q q c95 (w_impl_firstIn (hp0.c) aP aQ) q fun aR aS => have ad := ab.cV0 [] aS all_nil; qM q q q <| A q (zv q q) q q <| A q (zv q q) q q <| qA q q q <| qA q q q <| rN <| qM q q q <| A q (qt_geq q q) q q <| B ?_
 refine Yh q h (fun h => ?_) (fun h => ?_)
 ·refine rR <| qM q q q <| qM q q q <| O h fun aT ah h => have aU := ad.viewG (Vw.d Vw.refl); b aU hR0 ah u81 i45 q q q q fun bE bF bG aV => ?_
  obtain ⟨aW, al, aX, bH, bI, bJ⟩ := Holds.ns ad (Foc.refl) ah aV
  refine XL_load_cell u45 q aX q q q <| qM q q q <| O h fun bK aq h => ?_
  have aY : Ctx aR ([.ro ty2 aW aT, .ro ty4 aa x8] ++ G) := ad.viewG (Vw.dp (NsOk.ns (Foc.refl) ah al (NsOk.self NsOk.nil)) Vw.refl)
  refine b aY hR0 aq u45 i49 q q q q fun bL bM bN aZ => qF uf49 fi49_1 nz3 q q q ?_
  obtain ⟨bO, a0⟩ := Holds.borrow ad (Foc.refl) ah al
  refine WL_storeH (fo := 1) (cs' := [iV 2]) a0 aq aZ (Upd.snd (Upd.whole (Blt.int))) q il3 q q q q fun bP a1 => have a2 := a1.p1; have a3 := a2.p1; ?_
  obtain ⟨a4, a5⟩ := Holds.giveBack q a3 al
  refine rN <| qM q q q <| qA q q q <| qA q q q <| B <| W fun a ha => ?_
  cases h
  exact m (ret2 q ha q q ⟨aa, af, a4, q, a5⟩)
 refine y <| C <| rR <| qM q q q <| O h fun bQ a6 h => have a7 := ad.viewG (Vw.d Vw.refl); V0 q q c96 (w_impl_NextFire (hp0.c) a6 a7) q fun a8 a9 => have ae := ad.cV0 [] a9 all_nil; qM q q q <| A q (zv q q) q q <| A q (zv q q) q q <| qA q q q <| qA q q q <| rN <| qM q q q <| A q (qt_geq q q) q q <| B ?_
 refine Yh q h (fun h => ?_) (fun h => ?_)
 ·refine rR <| qM q q q <| qM q q q <| O h fun ba aj h => have bb := ae.viewG (Vw.d Vw.refl); b bb hR0 aj u81 i45 q q q q fun bR bS bT bc => ?_
  obtain ⟨bd, am, be, bU, bV, bW⟩ := Holds.ns ae (Foc.refl) aj bc
  refine XL_load_cell u45 q be q q q <| qM q q q <| O h fun bX ar h => ?_
  have bf : Ctx a8 ([.ro ty2 bd ba, .ro ty4 aa x8] ++ G) := ae.viewG (Vw.dp (NsOk.ns (Foc.refl) aj am (NsOk.self NsOk.nil)) Vw.refl)
  refine b bf hR0 ar u45 i49 q q q q fun bY bZ b0 bg => qF uf49 fi49_1 nz3 q q q ?_
  obtain ⟨b4, bh⟩ := Holds.borrow ae (Foc.refl) aj am
  refine WL_storeH (fo := 1) (cs' := [iV 1]) bh ar bg (Upd.snd (Upd.whole (Blt.int))) q il3 q q q q fun b5 bi => have bj := bi.p1; have bk := bj.p1; ?_
  obtain ⟨bl, bm⟩ := Holds.giveBack q bk am
  refine rN <| qM q q q <| qA q q q <| qA q q q <| B <| W fun a ha => ?_
  cases h
  exact m (ret2 q ha q q ⟨aa, af, bl, q, bm⟩)
 refine y <| rR <| qM q q q <| qA q q q <| qA q q q <| B <| W fun a ha => ?_
 cases h
 exact ret2 q ha q q ⟨aa, af, aw, q, ae⟩
theorem w_impl_doWork (w : World) (G : List Res) (bp0 : Nat) (A0 : Value) (B0 : LI) (csp0_0 : List Value) (Fp0_0 : List Nat) (A1 : Value) (B1 : List Int) (A2 : Value) (B2 : List Int) (B3 : Int) (A4 : Value) (B4 : LT) (csp0_4 : List Value) (Fp0_4 : List Nat) (r : LT × Bool) (h : impl_doWorkS B0 B1 B2 B3 B4 = some r) (H : Ctx w ([.bx bp0 27 [A0, A1, A2, iV B3, A4], dpR 55 dt15 A0 csp0_0 B0 Fp0_0, .sl 3 tI A1 B1, .sl 3 tI A2 B2, dpR 47 dt16 A4 csp0_4 B4 Fp0_4] ++ G)) : Calls Tryz.prog 31 #[pB bp0] w fun e w' => ∃ (dsp0_4 : List Value) (Ep0_4 : List Nat), e = .returned (.bool r.2) ∧ Holds (([.bx bp0 27 [A0, A1, A2, iV B3, A4], dpR 55 dt15 A0 csp0_0 B0 Fp0_0, .sl 3 tI A1 B1, .sl 3 tI A2 B2, dpR 47 dt16 A4 csp0_4 B4 Fp0_4] : List Res).flatMap Res.own) w w' [.bx bp0 27 [A0, A1, A2, iV B3, A4], dpR 55 dt15 A0 csp0_0 B0 Fp0_0, .sl 3 tI A1 B1, .sl 3 tI A2 B2, dpR 47 dt16 A4 dsp0_4 r.1 Ep0_4] G := by
 have H : Holds (([.bx bp0 27 [A0, A1, A2, iV B3, A4], dpR 55 dt15 A0 csp0_0 B0 Fp0_0, .sl 3 tI A1 B1, .sl 3 tI A2 B2, dpR 47 dt16 A4 csp0_4 B4 Fp0_4] : List Res).flatMap Res.own) w w [.bx bp0 27 [A0, A1, A2, iV B3, A4], dpR 55 dt15 A0 csp0_0 B0 Fp0_0, .sl 3 tI A1 B1, .sl 3 tI A2 B2, dpR 47 dt16 A4 csp0_4 B4 Fp0_4] G := zb H
 refine zg (args := [pB bp0]) (n := 33) Tryz.func31 q q q ?_
 unfold impl_doWorkS at h
 refine rR <| qA q q q <| rN <| qM q q q <| qN q q q <| have ax := R H.p0; zm (cs := [A0, A1, A2, iV B3, A4]) us27 uo27 il27 ax q q q ?_
 change XL _ _ _ _ _ ((10, .agg #[A0, A1, A2, iV B3, A4]) :: _) _
 obtain ⟨x2, ay, h⟩ := D h
 refine have V4 := H.viewG (Vw.c (Vw.d (Vw.c (Vw.c (Vw.d Vw.refl))))); zd q q c47 (@w_impl_kitchenOf w ([.bx bp0 27 [A0, A1, A2, iV B3, A4], .ro ty12 A0 B0, .sl 3 tI A1 B1, .sl 3 tI A2 B2, .ro ty14 A4 B4] ++ G) A0 B0 hR1 A1 B1 hS2 A2 B2 hS3 B3 A4 B4 hR4 x2 ay V4) (by rfl) ?_
 rintro _ w5 ⟨v7, a2, F9, rfl, H6⟩; refine ⟨_, q, ?_⟩
 have ao := H.cV1 [] H6 (zc Pure.dp all_nil)
 obtain ⟨ae, az, h⟩ := D h
 refine have aA := ao.viewG (Vw.d (Vw.c (Vw.d (Vw.c (Vw.c (Vw.d Vw.refl)))))); zd q q c69 (@w_impl_WorkStep w5 ([.ro ty4 v7 x2, .bx bp0 27 [A0, A1, A2, iV B3, A4], .ro ty12 A0 B0, .sl 3 tI A1 B1, .sl 3 tI A2 B2, .ro ty14 A4 B4] ++ G) v7 x2 hR0 ae az aA) (by rfl) ?_
 rintro _ a3 ⟨ap, aB, aC, rfl, aD⟩; refine ⟨_, q, ?_⟩
 refine have af := ao.cV1 [] aD (zc Pure.dp all_nil); qM q q q <| A q (zv q q) q q <| A q (zv q q) q q <| qA q q q <| qA q q q <| B <| C <| rR <| qM q q q <| A q (qt_not q) q q <| B ?_
 refine Y q (fun ag => ?_) (fun ag => ?_)
 ·refine have h := if_t ag h; rR <| qA q q q <| B <| W fun a ha => ?_
  obtain rfl := L h
  have aE := af.q0.q0.p4.p4.p4.p4.p4
  exact m (ret1 q ha q ⟨csp0_4, Fp0_4, q, aE⟩)
 refine have h := if_f ag h; y <| C <| rR <| qM q q q <| have aF := af.viewG (Vw.d (Vw.d (Vw.c (Vw.d (Vw.c (Vw.c (Vw.d Vw.refl))))))); za aF (t := ty4) hR0 u81 q q q <| qM q q q <| B <| g ?_
 obtain ⟨aq, aG, h⟩ := D h
 have aH := af.q1.p5.p5.p5.p5.p5
 refine fun aI ar => zp (I := fun s a w2 => match s with | (ab, au) => ∃ ah aj FsK, 0 ≤ ab ∧ Fr a 33 [(0, pB bp0), (17, ap), (18, iV (List.length ae.1 : Int)), (19, iV ab)] ∧ Holds (([.bx bp0 27 [A0, A1, A2, iV B3, A4], dpR 55 dt15 A0 csp0_0 B0 Fp0_0, .sl 3 tI A1 B1, .sl 3 tI A2 B2, dpR 47 dt16 A4 csp0_4 B4 Fp0_4] : List Res).flatMap Res.own) w w2 [.bx bp0 27 [A0, A1, A2, iV B3, A4], dpR 55 dt15 A0 csp0_0 B0 Fp0_0, .sl 3 tI A1 B1, .sl 3 tI A2 B2, dpR 47 dt16 A4 ah au aj, sufR 45 dt6 ap aB ae.1 (Int.toNat ab) FsK] G) (O := fun o e a w2 => match o with | q0 => e = .exit 0 ∧ ∃ aJ aK, Fr a 33 [(0, pB bp0)] ∧ Holds (([.bx bp0 27 [A0, A1, A2, iV B3, A4], dpR 55 dt15 A0 csp0_0 B0 Fp0_0, .sl 3 tI A1 B1, .sl 3 tI A2 B2, dpR 47 dt16 A4 csp0_4 B4 Fp0_4] : List Res).flatMap Res.own) w w2 [.bx bp0 27 [A0, A1, A2, iV B3, A4], dpR 55 dt15 A0 csp0_0 B0 Fp0_0, .sl 3 tI A1 B1, .sl 3 tI A2 B2, dpR 47 dt16 A4 aJ q0 aK] G) aG ?_ ?_ ?_
 ·exact ⟨csp0_4, Fp0_4, aC, by decide, ar.sub ⟨q, q, q, q, trivial⟩, ((((aH.p5.suf.p5).p5).p5).p5).p5⟩
 ·clear ar
  intro s a4 a a5 aa aL
  obtain ⟨ab, au⟩ := s
  obtain ⟨ah, aj, FsK, hnn, ha, ak⟩ := aL
  refine S ?_ ha
  clear ha
  refine rR <| A q (qt_lss q q) q q <| B <| C ?_
  refine Y q (fun al => ?_) (fun al => ?_)
  ·refine have aa := if_t al aa; y <| C <| g <| rR <| qM q q q ?_
   obtain ⟨av, ad, aa⟩ := D aa
   obtain ⟨bK, capK, hvK, hmK⟩ := Holds.suf_at ak.p5 ad
   obtain ⟨vK, aM, hcK, hpK, hqK, HKa⟩ := Holds.take ak.p5 (zz ad) hvK
   refine XL_indexK ad u81 i45 q (by rw [hvK]; rfl) q q <| have am := HKa; XL_load_cell u45 q hcK q q q <| qA q q q <| qA q q q <| B <| Z <| qM q q q <| qN q q q <| qF uf27 fi27_4 nz25 q q q <| have aN := R am.p2; l u25 q aN q q q q <| qM q q q <| qM q q q ?_
   obtain ⟨a6, aw, aa⟩ := D aa
   refine have aO := am.viewG (Vw.c (Vw.c (Vw.c (Vw.d (Vw.c (Vw.c (Vw.d Vw.refl))))))); b aO hR6 aw u25 i47 q q q q fun a7 a8 a9 aP => qF uf47 fi47_1 nz45 q q q <| have aQ := am.p6.p1; WL_storeD (Rs := [.sl 49 ty2 vK av]) (fo := 1) (cs' := [vK]) aQ aw aP (Foc.snd (Foc.fst Foc.refl)) (DBlt.cast (DBlt.sl (e := 49) (t := ty2) (v := vK) (x := av) q) q q) (by rw [hpK]) il45 q q q fun aR aS ba aT => WL_nil fun a ha => ?_
   refine zi (X (S ?_ ha))
   refine Z <| A q (qt_add q q) q q <| qM q q q <| WL_nil fun a ha => ?_
   obtain rfl := L aa
   have aU := aT.p1.p1.p5.p5.p5.p5
   have hwK : IntKind.wrap .i64 (ab + 1) = ab + 1 := IntWalk.i64_in _ ⟨by omega, by have := (geti_lt ad).2; simp only [maxLen] at hmK; omega⟩
   exact ⟨q, aR, aS, aM, by rw [hwK]; omega, ha.sub ⟨q, q, q, q, trivial⟩, by rw [hwK, show Int.toNat (ab + 1) = Int.toNat ab + 1 by omega]; exact aU⟩
  refine have aa := if_f al aa; WP_exit fun a ha => ?_
  obtain rfl := L aa
  have aV := ak.q5.p4.p4.p4.p4.p4
  exact zo (⟨exit_ne, q, ah, aj, ha.sub ⟨q, trivial⟩, aV⟩)
 intro e aI bb aW
 obtain ⟨bc, rfl⟩ : ∃ z, z = aq := ⟨aq, q⟩
 obtain ⟨rfl, aX⟩ := aW
 obtain ⟨aY, aZ, ha, a0⟩ := aX
 refine zn (X (S ?_ ha))
 refine rR <| qA q q q <| B <| W fun a ha => ?_
 obtain rfl := L h
 have a1 := a0.p4.p4.p4.p4.p4
 exact ret1 q ha q ⟨aY, aZ, q, a1⟩
theorem w_impl_TicketCourse {w : World} {G : List Res} {vp0 : Value} {p0 : LP} (hp0 : Has G ty2 vp0 p0) {r : Int} (h : impl_TicketCourseS p0 = some r) (H : Ctx w G) : Calls Tryz.prog 97 #[vp0] w fun e w' => e = .returned (iV r) ∧ Holds M0 w w' [] G := by
 refine E0 (n := 32) H Tryz.func97 q q q fun H => ?_
 unfold impl_TicketCourseS at h
 refine rR <| qA q q q <| B <| C <| C <| zk <| qM q q q <| O h fun x1 ak h => Qc q q c77 H (fun _ => w_impl_TicketValid (hp0) ak) q <| A q (qt_not q) q q <| Qn H fun a ha w3 H5 => X <| S1 ha ?_
 refine Yh q h (fun h => ?_) (fun h => ?_)
 ·refine rR <| qA q q q <| B <| W fun a ha => ?_
  cases h
  exact m (ret1 q ha q ⟨q, H5⟩)
 refine y <| rR <| qA q q q <| B <| C <| rR <| qM q q q <| za H5.ctx (t := ty2) (hp0) u45 q q q <| qM q q q <| B <| g <| O h fun o9 al h => ?_
 refine fun aD am => zp (I := fun s a w2 => match s with | (s7, s8) => (Fr a 32 [(3, iV s7), (9, vp0), (10, iV (List.length p0 : Int)), (11, iV s8)] ∧ Holds M0 w w2 [] G)) (O := fun o e a w2 => match o with | q0 => e = .exit 0 ∧ (Fr a 32 [(3, iV q0)] ∧ Holds M0 w w2 [] G)) al ?_ ?_ ?_
 ·exact ⟨am.s, H5⟩
 ·rintro ⟨s7, s8⟩ _ a aE aa ⟨ha, af⟩
  refine S1 ha <| rR <| A q (qt_lss q q) q q <| B <| C ?_
  refine Yh q aa (fun aa => ?_) (fun aa => ?_)
  ·refine y <| C <| g <| rR <| O aa fun ab aj aa => b af.ctx (hp0) aj u45 i49 q q q q fun aF aG aH ao => ?_
   obtain ⟨aI, ap, aJ⟩ := af.atN (hp0) aj ao
   refine XL_load_agg (t := ty2) us49 uo49 i49 ap q q q fun aK aq => ?_
   obtain ⟨c29, c30, aL, aM, rfl, aN, ar, au⟩ := aq
   obtain ⟨rfl, _⟩ := ar
   obtain ⟨rfl, _⟩ := au
   change XL _ _ _ _ _ ((14, .agg #[iV ab.1, iV ab.2]) :: _) _
   refine zq (cs := [iV 0, iV 0]) af z49 q q q fun aO aP av => zl (cs' := [iV ab.1, iV ab.2]) av q il49 q q q q q fun aQ ag => B <| C <| zk <| lA (R ag.p0) us49 uo49 il49 q q q <| O aa fun aw ax aa => Qc q q c84 ag (fun _ => w_impl_finished ax) q <| A q (qt_not q) q q <| qM q q q ?_
   refine Ga (res := ((!aw) && ((decide (s7 < 0)) || (decide (ab.1 < s7))))) 8 an (fun ad aR ay => ?_) ?_
   ·refine qM (J q ad) q q <| A (J q ad) (qt_lss q q) q q <| qM (J q ad) q q ?_
    refine Go (res := ((decide (s7 < 0)) || (decide (ab.1 < s7)))) (hw := (J q ad)) 4 os (fun ae aS az => ?_) ?_
    ·exact qF uf49 fi49_0 nz3 (J q ae) q q <| l u3 q (R ag.p0) q (J q ae) q q <| qM (J q ae) q q <| A (J q ae) (qt_lss q q) q q <| az 4 q q q (oi ae)
    exact ay 4 q q q (ai ad)
   refine Qn ag fun a ha aT ah => X <| S1 ha ?_
   refine Yh q aa (fun aa => ?_) (fun aa => ?_)
   ·refine Z <| qF uf49 fi49_0 nz3 q q q <| l u3 q (R ah.p0) q q q q <| qA q q q <| WL_nil fun a ha => zi <| X <| S1 ha <| Z <| A q (qt_add q q) q q <| qM q q q <| WL_nil fun a ha => ?_
    cases aa
    have aA := ah.q0
    exact ⟨q, ha.s, aA⟩
   refine WP_skip fun a ha => zi <| X <| S1 ha <| Z <| A q (qt_add q q) q q <| qM q q q <| WL_nil fun a ha => ?_
   cases aa
   have aB := ah.q0
   exact ⟨q, ha.s, aB⟩
  refine WP_exit fun a ha => ?_
  cases aa
  exact zo (⟨exit_ne, q, ha.s, af⟩)
 rintro _ a aU ⟨rfl, ha, aC⟩
 refine zn <| X <| S1 ha <| rR <| qM q q q <| qA q q q <| B <| W fun a ha => ?_
 obtain rfl := L h
 exact ret1 q ha q ⟨q, aC⟩
theorem w_impl_TicketDone {w : World} {G : List Res} {vp0 : Value} {p0 : LP} (hp0 : Has G ty2 vp0 p0) {r : Bool} (h : impl_TicketDoneS p0 = some r) (H : Ctx w G) : Calls Tryz.prog 70 #[vp0] w fun e w' => e = .returned (.bool r) ∧ Holds M0 w w' [] G := by
 refine E0 (n := 10) H Tryz.func70 q q q fun H => ?_
 unfold impl_TicketDoneS at h
 refine rR <| qA q q q <| B <| C <| zk <| qM q q q <| O h fun x1 ad h => Qc q q c77 H (fun _ => w_impl_TicketValid (hp0) ad) q <| qM q q q <| O h fun b3 aa h => ?_
 refine Ga (res := b3) 3 (if_f · aa) (fun ab K6 ae => ?_) ?_
 ·exact have aa := if_t ab aa; qM (J q ab) q q <| O aa fun x8 af aa => Qc (J q ab) q c97 H (fun _ => w_impl_TicketCourse (hp0) af) q <| A (J q ab) (qt_lss q q) q q <| ae 3 q q q aa
 refine qA q q q <| Qn H fun a ha ah ag => X <| S1 ha <| W fun a ha => ?_
 obtain rfl := L h
 exact ret1 q ha q ⟨q, ag⟩
theorem w_impl_TableBill {w : World} {G : List Res} {A0 : Value} {B0 : LI} (C0 : Has G ty12 A0 B0) {A1 : Value} {B1 : List Int} (C1 : Has G tI A1 B1) {A2 : Value} {B2 : List Int} (C2 : Has G tI A2 B2) {B3 : Int} {A4 : Value} {B4 : LT} (C4 : Has G ty14 A4 B4) {p1 : Int} {r : Int} (h : impl_TableBillS B0 B1 B2 B3 B4 p1 = some r) (H : Ctx w G) : Calls Tryz.prog 45 #[.agg #[A0, A1, A2, iV B3, A4], iV p1] w fun e w' => e = .returned (iV r) ∧ Holds M0 w w' [] G := by
 refine E0 (n := 54) H Tryz.func45 q q q fun H => ?_
 unfold impl_TableBillS at h
 refine C <| Z <| WL_box (cs := [A0, A1, A2, iV B3, A4]) H q q q q fun b1 w2 H3 => qA q q q <| B <| C <| C <| zk <| lA (R H3.p0) us27 uo27 il27 q q q <| O h fun x6 ax h => Qc q q c10 H3 (fun _ => w_impl_HouseValid (C0.c) (C1.c) (C2.c) (C4.c) ax) q <| A q (qt_not q) q q <| qM q q q ?_
 refine Go (res := ((!x6) || (decide (p1 < 0)))) 2 os (fun aj K9 ay => ?_) ?_
 ·exact qM (J q aj) q q <| A (J q aj) (qt_lss q q) q q <| ay 2 q q q (oi aj)
 refine qM q q q ?_
 refine Go (res := (((!x6) || (decide (p1 < 0))) || (decide (p1 ≥ (List.length B4 : Int))))) 5 os (fun ab aT az => ?_) ?_
 ·exact qM (J q ab) q q <| qF uf27 fi27_4 nz25 (J q ab) q q <| l u25 q (R H3.p0) q (J q ab) q q <| za H3.ctx (t := ty14) (C4.c) u25 (J q ab) q q <| A (J q ab) (qt_geq q q) q q <| az 5 q q q (oi ab)
 refine Qn H3 fun a ha aU af => X <| S1 ha ?_
 refine Yh q h (fun h => ?_) (fun h => ?_)
 ·refine rR <| qA q q q <| B <| W fun a ha => ?_
  cases h
  have aA := af.q0
  exact m (ret1 q ha q ⟨q, aA⟩)
 refine y <| rR <| qA q q q <| B <| C <| rR <| qF uf27 fi27_4 nz25 q q q <| l u25 q (R af.p0) q q q q <| qM q q q <| O h fun ak al h => b af.ctx (C4.c) al u25 i47 q q q q fun aV aW aX aB => qF uf47 fi47_1 nz45 q q q <| lV u45 q (af.el (C4.c) al aB).s.f q q q fun am ao => za ao.ctx (t := ty2) hR0 u45 q q q <| qM q q q <| B <| g <| O h fun aY aC h => have aD := ao.p1; ?_
 refine fun aZ aE => zp (I := fun s a w2 => match s with | (ap, aq) => (Fr a 54 [(1, iV p1), (2, pB b1), (5, iV ap), (27, am), (28, iV (List.length ak.2.1 : Int)), (29, iV aq)] ∧ Holds M0 w w2 [.bx b1 27 [A0, A1, A2, iV B3, A4], .ro ty2 am ak.2.1] G)) (O := fun o e a w2 => match o with | q0 => e = .exit 0 ∧ (Fr a 54 [(5, iV q0)] ∧ Holds M0 w w2 [] G)) aC ?_ ?_ ?_
 ·exact ⟨aE.s, aD⟩
 ·rintro ⟨ap, aq⟩ _ a a0 aa ⟨ha, ag⟩
  refine S1 ha <| rR <| A q (qt_lss q q) q q <| B <| C ?_
  refine Yh q aa (fun aa => ?_) (fun aa => ?_)
  ·refine y <| C <| g <| rR <| qM q q q <| O aa fun ah ar aa => b ag.ctx hR1 ar u45 i49 q q q q fun a1 a2 a3 aF => ?_
   obtain ⟨a4, aG, a5⟩ := ag.atN hR1 ar aF
   refine XL_load_agg (t := ty2) us49 uo49 i49 aG q q q fun a6 aH => ?_
   obtain ⟨c53, c54, a7, a8, rfl, a9, aI, aJ⟩ := aH
   obtain ⟨rfl, _⟩ := aI
   obtain ⟨rfl, _⟩ := aJ
   change XL _ _ _ _ _ ((33, .agg #[iV ah.1, iV ah.2]) :: _) _
   refine zq (cs := [iV 0, iV 0]) ag z49 q q q fun ba bb aK => qA q q q <| zl (cs' := [iV ah.1, iV ah.2]) aK q il49 q q q q q fun bc ad => rN <| qF uf49 fi49_1 nz3 q q q <| l u3 q (R ad.p0) q q q q <| A q (qt_eql q q) q q <| B ?_
   refine Yh q aa (fun aa => ?_) (fun aa => ?_)
   ·refine WP_quiet (by kernel_rfl) (by kernel_rfl) <| qM q q q <| qF uf27 fi27_1 nz24 q q q <| l u24 q (R ad.p1) q q q q <| qF uf27 fi27_4 nz25 q q q <| l u25 q (R ad.p1) q q q q <| qM q q q <| O aa fun bd au aa => b ad.ctx (C4.c.c.c) au u25 i47 q q q q fun be bf bg aL => qF uf47 fi47_2 nz24 q q q <| lV u24 q (ad.el (C4.c.c.c) au aL).s.s q q q fun bh ae => qM q q q <| O aa fun bi av aa => b ae.ctx hR0 av u24 i3 q q q q fun bj bk bl aM => lI u3 q (ae.el hR0 av aM) q q q <| O aa fun bm aw aa => b ae.ctx (C1.c.c.c.c) aw u24 i3 q q q q fun bn bo bp aN => lI u3 q (ae.el (C1.c.c.c.c) aw aN) q q q <| A q (qt_add q q) q q <| qA q q q <| Qn ae fun a ha bq aO => zi <| X <| S1 ha <| Z <| A q (qt_add q q) q q <| qM q q q <| WL_nil fun a ha => ?_
    cases aa
    have aP := aO.q0.q0.p1.p1
    exact ⟨q, ha.s, aP⟩
   refine WP_skip fun a ha => zi <| X <| S1 ha <| Z <| A q (qt_add q q) q q <| qM q q q <| WL_nil fun a ha => ?_
   cases aa
   have aQ := ad.q0.p1.p1
   exact ⟨q, ha.s, aQ⟩
  refine WP_exit fun a ha => ?_
  cases aa
  have aR := ag.q0.q0
  exact zo (⟨exit_ne, q, ha.s, aR⟩)
 rintro _ a br ⟨rfl, ha, aS⟩
 refine zn <| X <| S1 ha <| rR <| qM q q q <| qA q q q <| B <| W fun a ha => ?_
 obtain rfl := L h
 exact ret1 q ha q ⟨q, aS⟩
theorem w_impl_doClose {w : World} {G : List Res} {bp0 : Nat} {A0 : Value} {B0 : LI} {csp0_0 : List Value} {Fp0_0 : List Nat} {A1 : Value} {B1 : List Int} {A2 : Value} {B2 : List Int} {B3 : Int} {A4 : Value} {B4 : LT} {csp0_4 : List Value} {Fp0_4 : List Nat} {p1 : Int} {r : Int × LT × Bool} (h : impl_doCloseS B0 B1 B2 B3 B4 p1 = some r) (H : Ctx w ([.bx bp0 27 [A0, A1, A2, iV B3, A4], dpR 55 dt15 A0 csp0_0 B0 Fp0_0, .sl 3 tI A1 B1, .sl 3 tI A2 B2, dpR 47 dt16 A4 csp0_4 B4 Fp0_4] ++ G)) : Calls Tryz.prog 32 #[pB bp0, iV p1] w fun e w' => ∃ (wp0_4 : Value) (dsp0_4 : List Value) (Ep0_4 : List Nat), e = .returned (.bool r.2.2) ∧ Holds (([.bx bp0 27 [A0, A1, A2, iV B3, A4], dpR 55 dt15 A0 csp0_0 B0 Fp0_0, .sl 3 tI A1 B1, .sl 3 tI A2 B2, dpR 47 dt16 A4 csp0_4 B4 Fp0_4] : List Res).flatMap Res.own) w w' [.bx bp0 27 [A0, A1, A2, iV r.1, wp0_4], dpR 55 dt15 A0 csp0_0 B0 Fp0_0, .sl 3 tI A1 B1, .sl 3 tI A2 B2, dpR 47 dt16 wp0_4 dsp0_4 r.2.1 Ep0_4] G := by
 refine E1 (n := 51) H Tryz.func32 q q q fun H => ?_
 unfold impl_doCloseS at h
 refine rR <| qA q q q <| B <| C <| C <| zk <| qM q q q <| A q (qt_lss q q) q q <| qM q q q ?_
 refine Go (res := ((decide (p1 < 0)) || (decide (p1 ≥ (List.length B4 : Int))))) 7 os (fun ab K2 aq => ?_) ?_
 ·exact qM (J q ab) q q <| qM (J q ab) q q <| qN (J q ab) q q <| qF uf27 fi27_4 nz25 (J q ab) q q <| l u25 q (R H.p0) q (J q ab) q q <| have V5 := H.viewG (Vw.c (Vw.d (Vw.c (Vw.c (Vw.d Vw.refl))))); za V5 (t := ty14) hR4 u25 (J q ab) q q <| A (J q ab) (qt_geq q q) q q <| aq 7 q q q (oi ab)
 refine qM q q q <| O h fun b6 ad h => ?_
 refine Go (res := b6) 10 (if_t · ad) (fun aa K9 ar => ?_) ?_
 ·refine have ad := if_f aa ad; qM (J q aa) q q <| qN (J q aa) q q <| qF uf27 fi27_4 nz25 (J q aa) q q <| l u25 q (R H.p0) q (J q aa) q q <| qM (J q aa) q q <| O ad fun aR ae ad => have au := H.viewG (Vw.c (Vw.d (Vw.c (Vw.c (Vw.d Vw.refl))))); b au hR4 ae u25 i47 (J q aa) q q q fun aS aT aU av => qF uf47 fi47_1 nz45 (J q aa) q q <| have ah := H.p4; ?_
  obtain ⟨aV, aw, ax, aW, aX, aY⟩ := Holds.ns ah ((Foc.snd (Foc.fst Foc.refl))) ae av
  exact XL_load_cell u45 q ax (J q aa) q q <| O ad fun aZ ay ad => QC (J q aa) q c70 (fun w' hb => w_impl_TicketDone hR0 ay ((ah.grow hb).viewG (Vw.dp (NsOk.ns ((Foc.snd (Foc.fst Foc.refl))) ae aw (NsOk.self NsOk.nil)) (Vw.c (Vw.d (Vw.c (Vw.c Vw.refl))))))) (by rfl) <| A (J q aa) (qt_not q) q q <| ar 10 q q q ad
 refine Qn H fun a ha a0 aj => X <| S1 ha ?_
 refine Yh q h (fun h => ?_) (fun h => ?_)
 ·refine rR <| qA q q q <| B <| W fun a ha => ?_
  cases h
  have az := aj.p4.p4.p4.p4.p4
  exact m (ret1 q ha q ⟨A4, csp0_4, Fp0_4, q, az⟩)
 refine y <| C <| O h fun aA aB h => ?_
 refine WP_join (M := fun a w2 => (Fr a 51 [(0, pB bp0), (1, iV p1)] ∧ Holds (([.bx bp0 27 [A0, A1, A2, iV B3, A4], dpR 55 dt15 A0 csp0_0 B0 Fp0_0, .sl 3 tI A1 B1, .sl 3 tI A2 B2, dpR 47 dt16 A4 csp0_4 B4 Fp0_4] : List Res).flatMap Res.own) w w2 [.bx bp0 27 [A0, A1, A2, iV (IntKind.wrap .i64 (B3 + aA)), A4], dpR 55 dt15 A0 csp0_0 B0 Fp0_0, .sl 3 tI A1 B1, .sl 3 tI A2 B2, dpR 47 dt16 A4 csp0_4 B4 Fp0_4] G)) ?_ ?_
 ·refine WP_ordersT (fun w1 w2 => Chg M0 w1 w2) 10 (by kernel_rfl) fun af aC => have ak := aj.grow aC; ?_
  have ag : Ctx af ([] ++ ([.bx bp0 27 [A0, A1, A2, iV B3, A4], .ro ty12 A0 B0, .sl 3 tI A1 B1, .sl 3 tI A2 B2, .ro ty14 A4 B4] ++ G)) := ak.viewG (Vw.c (Vw.d (Vw.c (Vw.c (Vw.d Vw.refl)))))
  have aD : Holds _ af af [] ([.bx bp0 27 [A0, A1, A2, iV B3, A4], .ro ty12 A0 B0, .sl 3 tI A1 B1, .sl 3 tI A2 B2, .ro ty14 A4 B4] ++ G) := zb (Rs := []) ag
  refine have Hc := aD; XQ (i := 0) q (by kernel_rfl) q Hc.chg q (fun _ => qt_move q) q q <| XQ (i := 1) q (by kernel_rfl) q Hc.chg q (fun _ => qt_nilCheck q) q q <| XQ (i := 2) q (by kernel_rfl) q Hc.chg q (fun _ => qt_fieldAddr uf27 fi27_3 nz3 q) q q <| have aE := HasB.bx (HasB.hd) Hc.ctx; XT (i := 3) q (by kernel_rfl) q Hc.chg q (qs_cell u3 q q (aE.cell (i := 3) q) Hc.chg (Ctx.outB ag (HasB.hd))) q q <| XQ (i := 4) q (by kernel_rfl) q Hc.chg q (fun _ => qt_move q) q q <| XQ (i := 5) q (by kernel_rfl) q Hc.chg q (fun _ => qt_nilCheck q) q q <| have aF := HasB.bx (HasB.hd) Hc.ctx; XT (i := 6) q (by kernel_rfl) q Hc.chg q (qs_agg (cs := [A0, A1, A2, iV B3, A4]) us27 uo27 il27 q (fun j z hj => by rw [Nat.zero_add]; exact aF.cell hj) Hc.chg (Ctx.outB ag (HasB.hd))) q q ?_
  change XC _ _ _ _ _ _ _ _ ((34, .agg #[A0, A1, A2, iV B3, A4]) :: _) _
  refine XQ (i := 7) q (by kernel_rfl) q Hc.chg q (fun _ => qt_move q) q q ?_
  repeat' first
   | refine XDo 8 q <| V0 q q c45 (w_impl_TableBill hR1 hS2 hS3 hR4 aB Hc.ctx) q fun _ HK => ?_; have Hc := Hc.cN0 [] HK; refine XN Hc.chg <| XQ (i := 9) q (by kernel_rfl) q Hc.chg q (fun _ => qt_add q q) q q ?_
   | have Hc := ak.cV0 [] Hc all_nil; refine XDo 10 q <| qN q q q <| XE q ?_
   | refine XDo 11 q <| qF uf27 fi27_3 nz3 q q q <| XE q ?_
   | refine XDo 12 q ?_; refine WL_store_bx Hc q il3 q q q q q (fun _ Hc => ?_); refine XE q ?_
   | refine XV [8] (by decide +kernel) q (allc ?_ alln)
   | refine XV [10] (by decide +kernel) q (allc ?_ alln)
   | refine XV [11] (by decide +kernel) q (allc ?_ alln)
   | refine XV [12] (by decide +kernel) q (allc ?_ alln)
   | refine XC_done (by decide +kernel) (fun a ha => ?_); have Hc := (((((Hc.p4).p4).p4).p4).p4); exact ⟨ha.s, Hc⟩
 rintro a aG ⟨ha, al⟩
 refine S1 ha <| rR <| qM q q q <| qM q q q <| qN q q q <| qF uf27 fi27_4 nz25 q q q <| l u25 q (R al.p0) q q q q <| qM q q q <| qM q q q <| A q (qt_add q q) q q <| have am := al.p4; O h fun aH aI h => have aJ := am.viewG (Vw.c (Vw.c (Vw.d (Vw.c (Vw.c Vw.refl))))); zd q q c71 (w_impl_Table aG _ A4 B4 csp0_4 Fp0_4 p1 (IntKind.wrap .i64 (p1 + 1)) aH aI aJ) (by rfl) ?_
 rintro _ a1 ⟨aK, aL, aM, rfl, aN⟩; refine ⟨_, q, ?_⟩
 refine have aO := am.cV1 [_] aN (zc Pure.dp all_nil); qN q q q <| qF uf27 fi27_4 nz25 q q q <| have ao := aO.p1; have ap := ao.viewG (Vw.c (Vw.d (Vw.d (Vw.c (Vw.c Vw.refl))))); WL_store_bx ao q il25 (ap.sliceCells hR1) (ap.sliceOne hR1) q q q fun a2 aP => rN <| qA q q q <| B <| W fun a ha => ?_
 cases h
 have aQ := aP.p1.p4.p4.p4.p4
 exact ret1 q ha q ⟨aK, aL, aM, q, aQ⟩
end Go.Proofs.YtpabogkcmbkffaaGreatDoor
