/- The walks: each Go function computes its shallow function. Printed by a program. -/
import Derived.Test.YtkhnponakhabdaaGreatDoorWS7J5
set_option linter.unusedVariables false
set_option maxRecDepth 10000
set_option maxHeartbeats 8000000
namespace Go.Proofs.YtkhnponakhabdaaGreatDoor
open Go Go.RowKit
theorem w_impl_MakeRun {w G vp0 p0 vp1 p1 A2_0 p2_0 A2_1 p2_1 r} (h : impl_MakeRunS p0 p1 p2_0 p2_1 = some r) (hp0 : Has G ty12 vp0 p0) (hp1 : Has G tI vp1 p1) (hp2_0 : Has G tI A2_0 p2_0) (hp2_1 : Has G tI A2_1 p2_1) (H : Ctx w G) : Calls Tryz.prog 109 #[vp0, vp1, .agg #[A2_0, A2_1]] w fun e w' => ∃ (v1 : Value), e = .returned (.tuple #[v1, .bool r.2]) ∧ Holds M0 w w' [.sl 3 tI v1 r.1] G := by
 refine F0 85 H Tryz.func109 q fun H => ?_
 refine C <| Z <| WL_box (cs := [A2_0, A2_1]) H q q q q fun b1 w2 H3 => qa q <| qa q <| B <| C <| C <| zk <| qm q <| O h fun x5 a1 h => qc q c103 H3 (fun _ => w_impl_ItemsValid a1 (hp0.c)) <| qi (qt_not q) q <| qm q <| O h fun b7 am h => ?_
 refine Go (res := b7) 5 (if_t · am) (fun ao b9 a2 => ?_) ?_
 ·exact have am := if_f ao am; jm ao q <| jm ao q <| jz H3.ctx (hp0.c) u23 ao q <| O am fun ca a3 am => jc ao q c59 H3 (fun _ => w_impl_amountsOk a3 (hp1.c)) <| ji (qt_not q) ao q <| a2 5 q q q am
 refine qm q <| O h fun a4 ap h => ?_
 refine Go (res := a4) 6 (if_t · ap) (fun ak cb a5 => ?_) ?_
 ·exact have ap := if_f ak ap; jf uf142 fi142_0 nz24 ak q <| jl u24 H3.p0 ak q <| jm ak q <| jz H3.ctx (hp0.c) u23 ak q <| O ap fun cc a6 ap => jc ak q c59 H3 (fun _ => w_impl_amountsOk a6 (hp2_0.c)) <| ji (qt_not q) ak q <| a5 6 q q q ap
 refine Qn H3 fun a ha cd aC => X <| S1 ha ?_
 refine Yh q h (fun h => ?_) (fun h => ?_)
 ·cases h
  exact rR <| qa q <| qa q <| B <| W fun a ha => have a7 := aC.nS 3 tI; m (ret2 q ha q q ⟨(nS), q, a7.q1⟩)
 refine y <| rR <| qm q <| O h fun ce a9 h => U1 q c81 (w_impl_copyInts a9 (hp1.c) aC.ctx) fun ag cf ba => have aJ := aC.cN1 [] ba; qa q <| B <| C <| rR <| qm q <| qz aJ.ctx (hp0.c.c) u23 q <| qm q <| B <| g <| O h fun ax bb h => ?_
 refine fun cg bd => zp (I := fun (aj, aD) a w2 => (Fr a 85 [(5, pB b1), (8, ag), (33, vp0), (34, iV (List.length p0 : Int)), (35, iV aj)] ∧ Holds M0 w w2 [.bx b1 142 [A2_0, A2_1], .sl 3 tI ag aD] G)) (O := fun o e a w2 => match o with | .inl q0 => e = .exit 0 ∧ (Fr a 85 [(8, ag)] ∧ Holds M0 w w2 [.sl 3 tI ag q0] G) | .inr (q0, q1, q2) => e = .ret ∧ ∃ ar, Fr a 85 [(6, ar), (7, .bool q1)] ∧ Holds M0 w w2 [.sl 3 tI ar q0] G) bb ?_ ?_ ?_
 ·exact ⟨bd.s, aJ.p1⟩
 ·rintro ⟨aj, aD⟩ _ a be ae ⟨ha, aE⟩
  refine S1 ha <| rR <| qi (qt_lss q q) q <| B <| C ?_
  refine Yh q ae (fun ae => ?_) (fun ae => ?_)
  ·refine y <| C <| g <| rR <| qm q <| O ae fun aa aK ae => qb aE.ctx (hp0.c.c) aK u23 i70 q fun ch ci cj bf => ?_
   obtain ⟨ck, bg, bh⟩ := aE.atN (hp0.c.c) aK bf
   refine XL_load_agg (t := ty12) us70 uo70 i70 bg q q q fun cl bi => ?_
   obtain ⟨c57, c58, cm, cn, rfl, bj, bk, bl⟩ := bi
   obtain ⟨rfl, _⟩ := bk
   obtain ⟨c64, c65, co, cp, rfl, bm, bn, bo⟩ := bl
   obtain ⟨af, rfl, bp⟩ := Rep.sl_inv bn
   obtain ⟨rfl, _⟩ := bo
   have bq : Holds _ w be [.ro ty2 af aa.2.1, .bx b1 142 [A2_0, A2_1], .sl 3 tI ag aD] G := bh [.ro ty2 af aa.2.1] ⟨⟨_, _, _, _, q, bp, (fun k h => (fun k h => (fun _ h => h) k (by rw [bj]; exact zx _ h)) k (by rw [bm]; exact List.mem_append_left _ h))⟩, trivial⟩
   change XL _ _ _ _ _ ((39, .agg #[iV aa.1, af, iV aa.2.2]) :: _) _
   refine zq (cs := [iV 0, nS, iV 0]) bq z70 q q q fun aq cq aL => qa q <| zl (cs' := [iV aa.1, af, iV aa.2.2]) aL q il70 q (T q (T (aL.ctx.sliceOne hR1) (T q q))) q q q fun cr aF => B <| C <| rR <| qf uf70 fi70_1 nz68 q <| ql u68 aF.p0 q <| qz aF.ctx hR1 u68 q <| qm q <| B <| g <| O ae fun al br ae => ?_
   refine fun ct bt => zp (I := fun (aM, aN) a w2 => (Fr a 85 [(5, pB b1), (8, ag), (9, iV aj), (10, pB aq), (33, vp0), (34, iV (List.length p0 : Int)), (35, iV aj), (41, af), (42, iV (List.length aa.2.1 : Int)), (43, iV aM)] ∧ Holds M0 w w2 [.bx b1 142 [A2_0, A2_1], .sl 3 tI ag aN, .bx aq 70 [iV aa.1, af, iV aa.2.2], .ro ty2 af aa.2.1] G)) (O := fun o e a w2 => match o with | .inl q0 => e = .exit 2 ∧ (Fr a 85 [(5, pB b1), (8, ag), (9, iV aj), (10, pB aq), (33, vp0), (34, iV (List.length p0 : Int)), (35, iV aj)] ∧ Holds M0 w w2 [.bx b1 142 [A2_0, A2_1], .sl 3 tI ag q0, .bx aq 70 [iV aa.1, af, iV aa.2.2], .ro ty2 af aa.2.1] G) | .inr (q0, q1, q2) => e = .ret ∧ ∃ ar, Fr a 85 [(6, ar), (7, .bool q1)] ∧ Holds M0 w w2 [.sl 3 tI ar q0] G) br ?_ ?_ ?_
   ·exact ⟨bt.s, aF.p1.p1.p3.p3⟩
   ·rintro ⟨aM, aN⟩ _ a cu ad ⟨ha, ay⟩
    refine S1 ha <| rR <| qi (qt_lss q q) q <| B <| C ?_
    refine Yh q ad (fun ad => ?_) (fun ad => ?_)
    ·refine y <| C <| g <| rR <| O ad fun au aO ad => qe ay hR3 aO u68 i79 q fun _ _ bu => lP [iV au.1, iV au.2] us79 uo79 i79 bu q q q q <| zq (cs := [iV 0, iV 0]) ay z79 q q q fun cy cz bv => zl (cs' := [iV au.1, iV au.2]) bv q il79 q q q q q fun cA bw => B <| C <| WP_tail 13 (by kernel_rfl) (by kernel_rfl) fun cB bz => have ah := bw.grow bz; qm q <| qf uf79 fi79_0 nz3 q <| ql u3 ah.p0 q <| O ad fun bA aP ad => qe ah hS2 aP u24 i3 q fun _ _ bB => eI u3 bB q <| qf uf142 fi142_0 nz24 q <| ql u24 ah.p1 q <| qm q <| O ad fun bC aQ ad => qe ah (hp2_0.c.c.c.c.c) aQ u24 i3 q fun _ _ bD => eI u3 bD q <| qf uf79 fi79_1 nz3 q <| ql u3 ah.p0 q <| qi (qt_mul q q) q <| SL_nil <| qi (qt_sub q q) q <| O ad fun cI aR ad => qb ah.ctx hS2 aR u24 i3 q fun cJ cK cL bE => ?_
     refine WL_storeH (fo := 0) (cs' := [iV (IntKind.wrap .i64 (bA - (IntKind.wrap .i64 (bC * au.2))))]) ah.p2 aR bE (Upd.whole (Blt.int)) q il3 q q q q fun cM av => rN <| qm q <| qf uf79 fi79_0 nz3 q <| ql u3 av.p1 q <| O ad fun cN aS ad => qe av hS0 aS u24 i3 q fun _ _ bG => eI u3 bG q <| qi (qt_lss q q) q <| B ?_
     refine Yh q ad (fun ad => ?_) (fun ad => ?_)
     ·cases ad
      exact rR <| qa q <| qa q <| B <| W fun a ha => have bH := av.nS 3 tI; zj (m (⟨ret_ne, q, (nS), ha.s, bH.q1.q1.q1.q1.q1⟩))
     cases ad
     exact WP_skip fun a ha => zi <| X <| S1 ha <| Z <| qi (qt_add q q) q <| qm q <| WL_nil fun a ha => ⟨q, ha.s, av.q1.p3.p3.p2.p3⟩
    cases ad
    exact WP_exit fun a ha => zo (⟨exit_ne, q, ha.s, ay.p3.p3.p3.p3⟩)
   intro e a cR aT
   rcases al with al | al
   ·obtain ⟨rfl, ha, bL⟩ := aT
    refine zn <| X <| S1 ha <| O ae fun aU az ae => O ae fun aV aA ae => O ae fun aW bM ae => O ae fun cS aX ae => ?_
    refine WP_mid (Mid := fun a w2 => (Fr a 85 [(5, pB b1), (8, ag), (33, vp0), (34, iV (List.length p0 : Int)), (35, iV aj)] ∧ Holds M0 w w2 [.bx b1 142 [A2_0, A2_1], .sl 3 tI ag (List.set al (Int.toNat aj) (IntKind.wrap .i64 (aU + (IntKind.wrap .i64 (aV * aW)))))] G)) ?_ ?_
    ·refine WP_ordersT (fun w1 w2 => Chg M0 w1 w2) 13 (by kernel_rfl) fun aG bN => have aY := bL.grow bN; ?_
     have aw : Ctx aG ([] ++ ([.bx b1 142 [A2_0, A2_1], .sl 3 tI ag al, .bx aq 70 [iV aa.1, af, iV aa.2.2], .ro ty2 af aa.2.1] ++ G)) := aY.ctx
     have ab : Holds _ aG aG [] ([.bx b1 142 [A2_0, A2_1], .sl 3 tI ag al, .bx aq 70 [iV aa.1, af, iV aa.2.2], .ro ty2 af aa.2.1] ++ G) := zb (Rs := []) aw
     refine XQ (i := 0) q (by kernel_rfl) q ab.chg q (fun _ => qt_move q) q q <| XQ (i := 1) q (by kernel_rfl) q ab.chg q (fun _ => qt_move q) q q ?_
     obtain ⟨cT, cU, cV, aH⟩ := Ctx.isAt ab.ctx hS1 az
     refine XT (i := 2) q (by kernel_rfl) q ab.chg q (qs_index az aH u24 i3 q q) q q ?_
     obtain ⟨cW, bO, cX⟩ := ab.at hS1 az aH
     refine XT (i := 3) q (by kernel_rfl) q ab.chg q (qs_cell u3 q q (AtP.cInt bO) ab.chg (Ctx.outHas aw hS1 az aH)) q q <| XQ (i := 4) q (by kernel_rfl) q ab.chg q (fun _ => qt_fieldAddr uf142 fi142_0 nz24 q) q q <| have bP := HasB.bx (HasB.hd) ab.ctx; XT (i := 5) q (by kernel_rfl) q ab.chg q (qs_cell u24 q q (bP.cell (i := 0) q) ab.chg (Ctx.outB aw (HasB.hd))) q q <| XQ (i := 6) q (by kernel_rfl) q ab.chg q (fun _ => qt_move q) q q ?_
     obtain ⟨cY, cZ, c0, aI⟩ := Ctx.isAt ab.ctx (hp2_0.c.c.c.c) aA
     refine XT (i := 7) q (by kernel_rfl) q ab.chg q (qs_index aA aI u24 i3 q q) q q ?_
     obtain ⟨c1, bQ, c2⟩ := ab.at (hp2_0.c.c.c.c) aA aI
     refine XT (i := 8) q (by kernel_rfl) q ab.chg q (qs_cell u3 q q (AtP.cInt bQ) ab.chg (Ctx.outHas aw (hp2_0.c.c.c.c) aA aI)) q q <| have bR := HasB.bx (HasB.c (HasB.c (HasB.hd))) ab.ctx; XT (i := 9) q (by kernel_rfl) q ab.chg q (qs_agg (cs := [iV aa.1, af, iV aa.2.2]) us70 uo70 il70 q (fun j z hj => by rw [Nat.zero_add]; exact bR.cell hj) ab.chg (Ctx.outB aw (HasB.c (HasB.c (HasB.hd))))) q q ?_
     change XC _ _ _ _ _ _ _ _ ((78, .agg #[iV aa.1, af, iV aa.2.2]) :: _) _
     exact X1 10 (by kernel_rfl) q <| U0 q c132 (w_impl_runMakes bM hR3 ab.ctx) fun c3 bS => have aB := ab.cN0 [] bS; XN aB.chg <| XQ (i := 11) q (by kernel_rfl) q aB.chg q (fun _ => qt_mul q q) q q <| XQ (i := 12) q (by kernel_rfl) q aB.chg q (fun _ => qt_add q q) q q <| have aZ := aY.cN0 [] aB; X1 13 (by kernel_rfl) q <| qb aZ.ctx hS1 aX u24 i3 q fun c4 c5 c6 bT => XE q <| X1 14 (by kernel_rfl) q <| WL_storeH (fo := 0) (cs' := [iV (IntKind.wrap .i64 (aU + (IntKind.wrap .i64 (aV * aW))))]) aZ.p1 aX bT (Upd.whole (Blt.int)) q il3 q q q q fun c7 bV => XE q <| XC_done (by kernel_rfl) fun a ha => ⟨ha.s, bV.q2.q2.p1⟩
    rintro a c8 ⟨ha, bX⟩
    cases ae
    exact zi <| X <| S1 ha <| Z <| qi (qt_add q q) q <| qm q <| WL_nil fun a ha => ⟨q, ha.s, bX.p1.p1⟩
   obtain ⟨da, db, dc⟩ := al
   obtain ⟨rfl, bZ, ha, b0⟩ := aT
   cases ae
   exact zj (m (zj (m (⟨ret_ne, q, bZ, ha.s, b0⟩))))
  cases ae
  exact WP_exit fun a ha => zo (⟨exit_ne, q, ha.s, aE.q0⟩)
 intro e a dd a0
 rcases ax with ax | ax
 ·obtain ⟨rfl, ha, b5⟩ := a0
  cases h
  exact zn <| X <| S1 ha <| rR <| qm q <| qa q <| qa q <| B <| W fun a ha => ret2 q ha q q ⟨ag, q, b5⟩
 obtain ⟨de, df, dg⟩ := ax
 obtain ⟨rfl, b6, ha, b8⟩ := a0
 cases h
 exact zj (m (ret2 q ha q q ⟨b6, q, b8⟩))
theorem w_impl_doMake {w G bp0 A0 B0 csp0_0 Fp0_0 A1 B1 A2 B2 B3 A4 B4 csp0_4 Fp0_4 p1 p2 r} (h : impl_doMakeS B0 B1 B2 B3 B4 p1 p2 = some r) (H : Ctx w ([.bx bp0 27 [A0, A1, A2, iV B3, A4], dpR 70 dt15 A0 csp0_0 B0 Fp0_0, .sl 3 tI A1 B1, .sl 3 tI A2 B2, dpR 38 dt16 A4 csp0_4 B4 Fp0_4] ++ G)) : Calls Tryz.prog 69 #[pB bp0, iV p1, iV p2] w fun e w' => ∃ (wp0_2 : Value), e = .returned (.bool r.2) ∧ Holds (([.bx bp0 27 [A0, A1, A2, iV B3, A4], dpR 70 dt15 A0 csp0_0 B0 Fp0_0, .sl 3 tI A1 B1, .sl 3 tI A2 B2, dpR 38 dt16 A4 csp0_4 B4 Fp0_4] : List Res).flatMap Res.own) w w' [.bx bp0 27 [A0, A1, wp0_2, iV B3, A4], dpR 70 dt15 A0 csp0_0 B0 Fp0_0, .sl 3 tI A1 B1, .sl 3 tI wp0_2 r.1, dpR 38 dt16 A4 csp0_4 B4 Fp0_4] G := by
 refine F1 53 H Tryz.func69 q fun H => ?_
 refine rR <| qa q <| B <| C <| rR <| qm q <| qm q <| O h fun x1 az h => have V3 := H.viewG (Vw.c (Vw.d (Vw.c (Vw.c (Vw.d Vw.refl))))); U0 q c108 (w_impl_isItem az hR0 hS1 hS2 hR3 V3) fun w4 H5 => have H6 := H.cV1 [_] H5 (zc Pure.bx all_nil); qi (qt_not q) q <| qm q ?_
 refine Ho (res := ((!x1) || (decide (p2 < 1)))) 2 os (fun aj K8 aA => ?_) ?_
 ·exact jm aj q <| ji (qt_lss q q) aj q <| aA 2 q q q (oi aj)
 refine qm q ?_
 refine Ho (res := (((!x1) || (decide (p2 < 1))) || (decide (p2 > 50)))) 2 os (fun ak a0 aB => ?_) ?_
 ·exact jm ak q <| ji (qt_gtr q q) ak q <| aB 2 q q q (oi ak)
 refine B ?_
 refine Yh q h (fun h => ?_) (fun h => ?_)
 ·cases h
  exact rR <| qa q <| B <| W fun a ha => m (ret1 q ha q ⟨A2, q, H6.p4.p4.p4.p4.p4⟩)
 refine y <| rR <| qm q <| qn q <| qf uf27 fi27_0 nz23 q <| ql u23 H6.p0 q <| have aD := H6.viewG (Vw.c (Vw.d (Vw.c (Vw.c (Vw.d Vw.refl))))); qz aD hR1 u23 q <| O h fun aq aE h => WL_makeH H6 aE u24 j3 q (fun _ => ⟨q, q⟩) q q q q q fun ab a1 ar => have aF := ar.viewG (Vw.c (Vw.c (Vw.d (Vw.c (Vw.c (Vw.d Vw.refl)))))); qi (qt_build (args := [(0, .tmp 27)]) (css := [#[ab]]) (cells := #[ab, nS]) q ⟨(aF.sliceCells hS0), trivial⟩ (by kernel_rfl)) q <| zq (cs := [nS, nS]) ar z142 q q q fun au a2 av => have aG := av.viewG (Vw.c (Vw.c (Vw.c (Vw.d (Vw.c (Vw.c (Vw.d Vw.refl))))))); zl (cs' := [ab, nS]) av q il142 q (T (aG.sliceOne hS1) (T q q)) q q q fun a3 al => rN <| qf uf142 fi142_0 nz24 q <| ql u24 al.p0 q <| qm q <| qm q <| O h fun a4 aw h => have aH := al.viewG (Vw.c (Vw.c (Vw.c (Vw.d (Vw.c (Vw.c (Vw.d Vw.refl))))))); qb aH hS1 aw u24 i3 q fun a5 a6 a7 aI => ?_
 refine WL_storeH (fo := 0) (cs' := [iV p2]) al.p1 aw aI (Upd.whole (Blt.int)) q il3 q q q q fun a8 aK => B <| C <| O h fun am aL h => ?_
 refine WP_join (M := fun a w2 => ∃ af, Fr a 53 [(0, pB bp0), (8, af), (9, .bool am.2)] ∧ Holds (([.bx bp0 27 [A0, A1, A2, iV B3, A4], dpR 70 dt15 A0 csp0_0 B0 Fp0_0, .sl 3 tI A1 B1, .sl 3 tI A2 B2, dpR 38 dt16 A4 csp0_4 B4 Fp0_4] : List Res).flatMap Res.own) w w2 [.bx bp0 27 [A0, A1, A2, iV B3, A4], dpR 70 dt15 A0 csp0_0 B0 Fp0_0, .sl 3 tI A1 B1, .sl 3 tI A2 B2, dpR 38 dt16 A4 csp0_4 B4 Fp0_4, .sl 3 tI af am.1] G) ?_ ?_
 ·refine WP_ordersT (fun w1 w2 => Chg M0 w1 w2) 14 (by kernel_rfl) fun ao aM => have ax := aK.grow aM; ?_
  have ag : Ctx ao ([] ++ ([.sl 3 tI ab (List.set aq (Int.toNat p1) p2), .bx au 142 [ab, nS], .bx bp0 27 [A0, A1, A2, iV B3, A4], .ro ty12 A0 B0, .sl 3 tI A1 B1, .sl 3 tI A2 B2, .ro ty14 A4 B4] ++ G)) := ax.viewG (Vw.c (Vw.c (Vw.c (Vw.d (Vw.c (Vw.c (Vw.d Vw.refl)))))))
  have aa : Holds _ ao ao [] ([.sl 3 tI ab (List.set aq (Int.toNat p1) p2), .bx au 142 [ab, nS], .bx bp0 27 [A0, A1, A2, iV B3, A4], .ro ty12 A0 B0, .sl 3 tI A1 B1, .sl 3 tI A2 B2, .ro ty14 A4 B4] ++ G) := zb (Rs := []) ag
  refine XQ (i := 0) q (by kernel_rfl) q aa.chg q (fun _ => qt_move q) q q <| XQ (i := 1) q (by kernel_rfl) q aa.chg q (fun _ => qt_nilCheck q) q q <| XQ (i := 2) q (by kernel_rfl) q aa.chg q (fun _ => qt_fieldAddr uf27 fi27_0 nz23 q) q q <| have aN := HasB.bx (HasB.c (HasB.c (HasB.hd))) aa.ctx; XT (i := 3) q (by kernel_rfl) q aa.chg q (qs_cell u23 q q (aN.cell (i := 0) q) aa.chg (Ctx.outB ag (HasB.c (HasB.c (HasB.hd))))) q q <| XQ (i := 4) q (by kernel_rfl) q aa.chg q (fun _ => qt_move q) q q <| XQ (i := 5) q (by kernel_rfl) q aa.chg q (fun _ => qt_nilCheck q) q q <| XQ (i := 6) q (by kernel_rfl) q aa.chg q (fun _ => qt_fieldAddr uf27 fi27_2 nz24 q) q q <| have aO := HasB.bx (HasB.c (HasB.c (HasB.hd))) aa.ctx; XT (i := 7) q (by kernel_rfl) q aa.chg q (qs_cell u24 q q (aO.cell (i := 2) q) aa.chg (Ctx.outB ag (HasB.c (HasB.c (HasB.hd))))) q q <| have aP := HasB.bx (HasB.c (HasB.hd)) aa.ctx; XT (i := 8) q (by kernel_rfl) q aa.chg q (qs_agg (cs := [ab, nS]) us142 uo142 il142 q (fun j z hj => by rw [Nat.zero_add]; exact aP.cell hj) aa.chg (Ctx.outB ag (HasB.c (HasB.hd)))) q q ?_
  change XC _ _ _ _ _ _ _ _ ((43, .agg #[ab, nS]) :: _) _
  exact X1 9 (by kernel_rfl) q <| U1 q c109 (w_impl_MakeRun aL hR3 hS5 hS0 (HasRo.has HasRo.nil) aa.ctx) fun aQ a9 aR => have ad := aa.cN1 [] aR; XN ad.chg <| XQ (i := 10) q (by kernel_rfl) q ad.chg q (fun _ => qt_move q) q q <| XQ (i := 11) q (by kernel_rfl) q ad.chg q (fun _ => zv q q) q q <| XQ (i := 12) q (by kernel_rfl) q ad.chg q (fun _ => zv q q) q q <| XQ (i := 13) q (by kernel_rfl) q ad.chg q (fun _ => qt_assign q) q q <| have aS := ax.cV1 [] ad (zc (Pure.sl q) all_nil); X1 14 (by kernel_rfl) q <| qa q <| XE q <| XC_done (by kernel_rfl) fun a ha => ⟨aQ, ha.s, aS.q1.q1.p5.p5.p5.p5.p5⟩
 rintro a ba ⟨af, ha, ap⟩
 refine S1 ha <| C <| rR <| qm q <| B <| O h fun aU ae h => ?_
 refine WP_join (M := fun a w2 => ∃ ah, Fr a 53 [(0, pB bp0), (9, .bool am.2)] ∧ Holds (([.bx bp0 27 [A0, A1, A2, iV B3, A4], dpR 70 dt15 A0 csp0_0 B0 Fp0_0, .sl 3 tI A1 B1, .sl 3 tI A2 B2, dpR 38 dt16 A4 csp0_4 B4 Fp0_4] : List Res).flatMap Res.own) w w2 [.bx bp0 27 [A0, A1, ah, iV B3, A4], dpR 70 dt15 A0 csp0_0 B0 Fp0_0, .sl 3 tI A1 B1, .sl 3 tI ah aU, dpR 38 dt16 A4 csp0_4 B4 Fp0_4] G) ?_ ?_
 ·refine Yh q ae (fun ae => ?_) (fun ae => ?_)
  ·cases ae
   exact Z <| qm q <| qm q <| qn q <| qf uf27 fi27_2 nz24 q <| have ay := ap.viewG (Vw.c (Vw.d (Vw.c (Vw.c (Vw.d (Vw.c Vw.refl)))))); WL_store_bx ap q il24 (ay.sliceCells hS5) (ay.sliceOne hS5) q q q fun bb aV => WL_nil fun a ha => X (⟨af, ha.s, aV.q3.p3.p4.p4.p4.p4⟩)
  refine WP_skip fun a ha => ?_
  obtain rfl := L ae
  exact X (⟨A2, ha.s, ap.q5.p4.p4.p4.p4.p4⟩)
 rintro a bc ⟨ah, ha, aY⟩
 cases h
 exact S1 ha <| rR <| qm q <| qa q <| B <| W fun a ha => ret1 q ha q ⟨ah, q, aY.p4.p4.p4.p4.p4⟩
theorem w_impl_doOrder {w G bp0 A0 B0 csp0_0 Fp0_0 A1 B1 A2 B2 B3 A4 B4 csp0_4 Fp0_4 p1 p2 p3 r} (h : impl_doOrderS B0 B1 B2 B3 B4 p1 p2 p3 = some r) (H : Ctx w ([.bx bp0 27 [A0, A1, A2, iV B3, A4], dpR 70 dt15 A0 csp0_0 B0 Fp0_0, .sl 3 tI A1 B1, .sl 3 tI A2 B2, dpR 38 dt16 A4 csp0_4 B4 Fp0_4] ++ G)) : Calls Tryz.prog 70 #[pB bp0, iV p1, iV p2, iV p3] w fun e w' => ∃ (dsp0_4 : List Value) (Ep0_4 : List Nat), e = .returned (.bool r.2.2) ∧ Holds (([.bx bp0 27 [A0, A1, A2, iV B3, A4], dpR 70 dt15 A0 csp0_0 B0 Fp0_0, .sl 3 tI A1 B1, .sl 3 tI A2 B2, dpR 38 dt16 A4 csp0_4 B4 Fp0_4] : List Res).flatMap Res.own) w w' [.bx bp0 27 [A0, A1, A2, iV B3, A4], dpR 70 dt15 A0 csp0_0 B0 Fp0_0, .sl 3 tI A1 B1, .sl 3 tI A2 r.1, dpR 38 dt16 A4 dsp0_4 r.2.1 Ep0_4] G := by
 refine F1 79 H Tryz.func70 q fun H => ?_
 refine rR <| qa q <| B <| C <| rR <| qm q <| qi (qt_lss q q) q <| qm q ?_
 refine Ho (res := ((decide (p1 < 0)) || (decide (p1 ≥ (List.length B4 : Int))))) 7 os (fun ag K2 aD => ?_) ?_
 ·exact jm ag q <| jm ag q <| jn ag q <| jf uf27 fi27_4 nz25 ag q <| jl u25 H.p0 ag q <| have V5 := H.viewG (Vw.c (Vw.d (Vw.c (Vw.c (Vw.d Vw.refl))))); jz V5 hR4 u25 ag q <| ji (qt_geq q q) ag q <| aD 7 q q q (oi ag)
 refine B ?_
 refine Yh q h (fun h => ?_) (fun h => ?_)
 ·cases h
  exact rR <| qa q <| B <| W fun a ha => m (ret1 q ha q ⟨csp0_4, Fp0_4, q, H.p4.p4.p4.p4.p4⟩)
 refine y <| rR <| qm q <| qn q <| qf uf27 fi27_4 nz25 q <| ql u25 H.p0 q <| qm q <| O h fun x8 af h => have aE := H.viewG (Vw.c (Vw.d (Vw.c (Vw.c (Vw.d Vw.refl))))); qb aE hR4 af u25 i38 q fun aF aG bt ah => qa q <| B <| C <| C <| O h fun bu av h => O h fun aH aw h => O h fun aI ax h => ?_
 refine WP_join (M := fun a w2 => (Fr a 79 [(0, pB bp0), (2, iV p2), (3, iV p3), (9, .pointer (some ⟨aF, (aG + Int.toNat p1 * Ty.size ty14), none⟩)), (48, .bool aI)] ∧ Holds (([.bx bp0 27 [A0, A1, A2, iV B3, A4], dpR 70 dt15 A0 csp0_0 B0 Fp0_0, .sl 3 tI A1 B1, .sl 3 tI A2 B2, dpR 38 dt16 A4 csp0_4 B4 Fp0_4] : List Res).flatMap Res.own) w w2 [.bx bp0 27 [A0, A1, A2, iV B3, A4], dpR 70 dt15 A0 csp0_0 B0 Fp0_0, .sl 3 tI A1 B1, .sl 3 tI A2 B2, dpR 38 dt16 A4 csp0_4 B4 Fp0_4] G)) ?_ ?_
 ·refine WP_ordersT (fun w1 w2 => Chg M0 w1 w2) 22 (by kernel_rfl) fun am aJ => have ao := H.grow aJ; ?_
  have aj : Ctx am ([] ++ ([.bx bp0 27 [A0, A1, A2, iV B3, A4], .ro ty12 A0 B0, .sl 3 tI A1 B1, .sl 3 tI A2 B2, .ro ty14 A4 B4] ++ G)) := ao.viewG (Vw.c (Vw.d (Vw.c (Vw.c (Vw.d Vw.refl)))))
  have aa : Holds _ am am [] ([.bx bp0 27 [A0, A1, A2, iV B3, A4], .ro ty12 A0 B0, .sl 3 tI A1 B1, .sl 3 tI A2 B2, .ro ty14 A4 B4] ++ G) := zb (Rs := []) aj
  rcases btf (!aH) with ab | ab
  ·have aK := if_t ab ax
   obtain rfl := L aK
   refine XQ (i := 0) q (by kernel_rfl) q aa.chg q (fun _ => qt_move q) q q <| XQ (i := 1) q (by kernel_rfl) q aa.chg q (fun _ => qt_nilCheck q) q q <| XQ (i := 2) q (by kernel_rfl) q aa.chg q (fun _ => qt_fieldAddr uf27 fi27_0 nz23 q) q q <| have aL := HasB.bx (HasB.hd) aa.ctx; XT (i := 3) q (by kernel_rfl) q aa.chg q (qs_cell u23 q q (aL.cell (i := 0) q) aa.chg (Ctx.outB aj (HasB.hd))) q q <| XQ (i := 4) q (by kernel_rfl) q aa.chg q (fun _ => qt_move q) q q <| XQ (i := 5) q (by kernel_rfl) q aa.chg q (fun _ => qt_nilCheck q) q q <| XQ (i := 6) q (by kernel_rfl) q aa.chg q (fun _ => qt_fieldAddr uf38 fi38_0 nz3 q) q q ?_
   obtain ⟨bv, aM, bw⟩ := aa.at hR4 af ah
   obtain ⟨bz, aN, bA⟩ := AtP.fst aM
   refine XT (i := 7) q (by kernel_rfl) q aa.chg q (qs_cell u3 q q (AtP.cInt aN) aa.chg (Ctx.outHas aj hR4 af ah)) q q <| XQ (i := 9) q (by kernel_rfl) q aa.chg q (fun _ => qt_move q) q q <| X1 8 (by kernel_rfl) q <| U1 q c95 (w_impl_FreeOf av hR1 aa.ctx) fun bB bC aO => have ap := aa.cN1 [] aO; XN ap.chg <| X1 10 (by kernel_rfl) q <| U0 q c105 (w_slices_Contains___int_int aw hS0 ap.ctx) fun bD aP => have ae := ap.cN0 [] aP; XN ae.chg <| XQ (i := 11) q (by kernel_rfl) q ae.chg q (fun _ => qt_not q) q q <| XQ (i := 12) q (by kernel_rfl) q ae.chg q (fun _ => qt_move q) q q <| XS (i := 13) q (by kernel_rfl) q ae.chg q ab q q <| XS (i := 14) q (by kernel_rfl) q ae.chg q ab q q <| XS (i := 15) q (by kernel_rfl) q ae.chg q ab q q <| XS (i := 16) q (by kernel_rfl) q ae.chg q ab q q <| XS (i := 17) q (by kernel_rfl) q ae.chg q ab q q <| XS (i := 18) q (by kernel_rfl) q ae.chg q ab q q <| XS (i := 19) q (by kernel_rfl) q ae.chg q ab q q ?_
   exact XS (i := 20) q (by kernel_rfl) q ae.chg q ab q q <| XQ (i := 21) q (by kernel_rfl) q ae.chg q (fun _ => ze q ab q) q q <| have aQ := ao.cV1 [] ae (zc (Pure.sl q) all_nil); XC_done (by kernel_rfl) fun a ha => ⟨ha.s, aQ.q0.p4.p4.p4.p4.p4⟩
  refine have aq := if_f ab ax; O aq fun bE al aq => ?_
  obtain rfl := L aq
  refine XQ (i := 0) q (by kernel_rfl) q aa.chg q (fun _ => qt_move q) q q <| XQ (i := 1) q (by kernel_rfl) q aa.chg q (fun _ => qt_nilCheck q) q q <| XQ (i := 2) q (by kernel_rfl) q aa.chg q (fun _ => qt_fieldAddr uf27 fi27_0 nz23 q) q q <| have aS := HasB.bx (HasB.hd) aa.ctx; XT (i := 3) q (by kernel_rfl) q aa.chg q (qs_cell u23 q q (aS.cell (i := 0) q) aa.chg (Ctx.outB aj (HasB.hd))) q q <| XQ (i := 4) q (by kernel_rfl) q aa.chg q (fun _ => qt_move q) q q <| XQ (i := 5) q (by kernel_rfl) q aa.chg q (fun _ => qt_nilCheck q) q q <| XQ (i := 6) q (by kernel_rfl) q aa.chg q (fun _ => qt_fieldAddr uf38 fi38_0 nz3 q) q q ?_
  obtain ⟨bF, aT, bG⟩ := aa.at hR4 af ah
  obtain ⟨bH, aU, bI⟩ := AtP.fst aT
  refine XT (i := 7) q (by kernel_rfl) q aa.chg q (qs_cell u3 q q (AtP.cInt aU) aa.chg (Ctx.outHas aj hR4 af ah)) q q <| XQ (i := 9) q (by kernel_rfl) q aa.chg q (fun _ => qt_move q) q q <| X1 8 (by kernel_rfl) q <| U1 q c95 (w_impl_FreeOf av hR1 aa.ctx) fun bJ bK aV => have ar := aa.cN1 [] aV; XN ar.chg <| X1 10 (by kernel_rfl) q <| U0 q c105 (w_slices_Contains___int_int aw hS0 ar.ctx) fun bL aW => have ad := ar.cN0 [] aW; XN ad.chg <| XQ (i := 11) q (by kernel_rfl) q ad.chg q (fun _ => qt_not q) q q <| XQ (i := 12) q (by kernel_rfl) q ad.chg q (fun _ => qt_move q) q q <| XQ (i := 13) q (by kernel_rfl) q ad.chg (J q ab) (fun _ => qt_move q) q q <| XQ (i := 14) q (by kernel_rfl) q ad.chg (J q ab) (fun _ => qt_nilCheck q) q q <| XQ (i := 15) q (by kernel_rfl) q ad.chg (J q ab) (fun _ => qt_fieldAddr uf27 fi27_2 nz24 q) q q <| have aX := HasB.bx (HasB.c (HasB.hd)) ad.ctx; XT (i := 16) q (by kernel_rfl) q ad.chg (J q ab) (qs_cell u24 q q (aX.cell (i := 2) q) ad.chg (Ctx.outB aj (HasB.hd))) q q <| XQ (i := 17) q (by kernel_rfl) q ad.chg (J q ab) (fun _ => qt_move q) q q ?_
  obtain ⟨bM, bN, bO, au⟩ := Ctx.isAt ad.ctx hS4 al
  refine XT (i := 18) q (by kernel_rfl) q ad.chg (J q ab) (qs_index al au u24 i3 q q) q q ?_
  obtain ⟨bP, aY, bQ⟩ := ad.at hS4 al au
  exact XT (i := 19) q (by kernel_rfl) q ad.chg (J q ab) (qs_cell u3 q q (AtP.cInt aY) ad.chg (Ctx.outHas aj hS3 al au)) q q <| XQ (i := 20) q (by kernel_rfl) q ad.chg (J q ab) (fun _ => qt_lss q q) q q <| XQ (i := 21) q (by kernel_rfl) q ad.chg q (fun _ => zf q ab q) q q <| have aZ := ao.cV1 [] ad (zc (Pure.sl q) all_nil); XC_done (by kernel_rfl) fun a ha => ⟨ha.s, aZ.q0.p4.p4.p4.p4.p4⟩
 rintro a bR ⟨ha, ak⟩
 refine S1 ha ?_
 refine Yh q h (fun h => ?_) (fun h => ?_)
 ·cases h
  exact rR <| qa q <| B <| W fun a ha => m (ret1 q ha q ⟨csp0_4, Fp0_4, q, ak.p4.p4.p4.p4.p4⟩)
 refine y <| rR <| qm q <| qn q <| qf uf27 fi27_2 nz24 q <| ql u24 ak.p0 q <| qm q <| O h fun a2 ay h => have az := ak.viewG (Vw.c (Vw.d (Vw.c (Vw.c (Vw.d Vw.refl))))); qb az hS3 ay u24 i3 q fun bS bT bU a3 => eI u3 (ak.el hS3 ay a3) q <| qi (qt_sub q q) q <| O h fun bV aA h => qb az hS3 aA u24 i3 q fun bW bX bY a4 => WL_storeH (fo := 0) (cs' := [iV (IntKind.wrap .i64 (a2 - 1))]) ak.p3 aA a4 (Upd.whole (Blt.int)) q il3 q q q q fun bZ a6 => rN <| qm q <| qm q <| qn q <| qf uf38 fi38_1 nz36 q <| have aB := a6.p4; ?_
 obtain ⟨b0, a7, a8, b4, b5, b6⟩ := Holds.ns aB ((Foc.snd (Foc.fst Foc.refl))) af ah
 refine XL_load_cell u36 q a8 q q q <| qm q <| qi (qt_build (args := [(0, .tmp 63), (1, .const (iV 0))]) (css := [#[iV p3], #[iV 0]]) (cells := #[iV p3, iV 0]) q ⟨q, q, trivial⟩ (by kernel_rfl)) q <| zs (t := ty2) (args := [.tmp 64]) (xs := ([(p3, 0)] : LP)) aB (BltL.cons (Blt.pair (Blt.int) (Blt.int)) q (BltL.nil)) u36 j123 q q q q q q fun b7 b8 a9 => ?_
 obtain ⟨b9, bb⟩ := Holds.borrow a9.p1 ((Foc.snd (Foc.fst Foc.refl))) af a7
 refine O h fun ca bc h => zw bb hS2 bc u36 j123 q q q q q q fun cb cc bd => qn q <| qf uf38 fi38_1 nz36 q <| WL_storeHole q bd.p1.p1 ah il36 q q q fun cd ce cf aC => rN <| qm q <| qm q <| qn q <| qf uf38 fi38_2 nz24 q ?_
 obtain ⟨cg, bg, bh, ch, ci, cj⟩ := Holds.ns aC ((Foc.snd (Foc.snd Foc.refl))) (geti_set af) (set_len ah)
 refine XL_load_cell u24 q bh q q q <| qm q <| zs (t := tI) (args := [.tmp 74]) (xs := ([p2] : List Int)) aC (BltL.cons (Blt.int) q (BltL.nil)) u24 j3 q q q q q q fun ck cl bi => ?_
 obtain ⟨cm, bk⟩ := Holds.borrow bi.p1 ((Foc.snd (Foc.snd Foc.refl))) (geti_set af) bg
 refine O h fun cn bl h => zw bk hS2 bl u24 j3 q q q q q q fun co cp bm => qn q <| qf uf38 fi38_2 nz24 q <| WL_storeHole q bm.p1.p1 (set_len ah) il24 q q q fun bp bq cq br => rN <| qa q <| B <| W fun a ha => ?_
 cases h
 exact ret1 q ha q ⟨bp, bq, q, br.q1.q1.p1.p4.p4.p4⟩
theorem w_impl_kitchenOf {w G A0 B0 A1 B1 A2 B2 B3 A4 B4 r} (h : impl_kitchenOfS B0 B1 B2 B3 B4 = some r) (C0 : Has G ty12 A0 B0) (C1 : Has G tI A1 B1) (C2 : Has G tI A2 B2) (C4 : Has G ty14 A4 B4) (H : Ctx w G) : Calls Tryz.prog 92 #[.agg #[A0, A1, A2, iV B3, A4]] w fun e w' => ∃ (v1 : Value) (csv1 : List Value) (Fv1 : List Nat), e = .returned (v1) ∧ Holds M0 w w' [dpR 36 dt6 v1 csv1 r Fv1] G := by
 refine F0 26 H Tryz.func92 q fun H => ?_
 refine C <| Z <| WL_box (cs := [A0, A1, A2, iV B3, A4]) H q q q q fun b1 w2 H3 => qa q <| rN <| qf uf27 fi27_4 nz25 q <| ql u25 H3.p0 q <| qz H3.ctx (C4.c) u25 q <| O h fun x6 aA h => WL_makeD (d := dt6) H3 aA u89 j36 q (DBlt.cast (DBlt.nil (e := 123) (d := dt3)) q q) q q q q q fun v8 aB aC w9 ah => qa q <| B <| C <| rR <| qf uf27 fi27_4 nz25 q <| ql u25 ah.p1 q <| have aD := ah.viewG (Vw.d (Vw.c Vw.refl)); qz aD (C4.c.c) u25 q <| qm q <| B <| g <| O h fun ba aE h => ?_
 refine fun bb aG => zp (I := fun (ao, aj) a w2 => ∃ ad ae, Fr a 26 [(3, v8), (11, A4), (12, iV (List.length B4 : Int)), (13, iV ao)] ∧ Holds M0 w w2 [dpR 36 dt6 v8 ad aj ae] G) (O := fun q0 e a w2 => e = .exit 0 ∧ ∃ aH aI, Fr a 26 [(3, v8)] ∧ Holds M0 w w2 [dpR 36 dt6 v8 aH q0 aI] G) aE ?_ ?_ ?_
 ·exact ⟨aB, aC, aG.s, ah.q1⟩
 ·rintro ⟨ao, aj⟩ _ a aJ aa ⟨ad, ae, ha, ak⟩
  refine S1 ha <| rR <| qi (qt_lss q q) q <| B <| C ?_
  refine Yh q aa (fun aa => ?_) (fun aa => ?_)
  ·refine y <| C <| g <| rR <| qm q <| O aa fun ab ap aa => have aK := ak.viewG (Vw.d Vw.refl); qb aK (C4.c) ap u25 i38 q fun bc bd be aL => ?_
   obtain ⟨bf, aM, aN⟩ := ak.atN (C4.c) ap aL
   refine XL_load_agg (t := ty14) us38 uo38 i38 aM q q q fun bg aO => ?_
   obtain ⟨c40, c41, bh, bi, rfl, aq, aP, aQ⟩ := aO
   obtain ⟨rfl, _⟩ := aP
   obtain ⟨c47, c48, bj, bk, rfl, ar, aR, aS⟩ := aQ
   obtain ⟨af, rfl, aT⟩ := Rep.sl_inv aR
   obtain ⟨ag, rfl, aU⟩ := Rep.sl_inv aS
   have aV : Holds _ w aJ [.ro ty2 af ab.2.1, .ro tI ag ab.2.2, dpR 36 dt6 v8 ad aj ae] G := aN [.ro ty2 af ab.2.1, .ro tI ag ab.2.2] ⟨⟨_, _, _, _, q, aT, (fun k h => (fun k h => (fun _ h => h) k (by rw [aq]; exact zx _ h)) k (by rw [ar]; exact List.mem_append_left _ h))⟩, ⟨_, _, _, _, q, aU, (fun k h => (fun k h => (fun _ h => h) k (by rw [aq]; exact zx _ h)) k (by rw [ar]; exact zx _ h))⟩, trivial⟩
   change XL _ _ _ _ _ ((17, .agg #[iV ab.1, af, ag]) :: _) _
   refine zq (cs := [iV 0, nS, nS]) aV z38 q q q fun bl bm au => qa q <| have av := au.viewG (Vw.c (Vw.c (Vw.c (Vw.d Vw.refl)))); zl (cs' := [iV ab.1, af, ag]) au q il38 q (T q (T (av.sliceOne hR1) (T (av.sliceOne hR2) q))) q q q fun bn al => B <| Z <| qm q <| qm q <| qf uf38 fi38_1 nz36 q <| ql u36 al.p0 q <| O aa fun aw aW aa => have aX := al.viewG (Vw.c (Vw.c (Vw.c (Vw.d Vw.refl)))); U1 q c83 (w_impl_copyTicket aW hR1 aX) fun am bo aY => have ax := al.cV1 [] aY (zc (Pure.sl q) all_nil); O aa fun bp ay aa => have aZ := ax.viewG (Vw.c (Vw.c (Vw.c (Vw.c (Vw.d Vw.refl))))); qb aZ hR4 ay u89 i36 q fun bq br bs a0 => have az := ax.p4.p1; have a2 := az.viewG (Vw.c (Vw.d (Vw.c (Vw.c (Vw.c Vw.refl))))); ?_
   cases aa
   exact WL_storeD (Rs := [.sl 123 ty2 am aw]) (fo := 0) (cs' := [am]) az ay a0 (Foc.refl) (DBlt.cast (DBlt.sl (e := 123) (t := ty2) (v := am) (x := aw) q) q q) (a2.sliceList hS0) il36 q q q fun a3 a4 bt a5 => WL_nil fun a ha => zi <| X <| S1 ha <| Z <| qi (qt_add q q) q <| qm q <| WL_nil fun a ha => ⟨q, a3, a4, ha.s, a5.q1.q1.q1⟩
  cases aa
  exact WP_exit fun a ha => zo (⟨exit_ne, q, ad, ae, ha.s, ak⟩)
 rintro _ a bu ⟨rfl, a7, a8, ha, a9⟩
 refine zn <| X <| S1 ha <| rR <| qm q <| qa q <| B <| W fun a ha => ?_
 obtain rfl := L h
 exact ret1 q ha q ⟨v8, a7, a8, q, a9⟩
theorem w_impl_KitchenValid {w G vp0 p0 r} (h : impl_KitchenValidS p0 = some r) (hp0 : Has G ty4 vp0 p0) (H : Ctx w G) : Calls Tryz.prog 121 #[vp0] w fun e w' => e = .returned (.bool r) ∧ Holds M0 w w' [] G := by
 refine F0 18 H Tryz.func121 q fun H => ?_
 refine rR <| qa q <| B <| C <| rR <| qm q <| qz H.ctx (hp0) u89 q <| qi (qt_gtr q q) q <| B ?_
 refine Yh q h (fun h => ?_) (fun h => ?_)
 ·cases h
  exact rR <| qa q <| B <| W fun a ha => m (ret1 q ha q ⟨q, H⟩)
 refine y <| C <| rR <| qm q <| qz H.ctx (hp0) u89 q <| qm q <| B <| g <| O h fun o2 ah h => ?_
 refine fun a4 aj => zp (I := fun s1 a w2 => (Fr a 18 [(8, vp0), (9, iV (List.length p0 : Int)), (10, iV s1)] ∧ Holds M0 w w2 [] G)) (O := fun o e a w2 => match o with | .inl _ => e = .exit 0 ∧ (Fr a 18 [] ∧ Holds M0 w w2 [] G) | .inr q0 => e = .ret ∧ (Fr a 18 [(2, .bool q0)] ∧ Holds M0 w w2 [] G)) ah ?_ ?_ ?_
 ·exact ⟨aj.s, H⟩
 ·rintro s1 _ a w6 aa ⟨ha, ab⟩
  refine S1 ha <| rR <| qi (qt_lss q q) q <| B <| C ?_
  refine Yh q aa (fun aa => ?_) (fun aa => ?_)
  ·refine y <| C <| g <| rR <| O aa fun ar ad aa => qe ab (hp0) ad u89 i36 q fun _ _ ak => eV u36 ak q fun ax ae => qa q <| B <| C <| zk <| qm q <| O aa fun ay al aa => qc q c104 ae (fun _ => w_impl_TicketValid al hR0) <| qi (qt_not q) q <| Qn ae fun a ha az af => X <| S1 ha ?_
   refine Yh q aa (fun aa => ?_) (fun aa => ?_)
   ·cases aa
    exact rR <| qa q <| B <| W fun a ha => zj (m (⟨ret_ne, q, ha.s, af.q0⟩))
   cases aa
   exact WP_skip fun a ha => zi <| X <| S1 ha <| Z <| qi (qt_add q q) q <| qm q <| WL_nil fun a ha => ⟨q, ha.s, af.q0⟩
  cases aa
  exact WP_exit fun a ha => zo (⟨exit_ne, q, ha.s, ab⟩)
 intro e a aA ag
 rcases o2 with o2 | o2
 ·obtain ⟨rfl, ha, ap⟩ := ag
  cases h
  exact zn <| X <| S1 ha <| rR <| qa q <| B <| W fun a ha => ret1 q ha q ⟨q, ap⟩
 obtain ⟨rfl, ha, aq⟩ := ag
 obtain rfl := L h
 exact zj (m (ret1 q ha q ⟨q, aq⟩))
theorem w_impl_copyKitchen {w G vp0 p0 r} (h : impl_copyKitchenS p0 = some r) (hp0 : Has G ty4 vp0 p0) (H : Ctx w G) : Calls Tryz.prog 133 #[vp0] w fun e w' => ∃ (v1 : Value) (csv1 : List Value) (Fv1 : List Nat), e = .returned (v1) ∧ Holds M0 w w' [dpR 36 dt6 v1 csv1 r Fv1] G := by
 refine F0 26 H Tryz.func133 q fun H => ?_
 refine rR <| qa q <| B <| C <| rR <| qm q <| qz H.ctx (hp0) u89 q <| qi (qt_eql q q) q <| B ?_
 refine Yh q h (fun h => ?_) (fun h => ?_)
 ·cases h
  exact rR <| qa q <| B <| W fun a ha => have H1 := H.nD 36 dt6; m (ret1 q ha q ⟨(nS), [], [], q, H1⟩)
 refine y <| rR <| qm q <| qz H.ctx (hp0) u89 q <| O h fun x2 aq h => WL_makeD (d := dt6) H aq u89 j36 q (DBlt.cast (DBlt.nil (e := 123) (d := dt3)) q q) q q q q q fun v4 ar F8 w5 H6 => qa q <| B <| C <| rR <| qm q <| have au := H6.viewG (Vw.d Vw.refl); qz au (hp0.c) u89 q <| qm q <| B <| g <| O h fun aP av h => ?_
 refine fun aQ aw => zp (I := fun (ag, ah) a w2 => ∃ ab ad, Fr a 26 [(3, v4), (12, vp0), (13, iV (List.length p0 : Int)), (14, iV ag)] ∧ Holds M0 w w2 [dpR 36 dt6 v4 ab ah ad] G) (O := fun q0 e a w2 => e = .exit 0 ∧ ∃ ax ay, Fr a 26 [(3, v4)] ∧ Holds M0 w w2 [dpR 36 dt6 v4 ax q0 ay] G) av ?_ ?_ ?_
 ·exact ⟨ar, F8, aw.s, H6⟩
 ·rintro ⟨ag, ah⟩ _ a aR aa ⟨ab, ad, ha, ae⟩
  refine S1 ha <| rR <| qi (qt_lss q q) q <| B <| C ?_
  refine Yh q aa (fun aa => ?_) (fun aa => ?_)
  ·refine y <| C <| g <| rR <| qm q <| O aa fun aS aj aa => have az := ae.viewG (Vw.d Vw.refl); qb az (hp0.c) aj u89 i36 q fun aT aU aV aA => eV u36 (ae.el (hp0.c) aj aA) q fun aW ak => qa q <| qa q <| B <| Z <| qm q <| qm q <| qm q <| O aa fun al aB aa => have aC := ak.viewG (Vw.c (Vw.d Vw.refl)); U1 q c83 (w_impl_copyTicket aB hR0 aC) fun af aX aD => have am := ak.cV1 [] aD (zc (Pure.sl q) all_nil); O aa fun aY ao aa => have aE := am.viewG (Vw.c (Vw.c (Vw.d Vw.refl))); qb aE hR2 ao u89 i36 q fun aZ a0 a1 aF => have ap := am.p2.p1; have aH := ap.viewG (Vw.c (Vw.d (Vw.c Vw.refl))); ?_
   cases aa
   exact WL_storeD (Rs := [.sl 123 ty2 af al]) (fo := 0) (cs' := [af]) ap ao aF (Foc.refl) (DBlt.cast (DBlt.sl (e := 123) (t := ty2) (v := af) (x := al) q) q q) (aH.sliceList hS0) il36 q q q fun aI aJ a2 aK => WL_nil fun a ha => zi <| X <| S1 ha <| Z <| qi (qt_add q q) q <| qm q <| WL_nil fun a ha => ⟨q, aI, aJ, ha.s, aK.q1⟩
  cases aa
  exact WP_exit fun a ha => zo (⟨exit_ne, q, ab, ad, ha.s, ae⟩)
 rintro _ a a3 ⟨rfl, aM, aN, ha, aO⟩
 refine zn <| X <| S1 ha <| rR <| qm q <| qa q <| B <| W fun a ha => ?_
 obtain rfl := L h
 exact ret1 q ha q ⟨v4, aM, aN, q, aO⟩
theorem w_impl_firstIn {w G vp0 p0 p1 r} (h : impl_firstInS p0 p1 = some r) (hp0 : Has G ty4 vp0 p0) (H : Ctx w G) : Calls Tryz.prog 134 #[vp0, iV p1] w fun e w' => e = .returned (.tuple #[iV r.1, iV r.2]) ∧ Holds M0 w w' [] G := by
 refine F0 32 H Tryz.func134 q fun H => ?_
 refine rR <| qa q <| qa q <| B <| C <| rR <| qm q <| qz H.ctx (hp0) u89 q <| qm q <| B <| g <| O h fun o2 au h => ?_
 refine fun a4 av => zp (I := fun s1 a w2 => (Fr a 32 [(1, iV p1), (10, vp0), (11, iV (List.length p0 : Int)), (12, iV s1)] ∧ Holds M0 w w2 [] G)) (O := fun o e a w2 => match o with | .inl _ => e = .exit 0 ∧ (Fr a 32 [] ∧ Holds M0 w w2 [] G) | .inr (q0, q1) => e = .ret ∧ (Fr a 32 [(4, iV q0), (5, iV q1)] ∧ Holds M0 w w2 [] G)) au ?_ ?_ ?_
 ·exact ⟨av.s, H⟩
 ·rintro s1 _ a w6 ab ⟨ha, ag⟩
  refine S1 ha <| rR <| qi (qt_lss q q) q <| B <| C ?_
  refine Yh q ab (fun ab => ?_) (fun ab => ?_)
  ·refine y <| C <| g <| rR <| qm q <| O ab fun aj ak ab => qe ag (hp0) ak u89 i36 q fun _ _ aw => eV u36 aw q fun al am => qa q <| qa q <| rN <| qm q <| qz am.ctx hR0 u36 q <| qm q <| B <| g <| O ab fun ad ax ab => ?_
   refine fun aL ay => zp (I := fun ao a w2 => (Fr a 32 [(1, iV p1), (6, iV s1), (10, vp0), (11, iV (List.length p0 : Int)), (12, iV s1), (17, al), (18, iV (List.length aj : Int)), (19, iV ao)] ∧ Holds M0 w w2 [.ro ty2 al aj] G)) (O := fun o e a w2 => match o with | .inl _ => e = .exit 2 ∧ (Fr a 32 [(1, iV p1), (10, vp0), (11, iV (List.length p0 : Int)), (12, iV s1)] ∧ Holds M0 w w2 [] G) | .inr (q0, q1) => e = .ret ∧ (Fr a 32 [(4, iV q0), (5, iV q1)] ∧ Holds M0 w w2 [] G)) ax ?_ ?_ ?_
   ·exact ⟨ay.s, am⟩
   ·rintro ao _ a aM aa ⟨ha, ae⟩
    refine S1 ha <| rR <| qi (qt_lss q q) q <| B <| C ?_
    refine Yh q aa (fun aa => ?_) (fun aa => ?_)
    ·refine y <| C <| g <| rR <| qm q <| O aa fun af ap aa => qe ae hR0 ap u36 i123 q fun _ _ az => lP [iV af.1, iV af.2] us123 uo123 i123 az q q q q <| zq (cs := [iV 0, iV 0]) ae z123 q q q fun aQ aR aA => qa q <| zl (cs' := [iV af.1, iV af.2]) aA q il123 q q q q q fun aS ah => rN <| qf uf123 fi123_1 nz3 q <| ql u3 ah.p0 q <| qm q <| qi (qt_eql q q) q <| B ?_
     refine Yh q aa (fun aa => ?_) (fun aa => ?_)
     ·cases aa
      exact rR <| qm q <| qm q <| qa q <| qa q <| B <| W fun a ha => zj (m (⟨ret_ne, q, ha.s, ah.q0.q0⟩))
     cases aa
     exact WP_skip fun a ha => zi <| X <| S1 ha <| Z <| qi (qt_add q q) q <| qm q <| WL_nil fun a ha => ⟨q, ha.s, ah.q0⟩
    cases aa
    exact WP_exit fun a ha => zo (⟨exit_ne, q, ha.s, ae.q0⟩)
   intro e a aT aq
   rcases ad with ad | ad
   ·obtain ⟨rfl, ha, aE⟩ := aq
    cases ab
    exact zn <| zi <| X <| S1 ha <| Z <| qi (qt_add q q) q <| qm q <| WL_nil fun a ha => ⟨q, ha.s, aE⟩
   obtain ⟨aU, aV⟩ := ad
   obtain ⟨rfl, ha, aF⟩ := aq
   cases ab
   exact zj (zj (m (⟨ret_ne, q, ha.s, aF⟩)))
  cases ab
  exact WP_exit fun a ha => zo (⟨exit_ne, q, ha.s, ag⟩)
 intro e a aW ar
 rcases o2 with o2 | o2
 ·obtain ⟨rfl, ha, aG⟩ := ar
  cases h
  exact zn <| X <| S1 ha <| rR <| qa q <| qa q <| B <| W fun a ha => ret2 q ha q q ⟨q, aG⟩
 obtain ⟨aX, aY⟩ := o2
 obtain ⟨rfl, ha, aH⟩ := ar
 cases h
 exact zj (m (ret2 q ha q q ⟨q, aH⟩))
theorem w_impl_stateAfter {w G p0 p1 r} (h : impl_stateAfterS p0 p1 = some r) (H : Ctx w G) : Calls Tryz.prog 174 #[iV p0, iV p1] w fun e w' => e = .returned (.tuple #[iV r.1, .bool r.2]) ∧ Holds M0 w w' [] G := by
 refine F0 31 H Tryz.func174 q fun H => ?_
 refine rR <| qa q <| qa q <| B <| C <| rR <| qm q <| B <| g <| rR <| qi (qt_eql q q) q <| qa q <| B ?_
 refine Yh q h (fun h => ?_) (fun h => ?_)
 ·refine rR <| qm q <| qi (qt_eql q q) q <| B ?_
  refine Yh q h (fun h => ?_) (fun h => ?_)
  ·cases h
   exact rR <| qa q <| qa q <| B <| W fun a ha => zj (m (ret2 q ha q q ⟨q, H⟩))
  cases h
  exact WP_skip fun a ha => zi <| X <| S1 ha <| rR <| qa q <| qa q <| B <| W fun a ha => ret2 q ha q q ⟨q, H⟩
 refine rR <| qi (qt_eql q q) q <| qa q <| B ?_
 refine Yh q h (fun h => ?_) (fun h => ?_)
 ·refine rR <| qm q <| qi (qt_eql q q) q <| B ?_
  refine Yh q h (fun h => ?_) (fun h => ?_)
  ·cases h
   exact rR <| qa q <| qa q <| B <| W fun a ha => zj (m (ret2 q ha q q ⟨q, H⟩))
  cases h
  exact WP_skip fun a ha => zi <| X <| S1 ha <| rR <| qa q <| qa q <| B <| W fun a ha => ret2 q ha q q ⟨q, H⟩
 refine rR <| qi (qt_eql q q) q <| qa q <| B ?_
 refine Yh q h (fun h => ?_) (fun h => ?_)
 ·refine rR <| qm q <| qi (qt_eql q q) q <| B ?_
  refine Yh q h (fun h => ?_) (fun h => ?_)
  ·cases h
   exact rR <| qa q <| qa q <| B <| W fun a ha => zj (m (ret2 q ha q q ⟨q, H⟩))
  cases h
  exact WP_skip fun a ha => zi <| X <| S1 ha <| rR <| qa q <| qa q <| B <| W fun a ha => ret2 q ha q q ⟨q, H⟩
 refine rR <| qi (qt_eql q q) q <| qa q <| B ?_
 refine Yh q h (fun h => ?_) (fun h => ?_)
 ·refine rR <| qm q <| qi (qt_eql q q) q <| qm q ?_
  refine Ho (res := ((p0 == 0) || (p0 == 1))) 2 os (fun aa K2 ad => ?_) ?_
  ·exact jm aa q <| ji (qt_eql q q) aa q <| ad 2 q q q (oi aa)
  refine qm q ?_
  refine Ho (res := (((p0 == 0) || (p0 == 1)) || (p0 == 2))) 2 os (fun ab K5 ae => ?_) ?_
  ·exact jm ab q <| ji (qt_eql q q) ab q <| ae 2 q q q (oi ab)
  refine B ?_
  refine Yh q h (fun h => ?_) (fun h => ?_)
  ·cases h
   exact rR <| qa q <| qa q <| B <| W fun a ha => zj (m (ret2 q ha q q ⟨q, H⟩))
  cases h
  exact WP_skip fun a ha => zi <| X <| S1 ha <| rR <| qa q <| qa q <| B <| W fun a ha => ret2 q ha q q ⟨q, H⟩
 cases h
 exact WP_skip fun a ha => zi <| X <| S1 ha <| rR <| qa q <| qa q <| B <| W fun a ha => ret2 q ha q q ⟨q, H⟩
theorem w_impl_TicketDo {w G vp0 p0 p1 p2 r} (h : impl_TicketDoS p0 p1 p2 = some r) (hp0 : Has G ty2 vp0 p0) (H : Ctx w G) : Calls Tryz.prog 169 #[vp0, iV p1, iV p2] w fun e w' => ∃ (v1 : Value), e = .returned (.tuple #[v1, .bool r.2]) ∧ Holds M0 w w' [.sl 123 ty2 v1 r.1] G := by
 refine F0 49 H Tryz.func169 q fun H => ?_
 refine rR <| qa q <| qa q <| B <| C <| C <| zk <| qm q <| O h fun x1 ak h => qc q c104 H (fun _ => w_impl_TicketValid ak (hp0)) <| qi (qt_not q) q <| Qn H fun a ha w3 H5 => X <| S1 ha ?_
 refine Yh q h (fun h => ?_) (fun h => ?_)
 ·cases h
  exact rR <| qa q <| qa q <| B <| W fun a ha => have H7 := H5.nS 123 ty2; m (ret2 q ha q q ⟨(nS), q, H7⟩)
 refine y <| rR <| qm q <| O h fun x8 al h => U1 q c83 (w_impl_copyTicket al (hp0) H5.ctx) fun ad aC am => have aa := H5.cN1 [] am; qa q <| B <| C <| rR <| qm q <| qi (qt_lss q q) q <| qm q ?_
 refine Ho (res := ((decide (p1 < 0)) || (decide (p1 ≥ (List.length p0 : Int))))) 4 os (fun ab aD ao => ?_) ?_
 ·exact jm ab q <| jm ab q <| jz aa.ctx (hp0.c) u36 ab q <| ji (qt_geq q q) ab q <| ao 4 q q q (oi ab)
 refine B ?_
 refine Yh q h (fun h => ?_) (fun h => ?_)
 ·cases h
  exact rR <| qm q <| qa q <| qa q <| B <| W fun a ha => m (ret2 q ha q q ⟨ad, q, aa⟩)
 refine y <| rR <| qm q <| qm q <| O h fun aE ag h => qe aa (hp0.c) ag u36 i123 q fun _ _ ap => qf uf123 fi123_1 nz3 q <| eI u3 ap.s q <| qm q <| O h fun aq ar h => U0 q c174 (w_impl_stateAfter ar aa.ctx) fun aI au => have ae := aa.cN0 [] au; qm q <| qi (zv q q) q <| qi (zv q q) q <| qa q <| qa q <| B <| C <| rR <| qm q <| qi (qt_not q) q <| B ?_
 refine Yh q h (fun h => ?_) (fun h => ?_)
 ·cases h
  exact rR <| qm q <| qa q <| qa q <| B <| W fun a ha => m (ret2 q ha q q ⟨ad, q, ae⟩)
 refine y <| rR <| qm q <| qm q <| qm q <| O h fun aJ ah h => qb ae.ctx hS0 ah u36 i123 q fun aK aL aM av => qf uf123 fi123_1 nz3 q <| WL_storeH (fo := 1) (cs' := [iV aq.1]) ae ah av (Upd.snd (Upd.whole (Blt.int))) q il3 q q q q fun aN aj => B <| C <| C <| zk <| qm q <| O h fun aO aw h => qc q c104 aj (fun _ => w_impl_TicketValid aw hS0) <| qi (qt_not q) q <| Qn aj fun a ha aP af => X <| S1 ha ?_
 refine Yh q h (fun h => ?_) (fun h => ?_)
 ·refine rR <| qm q <| O h fun aQ ax h => U1 q c83 (w_impl_copyTicket ax (hp0.c) af.ctx) fun ay aR az => have aA := af.cN1 [] az; qa q <| qa q <| B <| W fun a ha => ?_
  cases h
  exact m (ret2 q ha q q ⟨ay, q, aA.q1⟩)
 cases h
 exact y <| rR <| qm q <| qa q <| qa q <| B <| W fun a ha => ret2 q ha q q ⟨ad, q, af⟩
theorem w_impl_TicketMay {w G vp0 p0 r} (h : impl_TicketMayS p0 = some r) (hp0 : Has G ty2 vp0 p0) (H : Ctx w G) : Calls Tryz.prog 155 #[vp0] w fun e w' => ∃ (v1 : Value), e = .returned (v1) ∧ Holds M0 w w' [.sl 3 tI v1 r] G := by
 refine F0 28 H Tryz.func155 q fun H => ?_
 refine rR <| qa q <| B <| C <| C <| zk <| qm q <| O h fun x1 ag h => qc q c104 H (fun _ => w_impl_TicketValid ag (hp0)) <| qi (qt_not q) q <| Qn H fun a ha w3 H5 => X <| S1 ha ?_
 refine Yh q h (fun h => ?_) (fun h => ?_)
 ·cases h
  exact rR <| qa q <| B <| W fun a ha => have H7 := H5.nS 3 tI; m (ret1 q ha q ⟨(nS), q, H7⟩)
 refine y <| rR <| qa q <| B <| C <| rR <| qm q <| qz H5.ctx (hp0) u36 q <| qm q <| B <| g <| have ah := H5.nS 3 tI; O h fun az aj h => ?_
 refine fun aA ak => zp (I := fun (s8, s9) a w2 => ∃ ab, Fr a 28 [(0, vp0), (3, ab), (11, iV (List.length p0 : Int)), (12, iV s9)] ∧ Holds M0 w w2 [.sl 3 tI ab s8] G) (O := fun q0 e a w2 => e = .exit 0 ∧ ∃ ae, Fr a 28 [(3, ae)] ∧ Holds M0 w w2 [.sl 3 tI ae q0] G) aj ?_ ?_ ?_
 ·exact ⟨(nS), ak.s, ah⟩
 ·rintro ⟨s8, s9⟩ _ a aB aa ⟨ab, ha, ad⟩
  refine S1 ha <| rR <| qi (qt_lss q q) q <| B <| C ?_
  refine Yh q aa (fun aa => ?_) (fun aa => ?_)
  ·refine y <| C <| g <| rR <| qm q <| qa q <| B <| C <| Z <| qm q <| qm q <| O aa fun aC al aa => U1 q c169 (w_impl_TicketDo al (hp0.c) ad.ctx) fun aD aE am => have af := ad.cN1 [] am; qm q <| qi (zv q q) q <| qi (zv q q) q <| qa q <| qa q <| rN <| qm q <| B ?_
   refine Yh q aa (fun aa => ?_) (fun aa => ?_)
   ·refine Z <| qm q <| qm q <| zs (t := tI) (args := [.tmp 23]) (xs := ([s9] : List Int)) af (BltL.cons (Blt.int) q (BltL.nil)) u24 j3 q q q q q q fun aF aG ao => O aa fun aH aq aa => zw ao.p2 hS1 aq u24 j3 q q q q q q fun ar aI au => qa q <| WL_nil fun a ha => zi <| X <| S1 ha <| Z <| qi (qt_add q q) q <| qm q <| WL_nil fun a ha => ?_
    cases aa
    exact ⟨q, ar, ha.s, au.q1.q1⟩
   cases aa
   exact WP_skip fun a ha => zi <| X <| S1 ha <| Z <| qi (qt_add q q) q <| qm q <| WL_nil fun a ha => ⟨q, ab, ha.s, af.q0⟩
  cases aa
  exact WP_exit fun a ha => zo (⟨exit_ne, q, ab, ha.s, ad⟩)
 rintro _ a aJ ⟨rfl, ax, ha, ay⟩
 refine zn <| X <| S1 ha <| rR <| qm q <| qa q <| B <| W fun a ha => ?_
 obtain rfl := L h
 exact ret1 q ha q ⟨ax, q, ay⟩
theorem w_impl_NextFire {w G vp0 p0 r} (h : impl_NextFireS p0 = some r) (hp0 : Has G ty4 vp0 p0) (H : Ctx w G) : Calls Tryz.prog 135 #[vp0] w fun e w' => e = .returned (.tuple #[iV r.1, iV r.2]) ∧ Holds M0 w w' [] G := by
 refine F0 27 H Tryz.func135 q fun H => ?_
 refine rR <| qa q <| qa q <| B <| C <| C <| zk <| qm q <| O h fun x1 aj h => qc q c121 H (fun _ => w_impl_KitchenValid aj (hp0)) <| qi (qt_not q) q <| Qn H fun a ha w3 H5 => X <| S1 ha ?_
 refine Yh q h (fun h => ?_) (fun h => ?_)
 ·cases h
  exact rR <| qa q <| qa q <| B <| W fun a ha => m (ret2 q ha q q ⟨q, H5⟩)
 refine y <| C <| rR <| qm q <| qz H5.ctx (hp0) u89 q <| qm q <| B <| g <| O h fun o8 ak h => ?_
 refine fun ay al => zp (I := fun s7 a w2 => (Fr a 27 [(10, vp0), (11, iV (List.length p0 : Int)), (12, iV s7)] ∧ Holds M0 w w2 [] G)) (O := fun o e a w2 => match o with | .inl _ => e = .exit 0 ∧ (Fr a 27 [] ∧ Holds M0 w w2 [] G) | .inr (q0, q1) => e = .ret ∧ (Fr a 27 [(2, iV q0), (3, iV q1)] ∧ Holds M0 w w2 [] G)) ak ?_ ?_ ?_
 ·exact ⟨al.s, H5⟩
 ·rintro s7 _ a az aa ⟨ha, ad⟩
  refine S1 ha <| rR <| qi (qt_lss q q) q <| B <| C ?_
  refine Yh q aa (fun aa => ?_) (fun aa => ?_)
  ·refine y <| C <| g <| rR <| qm q <| O aa fun aA ae aa => qe ad (hp0) ae u89 i36 q fun _ _ am => eV u36 am q fun aE af => qa q <| qa q <| rN <| qm q <| O aa fun aF ao aa => U1 q c155 (w_impl_TicketMay ao hR0 af.ctx) fun aG aH ap => have ab := af.cN1 [] ap; qa q <| rN <| qm q <| qz ab.ctx hS0 u24 q <| qi (qt_gtr q q) q <| B ?_
   refine Yh q aa (fun aa => ?_) (fun aa => ?_)
   ·refine C <| WP_quiet (by kernel_rfl) (by kernel_rfl) <| qm q <| qm q <| O aa fun aI ag aa => qe ab hS0 ag u24 i3 q fun _ _ aq => eI u3 aq q <| qa q <| qa q <| Qn ab fun a ha aM ar => X <| S1 ha <| W fun a ha => ?_
    cases aa
    exact zj (m (⟨ret_ne, q, ha.s, ar.q0.q0⟩))
   cases aa
   exact WP_skip fun a ha => zi <| X <| S1 ha <| Z <| qi (qt_add q q) q <| qm q <| WL_nil fun a ha => ⟨q, ha.s, ab.q0.q0⟩
  cases aa
  exact WP_exit fun a ha => zo (⟨exit_ne, q, ha.s, ad⟩)
 intro e a aN ah
 rcases o8 with o8 | o8
 ·obtain ⟨rfl, ha, aw⟩ := ah
  cases h
  exact zn <| X <| S1 ha <| rR <| qa q <| qa q <| B <| W fun a ha => ret2 q ha q q ⟨q, aw⟩
 obtain ⟨aO, aP⟩ := o8
 obtain ⟨rfl, ha, ax⟩ := ah
 cases h
 exact zj (m (ret2 q ha q q ⟨q, ax⟩))
theorem w_impl_WorkStep {w G vp0 p0 r} (h : impl_WorkStepS p0 = some r) (hp0 : Has G ty4 vp0 p0) (H : Ctx w G) : Calls Tryz.prog 110 #[vp0] w fun e w' => ∃ (v1 : Value) (csv1 : List Value) (Fv1 : List Nat), e = .returned (.tuple #[v1, .bool r.2]) ∧ Holds M0 w w' [dpR 36 dt6 v1 csv1 r.1 Fv1] G := by
 refine F0 62 H Tryz.func110 q fun H => ?_
 refine rR <| qa q <| qa q <| B <| C <| C <| zk <| qm q <| O h fun x1 au h => qc q c121 H (fun _ => w_impl_KitchenValid au (hp0)) <| qi (qt_not q) q <| Qn H fun a ha w3 H5 => X <| S1 ha ?_
 refine Yh q h (fun h => ?_) (fun h => ?_)
 ·cases h
  exact rR <| qa q <| qa q <| B <| W fun a ha => have H7 := H5.nD 36 dt6; m (ret2 q ha q q ⟨(nS), [], [], q, H7⟩)
 refine y <| rR <| qm q <| O h fun x8 av h => U3 q c133 (w_impl_copyKitchen av (hp0) H5.ctx) fun aa af aw bn ax => have ao := H5.cN1 [] ax; qa q <| B <| C <| rR <| qm q <| O h fun bo ay h => have az := ao.viewG (Vw.d Vw.refl); U0 q c134 (w_impl_firstIn ay (hp0.c) az) fun aA aB => have ab := ao.cV0 [] aB all_nil; qm q <| qi (zv q q) q <| qi (zv q q) q <| qa q <| qa q <| rN <| qm q <| qi (qt_geq q q) q <| B ?_
 refine Yh q h (fun h => ?_) (fun h => ?_)
 ·refine rR <| qm q <| qm q <| O h fun aC ag h => have aD := ab.viewG (Vw.d Vw.refl); qb aD hR0 ag u89 i36 q fun bp bq br aE => ?_
  obtain ⟨aF, ak, aG, bs, bt, bu⟩ := Holds.ns ab (Foc.refl) ag aE
  refine XL_load_cell u36 q aG q q q <| qm q <| O h fun bv ap h => ?_
  have aH : Ctx aA ([.ro ty2 aF aC, .ro ty4 aa x8] ++ G) := ab.viewG (Vw.dp (NsOk.ns (Foc.refl) ag ak (NsOk.self NsOk.nil)) Vw.refl)
  refine qb aH hR0 ap u36 i123 q fun bw bz bA aI => qf uf123 fi123_1 nz3 q ?_
  obtain ⟨bB, aJ⟩ := Holds.borrow ab (Foc.refl) ag ak
  refine WL_storeH (fo := 1) (cs' := [iV 3]) aJ ap aI (Upd.snd (Upd.whole (Blt.int))) q il3 q q q q fun bC aK => ?_
  obtain ⟨aN, aO⟩ := Holds.giveBack q aK.p1.p1 ak
  cases h
  exact rN <| qm q <| qa q <| qa q <| B <| W fun a ha => m (ret2 q ha q q ⟨aa, af, aN, q, aO⟩)
 refine y <| C <| rR <| qm q <| O h fun bD aP h => have aQ := ab.viewG (Vw.d Vw.refl); U0 q c134 (w_impl_firstIn aP (hp0.c) aQ) fun aR aS => have ad := ab.cV0 [] aS all_nil; qm q <| qi (zv q q) q <| qi (zv q q) q <| qa q <| qa q <| rN <| qm q <| qi (qt_geq q q) q <| B ?_
 refine Yh q h (fun h => ?_) (fun h => ?_)
 ·refine rR <| qm q <| qm q <| O h fun aT ah h => have aU := ad.viewG (Vw.d Vw.refl); qb aU hR0 ah u89 i36 q fun bE bF bG aV => ?_
  obtain ⟨aW, al, aX, bH, bI, bJ⟩ := Holds.ns ad (Foc.refl) ah aV
  refine XL_load_cell u36 q aX q q q <| qm q <| O h fun bK aq h => ?_
  have aY : Ctx aR ([.ro ty2 aW aT, .ro ty4 aa x8] ++ G) := ad.viewG (Vw.dp (NsOk.ns (Foc.refl) ah al (NsOk.self NsOk.nil)) Vw.refl)
  refine qb aY hR0 aq u36 i123 q fun bL bM bN aZ => qf uf123 fi123_1 nz3 q ?_
  obtain ⟨bO, a0⟩ := Holds.borrow ad (Foc.refl) ah al
  refine WL_storeH (fo := 1) (cs' := [iV 2]) a0 aq aZ (Upd.snd (Upd.whole (Blt.int))) q il3 q q q q fun bP a1 => ?_
  obtain ⟨a4, a5⟩ := Holds.giveBack q a1.p1.p1 al
  cases h
  exact rN <| qm q <| qa q <| qa q <| B <| W fun a ha => m (ret2 q ha q q ⟨aa, af, a4, q, a5⟩)
 refine y <| C <| rR <| qm q <| O h fun bQ a6 h => have a7 := ad.viewG (Vw.d Vw.refl); U0 q c135 (w_impl_NextFire a6 (hp0.c) a7) fun a8 a9 => have ae := ad.cV0 [] a9 all_nil; qm q <| qi (zv q q) q <| qi (zv q q) q <| qa q <| qa q <| rN <| qm q <| qi (qt_geq q q) q <| B ?_
 refine Yh q h (fun h => ?_) (fun h => ?_)
 ·refine rR <| qm q <| qm q <| O h fun ba aj h => have bb := ae.viewG (Vw.d Vw.refl); qb bb hR0 aj u89 i36 q fun bR bS bT bc => ?_
  obtain ⟨bd, am, be, bU, bV, bW⟩ := Holds.ns ae (Foc.refl) aj bc
  refine XL_load_cell u36 q be q q q <| qm q <| O h fun bX ar h => ?_
  have bf : Ctx a8 ([.ro ty2 bd ba, .ro ty4 aa x8] ++ G) := ae.viewG (Vw.dp (NsOk.ns (Foc.refl) aj am (NsOk.self NsOk.nil)) Vw.refl)
  refine qb bf hR0 ar u36 i123 q fun bY bZ b0 bg => qf uf123 fi123_1 nz3 q ?_
  obtain ⟨b4, bh⟩ := Holds.borrow ae (Foc.refl) aj am
  refine WL_storeH (fo := 1) (cs' := [iV 1]) bh ar bg (Upd.snd (Upd.whole (Blt.int))) q il3 q q q q fun b5 bi => ?_
  obtain ⟨bl, bm⟩ := Holds.giveBack q bi.p1.p1 am
  cases h
  exact rN <| qm q <| qa q <| qa q <| B <| W fun a ha => m (ret2 q ha q q ⟨aa, af, bl, q, bm⟩)
 cases h
 exact y <| rR <| qm q <| qa q <| qa q <| B <| W fun a ha => ret2 q ha q q ⟨aa, af, aw, q, ae⟩
theorem w_impl_doWork (w : World) (G : List Res) (bp0 : Nat) (A0 : Value) (B0 : LI) (csp0_0 : List Value) (Fp0_0 : List Nat) (A1 : Value) (B1 : List Int) (A2 : Value) (B2 : List Int) (B3 : Int) (A4 : Value) (B4 : LT) (csp0_4 : List Value) (Fp0_4 : List Nat) (r : LT × Bool) (h : impl_doWorkS B0 B1 B2 B3 B4 = some r) (H : Ctx w ([.bx bp0 27 [A0, A1, A2, iV B3, A4], dpR 70 dt15 A0 csp0_0 B0 Fp0_0, .sl 3 tI A1 B1, .sl 3 tI A2 B2, dpR 38 dt16 A4 csp0_4 B4 Fp0_4] ++ G)) : Calls Tryz.prog 71 #[pB bp0] w fun e w' => ∃ (dsp0_4 : List Value) (Ep0_4 : List Nat), e = .returned (.bool r.2) ∧ Holds (([.bx bp0 27 [A0, A1, A2, iV B3, A4], dpR 70 dt15 A0 csp0_0 B0 Fp0_0, .sl 3 tI A1 B1, .sl 3 tI A2 B2, dpR 38 dt16 A4 csp0_4 B4 Fp0_4] : List Res).flatMap Res.own) w w' [.bx bp0 27 [A0, A1, A2, iV B3, A4], dpR 70 dt15 A0 csp0_0 B0 Fp0_0, .sl 3 tI A1 B1, .sl 3 tI A2 B2, dpR 38 dt16 A4 dsp0_4 r.1 Ep0_4] G := by
 have H : Holds (([.bx bp0 27 [A0, A1, A2, iV B3, A4], dpR 70 dt15 A0 csp0_0 B0 Fp0_0, .sl 3 tI A1 B1, .sl 3 tI A2 B2, dpR 38 dt16 A4 csp0_4 B4 Fp0_4] : List Res).flatMap Res.own) w w [.bx bp0 27 [A0, A1, A2, iV B3, A4], dpR 70 dt15 A0 csp0_0 B0 Fp0_0, .sl 3 tI A1 B1, .sl 3 tI A2 B2, dpR 38 dt16 A4 csp0_4 B4 Fp0_4] G := zb H
 refine zg (args := [pB bp0]) (n := 33) Tryz.func71 q q q ?_
 unfold impl_doWorkS at h
 refine rR <| qa q <| rN <| qm q <| qn q <| have ax := R H.p0; zm (cs := [A0, A1, A2, iV B3, A4]) us27 uo27 il27 ax q q q ?_
 change XL _ _ _ _ _ ((10, .agg #[A0, A1, A2, iV B3, A4]) :: _) _
 obtain ⟨x2, ay, h⟩ := D h
 refine have V4 := H.viewG (Vw.c (Vw.d (Vw.c (Vw.c (Vw.d Vw.refl))))); zd q q c92 (w_impl_kitchenOf ay hR1 hS2 hS3 hR4 V4) q ?_
 rintro _ w5 ⟨v7, a2, F9, rfl, H6⟩; refine ⟨_, q, ?_⟩
 have am := H.cV1 [] H6 (zc Pure.dp all_nil)
 obtain ⟨ao, az, h⟩ := D h
 refine have aA := am.viewG (Vw.d (Vw.c (Vw.d (Vw.c (Vw.c (Vw.d Vw.refl)))))); zd q q c110 (w_impl_WorkStep az hR0 aA) q ?_
 rintro _ a3 ⟨ap, aB, aC, rfl, aD⟩; refine ⟨_, q, ?_⟩
 refine have ae := am.cV1 [] aD (zc Pure.dp all_nil); qm q <| qi (zv q q) q <| qi (zv q q) q <| qa q <| qa q <| B <| C <| rR <| qm q <| qi (qt_not q) q <| B ?_
 refine Y q (fun af => ?_) (fun af => ?_)
 ·refine have h := if_t af h; rR <| qa q <| B <| W fun a ha => ?_
  obtain rfl := L h
  exact m (ret1 q ha q ⟨csp0_4, Fp0_4, q, ae.q0.q0.p4.p4.p4.p4.p4⟩)
 refine have h := if_f af h; y <| C <| rR <| qm q <| have aF := ae.viewG (Vw.d (Vw.d (Vw.c (Vw.d (Vw.c (Vw.c (Vw.d Vw.refl))))))); qz aF hR0 u89 q <| qm q <| B <| g ?_
 obtain ⟨aq, aG, h⟩ := D h
 refine fun aI ar => zp (I := fun s a w2 => match s with | (ab, au) => ∃ ag ah FsK, 0 ≤ ab ∧ Fr a 33 [(0, pB bp0), (17, ap), (18, iV (List.length ao.1 : Int)), (19, iV ab)] ∧ Holds (([.bx bp0 27 [A0, A1, A2, iV B3, A4], dpR 70 dt15 A0 csp0_0 B0 Fp0_0, .sl 3 tI A1 B1, .sl 3 tI A2 B2, dpR 38 dt16 A4 csp0_4 B4 Fp0_4] : List Res).flatMap Res.own) w w2 [.bx bp0 27 [A0, A1, A2, iV B3, A4], dpR 70 dt15 A0 csp0_0 B0 Fp0_0, .sl 3 tI A1 B1, .sl 3 tI A2 B2, dpR 38 dt16 A4 ag au ah, sufR 36 dt6 ap aB ao.1 (Int.toNat ab) FsK] G) (O := fun o e a w2 => match o with | q0 => e = .exit 0 ∧ ∃ aJ aK, Fr a 33 [(0, pB bp0)] ∧ Holds (([.bx bp0 27 [A0, A1, A2, iV B3, A4], dpR 70 dt15 A0 csp0_0 B0 Fp0_0, .sl 3 tI A1 B1, .sl 3 tI A2 B2, dpR 38 dt16 A4 csp0_4 B4 Fp0_4] : List Res).flatMap Res.own) w w2 [.bx bp0 27 [A0, A1, A2, iV B3, A4], dpR 70 dt15 A0 csp0_0 B0 Fp0_0, .sl 3 tI A1 B1, .sl 3 tI A2 B2, dpR 38 dt16 A4 aJ q0 aK] G) aG ?_ ?_ ?_
 ·exact ⟨csp0_4, Fp0_4, aC, by decide, ar.sub ⟨q, q, q, q, trivial⟩, ((((ae.q1.p5.p5.p5.p5.p5.p5.suf.p5).p5).p5).p5).p5⟩
 ·clear ar
  intro s a4 a a5 aa aL
  obtain ⟨ab, au⟩ := s
  obtain ⟨ag, ah, FsK, hnn, ha, aj⟩ := aL
  refine S ?_ ha
  clear ha
  refine rR <| qi (qt_lss q q) q <| B <| C ?_
  refine Y q (fun ak => ?_) (fun ak => ?_)
  ·refine have aa := if_t ak aa; y <| C <| g <| rR <| qm q ?_
   obtain ⟨av, ad, aa⟩ := D aa
   obtain ⟨bK, capK, hvK, hmK⟩ := Holds.suf_at aj.p5 ad
   obtain ⟨vK, aM, hcK, hpK, hqK, HKa⟩ := Holds.take aj.p5 (zz ad) hvK
   refine XL_indexK ad u89 i36 q (by rw [hvK]; rfl) q q <| have al := HKa; XL_load_cell u36 q hcK q q q <| qa q <| qa q <| B <| Z <| qm q <| qn q <| qf uf27 fi27_4 nz25 q <| have aN := R al.p2; l u25 q aN q q q q <| qm q <| qm q ?_
   obtain ⟨a6, aw, aa⟩ := D aa
   refine have aO := al.viewG (Vw.c (Vw.c (Vw.c (Vw.d (Vw.c (Vw.c (Vw.d Vw.refl))))))); qb aO hR6 aw u25 i38 q fun a7 a8 a9 aP => qf uf38 fi38_1 nz36 q <| WL_storeD (Rs := [.sl 123 ty2 vK av]) (fo := 1) (cs' := [vK]) al.p6.p1 aw aP (Foc.snd (Foc.fst Foc.refl)) (DBlt.cast (DBlt.sl (e := 123) (t := ty2) (v := vK) (x := av) q) q q) (by rw [hpK]) il36 q q q fun aR aS ba aT => WL_nil fun a ha => ?_
   refine zi (X (S ?_ ha))
   refine Z <| qi (qt_add q q) q <| qm q <| WL_nil fun a ha => ?_
   obtain rfl := L aa
   have hwK : IntKind.wrap .i64 (ab + 1) = ab + 1 := IntWalk.i64_in _ ⟨by omega, by have := (geti_lt ad).2; simp only [maxLen] at hmK; omega⟩
   exact ⟨q, aR, aS, aM, by rw [hwK]; omega, ha.sub ⟨q, q, q, q, trivial⟩, by rw [hwK, show Int.toNat (ab + 1) = Int.toNat ab + 1 by omega]; exact aT.p1.p1.p5.p5.p5.p5⟩
  refine have aa := if_f ak aa; WP_exit fun a ha => ?_
  obtain rfl := L aa
  exact zo (⟨exit_ne, q, ag, ah, ha.sub ⟨q, trivial⟩, aj.q5.p4.p4.p4.p4.p4⟩)
 intro e aI bb aW
 obtain ⟨bc, rfl⟩ : ∃ z, z = aq := ⟨aq, q⟩
 obtain ⟨rfl, aX⟩ := aW
 obtain ⟨aY, aZ, ha, a0⟩ := aX
 refine zn (X (S ?_ ha))
 refine rR <| qa q <| B <| W fun a ha => ?_
 obtain rfl := L h
 exact ret1 q ha q ⟨aY, aZ, q, a0.p4.p4.p4.p4.p4⟩
theorem w_impl_TicketCourse {w G vp0 p0 r} (h : impl_TicketCourseS p0 = some r) (hp0 : Has G ty2 vp0 p0) (H : Ctx w G) : Calls Tryz.prog 136 #[vp0] w fun e w' => e = .returned (iV r) ∧ Holds M0 w w' [] G := by
 refine F0 32 H Tryz.func136 q fun H => ?_
 refine rR <| qa q <| B <| C <| C <| zk <| qm q <| O h fun x1 ak h => qc q c104 H (fun _ => w_impl_TicketValid ak (hp0)) <| qi (qt_not q) q <| Qn H fun a ha w3 H5 => X <| S1 ha ?_
 refine Yh q h (fun h => ?_) (fun h => ?_)
 ·cases h
  exact rR <| qa q <| B <| W fun a ha => m (ret1 q ha q ⟨q, H5⟩)
 refine y <| rR <| qa q <| B <| C <| rR <| qm q <| qz H5.ctx (hp0) u36 q <| qm q <| B <| g <| O h fun o9 al h => ?_
 refine fun az am => zp (I := fun (s7, s8) a w2 => (Fr a 32 [(3, iV s7), (9, vp0), (10, iV (List.length p0 : Int)), (11, iV s8)] ∧ Holds M0 w w2 [] G)) (O := fun q0 e a w2 => e = .exit 0 ∧ (Fr a 32 [(3, iV q0)] ∧ Holds M0 w w2 [] G)) al ?_ ?_ ?_
 ·exact ⟨am.s, H5⟩
 ·rintro ⟨s7, s8⟩ _ a aA aa ⟨ha, af⟩
  refine S1 ha <| rR <| qi (qt_lss q q) q <| B <| C ?_
  refine Yh q aa (fun aa => ?_) (fun aa => ?_)
  ·refine y <| C <| g <| rR <| O aa fun ab aj aa => qe af (hp0) aj u36 i123 q fun _ _ ao => lP [iV ab.1, iV ab.2] us123 uo123 i123 ao q q q q <| zq (cs := [iV 0, iV 0]) af z123 q q q fun aE aF ap => zl (cs' := [iV ab.1, iV ab.2]) ap q il123 q q q q q fun aG ag => B <| C <| zk <| eA ag.p0 us123 uo123 il123 q <| O aa fun aq ar aa => qc q c122 ag (fun _ => w_impl_finished ar) <| qi (qt_not q) q <| qm q ?_
   refine Ga (res := ((!aq) && ((decide (s7 < 0)) || (decide (ab.1 < s7))))) 8 an (fun ad aH au => ?_) ?_
   ·refine jm ad q <| ji (qt_lss q q) ad q <| jm ad q ?_
    refine Go (res := ((decide (s7 < 0)) || (decide (ab.1 < s7)))) (hw := (J q ad)) 4 os (fun ae aI av => ?_) ?_
    ·exact jf uf123 fi123_0 nz3 ae q <| jl u3 ag.p0 ae q <| jm ae q <| ji (qt_lss q q) ae q <| av 4 q q q (oi ae)
    exact au 4 q q q (ai ad)
   refine Qn ag fun a ha aJ ah => X <| S1 ha ?_
   refine Yh q aa (fun aa => ?_) (fun aa => ?_)
   ·cases aa
    exact Z <| qf uf123 fi123_0 nz3 q <| ql u3 ah.p0 q <| qa q <| WL_nil fun a ha => zi <| X <| S1 ha <| Z <| qi (qt_add q q) q <| qm q <| WL_nil fun a ha => ⟨q, ha.s, ah.q0⟩
   cases aa
   exact WP_skip fun a ha => zi <| X <| S1 ha <| Z <| qi (qt_add q q) q <| qm q <| WL_nil fun a ha => ⟨q, ha.s, ah.q0⟩
  cases aa
  exact WP_exit fun a ha => zo (⟨exit_ne, q, ha.s, af⟩)
 rintro _ a aK ⟨rfl, ha, ay⟩
 refine zn <| X <| S1 ha <| rR <| qm q <| qa q <| B <| W fun a ha => ?_
 obtain rfl := L h
 exact ret1 q ha q ⟨q, ay⟩
theorem w_impl_TicketDone {w G vp0 p0 r} (h : impl_TicketDoneS p0 = some r) (hp0 : Has G ty2 vp0 p0) (H : Ctx w G) : Calls Tryz.prog 111 #[vp0] w fun e w' => e = .returned (.bool r) ∧ Holds M0 w w' [] G := by
 refine F0 10 H Tryz.func111 q fun H => ?_
 refine rR <| qa q <| B <| C <| zk <| qm q <| O h fun x1 ad h => qc q c104 H (fun _ => w_impl_TicketValid ad (hp0)) <| qm q <| O h fun b3 aa h => ?_
 refine Ga (res := b3) 3 (if_f · aa) (fun ab K6 ae => ?_) ?_
 ·exact have aa := if_t ab aa; jm ab q <| O aa fun x8 af aa => jc ab q c136 H (fun _ => w_impl_TicketCourse af (hp0)) <| ji (qt_lss q q) ab q <| ae 3 q q q aa
 refine qa q <| Qn H fun a ha ah ag => X <| S1 ha <| W fun a ha => ?_
 obtain rfl := L h
 exact ret1 q ha q ⟨q, ag⟩
theorem w_impl_TableBill {w G A0 B0 A1 B1 A2 B2 B3 A4 B4 p1 r} (h : impl_TableBillS B0 B1 B2 B3 B4 p1 = some r) (C0 : Has G ty12 A0 B0) (C1 : Has G tI A1 B1) (C2 : Has G tI A2 B2) (C4 : Has G ty14 A4 B4) (H : Ctx w G) : Calls Tryz.prog 94 #[.agg #[A0, A1, A2, iV B3, A4], iV p1] w fun e w' => e = .returned (iV r) ∧ Holds M0 w w' [] G := by
 refine F0 54 H Tryz.func94 q fun H => ?_
 refine C <| Z <| WL_box (cs := [A0, A1, A2, iV B3, A4]) H q q q q fun b1 w2 H3 => qa q <| B <| C <| C <| zk <| eA H3.p0 us27 uo27 il27 q <| O h fun x6 ax h => qc q c17 H3 (fun _ => w_impl_HouseValid ax (C0.c) (C1.c) (C2.c) (C4.c)) <| qi (qt_not q) q <| qm q ?_
 refine Go (res := ((!x6) || (decide (p1 < 0)))) 2 os (fun aj K9 ay => ?_) ?_
 ·exact jm aj q <| ji (qt_lss q q) aj q <| ay 2 q q q (oi aj)
 refine qm q ?_
 refine Go (res := (((!x6) || (decide (p1 < 0))) || (decide (p1 ≥ (List.length B4 : Int))))) 5 os (fun ab aP az => ?_) ?_
 ·exact jm ab q <| jf uf27 fi27_4 nz25 ab q <| jl u25 H3.p0 ab q <| jz H3.ctx (C4.c) u25 ab q <| ji (qt_geq q q) ab q <| az 5 q q q (oi ab)
 refine Qn H3 fun a ha aQ af => X <| S1 ha ?_
 refine Yh q h (fun h => ?_) (fun h => ?_)
 ·cases h
  exact rR <| qa q <| B <| W fun a ha => m (ret1 q ha q ⟨q, af.q0⟩)
 refine y <| rR <| qa q <| B <| C <| rR <| qf uf27 fi27_4 nz25 q <| ql u25 af.p0 q <| qm q <| O h fun ak al h => qe af (C4.c) al u25 i38 q fun _ _ aB => qf uf38 fi38_1 nz36 q <| eV u36 aB.s.f q fun am ao => qz ao.ctx hR0 u36 q <| qm q <| B <| g <| O h fun aU aC h => ?_
 refine fun aV aE => zp (I := fun (ap, aq) a w2 => (Fr a 54 [(1, iV p1), (2, pB b1), (5, iV ap), (27, am), (28, iV (List.length ak.2.1 : Int)), (29, iV aq)] ∧ Holds M0 w w2 [.bx b1 27 [A0, A1, A2, iV B3, A4], .ro ty2 am ak.2.1] G)) (O := fun q0 e a w2 => e = .exit 0 ∧ (Fr a 54 [(5, iV q0)] ∧ Holds M0 w w2 [] G)) aC ?_ ?_ ?_
 ·exact ⟨aE.s, ao.p1⟩
 ·rintro ⟨ap, aq⟩ _ a aW aa ⟨ha, ag⟩
  refine S1 ha <| rR <| qi (qt_lss q q) q <| B <| C ?_
  refine Yh q aa (fun aa => ?_) (fun aa => ?_)
  ·refine y <| C <| g <| rR <| qm q <| O aa fun ah ar aa => qe ag hR1 ar u36 i123 q fun _ _ aF => lP [iV ah.1, iV ah.2] us123 uo123 i123 aF q q q q <| zq (cs := [iV 0, iV 0]) ag z123 q q q fun a0 a1 aG => qa q <| zl (cs' := [iV ah.1, iV ah.2]) aG q il123 q q q q q fun a2 ad => rN <| qf uf123 fi123_1 nz3 q <| ql u3 ad.p0 q <| qi (qt_eql q q) q <| B ?_
   refine Yh q aa (fun aa => ?_) (fun aa => ?_)
   ·refine WP_quiet (by kernel_rfl) (by kernel_rfl) <| qm q <| qf uf27 fi27_1 nz24 q <| ql u24 ad.p1 q <| qf uf27 fi27_4 nz25 q <| ql u25 ad.p1 q <| qm q <| O aa fun a3 au aa => qe ad (C4.c.c.c) au u25 i38 q fun _ _ aH => qf uf38 fi38_2 nz24 q <| eV u24 aH.s.s q fun a7 ae => qm q <| O aa fun a8 av aa => qe ae hR0 av u24 i3 q fun _ _ aI => eI u3 aI q <| O aa fun bc aw aa => qe ae (C1.c.c.c.c) aw u24 i3 q fun _ _ aJ => eI u3 aJ q <| qi (qt_add q q) q <| qa q <| Qn ae fun a ha bg aK => zi <| X <| S1 ha <| Z <| qi (qt_add q q) q <| qm q <| WL_nil fun a ha => ?_
    cases aa
    exact ⟨q, ha.s, aK.q0.q0.p1.p1⟩
   cases aa
   exact WP_skip fun a ha => zi <| X <| S1 ha <| Z <| qi (qt_add q q) q <| qm q <| WL_nil fun a ha => ⟨q, ha.s, ad.q0.p1.p1⟩
  cases aa
  exact WP_exit fun a ha => zo (⟨exit_ne, q, ha.s, ag.q0.q0⟩)
 rintro _ a bh ⟨rfl, ha, aO⟩
 refine zn <| X <| S1 ha <| rR <| qm q <| qa q <| B <| W fun a ha => ?_
 obtain rfl := L h
 exact ret1 q ha q ⟨q, aO⟩
theorem w_impl_doClose {w G bp0 A0 B0 csp0_0 Fp0_0 A1 B1 A2 B2 B3 A4 B4 csp0_4 Fp0_4 p1 r} (h : impl_doCloseS B0 B1 B2 B3 B4 p1 = some r) (H : Ctx w ([.bx bp0 27 [A0, A1, A2, iV B3, A4], dpR 70 dt15 A0 csp0_0 B0 Fp0_0, .sl 3 tI A1 B1, .sl 3 tI A2 B2, dpR 38 dt16 A4 csp0_4 B4 Fp0_4] ++ G)) : Calls Tryz.prog 72 #[pB bp0, iV p1] w fun e w' => ∃ (wp0_4 : Value) (dsp0_4 : List Value) (Ep0_4 : List Nat), e = .returned (.bool r.2.2) ∧ Holds (([.bx bp0 27 [A0, A1, A2, iV B3, A4], dpR 70 dt15 A0 csp0_0 B0 Fp0_0, .sl 3 tI A1 B1, .sl 3 tI A2 B2, dpR 38 dt16 A4 csp0_4 B4 Fp0_4] : List Res).flatMap Res.own) w w' [.bx bp0 27 [A0, A1, A2, iV r.1, wp0_4], dpR 70 dt15 A0 csp0_0 B0 Fp0_0, .sl 3 tI A1 B1, .sl 3 tI A2 B2, dpR 38 dt16 wp0_4 dsp0_4 r.2.1 Ep0_4] G := by
 refine F1 51 H Tryz.func72 q fun H => ?_
 refine rR <| qa q <| B <| C <| C <| zk <| qm q <| qi (qt_lss q q) q <| qm q ?_
 refine Go (res := ((decide (p1 < 0)) || (decide (p1 ≥ (List.length B4 : Int))))) 7 os (fun ab K2 aq => ?_) ?_
 ·exact jm ab q <| jm ab q <| jn ab q <| jf uf27 fi27_4 nz25 ab q <| jl u25 H.p0 ab q <| have V5 := H.viewG (Vw.c (Vw.d (Vw.c (Vw.c (Vw.d Vw.refl))))); jz V5 hR4 u25 ab q <| ji (qt_geq q q) ab q <| aq 7 q q q (oi ab)
 refine qm q <| O h fun b6 ad h => ?_
 refine Go (res := b6) 10 (if_t · ad) (fun aa K9 ar => ?_) ?_
 ·refine have ad := if_f aa ad; jm aa q <| jn aa q <| jf uf27 fi27_4 nz25 aa q <| jl u25 H.p0 aa q <| jm aa q <| O ad fun aR ae ad => have au := H.viewG (Vw.c (Vw.d (Vw.c (Vw.c (Vw.d Vw.refl))))); jb au hR4 ae u25 i38 aa q fun aS aT aU av => jf uf38 fi38_1 nz36 aa q <| have ah := H.p4; ?_
  obtain ⟨aV, aw, ax, aW, aX, aY⟩ := Holds.ns ah ((Foc.snd (Foc.fst Foc.refl))) ae av
  exact XL_load_cell u36 q ax (J q aa) q q <| O ad fun aZ ay ad => QC (J q aa) q c111 (fun w' hb => w_impl_TicketDone ay hR0 ((ah.grow hb).viewG (Vw.dp (NsOk.ns ((Foc.snd (Foc.fst Foc.refl))) ae aw (NsOk.self NsOk.nil)) (Vw.c (Vw.d (Vw.c (Vw.c Vw.refl))))))) (by rfl) <| ji (qt_not q) aa q <| ar 10 q q q ad
 refine Qn H fun a ha a0 aj => X <| S1 ha ?_
 refine Yh q h (fun h => ?_) (fun h => ?_)
 ·cases h
  exact rR <| qa q <| B <| W fun a ha => m (ret1 q ha q ⟨A4, csp0_4, Fp0_4, q, aj.p4.p4.p4.p4.p4⟩)
 refine y <| C <| O h fun aA aB h => ?_
 refine WP_join (M := fun a w2 => (Fr a 51 [(0, pB bp0), (1, iV p1)] ∧ Holds (([.bx bp0 27 [A0, A1, A2, iV B3, A4], dpR 70 dt15 A0 csp0_0 B0 Fp0_0, .sl 3 tI A1 B1, .sl 3 tI A2 B2, dpR 38 dt16 A4 csp0_4 B4 Fp0_4] : List Res).flatMap Res.own) w w2 [.bx bp0 27 [A0, A1, A2, iV (IntKind.wrap .i64 (B3 + aA)), A4], dpR 70 dt15 A0 csp0_0 B0 Fp0_0, .sl 3 tI A1 B1, .sl 3 tI A2 B2, dpR 38 dt16 A4 csp0_4 B4 Fp0_4] G)) ?_ ?_
 ·refine WP_ordersT (fun w1 w2 => Chg M0 w1 w2) 10 (by kernel_rfl) fun af aC => have ak := aj.grow aC; ?_
  have ag : Ctx af ([] ++ ([.bx bp0 27 [A0, A1, A2, iV B3, A4], .ro ty12 A0 B0, .sl 3 tI A1 B1, .sl 3 tI A2 B2, .ro ty14 A4 B4] ++ G)) := ak.viewG (Vw.c (Vw.d (Vw.c (Vw.c (Vw.d Vw.refl)))))
  have aD : Holds _ af af [] ([.bx bp0 27 [A0, A1, A2, iV B3, A4], .ro ty12 A0 B0, .sl 3 tI A1 B1, .sl 3 tI A2 B2, .ro ty14 A4 B4] ++ G) := zb (Rs := []) ag
  refine have Hc := aD; XQ (i := 0) q (by kernel_rfl) q Hc.chg q (fun _ => qt_move q) q q <| XQ (i := 1) q (by kernel_rfl) q Hc.chg q (fun _ => qt_nilCheck q) q q <| XQ (i := 2) q (by kernel_rfl) q Hc.chg q (fun _ => qt_fieldAddr uf27 fi27_3 nz3 q) q q <| have aE := HasB.bx (HasB.hd) Hc.ctx; XT (i := 3) q (by kernel_rfl) q Hc.chg q (qs_cell u3 q q (aE.cell (i := 3) q) Hc.chg (Ctx.outB ag (HasB.hd))) q q <| XQ (i := 4) q (by kernel_rfl) q Hc.chg q (fun _ => qt_move q) q q <| XQ (i := 5) q (by kernel_rfl) q Hc.chg q (fun _ => qt_nilCheck q) q q <| have aF := HasB.bx (HasB.hd) Hc.ctx; XT (i := 6) q (by kernel_rfl) q Hc.chg q (qs_agg (cs := [A0, A1, A2, iV B3, A4]) us27 uo27 il27 q (fun j z hj => by rw [Nat.zero_add]; exact aF.cell hj) Hc.chg (Ctx.outB ag (HasB.hd))) q q ?_
  change XC _ _ _ _ _ _ _ _ ((34, .agg #[A0, A1, A2, iV B3, A4]) :: _) _
  refine XQ (i := 7) q (by kernel_rfl) q Hc.chg q (fun _ => qt_move q) q q ?_
  repeat' first
   | refine XDo 8 q <| U0 q c94 (w_impl_TableBill aB hR1 hS2 hS3 hR4 Hc.ctx) fun _ HK => ?_; have Hc := Hc.cN0 [] HK; refine XN Hc.chg <| XQ (i := 9) q (by kernel_rfl) q Hc.chg q (fun _ => qt_add q q) q q ?_
   | have Hc := ak.cV0 [] Hc all_nil; refine XDo 10 q <| qn q <| XE q ?_
   | refine XDo 11 q <| qf uf27 fi27_3 nz3 q <| XE q ?_
   | refine XDo 12 q ?_; refine WL_store_bx Hc q il3 q q q q q (fun _ Hc => ?_); refine XE q ?_
   | refine XV [8] (by decide +kernel) q (allc ?_ alln)
   | refine XV [10] (by decide +kernel) q (allc ?_ alln)
   | refine XV [11] (by decide +kernel) q (allc ?_ alln)
   | refine XV [12] (by decide +kernel) q (allc ?_ alln)
   | refine XC_done (by decide +kernel) (fun a ha => ?_); have Hc := (((((Hc.p4).p4).p4).p4).p4); exact ⟨ha.s, Hc⟩
 rintro a aG ⟨ha, al⟩
 refine S1 ha <| rR <| qm q <| qm q <| qn q <| qf uf27 fi27_4 nz25 q <| ql u25 al.p0 q <| qm q <| qm q <| qi (qt_add q q) q <| have am := al.p4; O h fun aH aI h => have aJ := am.viewG (Vw.c (Vw.c (Vw.d (Vw.c (Vw.c Vw.refl))))); zd q q c112 (w_impl_Table aG _ A4 B4 csp0_4 Fp0_4 p1 (IntKind.wrap .i64 (p1 + 1)) aH aI aJ) (by rfl) ?_
 rintro _ a1 ⟨aK, aL, aM, rfl, aN⟩; refine ⟨_, q, ?_⟩
 cases h
 exact have aO := am.cV1 [_] aN (zc Pure.dp all_nil); qn q <| qf uf27 fi27_4 nz25 q <| have ao := aO.p1; have ap := ao.viewG (Vw.c (Vw.d (Vw.d (Vw.c (Vw.c Vw.refl))))); WL_store_bx ao q il25 (ap.sliceCells hR1) (ap.sliceOne hR1) q q q fun a2 aP => rN <| qa q <| B <| W fun a ha => ret1 q ha q ⟨aK, aL, aM, q, aP.p1.p4.p4.p4.p4⟩
end Go.Proofs.YtkhnponakhabdaaGreatDoor
