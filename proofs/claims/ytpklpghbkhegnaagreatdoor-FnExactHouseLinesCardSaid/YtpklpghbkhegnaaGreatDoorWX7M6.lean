/- The walks: each Go function computes its shallow function. Printed by a program. -/
import Derived.Test.YtpklpghbkhegnaaGreatDoorWX7M5
set_option linter.unusedVariables false
set_option maxRecDepth 10000
set_option maxHeartbeats 8000000
namespace Go.Proofs.YtpklpghbkhegnaaGreatDoor
open Go Go.RowKit
theorem w_impl_copyItem {w G B0 A1 B1 B2 r} (h : impl_copyItemS B0 B1 B2 = some r) (C1 : Has G ty2 A1 B1) (H : Ctx w G) : Calls Tryz.prog 90 #[.agg #[iV B0, A1, iV B2]] w fun e w' => ∃ (v1 : Value), e = .returned (.agg #[iV r.1, v1, iV r.2.2]) ∧ Holds M0 w w' [.sl 152 ty2 v1 r.2.1] G := by
 refine F0 24 H Tryz.func90 q fun H => ?_
 refine C <| Z <| WL_box (cs := [iV B0, A1, iV B2]) H q q q q fun b1 w2 H3 => zq (cs := [iV 0, nS, iV 0]) H3 z95 q q q fun b5 w6 H7 => rN <| qf uf95 fi95_0 nz3 q <| ql u3 H7.p1 q <| qf uf95 fi95_2 nz3 q <| ql u3 H7.p1 q <| qi (qt_build (args := [(0, .tmp 5), (2, .tmp 7)]) (css := [#[iV B0], #[iV B2]]) (cells := #[iV B0, nS, iV B2]) q ⟨q, q, trivial⟩ (by kernel_rfl)) q <| zq (cs := [iV 0, nS, iV 0]) H7 z95 q q q fun ah az ak => zl (cs' := [iV B0, nS, iV B2]) ak q il95 q q q q q fun aA ab => B <| C <| rR <| qf uf95 fi95_1 nz93 q <| ql u93 ab.p2 q <| qz ab.ctx (C1.c.c.c) u93 q <| qi (qt_gtr q q) q <| B <| O h fun al aa h => ?_
 refine WP_join (M := fun a w2 => ∃ ad, Fr a 24 [(2, pB b5), (3, pB ah)] ∧ Holds M0 w w2 [.bx b5 95 [iV 0, nS, iV 0], .bx ah 95 [iV B0, ad, iV B2], .sl 152 ty2 ad al] G) ?_ ?_
 ·refine Yh q aa (fun aa => ?_) (fun aa => ?_)
  ·refine rR <| qf uf95 fi95_1 nz93 q <| ql u93 ab.p2 q <| qz ab.ctx (C1.c.c.c) u93 q <| O aa fun aB am aa => WL_makeH ab am u93 j152 q (fun _ => ⟨_, _, [], [], q, q, ⟨q, q⟩, ⟨q, q⟩⟩) q q q q q fun ao aC ap => qf uf95 fi95_1 nz93 q <| have ae := ap.p1; WL_store_bx ae q il93 (ae.ctx.sliceCells hS1) (ae.ctx.sliceOne hS1) q q q fun aD af => B <| Z <| qf uf95 fi95_1 nz93 q <| ql u93 af.p0 q <| qf uf95 fi95_1 nz93 q <| ql u93 af.p3 q <| WL_copyH q af.p1 (C1.c.c.c.c) q u93 i152 q q q q fun aE ar => WL_nil fun a ha => ?_
   cases aa
   exact X (⟨ao, ha.s, ar.q3.p1.p2⟩)
  cases aa
  exact WP_skip fun a ha => have av := ab.nS 152 ty2; X (⟨(nS), ha.s, av.q3.p1.p2⟩)
 rintro a aF ⟨ad, ha, ag⟩
 cases h
 exact S1 ha <| rR <| eA ag.p1 us95 uo95 il95 q <| zl (cs' := [iV B0, ad, iV B2]) ag q il95 q (T q (T (ag.ctx.sliceOne hS2) (T q q))) q q q fun aG aj => B <| W fun a ha => have ax := R aj.p0; retc q ha q (run_loadVar_bx (cs := [iV B0, ad, iV B2]) us95 uo95 il95 ax) ⟨ad, q, aj.q0.q0⟩
theorem w_impl_copyTicket {w G vp0 p0 r} (h : impl_copyTicketS p0 = some r) (hp0 : Has G ty2 vp0 p0) (H : Ctx w G) : Calls Tryz.prog 91 #[vp0] w fun e w' => ∃ (v1 : Value), e = .returned (v1) ∧ Holds M0 w w' [.sl 103 ty2 v1 r] G := by
 refine F0 14 H Tryz.func91 q fun H => ?_
 refine rR <| qa q <| B <| C <| rR <| qm q <| qz H.ctx (hp0) u87 q <| qi (qt_eql q q) q <| B ?_
 refine Yh q h (fun h => ?_) (fun h => ?_)
 ·cases h
  exact rR <| qa q <| B <| W fun a ha => have H1 := H.nS 103 ty2; m (ret1 q ha q ⟨(nS), q, H1⟩)
 refine y <| rR <| qm q <| qz H.ctx (hp0) u87 q <| O h fun x2 aa h => WL_makeH H aa u87 j103 q (fun _ => ⟨_, _, [], [], q, q, ⟨q, q⟩, ⟨q, q⟩⟩) q q q q q fun v4 w5 H6 => qa q <| rN <| qm q <| qm q <| WL_copyH q H6 (hp0.c) q u87 i103 q q q q fun w8 H9 => rN <| qm q <| qa q <| B <| W fun a ha => ?_
 cases h
 exact ret1 q ha q ⟨v4, q, H9⟩
theorem w_impl_copyHouse {w G A0 B0 A1 B1 A2 B2 B3 A4 B4 r} (h : impl_copyHouseS B0 B1 B2 B3 B4 = some r) (C0 : Has G ty12 A0 B0) (C1 : Has G tI A1 B1) (C2 : Has G tI A2 B2) (C4 : Has G ty14 A4 B4) (H : Ctx w G) : Calls Tryz.prog 44 #[.agg #[A0, A1, A2, iV B3, A4]] w fun e w' => ∃ (v1 : Value) (csv1 : List Value) (Fv1 : List Nat) (v4 : Value) (v5 : Value) (v6 : Value) (csv6 : List Value) (Fv6 : List Nat), e = .returned (.agg #[v1, v4, v5, iV r.2.2.2.1, v6]) ∧ Holds M0 w w' [dpR 95 dt15 v1 csv1 r.1 Fv1, .sl 3 tI v4 r.2.1, .sl 3 tI v5 r.2.2.1, dpR 89 dt16 v6 csv6 r.2.2.2.2 Fv6] G := by
 refine F0 55 H Tryz.func44 q fun H => ?_
 refine C <| Z <| WL_box (cs := [A0, A1, A2, iV B3, A4]) H q q q q fun b1 w2 H3 => zq (cs := [nS, nS, nS, iV 0, nS]) H3 z31 q q q fun b5 w6 H7 => B <| C <| O h fun aj bh h => O h fun ak aT h => ?_
 refine WP_join (M := fun a w2 => ∃ ad aN aU aV aa ab af aC aD, Fr a 55 [(1, pB b1), (2, pB b5), (3, pB ad)] ∧ Holds M0 w w2 [.bx b1 31 [A0, A1, A2, iV B3, A4], .bx b5 31 [nS, nS, nS, iV 0, nS], .bx ad 31 [aN, aa, ab, iV B3, af], dpR 95 dt15 aN aU ([]) aV, .sl 3 tI aa aj, .sl 3 tI ab ak, dpR 89 dt16 af aC ([]) aD] G) ?_ ?_
 ·refine WP_ordersT (fun w1 w2 => Chg M0 w1 w2) 10 (by kernel_rfl) fun aW bz => have aO := H7.grow bz; ?_
  have aP : Ctx aW ([] ++ ([.bx b5 31 [nS, nS, nS, iV 0, nS], .bx b1 31 [A0, A1, A2, iV B3, A4]] ++ G)) := aO.ctx
  have bA : Holds _ aW aW [] ([.bx b5 31 [nS, nS, nS, iV 0, nS], .bx b1 31 [A0, A1, A2, iV B3, A4]] ++ G) := zb (Rs := []) aP
  refine have Hc := bA; XQ (i := 0) q (by kernel_rfl) q Hc.chg q (fun _ => qt_fieldAddr uf31 fi31_1 nz23 q) q q <| have bB := HasB.bx (HasB.c (HasB.hd)) Hc.ctx; XT (i := 1) q (by kernel_rfl) q Hc.chg q (qs_cell u23 q q (bB.cell (i := 1) q) Hc.chg (Ctx.outB aP (HasB.c (HasB.hd)))) q q <| XQ (i := 3) q (by kernel_rfl) q Hc.chg q (fun _ => qt_fieldAddr uf31 fi31_2 nz23 q) q q <| have bC := HasB.bx (HasB.c (HasB.hd)) Hc.ctx; XT (i := 4) q (by kernel_rfl) q Hc.chg q (qs_cell u23 q q (bC.cell (i := 2) q) Hc.chg (Ctx.outB aP (HasB.c (HasB.hd)))) q q <| XQ (i := 6) q (by kernel_rfl) q Hc.chg q (fun _ => qt_fieldAddr uf31 fi31_3 nz3 q) q q <| have bD := HasB.bx (HasB.c (HasB.hd)) Hc.ctx; XT (i := 7) q (by kernel_rfl) q Hc.chg q (qs_cell u3 q q (bD.cell (i := 3) q) Hc.chg (Ctx.outB aP (HasB.c (HasB.hd)))) q q ?_
  repeat' first
   | refine XDo 2 q <| U1 q c89 (w_impl_copyInts bh (C1.c.c) Hc.ctx) fun aq _ HK => ?_; have Hc := Hc.cN1 [] HK; refine XN Hc.chg ?_
   | refine XDo 2 q <| U1 q c89 (w_impl_copyInts bh (C1.c.c.c) Hc.ctx) fun aq _ HK => ?_; have Hc := Hc.cN1 [] HK; refine XN Hc.chg ?_
   | refine XDo 5 q <| U1 q c89 (w_impl_copyInts aT (C2.c.c.c) Hc.ctx) fun am _ HK => ?_; have Hc := Hc.cN1 [] HK; refine XN Hc.chg <| XQ (i := 8) q (by kernel_rfl) q Hc.chg q (fun _ => qt_build (args := [(1, .tmp 10), (2, .tmp 13), (3, .tmp 15)]) (css := [#[aq], #[am], #[iV B3]]) (cells := #[nS, aq, am, iV B3, nS]) q ⟨(Hc.ctx.sliceCells hS1), (Hc.ctx.sliceCells hS0), q, trivial⟩ (by kernel_rfl)) q q ?_
   | refine XDo 5 q <| U1 q c89 (w_impl_copyInts aT (C2.c.c.c.c) Hc.ctx) fun am _ HK => ?_; have Hc := Hc.cN1 [] HK; refine XN Hc.chg <| XQ (i := 8) q (by kernel_rfl) q Hc.chg q (fun _ => qt_build (args := [(1, .tmp 10), (2, .tmp 13), (3, .tmp 15)]) (css := [#[aq], #[am], #[iV B3]]) (cells := #[nS, aq, am, iV B3, nS]) q ⟨(Hc.ctx.sliceCells hS2), (Hc.ctx.sliceCells hS0), q, trivial⟩ (by kernel_rfl)) q q ?_
   | refine XDo 5 q <| U1 q c89 (w_impl_copyInts aT (C2.c.c.c.c) Hc.ctx) fun am _ HK => ?_; have Hc := Hc.cN1 [] HK; refine XN Hc.chg <| XQ (i := 8) q (by kernel_rfl) q Hc.chg q (fun _ => qt_build (args := [(1, .tmp 10), (2, .tmp 13), (3, .tmp 15)]) (css := [#[aq], #[am], #[iV B3]]) (cells := #[nS, aq, am, iV B3, nS]) q ⟨(Hc.ctx.sliceCells hS1), (Hc.ctx.sliceCells hS0), q, trivial⟩ (by kernel_rfl)) q q ?_
   | refine XDo 9 q ?_; refine zq (cs := [nS, nS, nS, iV 0, nS]) Hc z31 q q q (fun bE _ Hc => ?_); refine XN Hc.chg ?_
   | have Hc := aO.cN3 [] Hc; refine XDo 10 q ?_; refine zl (cs' := [nS, aq, am, iV B3, nS]) Hc q il31 q (T q (T (Hc.ctx.sliceOne hS2) (T (Hc.ctx.sliceOne hS1) (T q (T q q))))) q q q (fun _ Hc => ?_); refine XE q ?_
   | have Hc := aO.cN3 [] Hc; refine XDo 10 q ?_; have Hc := Hc.p1; refine zl (cs' := [nS, aq, am, iV B3, nS]) Hc q il31 q (T q (T (Hc.ctx.sliceOne hS2) (T (Hc.ctx.sliceOne hS1) (T q (T q q))))) q q q (fun _ Hc => ?_); refine XE q ?_
   | have Hc := aO.cN3 [] Hc; refine XDo 10 q ?_; have Hc := Hc.p2; refine zl (cs' := [nS, aq, am, iV B3, nS]) Hc q il31 q (T q (T (Hc.ctx.sliceOne hS2) (T (Hc.ctx.sliceOne hS1) (T q (T q q))))) q q q (fun _ Hc => ?_); refine XE q ?_
   | refine XV [2, 9] (by decide +kernel) q (allc ?_ (allc ?_ alln))
   | refine XV [5, 9] (by decide +kernel) q (allc ?_ (allc ?_ alln))
   | refine XV [9] (by decide +kernel) q (allc ?_ alln)
   | refine XV [10] (by decide +kernel) q (allc ?_ alln)
   | refine XV [5] (by decide +kernel) q (allc ?_ alln)
   | refine XV [2] (by decide +kernel) q (allc ?_ alln)
   | refine XC_done (by decide +kernel) (fun a ha => ?_); have Hc := Hc.nD 95 dt15; have Hc := Hc.nD 89 dt16; have Hc := ((((((Hc.p3).p4).p3).p4).p5).p6); exact ⟨bE, (nS), [], [], aq, am, (nS), [], [], ha.s, Hc⟩
 rintro a cY ⟨ad, aN, aU, aV, aa, ab, af, aC, aD, ha, aX⟩
 refine S1 ha <| C <| rR <| qf uf31 fi31_0 nz28 q <| ql u28 aX.p0 q <| have bF := aX.viewG (Vw.c (Vw.c (Vw.c (Vw.d (Vw.c (Vw.c (Vw.d Vw.refl))))))); qz bF (C0.c.c.c.c.c.c.c) u28 q <| qm q <| B <| g <| O h fun aG bG h => ?_
 refine fun cZ bI => zp (I := fun (aY, aE) a w2 => ∃ ao aw ax, Fr a 55 [(1, pB b1), (2, pB b5), (3, pB ad), (18, A0), (19, iV (List.length B0 : Int)), (20, iV aY)] ∧ Holds M0 w w2 [.bx b1 31 [A0, A1, A2, iV B3, A4], .bx b5 31 [nS, nS, nS, iV 0, nS], .bx ad 31 [ao, aa, ab, iV B3, af], dpR 95 dt15 ao aw aE ax, .sl 3 tI aa aj, .sl 3 tI ab ak, dpR 89 dt16 af aC ([]) aD] G) (O := fun q0 e a w2 => e = .exit 0 ∧ ∃ aH aZ a0, Fr a 55 [(1, pB b1), (2, pB b5), (3, pB ad)] ∧ Holds M0 w w2 [.bx b1 31 [A0, A1, A2, iV B3, A4], .bx b5 31 [nS, nS, nS, iV 0, nS], .bx ad 31 [aH, aa, ab, iV B3, af], dpR 95 dt15 aH aZ q0 a0, .sl 3 tI aa aj, .sl 3 tI ab ak, dpR 89 dt16 af aC ([]) aD] G) bG ?_ ?_ ?_
 ·exact ⟨aN, aU, aV, bI.s, aX.p6.p6.p6.p6.p6.p6.p6⟩
 ·rintro ⟨aY, aE⟩ _ a bJ ar ⟨ao, aw, ax, ha, a1⟩
  refine S1 ha <| rR <| qi (qt_lss q q) q <| B <| C ?_
  refine Yh q ar (fun ar => ?_) (fun ar => ?_)
  ·refine y <| C <| g <| rR <| O ar fun ag bi ar => have bK := a1.viewG (Vw.c (Vw.c (Vw.c (Vw.d (Vw.c (Vw.c (Vw.d Vw.refl))))))); qb bK (C0.c.c.c.c.c.c.c) bi u28 i95 q fun c0 c1 c2 bL => ?_
   obtain ⟨c3, bM, bN⟩ := a1.atN (C0.c.c.c.c.c.c.c) bi bL
   refine XL_load_agg (t := ty12) us95 uo95 i95 bM q q q fun c4 bO => ?_
   obtain ⟨da, db, dc, dd, rfl, bP, bQ, bR⟩ := bO
   obtain ⟨rfl, _⟩ := bQ
   obtain ⟨de, df, dg, dh, rfl, bS, bT, bU⟩ := bR
   obtain ⟨au, rfl, bV⟩ := Rep.sl_inv bT
   obtain ⟨rfl, _⟩ := bU
   have bW : Holds _ w bJ [.ro ty2 au ag.2.1, .bx b1 31 [A0, A1, A2, iV B3, A4], .bx b5 31 [nS, nS, nS, iV 0, nS], .bx ad 31 [ao, aa, ab, iV B3, af], dpR 95 dt15 ao aw aE ax, .sl 3 tI aa aj, .sl 3 tI ab ak, dpR 89 dt16 af aC ([]) aD] G := bN [.ro ty2 au ag.2.1] ⟨⟨_, _, _, _, q, bV, (fun k h => (fun k h => (fun _ h => h) k (by rw [bP]; exact zx _ h)) k (by rw [bS]; exact List.mem_append_left _ h))⟩, trivial⟩
   change XL _ _ _ _ _ ((23, .agg #[iV ag.1, au, iV ag.2.2]) :: _) _
   refine zq (cs := [iV 0, nS, iV 0]) bW z95 q q q fun bj di bk => have bX := bk.viewG (Vw.c (Vw.c (Vw.c (Vw.c (Vw.c (Vw.d (Vw.c (Vw.c (Vw.d Vw.refl))))))))); zl (cs' := [iV ag.1, au, iV ag.2.2]) bk q il95 q (T q (T (bX.sliceOne hR1) (T q q))) q q q fun dj bY => B <| O ar fun av bZ ar => O ar fun b0 b4 ar => ?_
   refine WP_mid (Mid := fun a w2 => ∃ aQ a2 a3, Fr a 55 [(1, pB b1), (2, pB b5), (3, pB ad), (18, A0), (19, iV (List.length B0 : Int)), (20, iV aY)] ∧ Holds M0 w w2 [.bx b1 31 [A0, A1, A2, iV B3, A4], .bx b5 31 [nS, nS, nS, iV 0, nS], .bx ad 31 [aQ, aa, ab, iV B3, af], dpR 95 dt15 aQ a2 b0 a3, .sl 3 tI aa aj, .sl 3 tI ab ak, dpR 89 dt16 af aC ([]) aD] G) ?_ ?_
   ·refine WP_ordersT (fun w1 w2 => Chg (([dpR 95 dt15 ao aw aE ax] : List Res).flatMap Res.own) w1 w2) 6 (by kernel_rfl) fun a4 b6 => have b7 := bY.grow b6; have bl := b7.p5; ?_
    have a5 : Ctx a4 ([dpR 95 dt15 ao aw aE ax] ++ ([.bx bj 95 [iV ag.1, au, iV ag.2.2], .ro ty2 au ag.2.1, .bx b1 31 [A0, A1, A2, iV B3, A4], .bx b5 31 [nS, nS, nS, iV 0, nS], .bx ad 31 [ao, aa, ab, iV B3, af], .sl 3 tI aa aj, .sl 3 tI ab ak, .ro ty14 af ([])] ++ G)) := bl.viewG (Vw.c (Vw.c (Vw.c (Vw.c (Vw.c (Vw.c (Vw.c (Vw.c (Vw.d Vw.refl)))))))))
    have b8 : Holds _ a4 a4 [dpR 95 dt15 ao aw aE ax] ([.bx bj 95 [iV ag.1, au, iV ag.2.2], .ro ty2 au ag.2.1, .bx b1 31 [A0, A1, A2, iV B3, A4], .bx b5 31 [nS, nS, nS, iV 0, nS], .bx ad 31 [ao, aa, ab, iV B3, af], .sl 3 tI aa aj, .sl 3 tI ab ak, .ro ty14 af ([])] ++ G) := zb (Rs := [dpR 95 dt15 ao aw aE ax]) a5
    refine have Hc := b8; XQ (i := 0) q (by kernel_rfl) q Hc.chg q (fun _ => qt_fieldAddr uf31 fi31_0 nz28 q) q q <| have b9 := HasB.bx (HasB.c (HasB.c (HasB.c (HasB.c (HasB.c (HasB.hd)))))) Hc.ctx; XT (i := 1) q (by kernel_rfl) q Hc.chg q (qs_cell u28 q q (b9.cell (i := 0) q) Hc.chg (Ctx.outB a5 (HasB.c (HasB.c (HasB.c (HasB.c (HasB.hd))))))) q q <| have ca := HasB.bx (HasB.c (HasB.hd)) Hc.ctx; XT (i := 2) q (by kernel_rfl) q Hc.chg q (qs_agg (cs := [iV ag.1, au, iV ag.2.2]) us95 uo95 il95 q (fun j z hj => by rw [Nat.zero_add]; exact ca.cell hj) Hc.chg (Ctx.outB a5 (HasB.hd))) q q ?_
    change XC _ _ _ _ _ _ _ _ ((26, .agg #[iV ag.1, au, iV ag.2.2]) :: _) _
    repeat' first
     | refine XDo 3 q ?_; have cb := Hc.viewG (Vw.d Vw.refl); refine U1 q c90 (w_impl_copyItem bZ hR2 cb) fun a6 _ HK => ?_; have Hc := Hc.cV1 [] HK (zc (Pure.sl q) all_nil); refine XN Hc.chg ?_
     | refine XDo 4 q ?_; refine WL_buildD (Rs := [.sl 152 ty2 a6 av.2.1]) (d := dt15) (args := [.tmp 27]) (xs := ([(av.1, av.2.1, av.2.2)] : LI)) Hc (DBltL.one (cs' := [iV av.1, a6, iV av.2.2]) (DBlt.cast (DBlt.pair (DBlt.int (k := .i64) (n := av.1)) (DBlt.pair (DBlt.sl (e := 152) (t := ty2) (v := a6) (x := av.2.1) q) (DBlt.int (k := .i64) (n := av.2.2)))) q q) q) u28 j95 q q q q q q (fun dk dl dm _ Hc => ?_); refine XN Hc.chg ?_
     | refine XDo 5 q ?_; have Hc := Hc.p1; refine WL_appendD Hc b4 u28 j95 q q q q q q (fun cc cd ce _ Hc => ?_); refine XN Hc.chg ?_
     | have Hc := bl.cV1 [_] Hc (zc Pure.dp all_nil); refine XDo 6 q <| qf uf31 fi31_0 nz28 q <| XE q ?_
     | refine XDo 7 q ?_; have Hc := Hc.p5; have bm := Hc.viewG (Vw.c (Vw.d (Vw.c (Vw.c (Vw.c (Vw.c (Vw.c (Vw.c (Vw.d Vw.refl))))))))); refine WL_store_bx Hc q il28 (bm.sliceCells hR1) (bm.sliceOne hR1) q q q (fun _ Hc => ?_); refine XE q ?_
     | refine XV [3] (by decide +kernel) q (allc ?_ alln)
     | refine XV [4] (by decide +kernel) q (allc ?_ alln)
     | refine XV [5] (by decide +kernel) q (allc ?_ alln)
     | refine XV [6] (by decide +kernel) q (allc ?_ alln)
     | refine XV [7] (by decide +kernel) q (allc ?_ alln)
     | refine XC_done (by decide +kernel) (fun a ha => ?_); have Hc := (((((((((Hc.q2).q2).p6).p6).p6).p4).p4).p6).p6); exact ⟨cc, cd, ce, ha.s, Hc⟩
   rintro a dn ⟨aQ, a2, a3, ha, cf⟩
   cases ar
   exact zi <| X <| S1 ha <| Z <| qi (qt_add q q) q <| qm q <| WL_nil fun a ha => ⟨q, aQ, a2, a3, ha.s, cf.p6.p6.p6.p6.p6.p6.p6⟩
  cases ar
  exact WP_exit fun a ha => zo (⟨exit_ne, q, ao, aw, ax, ha.s, a1.p6.p6.p6.p6.p6.p6.p6⟩)
 rintro _ a dq ⟨rfl, ah, aI, aJ, ha, a7⟩
 refine zn <| X <| S1 ha <| C <| rR <| qf uf31 fi31_4 nz29 q <| ql u29 a7.p0 q <| have ci := a7.viewG (Vw.c (Vw.c (Vw.c (Vw.d (Vw.c (Vw.c (Vw.d Vw.refl))))))); qz ci (C4.c.c.c.c.c.c.c) u29 q <| qm q <| B <| g <| O h fun dr cj h => ?_
 refine fun ds cl => zp (I := fun (a8, aF) a w2 => ∃ ap ay az, Fr a 55 [(2, pB b5), (3, pB ad), (33, A4), (34, iV (List.length B4 : Int)), (35, iV a8)] ∧ Holds M0 w w2 [.bx b5 31 [nS, nS, nS, iV 0, nS], .bx ad 31 [ah, aa, ab, iV B3, ap], dpR 95 dt15 ah aI aG aJ, .sl 3 tI aa aj, .sl 3 tI ab ak, dpR 89 dt16 ap ay aF az] G) (O := fun q0 e a w2 => e = .exit 2 ∧ ∃ aH aZ a0, Fr a 55 [(2, pB b5), (3, pB ad)] ∧ Holds M0 w w2 [.bx b5 31 [nS, nS, nS, iV 0, nS], .bx ad 31 [ah, aa, ab, iV B3, aH], dpR 95 dt15 ah aI aG aJ, .sl 3 tI aa aj, .sl 3 tI ab ak, dpR 89 dt16 aH aZ q0 a0] G) cj ?_ ?_ ?_
 ·exact ⟨af, aC, aD, cl.s, a7.q0.p5.p5.p5.p5.p5.p5⟩
 ·rintro ⟨a8, aF⟩ _ a cm al ⟨ap, ay, az, ha, a9⟩
  refine S1 ha <| rR <| qi (qt_lss q q) q <| B <| C ?_
  refine Yh q al (fun al => ?_) (fun al => ?_)
  ·refine y <| C <| g <| rR <| O al fun ae bn al => have cn := a9.viewG (Vw.c (Vw.c (Vw.d (Vw.c (Vw.c (Vw.d Vw.refl)))))); qb cn (C4.c.c.c.c.c.c) bn u29 i89 q fun dt du dv co => ?_
   obtain ⟨dw, cp, cq⟩ := a9.atN (C4.c.c.c.c.c.c) bn co
   refine XL_load_agg (t := ty14) us89 uo89 i89 cp q q q fun dx cr => ?_
   obtain ⟨dy, dz, dA, dB, rfl, bo, ct, cu⟩ := cr
   obtain ⟨rfl, _⟩ := ct
   obtain ⟨dC, dD, dE, dF, rfl, bp, cv, cw⟩ := cu
   obtain ⟨aA, rfl, cx⟩ := Rep.sl_inv cv
   obtain ⟨aB, rfl, cy⟩ := Rep.sl_inv cw
   have cz : Holds _ w cm [.ro ty2 aA ae.2.1, .ro tI aB ae.2.2, .bx b5 31 [nS, nS, nS, iV 0, nS], .bx ad 31 [ah, aa, ab, iV B3, ap], dpR 95 dt15 ah aI aG aJ, .sl 3 tI aa aj, .sl 3 tI ab ak, dpR 89 dt16 ap ay aF az] G := cq [.ro ty2 aA ae.2.1, .ro tI aB ae.2.2] ⟨⟨_, _, _, _, q, cx, (fun k h => (fun k h => (fun _ h => h) k (by rw [bo]; exact zx _ h)) k (by rw [bp]; exact List.mem_append_left _ h))⟩, ⟨_, _, _, _, q, cy, (fun k h => (fun k h => (fun _ h => h) k (by rw [bo]; exact zx _ h)) k (by rw [bp]; exact zx _ h))⟩, trivial⟩
   change XL _ _ _ _ _ ((38, .agg #[iV ae.1, aA, aB]) :: _) _
   refine zq (cs := [iV 0, nS, nS]) cz z89 q q q fun bq dG br => have bs := br.viewG (Vw.c (Vw.c (Vw.c (Vw.c (Vw.c (Vw.d (Vw.c (Vw.c (Vw.d Vw.refl))))))))); zl (cs' := [iV ae.1, aA, aB]) br q il89 q (T q (T (bs.sliceOne hR1) (T (bs.sliceOne hR2) q))) q q q fun dH cA => B <| O al fun ba cB al => O al fun bb cC al => O al fun cD cE al => ?_
   refine WP_mid (Mid := fun a w2 => ∃ aR bc bd, Fr a 55 [(2, pB b5), (3, pB ad), (33, A4), (34, iV (List.length B4 : Int)), (35, iV a8)] ∧ Holds M0 w w2 [.bx b5 31 [nS, nS, nS, iV 0, nS], .bx ad 31 [ah, aa, ab, iV B3, aR], dpR 95 dt15 ah aI aG aJ, .sl 3 tI aa aj, .sl 3 tI ab ak, dpR 89 dt16 aR bc cD bd] G) ?_ ?_
   ·refine WP_ordersT (fun w1 w2 => Chg (([dpR 89 dt16 ap ay aF az] : List Res).flatMap Res.own) w1 w2) 13 (by kernel_rfl) fun be cF => have cG := cA.grow cF; have bt := cG.p8; ?_
    have aK : Ctx be ([dpR 89 dt16 ap ay aF az] ++ ([.bx bq 89 [iV ae.1, aA, aB], .ro ty2 aA ae.2.1, .ro tI aB ae.2.2, .bx b5 31 [nS, nS, nS, iV 0, nS], .bx ad 31 [ah, aa, ab, iV B3, ap], .ro ty12 ah aG, .sl 3 tI aa aj, .sl 3 tI ab ak] ++ G)) := bt.viewG (Vw.c (Vw.c (Vw.c (Vw.c (Vw.c (Vw.c (Vw.d (Vw.c (Vw.c Vw.refl)))))))))
    have cH : Holds _ be be [dpR 89 dt16 ap ay aF az] ([.bx bq 89 [iV ae.1, aA, aB], .ro ty2 aA ae.2.1, .ro tI aB ae.2.2, .bx b5 31 [nS, nS, nS, iV 0, nS], .bx ad 31 [ah, aa, ab, iV B3, ap], .ro ty12 ah aG, .sl 3 tI aa aj, .sl 3 tI ab ak] ++ G) := zb (Rs := [dpR 89 dt16 ap ay aF az]) aK
    refine have Hc := cH; XQ (i := 0) q (by kernel_rfl) q Hc.chg q (fun _ => qt_fieldAddr uf31 fi31_4 nz29 q) q q <| have cI := HasB.bx (HasB.c (HasB.c (HasB.c (HasB.c (HasB.c (HasB.hd)))))) Hc.ctx; XT (i := 1) q (by kernel_rfl) q Hc.chg q (qs_cell u29 q q (cI.cell (i := 4) q) Hc.chg (Ctx.outB aK (HasB.c (HasB.c (HasB.c (HasB.c (HasB.hd))))))) q q <| XQ (i := 2) q (by kernel_rfl) q Hc.chg q (fun _ => qt_fieldAddr uf89 fi89_0 nz3 q) q q <| have cJ := HasB.bx (HasB.c (HasB.hd)) Hc.ctx; XT (i := 3) q (by kernel_rfl) q Hc.chg q (qs_cell u3 q q (cJ.cell (i := 0) q) Hc.chg (Ctx.outB aK (HasB.hd))) q q <| XQ (i := 4) q (by kernel_rfl) q Hc.chg q (fun _ => qt_fieldAddr uf89 fi89_1 nz87 q) q q <| have cK := HasB.bx (HasB.c (HasB.hd)) Hc.ctx; XT (i := 5) q (by kernel_rfl) q Hc.chg q (qs_cell u87 q q (cK.cell (i := 1) q) Hc.chg (Ctx.outB aK (HasB.hd))) q q <| XQ (i := 7) q (by kernel_rfl) q Hc.chg q (fun _ => qt_fieldAddr uf89 fi89_2 nz23 q) q q ?_
    refine have cL := HasB.bx (HasB.c (HasB.hd)) Hc.ctx; XT (i := 8) q (by kernel_rfl) q Hc.chg q (qs_cell u23 q q (cL.cell (i := 2) q) Hc.chg (Ctx.outB aK (HasB.hd))) q q ?_
    repeat' first
     | refine XDo 6 q ?_; have cM := Hc.viewG (Vw.d Vw.refl); refine U1 q c91 (w_impl_copyTicket cB hR2 cM) fun aL _ HK => ?_; have Hc := Hc.cV1 [] HK (zc (Pure.sl q) all_nil); refine XN Hc.chg ?_
     | refine XDo 9 q ?_; have cN := Hc.viewG (Vw.c (Vw.d Vw.refl)); refine U1 q c89 (w_impl_copyInts cC hR4 cN) fun aM _ HK => ?_; have Hc := Hc.cV1 [] HK (zc (Pure.sl q) all_nil); refine XN Hc.chg ?_; have bu := Hc.viewG (Vw.c (Vw.c (Vw.d Vw.refl))); refine XQ (i := 10) q (by kernel_rfl) q Hc.chg q (fun _ => qt_build (args := [(0, .tmp 42), (1, .tmp 45), (2, .tmp 48)]) (css := [#[iV ae.1], #[aL], #[aM]]) (cells := #[iV ae.1, aL, aM]) q ⟨q, (bu.sliceCells hS1), (bu.sliceCells hS0), trivial⟩ (by kernel_rfl)) q q ?_
     | refine XDo 11 q ?_; have Hc := Hc.p1; refine WL_buildD (Rs := [.sl 103 ty2 aL ba, .sl 3 tI aM bb]) (d := dt16) (args := [.tmp 49]) (xs := ([(ae.1, ba, bb)] : LT)) Hc (DBltL.one (cs' := [iV ae.1, aL, aM]) (DBlt.cast (DBlt.pair (DBlt.int (k := .i64) (n := ae.1)) (DBlt.pair (DBlt.sl (e := 103) (t := ty2) (v := aL) (x := ba) q) (DBlt.sl (e := 3) (t := tI) (v := aM) (x := bb) q))) q q) q) u29 j89 q q q q q q (fun dI dJ dK _ Hc => ?_); refine XN Hc.chg ?_
     | refine XDo 12 q ?_; have Hc := Hc.p1; refine WL_appendD Hc cE u29 j89 q q q q q q (fun cO cP cQ _ Hc => ?_); refine XN Hc.chg ?_
     | have Hc := bt.cV1 [_] Hc (zc Pure.dp all_nil); refine XDo 13 q <| qf uf31 fi31_4 nz29 q <| XE q ?_
     | refine XDo 14 q ?_; have Hc := Hc.p5; have bv := Hc.viewG (Vw.c (Vw.d (Vw.c (Vw.c (Vw.c (Vw.c (Vw.d (Vw.c (Vw.c Vw.refl))))))))); refine WL_store_bx Hc q il29 (bv.sliceCells hR1) (bv.sliceOne hR1) q q q (fun _ Hc => ?_); refine XE q ?_
     | refine XV [6] (by decide +kernel) q (allc ?_ alln)
     | refine XV [9] (by decide +kernel) q (allc ?_ alln)
     | refine XV [11] (by decide +kernel) q (allc ?_ alln)
     | refine XV [12] (by decide +kernel) q (allc ?_ alln)
     | refine XV [13] (by decide +kernel) q (allc ?_ alln)
     | refine XV [14] (by decide +kernel) q (allc ?_ alln)
     | refine XC_done (by decide +kernel) (fun a ha => ?_); have Hc := (((((((((Hc.q2).q2).q2).p1).p5).p5).p5).p4).p5); exact ⟨cO, cP, cQ, ha.s, Hc⟩
   rintro a dL ⟨aR, bc, bd, ha, cR⟩
   cases al
   exact zi <| X <| S1 ha <| Z <| qi (qt_add q q) q <| qm q <| WL_nil fun a ha => ⟨q, aR, bc, bd, ha.s, cR.p5.p5.p5.p5.p5.p5⟩
  cases al
  exact WP_exit fun a ha => zo (⟨exit_ne, q, ap, ay, az, ha.s, a9.p5.p5.p5.p5.p5.p5⟩)
 rintro _ a dM ⟨rfl, bf, cU, cV, ha, bg⟩
 cases h
 exact zn <| X <| S1 ha <| rR <| eA bg.p1 us31 uo31 il31 q <| have aS := bg.viewG (Vw.c (Vw.c (Vw.d (Vw.c (Vw.c (Vw.d Vw.refl)))))); zl (cs' := [ah, aa, ab, iV B3, bf]) bg q il31 q (T (aS.sliceOne hR2) (T (aS.sliceOne hS3) (T (aS.sliceOne hS4) (T q (T (aS.sliceOne hR5) q))))) q q q fun dN bw => B <| W fun a ha => have cW := R bw.p0; retc q ha q (run_loadVar_bx (cs := [ah, aa, ab, iV B3, bf]) us31 uo31 il31 cW) ⟨ah, aI, aJ, aa, ab, bf, cU, cV, q, bw.q0.q0.p3.p3.p3.p3⟩
theorem w_impl_readNumber {w G p0 p1 r} (h : impl_readNumberS p0 p1 = some r) (H : Ctx w G) : Calls Tryz.prog 80 #[strV p0, iV p1] w fun e w' => e = .returned (.tuple #[iV r.1, .bool r.2]) ∧ Holds M0 w w' [] G := by
 refine F0 52 H Tryz.func80 q fun H => ?_
 refine rR <| qa q <| qa q <| B <| C <| rR <| qm q <| qi (qt_slen u9 q) q <| qi (qt_lss q q) q <| qm q ?_
 refine Ho (res := ((decide ((List.length p0 : Int) < 1)) || (decide ((List.length p0 : Int) > p1)))) 4 os (fun ag K2 aq => ?_) ?_
 ·exact jm ag q <| ji (qt_slen u9 q) ag q <| jm ag q <| ji (qt_gtr q q) ag q <| aq 4 q q q (oi ag)
 refine qm q <| O h fun b4 ab h => ?_
 refine Ho (res := b4) 8 (if_t · ab) (fun ad K7 ar => ?_) ?_
 ·refine have ab := if_f ad ab; jm ad q <| ji (qt_slen u9 q) ad q <| ji (qt_gtr q q) ad q <| jm ad q <| O ab fun b9 ae ab => ?_
  refine Ha (res := b9) (hw := (J q ad)) 3 (if_f · ae) (fun aj aF au => ?_) ?_
  ·exact have ae := if_t aj ae; jm aj q <| O ae fun aG av ae => ji (qt_sidx u9 q q av) aj q <| ji (qt_eql q q) aj q <| au 3 q q q ae
  exact ar 5 q q q ab
 refine B ?_
 refine Yh q h (fun h => ?_) (fun h => ?_)
 ·cases h
  exact rR <| qa q <| qa q <| B <| W fun a ha => m (ret2 q ha q q ⟨q, H⟩)
 refine y <| rR <| qa q <| B <| C <| rR <| qa q <| B <| g <| O h fun ak aw h => ?_
 refine fun aH ax => zp (I := fun (am, ao) a w2 => (Fr a 52 [(0, strV p0), (6, iV am), (7, iV ao)] ∧ Holds M0 w w2 [] G)) (O := fun o e a w2 => match o with | .inl q0 => e = .exit 0 ∧ (Fr a 52 [(6, iV q0)] ∧ Holds M0 w w2 [] G) | .inr (q0, q1) => e = .ret ∧ (Fr a 52 [(4, iV q0), (5, .bool q1)] ∧ Holds M0 w w2 [] G)) aw ?_ ?_ ?_
 ·exact ⟨ax.s, H⟩
 ·rintro ⟨am, ao⟩ _ a aI aa ⟨ha, al⟩
  refine S1 ha <| C <| rR <| qm q <| qm q <| qi (qt_slen u9 q) q <| qi (qt_lss q q) q <| B ?_
  refine Yh q aa (fun aa => ?_) (fun aa => ?_)
  ·refine y <| C <| g <| C <| rR <| qm q <| qm q <| O aa fun aJ ay aa => qi (qt_sidx u9 q q ay) q <| qi (qt_lss q q) q <| qm q <| O aa fun az af aa => ?_
   refine Ho (res := az) 4 (if_t · af) (fun ah aK aA => ?_) ?_
   ·exact have af := if_f ah af; jm ah q <| jm ah q <| O af fun aL aB af => ji (qt_sidx u9 q q aB) ah q <| ji (qt_gtr q q) ah q <| aA 4 q q q af
   refine B ?_
   refine Yh q aa (fun aa => ?_) (fun aa => ?_)
   ·cases aa
    exact rR <| qa q <| qa q <| B <| W fun a ha => m (zj (m (⟨ret_ne, q, ha.s, al⟩)))
   refine y <| Z <| qm q <| qi (qt_mul q q) q <| qm q <| qm q <| O aa fun aM aC aa => qi (qt_sidx u9 q q aC) q <| qi (qt_sub q q) q <| qi (qt_int u3 q u5) q <| qi (qt_add q q) q <| qa q <| WL_nil fun a ha => zi <| X <| S1 ha <| Z <| qm q <| qi (qt_add q q) q <| qa q <| WL_nil fun a ha => ?_
   cases aa
   exact ⟨q, ha.s, al⟩
  cases aa
  exact WP_exit fun a ha => zo (⟨exit_ne, q, ha.s, al⟩)
 intro e a aN ap
 rcases ak with ak | ak
 ·obtain ⟨rfl, ha, aD⟩ := ap
  cases h
  exact zn <| X <| S1 ha <| rR <| qm q <| qa q <| qa q <| B <| W fun a ha => ret2 q ha q q ⟨q, aD⟩
 obtain ⟨aO, aP⟩ := ak
 obtain ⟨rfl, ha, aE⟩ := ap
 cases h
 exact zj (m (ret2 q ha q q ⟨q, aE⟩))
theorem w_impl_ReadDeed {w G p0 r} (h : impl_ReadDeedS p0 = some r) (hGl : Glob G) (hGm : GlobM G) (H : Ctx w G) : Calls Tryz.prog 40 #[strV p0] w fun e w' => e = .returned (.tuple #[.agg #[iV r.1.1, iV r.1.2.1, iV r.1.2.2.1, iV r.1.2.2.2], .bool r.2]) ∧ Holds M0 w w' [] G := by
 refine F0 63 H Tryz.func40 q fun H => ?_
 refine C <| Z <| zq (cs := [iV 0, iV 0, iV 0, iV 0]) H z50 q q q fun b1 w2 H3 => qa q <| rN <| qm q <| O h fun x5 aS h => zd q q c79 (w_strings_Split w2 _ hGm.c p0 ([32] : List UInt8) x5 aS H3.ctx) (by rfl) ?_
 rintro _ w7 ⟨v9, rfl, H8⟩; refine ⟨_, q, ?_⟩
 refine have aA := H3.cN1 [] H8; qa q <| B <| C <| rR <| XL_loadArrS aA.ctx (hGl.1.c.c.has) us111 uo111 il111 q q q <| qm q <| B <| g <| O h fun aj aT h => ?_
 refine fun bB aV => zp (I := fun (af, ap, aq, ar, au) a w2 => (Fr a 63 [(2, pB b1), (4, v9), (14, .agg (List.map strV deedNames).toArray), (15, iV af)] ∧ Holds M0 w w2 [.bx b1 50 [iV ap, iV aq, iV ar, iV au], .sl 9 .str v9 x5] G)) (O := fun o e a w2 => match o with | .inl (q0, q1, q2, q3) => e = .exit 0 ∧ (Fr a 63 [(2, pB b1)] ∧ Holds M0 w w2 [.bx b1 50 [iV q0, iV q1, iV q2, iV q3]] G) | .inr (q0, q1, q2, q3, q4) => e = .ret ∧ (Fr a 63 [(2, pB b1), (3, .bool q0)] ∧ Holds M0 w w2 [.bx b1 50 [iV q1, iV q2, iV q3, iV q4]] G)) aT ?_ ?_ ?_
 ·exact ⟨aV.s, aA.p1⟩
 ·rintro ⟨af, ap, aq, ar, au⟩ _ a bC aa ⟨ha, ad⟩
  refine S1 ha <| rR <| qi (qt_lss q q) q <| B <| C ?_
  refine Yh q aa (fun aa => ?_) (fun aa => ?_)
  ·refine y <| C <| g <| rR <| qm q <| O aa fun bD aW aa => qi (qt_idxS (xs := deedNames) u111 u9 il9 q q q aW) q <| qa q <| qa q <| B <| C <| rR <| qm q <| O aa fun bE aB aa => qe ad hS1 aB u38 i9 q fun _ _ aX => eS u9 aX q <| qm q <| qi (qt_sneq q q) q <| qm q <| O aa fun aY ah aa => ?_
   refine Ho (res := aY) 7 (if_t · ah) (fun ae bI aZ => ?_) ?_
   ·exact have ah := if_f ae ah; jm ae q <| jz ad.ctx hS1 u38 ae q <| jm ae q <| O ah fun bJ aC ah => XL_indexA ad.ctx (hGl.2.c.c.has) q aC u112 i3 (J q ae) q q q fun bK bL bM a0 => jI u3 (ad.el (hGl.2.c.c.has) aC a0) ae q <| ji (qt_add q q) ae q <| ji (qt_neq q q) ae q <| aZ 7 q q q ah
   refine B ?_
   refine Yh q aa (fun aa => ?_) (fun aa => ?_)
   ·cases aa
    exact WP_exit fun a ha => zo <| zn <| X <| S1 ha <| Z <| qi (qt_add q q) q <| qm q <| WL_nil fun a ha => ⟨q, ha.s, ad.p1.p1⟩
   refine y <| C <| Z <| zq (cs := [iV 0, iV 0, iV 0]) ad z113 q q q fun ak a2 a3 => ?_
   have av : Holds _ w a2 [.sl 113 tI (.slice (some ⟨ak, 0, none⟩) 3 3) ([0, 0, 0] : List Int), .bx b1 50 [iV ap, iV aq, iV ar, iV au], .sl 9 .str v9 x5] G := Holds.bx_sl (t := tI) (xs := [0, 0, 0]) a3 (fun _ => ⟨[_], _, [], [], q, q, ⟨q, q⟩, ⟨[_], _, [], [], q, q, ⟨q, q⟩, ⟨[_], _, [], [], q, q, ⟨q, q⟩, ⟨q, q⟩⟩⟩⟩) q q
   refine B <| C <| rR <| qm q <| O aa fun a4 ao aa => XL_sliceH av.ctx hS2 ao u38 i9 ⟨_, q⟩ q q q q <| qz av.ctx (Has.sub hS2 ao) u38 q <| qm q <| B <| g <| O aa fun al a5 aa => ?_
   refine fun bN a7 => zp (I := fun (aD, aE, aF, aG, aH, aI) a w2 => (Fr a 63 [(2, pB b1), (5, iV af), (7, pB ak), (34, (subV (Ty.size .str) v9 (Int.toNat 1) (Int.toNat (List.length x5 : Int)))), (35, iV (List.length a4 : Int)), (36, iV aD)] ∧ Holds M0 w w2 [.bx b1 50 [iV aE, iV aF, iV aG, iV aH], .sl 113 tI (.slice (some ⟨ak, 0, none⟩) 3 3) aI, .sl 9 .str v9 x5] G)) (O := fun o e a w2 => match o with | .inl (q0, q1, q2, q3, q4) => e = .exit 2 ∧ (Fr a 63 [(2, pB b1), (5, iV af), (7, pB ak)] ∧ Holds M0 w w2 [.bx b1 50 [iV q0, iV q1, iV q2, iV q3], .sl 113 tI (.slice (some ⟨ak, 0, none⟩) 3 3) q4] G) | .inr (q0, q1, q2, q3, q4, q5) => e = .ret ∧ (Fr a 63 [(2, pB b1), (3, .bool q0)] ∧ Holds M0 w w2 [.bx b1 50 [iV q1, iV q2, iV q3, iV q4]] G)) a5 ?_ ?_ ?_
   ·exact ⟨a7.s, av.p2.p1.p2⟩
   ·rintro ⟨aD, aE, aF, aG, aH, aI⟩ _ a bO ab ⟨ha, am⟩
    refine S1 ha <| rR <| qi (qt_lss q q) q <| B <| C ?_
    refine Yh q ab (fun ab => ?_) (fun ab => ?_)
    ·refine y <| C <| g <| rR <| qm q <| O ab fun bP aJ ab => qe am (Has.sub hS2 ao) aJ u38 i9 q fun _ _ a8 => eS u9 a8 q <| qa q <| qa q <| rN <| qm q <| O ab fun a9 ba ab => U0 q c80 (w_impl_readNumber ba am.ctx) fun bT bb => have aw := am.cN0 [] bb; qm q <| qi (zv q q) q <| qi (zv q q) q <| qa q <| qa q <| B <| C <| rR <| qm q <| qi (qt_not q) q <| B ?_
     refine Yh q ab (fun ab => ?_) (fun ab => ?_)
     ·cases ab
      exact rR <| qi (qt_build (args := []) (css := []) (cells := #[iV 0, iV 0, iV 0, iV 0]) q trivial (by kernel_rfl)) q <| zl (cs' := [iV 0, iV 0, iV 0, iV 0]) aw q il50 q q q q q fun bU bc => qa q <| B <| W fun a ha => m (zj (m (⟨ret_ne, q, ha.s, bc.q1.q1⟩)))
     refine y <| Z <| qm q <| qm q <| O ab fun bV aK ab => XL_indexA aw.ctx hS1 q aK u113 i3 q q q q fun bW bX bY be => WL_storeH (fo := 0) (cs' := [iV a9.1]) aw.p1 aK be (Upd.whole (Blt.int)) q il3 q q q q fun bZ bg => WL_nil fun a ha => zi <| X <| S1 ha <| Z <| qi (qt_add q q) q <| qm q <| WL_nil fun a ha => ?_
     cases ab
     exact ⟨q, ha.s, bg.p2.p1.p2⟩
    cases ab
    exact WP_exit fun a ha => zo (⟨exit_ne, q, ha.s, am.q2.p1.p1⟩)
   intro e a b0 aL
   rcases al with al | al
   ·obtain ⟨b4, b5, b6, b7, b8⟩ := al
    obtain ⟨rfl, ha, ag⟩ := aL
    refine zn <| X <| S1 ha <| rR <| qm q <| O aa fun ax aM aa => XL_indexA ag.ctx hS1 q aM u113 i3 q q q q fun b9 ca cb bj => eI u3 (ag.el hS1 aM bj) q <| O aa fun ay aN aa => XL_indexA ag.ctx hS1 q aN u113 i3 q q q q fun cc cd ce bk => eI u3 (ag.el hS1 aN bk) q <| O aa fun az aO aa => XL_indexA ag.ctx hS1 q aO u113 i3 q q q q fun cf cg ch bl => eI u3 (ag.el hS1 aO bl) q <| qi (qt_build (args := [(0, .tmp 53), (1, .tmp 55), (2, .tmp 57), (3, .tmp 59)]) (css := [#[iV af], #[iV ax], #[iV ay], #[iV az]]) (cells := #[iV af, iV ax, iV ay, iV az]) q ⟨q, q, q, q, trivial⟩ (by kernel_rfl)) q <| zl (cs' := [iV af, iV ax, iV ay, iV az]) ag q il50 q q q q q fun ci bm => qa q <| B <| W fun a ha => ?_
    cases aa
    exact zj (m (⟨ret_ne, q, ha.s, bm.q1⟩))
   obtain ⟨cj, ck, cl, cm, cn, co⟩ := al
   obtain ⟨rfl, ha, bo⟩ := aL
   cases aa
   exact zj (m (zj (m (⟨ret_ne, q, ha.s, bo⟩))))
  cases aa
  exact WP_exit fun a ha => zo (⟨exit_ne, q, ha.s, ad.q1⟩)
 intro e a cp aP
 rcases aj with aj | aj
 ·obtain ⟨cq, cr, ct, cu⟩ := aj
  obtain ⟨rfl, ha, bq⟩ := aP
  cases h
  exact zn <| X <| S1 ha <| rR <| qi (qt_build (args := []) (css := []) (cells := #[iV 0, iV 0, iV 0, iV 0]) q trivial (by kernel_rfl)) q <| zl (cs' := [iV 0, iV 0, iV 0, iV 0]) bq q il50 q q q q q fun cv aQ => qa q <| B <| W fun a ha => have br := R aQ.p0; retct q ha q q (run_loadVar_bx (cs := [iV 0, iV 0, iV 0, iV 0]) us50 uo50 il50 br) ⟨q, aQ.q0⟩
 obtain ⟨cw, bt, bu, bv, bw⟩ := aj
 obtain ⟨rfl, ha, aR⟩ := aP
 cases h
 refine have bz := R aR.p0; ?_
 exact zj (m (retct q ha q q (run_loadVar_bx (cs := [iV bt, iV bu, iV bv, iV bw]) us50 uo50 il50 bz) ⟨q, aR.q0⟩))
theorem w_impl_onlyNamed {w G B0 B1 B2 B3 r} (h : impl_onlyNamedS B0 B1 B2 B3 = some r) (hGl : Glob G) (H : Ctx w G) : Calls Tryz.prog 81 #[.agg #[iV B0, iV B1, iV B2, iV B3]] w fun e w' => e = .returned (.bool r) ∧ Holds M0 w w' [] G := by
 refine F0 34 H Tryz.func81 q fun H => ?_
 refine C <| Z <| WL_box (cs := [iV B0, iV B1, iV B2, iV B3]) H q q q q fun b1 w2 H3 => qa q <| B <| C <| rR <| qf uf50 fi50_0 nz3 q <| ql u3 H3.p0 q <| qi (qt_lss q q) q <| qm q ?_
 refine Ho (res := ((decide (B0 < 0)) || (decide (B0 > 5)))) 3 os (fun ae K7 ao => ?_) ?_
 ·exact jf uf50 fi50_0 nz3 ae q <| jl u3 H3.p0 ae q <| ji (qt_gtr q q) ae q <| ao 3 q q q (oi ae)
 refine B ?_
 refine Yh q h (fun h => ?_) (fun h => ?_)
 ·cases h
  exact rR <| qa q <| B <| W fun a ha => m (ret1 q ha q ⟨q, H3.q0⟩)
 refine y <| rR <| qf uf50 fi50_1 nz3 q <| ql u3 H3.p0 q <| qf uf50 fi50_2 nz3 q <| ql u3 H3.p0 q <| qf uf50 fi50_3 nz3 q <| ql u3 H3.p0 q <| qi (qt_build (args := [(0, .tmp 15), (1, .tmp 17), (2, .tmp 19)]) (css := [#[iV B1], #[iV B2], #[iV B3]]) (cells := #[iV B1, iV B2, iV B3]) q ⟨q, q, q, trivial⟩ (by kernel_rfl)) q <| zq (cs := [iV 0, iV 0, iV 0]) H3 z113 q q q fun ag aG aq => zl (cs' := [iV B1, iV B2, iV B3]) aq q il113 q q q q q fun ar au => ?_
 have ab : Holds _ w ar [.sl 113 tI (.slice (some ⟨ag, 0, none⟩) 3 3) ([B1, B2, B3] : List Int), .bx b1 50 [iV B0, iV B1, iV B2, iV B3]] G := Holds.bx_sl (t := tI) (xs := [B1, B2, B3]) au (fun _ => ⟨[_], _, [], [], q, q, ⟨q, q⟩, ⟨[_], _, [], [], q, q, ⟨q, q⟩, ⟨[_], _, [], [], q, q, ⟨q, q⟩, ⟨q, q⟩⟩⟩⟩) q q
 refine B <| C <| rR <| qf uf50 fi50_0 nz3 q <| ql u3 ab.p1 q <| O h fun av aj h => XL_indexA ab.ctx (hGl.2.c.c.has) q aj u112 i3 q q q q fun aH aI aJ aw => eI u3 (ab.el (hGl.2.c.c.has) aj aw) q <| O h fun ax af h => XL_sliceA ab.ctx hS0 q af u113 i3 ⟨_, q⟩ q q q q <| qz ab.ctx (Has.sub hS0 af) u23 q <| qm q <| B <| g <| O h fun ah ay h => ?_
 refine fun aK aA => zp (I := fun ak a w2 => (Fr a 34 [(25, (subV (Ty.size tI) (.slice (some ⟨ag, 0, none⟩) 3 3) (Int.toNat av) (Int.toNat (List.length ([B1, B2, B3] : List Int) : Int)))), (26, iV (List.length ax : Int)), (27, iV ak)] ∧ Holds M0 w w2 [.sl 113 tI (.slice (some ⟨ag, 0, none⟩) 3 3) ([B1, B2, B3] : List Int)] G)) (O := fun o e a w2 => match o with | .inl _ => e = .exit 0 ∧ (Fr a 34 [] ∧ Holds M0 w w2 [] G) | .inr q0 => e = .ret ∧ (Fr a 34 [(2, .bool q0)] ∧ Holds M0 w w2 [] G)) ay ?_ ?_ ?_
 ·exact ⟨aA.s, ab.q1⟩
 ·rintro ak _ a aL aa ⟨ha, ad⟩
  refine S1 ha <| rR <| qi (qt_lss q q) q <| B <| C ?_
  refine Yh q aa (fun aa => ?_) (fun aa => ?_)
  ·refine y <| C <| g <| rR <| O aa fun aM al aa => qe ad (Has.sub hS0 af) al u23 i3 q fun _ _ aB => eI u3 aB q <| qa q <| rN <| qm q <| qi (qt_neq q q) q <| B ?_
   refine Yh q aa (fun aa => ?_) (fun aa => ?_)
   ·cases aa
    exact rR <| qa q <| B <| W fun a ha => zj (m (⟨ret_ne, q, ha.s, ad.q0⟩))
   cases aa
   exact WP_skip fun a ha => zi <| X <| S1 ha <| Z <| qi (qt_add q q) q <| qm q <| WL_nil fun a ha => ⟨q, ha.s, ad⟩
  cases aa
  exact WP_exit fun a ha => zo (⟨exit_ne, q, ha.s, ad.q0⟩)
 intro e a aQ am
 rcases ah with ah | ah
 ·obtain ⟨rfl, ha, aE⟩ := am
  cases h
  exact zn <| X <| S1 ha <| rR <| qa q <| B <| W fun a ha => ret1 q ha q ⟨q, aE⟩
 obtain ⟨rfl, ha, aF⟩ := am
 obtain rfl := L h
 exact zj (m (ret1 q ha q ⟨q, aF⟩))
theorem w_impl_isItem {w G bp0 A0 B0 A1 B1 A2 B2 B3 A4 B4 p1 p2 r} (h : impl_isItemS B0 B1 B2 B3 B4 p1 p2 = some r) (C0 : Has G ty12 A0 B0) (C1 : Has G tI A1 B1) (C2 : Has G tI A2 B2) (C4 : Has G ty14 A4 B4) (H : Ctx w ([.bx bp0 31 [A0, A1, A2, iV B3, A4]] ++ G)) : Calls Tryz.prog 119 #[pB bp0, iV p1, .bool p2] w fun e w' => e = .returned (.bool r) ∧ Holds (([.bx bp0 31 [A0, A1, A2, iV B3, A4]] : List Res).flatMap Res.own) w w' [.bx bp0 31 [A0, A1, A2, iV B3, A4]] G := by
 refine F1 31 H Tryz.func119 q fun H => ?_
 refine rR <| qa q <| rN <| qm q <| qi (qt_geq q q) q <| qm q ?_
 refine Ha (res := ((decide (p1 ≥ 0)) && (decide (p1 < (List.length B0 : Int))))) 7 an (fun ab K2 af => ?_) ?_
 ·exact jm ab q <| jm ab q <| jn ab q <| jf uf31 fi31_0 nz28 ab q <| jl u28 H.p0 ab q <| jz H.ctx (C0.c) u28 ab q <| ji (qt_lss q q) ab q <| af 7 q q q (ai ab)
 refine qm q <| O h fun b5 ad h => ?_
 refine Ha (res := b5) 11 (if_f · ad) (fun aa K8 ag => ?_) ?_
 ·exact have ad := if_t aa ad; jm aa q <| jn aa q <| jf uf31 fi31_0 nz28 aa q <| jl u28 H.p0 aa q <| jm aa q <| O ad fun aj ae ad => je H (C0.c) ae u28 i95 aa q fun _ _ ah => jf uf95 fi95_0 nz3 aa q <| jI u3 ah.f aa q <| ji (qt_gtr q q) aa q <| jm aa q <| ji (qt_beql u4 q q) aa q <| ag 11 q q q ad
 refine qa q <| B <| W fun a ha => ?_
 obtain rfl := L h
 exact ret1 q ha q ⟨q, H⟩
theorem w_impl_doBuy {w G bp0 A0 B0 csp0_0 Fp0_0 A1 B1 A2 B2 B3 A4 B4 csp0_4 Fp0_4 p1 p2 r} (h : impl_doBuyS B0 B1 B2 B3 B4 p1 p2 = some r) (H : Ctx w ([.bx bp0 31 [A0, A1, A2, iV B3, A4], dpR 95 dt15 A0 csp0_0 B0 Fp0_0, .sl 3 tI A1 B1, .sl 3 tI A2 B2, dpR 89 dt16 A4 csp0_4 B4 Fp0_4] ++ G)) : Calls Tryz.prog 82 #[pB bp0, iV p1, iV p2] w fun e w' => e = .returned (.bool r.2.2) ∧ Holds (([.bx bp0 31 [A0, A1, A2, iV B3, A4], dpR 95 dt15 A0 csp0_0 B0 Fp0_0, .sl 3 tI A1 B1, .sl 3 tI A2 B2, dpR 89 dt16 A4 csp0_4 B4 Fp0_4] : List Res).flatMap Res.own) w w' [.bx bp0 31 [A0, A1, A2, iV r.2.1, A4], dpR 95 dt15 A0 csp0_0 B0 Fp0_0, .sl 3 tI A1 B1, .sl 3 tI A2 r.1, dpR 89 dt16 A4 csp0_4 B4 Fp0_4] G := by
 refine F1 45 H Tryz.func82 q fun H => ?_
 refine rR <| qa q <| B <| C <| rR <| qm q <| qm q <| O h fun x1 ak h => have V3 := H.viewG (Vw.c (Vw.d (Vw.c (Vw.c (Vw.d Vw.refl))))); U0 q c119 (w_impl_isItem ak hR0 hS1 hS2 hR3 V3) fun w4 H5 => have H6 := H.cV1 [_] H5 (zc Pure.bx all_nil); qi (qt_not q) q <| qm q ?_
 refine Ho (res := ((!x1) || (decide (p2 < 1)))) 2 os (fun ad K8 al => ?_) ?_
 ·exact jm ad q <| ji (qt_lss q q) ad q <| al 2 q q q (oi ad)
 refine qm q ?_
 refine Ho (res := (((!x1) || (decide (p2 < 1))) || (decide (p2 > 50)))) 2 os (fun ae aA am => ?_) ?_
 ·exact jm ae q <| ji (qt_gtr q q) ae q <| am 2 q q q (oi ae)
 refine B ?_
 refine Yh q h (fun h => ?_) (fun h => ?_)
 ·cases h
  exact rR <| qa q <| B <| W fun a ha => m (ret1 q ha q ⟨q, H6.p4.p4.p4.p4.p4⟩)
 refine y <| C <| WP_tail 13 (by kernel_rfl) (by kernel_rfl) fun aB ap => have aa := H6.grow ap; qm q <| qn q <| qf uf31 fi31_3 nz3 q <| ql u3 aa.p0 q <| qm q <| qm q <| qn q <| qf uf31 fi31_1 nz23 q <| ql u23 aa.p0 q <| qm q <| O h fun aC af h => have aq := aa.viewG (Vw.c (Vw.d (Vw.c (Vw.c (Vw.d Vw.refl))))); qb aq hS2 af u23 i3 q fun aD aE aF ar => eI u3 (aa.el hS2 af ar) q <| qi (qt_mul q q) q <| SL_nil <| qi (qt_sub q q) q <| qn q <| qf uf31 fi31_3 nz3 q <| WL_store_bx aa q il3 q q q q q fun aG ab => rN <| qm q <| qn q <| qf uf31 fi31_2 nz23 q <| ql u23 ab.p0 q <| qm q <| O h fun au ag h => have ah := ab.viewG (Vw.c (Vw.d (Vw.c (Vw.c (Vw.d Vw.refl))))); qb ah hS3 ag u23 i3 q fun aH aI aJ av => eI u3 (ab.el hS3 ag av) q <| qm q <| qi (qt_add q q) q <| O h fun aK aj h => qb ah hS3 aj u23 i3 q fun aL aM aN aw => ?_
 cases h
 exact WL_storeH (fo := 0) (cs' := [iV (IntKind.wrap .i64 (au + p2))]) ab.p3 aj aw (Upd.whole (Blt.int)) q il3 q q q q fun aO ay => rN <| qa q <| B <| W fun a ha => ret1 q ha q ⟨q, ay.p4.p1.p4.p4.p4⟩
theorem w_impl_runMakes {w G B0 A1 B1 B2 r} (h : impl_runMakesS B0 B1 B2 = some r) (C1 : Has G ty2 A1 B1) (H : Ctx w G) : Calls Tryz.prog 144 #[.agg #[iV B0, A1, iV B2]] w fun e w' => e = .returned (iV r) ∧ Holds M0 w w' [] G := by
 refine F0 8 H Tryz.func144 q fun H => ?_
 refine C <| Z <| WL_box (cs := [iV B0, A1, iV B2]) H q q q q fun b1 w2 H3 => qa q <| B <| C <| rR <| qf uf95 fi95_0 nz3 q <| ql u3 H3.p0 q <| qi (qt_eql q q) q <| B ?_
 refine Yh q h (fun h => ?_) (fun h => ?_)
 ·cases h
  exact rR <| qa q <| B <| W fun a ha => m (ret1 q ha q ⟨q, H3.q0⟩)
 refine y <| rR <| qf uf95 fi95_0 nz3 q <| ql u3 H3.p0 q <| qa q <| B <| W fun a ha => ?_
 obtain rfl := L h
 exact ret1 q ha q ⟨q, H3.q0⟩
theorem w_impl_MakeRun {w G vp0 p0 vp1 p1 A2_0 p2_0 A2_1 p2_1 r} (h : impl_MakeRunS p0 p1 p2_0 p2_1 = some r) (hp0 : Has G ty12 vp0 p0) (hp1 : Has G tI vp1 p1) (hp2_0 : Has G tI A2_0 p2_0) (hp2_1 : Has G tI A2_1 p2_1) (H : Ctx w G) : Calls Tryz.prog 120 #[vp0, vp1, .agg #[A2_0, A2_1]] w fun e w' => ∃ (v1 : Value), e = .returned (.tuple #[v1, .bool r.2]) ∧ Holds M0 w w' [.sl 3 tI v1 r.1] G := by
 refine F0 85 H Tryz.func120 q fun H => ?_
 refine C <| Z <| WL_box (cs := [A2_0, A2_1]) H q q q q fun b1 w2 H3 => qa q <| qa q <| B <| C <| C <| zk <| qm q <| O h fun x5 a1 h => qc q c115 H3 (fun _ => w_impl_ItemsValid a1 (hp0.c)) <| qi (qt_not q) q <| qm q <| O h fun b7 am h => ?_
 refine Go (res := b7) 5 (if_t · am) (fun ao b9 a2 => ?_) ?_
 ·exact have am := if_f ao am; jm ao q <| jm ao q <| jz H3.ctx (hp0.c) u28 ao q <| O am fun ca a3 am => jc ao q c77 H3 (fun _ => w_impl_amountsOk a3 (hp1.c)) <| ji (qt_not q) ao q <| a2 5 q q q am
 refine qm q <| O h fun a4 ap h => ?_
 refine Go (res := a4) 6 (if_t · ap) (fun ak cb a5 => ?_) ?_
 ·exact have ap := if_f ak ap; jf uf137 fi137_0 nz23 ak q <| jl u23 H3.p0 ak q <| jm ak q <| jz H3.ctx (hp0.c) u28 ak q <| O ap fun cc a6 ap => jc ak q c77 H3 (fun _ => w_impl_amountsOk a6 (hp2_0.c)) <| ji (qt_not q) ak q <| a5 6 q q q ap
 refine Qn H3 fun a ha cd aC => X <| S1 ha ?_
 refine Yh q h (fun h => ?_) (fun h => ?_)
 ·cases h
  exact rR <| qa q <| qa q <| B <| W fun a ha => have a7 := aC.nS 3 tI; m (ret2 q ha q q ⟨(nS), q, a7.q1⟩)
 refine y <| rR <| qm q <| O h fun ce a9 h => U1 q c89 (w_impl_copyInts a9 (hp1.c) aC.ctx) fun ag cf ba => have aJ := aC.cN1 [] ba; qa q <| B <| C <| rR <| qm q <| qz aJ.ctx (hp0.c.c) u28 q <| qm q <| B <| g <| O h fun ax bb h => ?_
 refine fun cg bd => zp (I := fun (aj, aD) a w2 => (Fr a 85 [(5, pB b1), (8, ag), (33, vp0), (34, iV (List.length p0 : Int)), (35, iV aj)] ∧ Holds M0 w w2 [.bx b1 137 [A2_0, A2_1], .sl 3 tI ag aD] G)) (O := fun o e a w2 => match o with | .inl q0 => e = .exit 0 ∧ (Fr a 85 [(8, ag)] ∧ Holds M0 w w2 [.sl 3 tI ag q0] G) | .inr (q0, q1, q2) => e = .ret ∧ ∃ ar, Fr a 85 [(6, ar), (7, .bool q1)] ∧ Holds M0 w w2 [.sl 3 tI ar q0] G) bb ?_ ?_ ?_
 ·exact ⟨bd.s, aJ.p1⟩
 ·rintro ⟨aj, aD⟩ _ a be ae ⟨ha, aE⟩
  refine S1 ha <| rR <| qi (qt_lss q q) q <| B <| C ?_
  refine Yh q ae (fun ae => ?_) (fun ae => ?_)
  ·refine y <| C <| g <| rR <| qm q <| O ae fun aa aK ae => qb aE.ctx (hp0.c.c) aK u28 i95 q fun ch ci cj bf => ?_
   obtain ⟨ck, bg, bh⟩ := aE.atN (hp0.c.c) aK bf
   refine XL_load_agg (t := ty12) us95 uo95 i95 bg q q q fun cl bi => ?_
   obtain ⟨c57, c58, cm, cn, rfl, bj, bk, bl⟩ := bi
   obtain ⟨rfl, _⟩ := bk
   obtain ⟨c64, c65, co, cp, rfl, bm, bn, bo⟩ := bl
   obtain ⟨af, rfl, bp⟩ := Rep.sl_inv bn
   obtain ⟨rfl, _⟩ := bo
   have bq : Holds _ w be [.ro ty2 af aa.2.1, .bx b1 137 [A2_0, A2_1], .sl 3 tI ag aD] G := bh [.ro ty2 af aa.2.1] ⟨⟨_, _, _, _, q, bp, (fun k h => (fun k h => (fun _ h => h) k (by rw [bj]; exact zx _ h)) k (by rw [bm]; exact List.mem_append_left _ h))⟩, trivial⟩
   change XL _ _ _ _ _ ((39, .agg #[iV aa.1, af, iV aa.2.2]) :: _) _
   refine zq (cs := [iV 0, nS, iV 0]) bq z95 q q q fun aq cq aL => qa q <| zl (cs' := [iV aa.1, af, iV aa.2.2]) aL q il95 q (T q (T (aL.ctx.sliceOne hR1) (T q q))) q q q fun cr aF => B <| C <| rR <| qf uf95 fi95_1 nz93 q <| ql u93 aF.p0 q <| qz aF.ctx hR1 u93 q <| qm q <| B <| g <| O ae fun al br ae => ?_
   refine fun ct bt => zp (I := fun (aM, aN) a w2 => (Fr a 85 [(5, pB b1), (8, ag), (9, iV aj), (10, pB aq), (33, vp0), (34, iV (List.length p0 : Int)), (35, iV aj), (41, af), (42, iV (List.length aa.2.1 : Int)), (43, iV aM)] ∧ Holds M0 w w2 [.bx b1 137 [A2_0, A2_1], .sl 3 tI ag aN, .bx aq 95 [iV aa.1, af, iV aa.2.2], .ro ty2 af aa.2.1] G)) (O := fun o e a w2 => match o with | .inl q0 => e = .exit 2 ∧ (Fr a 85 [(5, pB b1), (8, ag), (9, iV aj), (10, pB aq), (33, vp0), (34, iV (List.length p0 : Int)), (35, iV aj)] ∧ Holds M0 w w2 [.bx b1 137 [A2_0, A2_1], .sl 3 tI ag q0, .bx aq 95 [iV aa.1, af, iV aa.2.2], .ro ty2 af aa.2.1] G) | .inr (q0, q1, q2) => e = .ret ∧ ∃ ar, Fr a 85 [(6, ar), (7, .bool q1)] ∧ Holds M0 w w2 [.sl 3 tI ar q0] G) br ?_ ?_ ?_
   ·exact ⟨bt.s, aF.p1.p1.p3.p3⟩
   ·rintro ⟨aM, aN⟩ _ a cu ad ⟨ha, ay⟩
    refine S1 ha <| rR <| qi (qt_lss q q) q <| B <| C ?_
    refine Yh q ad (fun ad => ?_) (fun ad => ?_)
    ·refine y <| C <| g <| rR <| O ad fun au aO ad => qe ay hR3 aO u93 i152 q fun _ _ bu => lP [iV au.1, iV au.2] us152 uo152 i152 bu q q q q <| zq (cs := [iV 0, iV 0]) ay z152 q q q fun cy cz bv => zl (cs' := [iV au.1, iV au.2]) bv q il152 q q q q q fun cA bw => B <| C <| WP_tail 13 (by kernel_rfl) (by kernel_rfl) fun cB bz => have ah := bw.grow bz; qm q <| qf uf152 fi152_0 nz3 q <| ql u3 ah.p0 q <| O ad fun bA aP ad => qe ah hS2 aP u23 i3 q fun _ _ bB => eI u3 bB q <| qf uf137 fi137_0 nz23 q <| ql u23 ah.p1 q <| qm q <| O ad fun bC aQ ad => qe ah (hp2_0.c.c.c.c.c) aQ u23 i3 q fun _ _ bD => eI u3 bD q <| qf uf152 fi152_1 nz3 q <| ql u3 ah.p0 q <| qi (qt_mul q q) q <| SL_nil <| qi (qt_sub q q) q <| O ad fun cI aR ad => qb ah.ctx hS2 aR u23 i3 q fun cJ cK cL bE => ?_
     refine WL_storeH (fo := 0) (cs' := [iV (IntKind.wrap .i64 (bA - (IntKind.wrap .i64 (bC * au.2))))]) ah.p2 aR bE (Upd.whole (Blt.int)) q il3 q q q q fun cM av => rN <| qm q <| qf uf152 fi152_0 nz3 q <| ql u3 av.p1 q <| O ad fun cN aS ad => qe av hS0 aS u23 i3 q fun _ _ bG => eI u3 bG q <| qi (qt_lss q q) q <| B ?_
     refine Yh q ad (fun ad => ?_) (fun ad => ?_)
     ·cases ad
      exact rR <| qa q <| qa q <| B <| W fun a ha => have bH := av.nS 3 tI; zj (m (⟨ret_ne, q, (nS), ha.s, bH.q1.q1.q1.q1.q1⟩))
     cases ad
     exact WP_skip fun a ha => zi <| X <| S1 ha <| Z <| qi (qt_add q q) q <| qm q <| WL_nil fun a ha => ⟨q, ha.s, av.q1.p3.p3.p2.p3⟩
    cases ad
    exact WP_exit fun a ha => zo (⟨exit_ne, q, ha.s, ay.p3.p3.p3.p3⟩)
   intro e a cR aT
   rcases al with al | al
   ·obtain ⟨rfl, ha, bL⟩ := aT
    refine zn <| X <| S1 ha <| O ae fun aU az ae => O ae fun aV aA ae => O ae fun aW bM ae => O ae fun cS aX ae => ?_
    refine WP_mid (Mid := fun a w2 => (Fr a 85 [(5, pB b1), (8, ag), (33, vp0), (34, iV (List.length p0 : Int)), (35, iV aj)] ∧ Holds M0 w w2 [.bx b1 137 [A2_0, A2_1], .sl 3 tI ag (List.set al (Int.toNat aj) (IntKind.wrap .i64 (aU + (IntKind.wrap .i64 (aV * aW)))))] G)) ?_ ?_
    ·refine WP_ordersT (fun w1 w2 => Chg M0 w1 w2) 13 (by kernel_rfl) fun aG bN => have aY := bL.grow bN; ?_
     have aw : Ctx aG ([] ++ ([.bx b1 137 [A2_0, A2_1], .sl 3 tI ag al, .bx aq 95 [iV aa.1, af, iV aa.2.2], .ro ty2 af aa.2.1] ++ G)) := aY.ctx
     have ab : Holds _ aG aG [] ([.bx b1 137 [A2_0, A2_1], .sl 3 tI ag al, .bx aq 95 [iV aa.1, af, iV aa.2.2], .ro ty2 af aa.2.1] ++ G) := zb (Rs := []) aw
     refine XQ (i := 0) q (by kernel_rfl) q ab.chg q (fun _ => qt_move q) q q <| XQ (i := 1) q (by kernel_rfl) q ab.chg q (fun _ => qt_move q) q q ?_
     obtain ⟨cT, cU, cV, aH⟩ := Ctx.isAt ab.ctx hS1 az
     refine XT (i := 2) q (by kernel_rfl) q ab.chg q (qs_index az aH u23 i3 q q) q q ?_
     obtain ⟨cW, bO, cX⟩ := ab.at hS1 az aH
     refine XT (i := 3) q (by kernel_rfl) q ab.chg q (qs_cell u3 q q (AtP.cInt bO) ab.chg (Ctx.outHas aw hS1 az aH)) q q <| XQ (i := 4) q (by kernel_rfl) q ab.chg q (fun _ => qt_fieldAddr uf137 fi137_0 nz23 q) q q <| have bP := HasB.bx (HasB.hd) ab.ctx; XT (i := 5) q (by kernel_rfl) q ab.chg q (qs_cell u23 q q (bP.cell (i := 0) q) ab.chg (Ctx.outB aw (HasB.hd))) q q <| XQ (i := 6) q (by kernel_rfl) q ab.chg q (fun _ => qt_move q) q q ?_
     obtain ⟨cY, cZ, c0, aI⟩ := Ctx.isAt ab.ctx (hp2_0.c.c.c.c) aA
     refine XT (i := 7) q (by kernel_rfl) q ab.chg q (qs_index aA aI u23 i3 q q) q q ?_
     obtain ⟨c1, bQ, c2⟩ := ab.at (hp2_0.c.c.c.c) aA aI
     refine XT (i := 8) q (by kernel_rfl) q ab.chg q (qs_cell u3 q q (AtP.cInt bQ) ab.chg (Ctx.outHas aw (hp2_0.c.c.c.c) aA aI)) q q <| have bR := HasB.bx (HasB.c (HasB.c (HasB.hd))) ab.ctx; XT (i := 9) q (by kernel_rfl) q ab.chg q (qs_agg (cs := [iV aa.1, af, iV aa.2.2]) us95 uo95 il95 q (fun j z hj => by rw [Nat.zero_add]; exact bR.cell hj) ab.chg (Ctx.outB aw (HasB.c (HasB.c (HasB.hd))))) q q ?_
     change XC _ _ _ _ _ _ _ _ ((78, .agg #[iV aa.1, af, iV aa.2.2]) :: _) _
     exact X1 10 (by kernel_rfl) q <| U0 q c144 (w_impl_runMakes bM hR3 ab.ctx) fun c3 bS => have aB := ab.cN0 [] bS; XN aB.chg <| XQ (i := 11) q (by kernel_rfl) q aB.chg q (fun _ => qt_mul q q) q q <| XQ (i := 12) q (by kernel_rfl) q aB.chg q (fun _ => qt_add q q) q q <| have aZ := aY.cN0 [] aB; X1 13 (by kernel_rfl) q <| qb aZ.ctx hS1 aX u23 i3 q fun c4 da db bT => XE q <| X1 14 (by kernel_rfl) q <| WL_storeH (fo := 0) (cs' := [iV (IntKind.wrap .i64 (aU + (IntKind.wrap .i64 (aV * aW))))]) aZ.p1 aX bT (Upd.whole (Blt.int)) q il3 q q q q fun dc bV => XE q <| XC_done (by kernel_rfl) fun a ha => ⟨ha.s, bV.q2.q2.p1⟩
    rintro a dd ⟨ha, bX⟩
    cases ae
    exact zi <| X <| S1 ha <| Z <| qi (qt_add q q) q <| qm q <| WL_nil fun a ha => ⟨q, ha.s, bX.p1.p1⟩
   obtain ⟨de, df, dg⟩ := al
   obtain ⟨rfl, bZ, ha, b0⟩ := aT
   cases ae
   exact zj (m (zj (m (⟨ret_ne, q, bZ, ha.s, b0⟩))))
  cases ae
  exact WP_exit fun a ha => zo (⟨exit_ne, q, ha.s, aE.q0⟩)
 intro e a dh a0
 rcases ax with ax | ax
 ·obtain ⟨rfl, ha, b5⟩ := a0
  cases h
  exact zn <| X <| S1 ha <| rR <| qm q <| qa q <| qa q <| B <| W fun a ha => ret2 q ha q q ⟨ag, q, b5⟩
 obtain ⟨di, dj, dk⟩ := ax
 obtain ⟨rfl, b6, ha, b8⟩ := a0
 cases h
 exact zj (m (ret2 q ha q q ⟨b6, q, b8⟩))
theorem w_impl_doMake {w G bp0 A0 B0 csp0_0 Fp0_0 A1 B1 A2 B2 B3 A4 B4 csp0_4 Fp0_4 p1 p2 r} (h : impl_doMakeS B0 B1 B2 B3 B4 p1 p2 = some r) (H : Ctx w ([.bx bp0 31 [A0, A1, A2, iV B3, A4], dpR 95 dt15 A0 csp0_0 B0 Fp0_0, .sl 3 tI A1 B1, .sl 3 tI A2 B2, dpR 89 dt16 A4 csp0_4 B4 Fp0_4] ++ G)) : Calls Tryz.prog 83 #[pB bp0, iV p1, iV p2] w fun e w' => ∃ (wp0_2 : Value), e = .returned (.bool r.2) ∧ Holds (([.bx bp0 31 [A0, A1, A2, iV B3, A4], dpR 95 dt15 A0 csp0_0 B0 Fp0_0, .sl 3 tI A1 B1, .sl 3 tI A2 B2, dpR 89 dt16 A4 csp0_4 B4 Fp0_4] : List Res).flatMap Res.own) w w' [.bx bp0 31 [A0, A1, wp0_2, iV B3, A4], dpR 95 dt15 A0 csp0_0 B0 Fp0_0, .sl 3 tI A1 B1, .sl 3 tI wp0_2 r.1, dpR 89 dt16 A4 csp0_4 B4 Fp0_4] G := by
 refine F1 53 H Tryz.func83 q fun H => ?_
 refine rR <| qa q <| B <| C <| rR <| qm q <| qm q <| O h fun x1 az h => have V3 := H.viewG (Vw.c (Vw.d (Vw.c (Vw.c (Vw.d Vw.refl))))); U0 q c119 (w_impl_isItem az hR0 hS1 hS2 hR3 V3) fun w4 H5 => have H6 := H.cV1 [_] H5 (zc Pure.bx all_nil); qi (qt_not q) q <| qm q ?_
 refine Ho (res := ((!x1) || (decide (p2 < 1)))) 2 os (fun aj K8 aA => ?_) ?_
 ·exact jm aj q <| ji (qt_lss q q) aj q <| aA 2 q q q (oi aj)
 refine qm q ?_
 refine Ho (res := (((!x1) || (decide (p2 < 1))) || (decide (p2 > 50)))) 2 os (fun ak a0 aB => ?_) ?_
 ·exact jm ak q <| ji (qt_gtr q q) ak q <| aB 2 q q q (oi ak)
 refine B ?_
 refine Yh q h (fun h => ?_) (fun h => ?_)
 ·cases h
  exact rR <| qa q <| B <| W fun a ha => m (ret1 q ha q ⟨A2, q, H6.p4.p4.p4.p4.p4⟩)
 refine y <| rR <| qm q <| qn q <| qf uf31 fi31_0 nz28 q <| ql u28 H6.p0 q <| have aD := H6.viewG (Vw.c (Vw.d (Vw.c (Vw.c (Vw.d Vw.refl))))); qz aD hR1 u28 q <| O h fun aq aE h => WL_makeH H6 aE u23 j3 q (fun _ => ⟨q, q⟩) q q q q q fun ab a1 ar => have aF := ar.viewG (Vw.c (Vw.c (Vw.d (Vw.c (Vw.c (Vw.d Vw.refl)))))); qi (qt_build (args := [(0, .tmp 27)]) (css := [#[ab]]) (cells := #[ab, nS]) q ⟨(aF.sliceCells hS0), trivial⟩ (by kernel_rfl)) q <| zq (cs := [nS, nS]) ar z137 q q q fun au a2 av => have aG := av.viewG (Vw.c (Vw.c (Vw.c (Vw.d (Vw.c (Vw.c (Vw.d Vw.refl))))))); zl (cs' := [ab, nS]) av q il137 q (T (aG.sliceOne hS1) (T q q)) q q q fun a3 al => rN <| qf uf137 fi137_0 nz23 q <| ql u23 al.p0 q <| qm q <| qm q <| O h fun a4 aw h => have aH := al.viewG (Vw.c (Vw.c (Vw.c (Vw.d (Vw.c (Vw.c (Vw.d Vw.refl))))))); qb aH hS1 aw u23 i3 q fun a5 a6 a7 aI => ?_
 refine WL_storeH (fo := 0) (cs' := [iV p2]) al.p1 aw aI (Upd.whole (Blt.int)) q il3 q q q q fun a8 aK => B <| C <| O h fun am aL h => ?_
 refine WP_join (M := fun a w2 => ∃ af, Fr a 53 [(0, pB bp0), (8, af), (9, .bool am.2)] ∧ Holds (([.bx bp0 31 [A0, A1, A2, iV B3, A4], dpR 95 dt15 A0 csp0_0 B0 Fp0_0, .sl 3 tI A1 B1, .sl 3 tI A2 B2, dpR 89 dt16 A4 csp0_4 B4 Fp0_4] : List Res).flatMap Res.own) w w2 [.bx bp0 31 [A0, A1, A2, iV B3, A4], dpR 95 dt15 A0 csp0_0 B0 Fp0_0, .sl 3 tI A1 B1, .sl 3 tI A2 B2, dpR 89 dt16 A4 csp0_4 B4 Fp0_4, .sl 3 tI af am.1] G) ?_ ?_
 ·refine WP_ordersT (fun w1 w2 => Chg M0 w1 w2) 14 (by kernel_rfl) fun ao aM => have ax := aK.grow aM; ?_
  have ag : Ctx ao ([] ++ ([.sl 3 tI ab (List.set aq (Int.toNat p1) p2), .bx au 137 [ab, nS], .bx bp0 31 [A0, A1, A2, iV B3, A4], .ro ty12 A0 B0, .sl 3 tI A1 B1, .sl 3 tI A2 B2, .ro ty14 A4 B4] ++ G)) := ax.viewG (Vw.c (Vw.c (Vw.c (Vw.d (Vw.c (Vw.c (Vw.d Vw.refl)))))))
  have aa : Holds _ ao ao [] ([.sl 3 tI ab (List.set aq (Int.toNat p1) p2), .bx au 137 [ab, nS], .bx bp0 31 [A0, A1, A2, iV B3, A4], .ro ty12 A0 B0, .sl 3 tI A1 B1, .sl 3 tI A2 B2, .ro ty14 A4 B4] ++ G) := zb (Rs := []) ag
  refine XQ (i := 0) q (by kernel_rfl) q aa.chg q (fun _ => qt_move q) q q <| XQ (i := 1) q (by kernel_rfl) q aa.chg q (fun _ => qt_nilCheck q) q q <| XQ (i := 2) q (by kernel_rfl) q aa.chg q (fun _ => qt_fieldAddr uf31 fi31_0 nz28 q) q q <| have aN := HasB.bx (HasB.c (HasB.c (HasB.hd))) aa.ctx; XT (i := 3) q (by kernel_rfl) q aa.chg q (qs_cell u28 q q (aN.cell (i := 0) q) aa.chg (Ctx.outB ag (HasB.c (HasB.c (HasB.hd))))) q q <| XQ (i := 4) q (by kernel_rfl) q aa.chg q (fun _ => qt_move q) q q <| XQ (i := 5) q (by kernel_rfl) q aa.chg q (fun _ => qt_nilCheck q) q q <| XQ (i := 6) q (by kernel_rfl) q aa.chg q (fun _ => qt_fieldAddr uf31 fi31_2 nz23 q) q q <| have aO := HasB.bx (HasB.c (HasB.c (HasB.hd))) aa.ctx; XT (i := 7) q (by kernel_rfl) q aa.chg q (qs_cell u23 q q (aO.cell (i := 2) q) aa.chg (Ctx.outB ag (HasB.c (HasB.c (HasB.hd))))) q q <| have aP := HasB.bx (HasB.c (HasB.hd)) aa.ctx; XT (i := 8) q (by kernel_rfl) q aa.chg q (qs_agg (cs := [ab, nS]) us137 uo137 il137 q (fun j z hj => by rw [Nat.zero_add]; exact aP.cell hj) aa.chg (Ctx.outB ag (HasB.c (HasB.hd)))) q q ?_
  change XC _ _ _ _ _ _ _ _ ((43, .agg #[ab, nS]) :: _) _
  exact X1 9 (by kernel_rfl) q <| U1 q c120 (w_impl_MakeRun aL hR3 hS5 hS0 (HasRo.has HasRo.nil) aa.ctx) fun aQ a9 aR => have ad := aa.cN1 [] aR; XN ad.chg <| XQ (i := 10) q (by kernel_rfl) q ad.chg q (fun _ => qt_move q) q q <| XQ (i := 11) q (by kernel_rfl) q ad.chg q (fun _ => zv q q) q q <| XQ (i := 12) q (by kernel_rfl) q ad.chg q (fun _ => zv q q) q q <| XQ (i := 13) q (by kernel_rfl) q ad.chg q (fun _ => qt_assign q) q q <| have aS := ax.cV1 [] ad (zc (Pure.sl q) all_nil); X1 14 (by kernel_rfl) q <| qa q <| XE q <| XC_done (by kernel_rfl) fun a ha => ⟨aQ, ha.s, aS.q1.q1.p5.p5.p5.p5.p5⟩
 rintro a ba ⟨af, ha, ap⟩
 refine S1 ha <| C <| rR <| qm q <| B <| O h fun aU ae h => ?_
 refine WP_join (M := fun a w2 => ∃ ah, Fr a 53 [(0, pB bp0), (9, .bool am.2)] ∧ Holds (([.bx bp0 31 [A0, A1, A2, iV B3, A4], dpR 95 dt15 A0 csp0_0 B0 Fp0_0, .sl 3 tI A1 B1, .sl 3 tI A2 B2, dpR 89 dt16 A4 csp0_4 B4 Fp0_4] : List Res).flatMap Res.own) w w2 [.bx bp0 31 [A0, A1, ah, iV B3, A4], dpR 95 dt15 A0 csp0_0 B0 Fp0_0, .sl 3 tI A1 B1, .sl 3 tI ah aU, dpR 89 dt16 A4 csp0_4 B4 Fp0_4] G) ?_ ?_
 ·refine Yh q ae (fun ae => ?_) (fun ae => ?_)
  ·cases ae
   exact Z <| qm q <| qm q <| qn q <| qf uf31 fi31_2 nz23 q <| have ay := ap.viewG (Vw.c (Vw.d (Vw.c (Vw.c (Vw.d (Vw.c Vw.refl)))))); WL_store_bx ap q il23 (ay.sliceCells hS5) (ay.sliceOne hS5) q q q fun bb aV => WL_nil fun a ha => X (⟨af, ha.s, aV.q3.p3.p4.p4.p4.p4⟩)
  refine WP_skip fun a ha => ?_
  obtain rfl := L ae
  exact X (⟨A2, ha.s, ap.q5.p4.p4.p4.p4.p4⟩)
 rintro a bc ⟨ah, ha, aY⟩
 cases h
 exact S1 ha <| rR <| qm q <| qa q <| B <| W fun a ha => ret1 q ha q ⟨ah, q, aY.p4.p4.p4.p4.p4⟩
theorem w_impl_doOrder {w G bp0 A0 B0 csp0_0 Fp0_0 A1 B1 A2 B2 B3 A4 B4 csp0_4 Fp0_4 p1 p2 p3 r} (h : impl_doOrderS B0 B1 B2 B3 B4 p1 p2 p3 = some r) (H : Ctx w ([.bx bp0 31 [A0, A1, A2, iV B3, A4], dpR 95 dt15 A0 csp0_0 B0 Fp0_0, .sl 3 tI A1 B1, .sl 3 tI A2 B2, dpR 89 dt16 A4 csp0_4 B4 Fp0_4] ++ G)) : Calls Tryz.prog 84 #[pB bp0, iV p1, iV p2, iV p3] w fun e w' => ∃ (dsp0_4 : List Value) (Ep0_4 : List Nat), e = .returned (.bool r.2.2) ∧ Holds (([.bx bp0 31 [A0, A1, A2, iV B3, A4], dpR 95 dt15 A0 csp0_0 B0 Fp0_0, .sl 3 tI A1 B1, .sl 3 tI A2 B2, dpR 89 dt16 A4 csp0_4 B4 Fp0_4] : List Res).flatMap Res.own) w w' [.bx bp0 31 [A0, A1, A2, iV B3, A4], dpR 95 dt15 A0 csp0_0 B0 Fp0_0, .sl 3 tI A1 B1, .sl 3 tI A2 r.1, dpR 89 dt16 A4 dsp0_4 r.2.1 Ep0_4] G := by
 refine F1 79 H Tryz.func84 q fun H => ?_
 refine rR <| qa q <| B <| C <| rR <| qm q <| qi (qt_lss q q) q <| qm q ?_
 refine Ho (res := ((decide (p1 < 0)) || (decide (p1 ≥ (List.length B4 : Int))))) 7 os (fun ag K2 aD => ?_) ?_
 ·exact jm ag q <| jm ag q <| jn ag q <| jf uf31 fi31_4 nz29 ag q <| jl u29 H.p0 ag q <| have V5 := H.viewG (Vw.c (Vw.d (Vw.c (Vw.c (Vw.d Vw.refl))))); jz V5 hR4 u29 ag q <| ji (qt_geq q q) ag q <| aD 7 q q q (oi ag)
 refine B ?_
 refine Yh q h (fun h => ?_) (fun h => ?_)
 ·cases h
  exact rR <| qa q <| B <| W fun a ha => m (ret1 q ha q ⟨csp0_4, Fp0_4, q, H.p4.p4.p4.p4.p4⟩)
 refine y <| rR <| qm q <| qn q <| qf uf31 fi31_4 nz29 q <| ql u29 H.p0 q <| qm q <| O h fun x8 af h => have aE := H.viewG (Vw.c (Vw.d (Vw.c (Vw.c (Vw.d Vw.refl))))); qb aE hR4 af u29 i89 q fun aF aG bt ah => qa q <| B <| C <| C <| O h fun bu av h => O h fun aH aw h => O h fun aI ax h => ?_
 refine WP_join (M := fun a w2 => (Fr a 79 [(0, pB bp0), (2, iV p2), (3, iV p3), (9, .pointer (some ⟨aF, (aG + Int.toNat p1 * Ty.size ty14), none⟩)), (48, .bool aI)] ∧ Holds (([.bx bp0 31 [A0, A1, A2, iV B3, A4], dpR 95 dt15 A0 csp0_0 B0 Fp0_0, .sl 3 tI A1 B1, .sl 3 tI A2 B2, dpR 89 dt16 A4 csp0_4 B4 Fp0_4] : List Res).flatMap Res.own) w w2 [.bx bp0 31 [A0, A1, A2, iV B3, A4], dpR 95 dt15 A0 csp0_0 B0 Fp0_0, .sl 3 tI A1 B1, .sl 3 tI A2 B2, dpR 89 dt16 A4 csp0_4 B4 Fp0_4] G)) ?_ ?_
 ·refine WP_ordersT (fun w1 w2 => Chg M0 w1 w2) 22 (by kernel_rfl) fun am aJ => have ao := H.grow aJ; ?_
  have aj : Ctx am ([] ++ ([.bx bp0 31 [A0, A1, A2, iV B3, A4], .ro ty12 A0 B0, .sl 3 tI A1 B1, .sl 3 tI A2 B2, .ro ty14 A4 B4] ++ G)) := ao.viewG (Vw.c (Vw.d (Vw.c (Vw.c (Vw.d Vw.refl)))))
  have aa : Holds _ am am [] ([.bx bp0 31 [A0, A1, A2, iV B3, A4], .ro ty12 A0 B0, .sl 3 tI A1 B1, .sl 3 tI A2 B2, .ro ty14 A4 B4] ++ G) := zb (Rs := []) aj
  rcases btf (!aH) with ab | ab
  ·have aK := if_t ab ax
   obtain rfl := L aK
   refine XQ (i := 0) q (by kernel_rfl) q aa.chg q (fun _ => qt_move q) q q <| XQ (i := 1) q (by kernel_rfl) q aa.chg q (fun _ => qt_nilCheck q) q q <| XQ (i := 2) q (by kernel_rfl) q aa.chg q (fun _ => qt_fieldAddr uf31 fi31_0 nz28 q) q q <| have aL := HasB.bx (HasB.hd) aa.ctx; XT (i := 3) q (by kernel_rfl) q aa.chg q (qs_cell u28 q q (aL.cell (i := 0) q) aa.chg (Ctx.outB aj (HasB.hd))) q q <| XQ (i := 4) q (by kernel_rfl) q aa.chg q (fun _ => qt_move q) q q <| XQ (i := 5) q (by kernel_rfl) q aa.chg q (fun _ => qt_nilCheck q) q q <| XQ (i := 6) q (by kernel_rfl) q aa.chg q (fun _ => qt_fieldAddr uf89 fi89_0 nz3 q) q q ?_
   obtain ⟨bv, aM, bw⟩ := aa.at hR4 af ah
   obtain ⟨bz, aN, bA⟩ := AtP.fst aM
   refine XT (i := 7) q (by kernel_rfl) q aa.chg q (qs_cell u3 q q (AtP.cInt aN) aa.chg (Ctx.outHas aj hR4 af ah)) q q <| XQ (i := 9) q (by kernel_rfl) q aa.chg q (fun _ => qt_move q) q q <| X1 8 (by kernel_rfl) q <| U1 q c96 (w_impl_FreeOf av hR1 aa.ctx) fun bB bC aO => have ap := aa.cN1 [] aO; XN ap.chg <| X1 10 (by kernel_rfl) q <| U0 q c117 (w_slices_Contains___int_int aw hS0 ap.ctx) fun bD aP => have ae := ap.cN0 [] aP; XN ae.chg <| XQ (i := 11) q (by kernel_rfl) q ae.chg q (fun _ => qt_not q) q q <| XQ (i := 12) q (by kernel_rfl) q ae.chg q (fun _ => qt_move q) q q <| XS (i := 13) q (by kernel_rfl) q ae.chg q ab q q <| XS (i := 14) q (by kernel_rfl) q ae.chg q ab q q <| XS (i := 15) q (by kernel_rfl) q ae.chg q ab q q <| XS (i := 16) q (by kernel_rfl) q ae.chg q ab q q <| XS (i := 17) q (by kernel_rfl) q ae.chg q ab q q <| XS (i := 18) q (by kernel_rfl) q ae.chg q ab q q <| XS (i := 19) q (by kernel_rfl) q ae.chg q ab q q ?_
   exact XS (i := 20) q (by kernel_rfl) q ae.chg q ab q q <| XQ (i := 21) q (by kernel_rfl) q ae.chg q (fun _ => ze q ab q) q q <| have aQ := ao.cV1 [] ae (zc (Pure.sl q) all_nil); XC_done (by kernel_rfl) fun a ha => ⟨ha.s, aQ.q0.p4.p4.p4.p4.p4⟩
  refine have aq := if_f ab ax; O aq fun bE al aq => ?_
  obtain rfl := L aq
  refine XQ (i := 0) q (by kernel_rfl) q aa.chg q (fun _ => qt_move q) q q <| XQ (i := 1) q (by kernel_rfl) q aa.chg q (fun _ => qt_nilCheck q) q q <| XQ (i := 2) q (by kernel_rfl) q aa.chg q (fun _ => qt_fieldAddr uf31 fi31_0 nz28 q) q q <| have aS := HasB.bx (HasB.hd) aa.ctx; XT (i := 3) q (by kernel_rfl) q aa.chg q (qs_cell u28 q q (aS.cell (i := 0) q) aa.chg (Ctx.outB aj (HasB.hd))) q q <| XQ (i := 4) q (by kernel_rfl) q aa.chg q (fun _ => qt_move q) q q <| XQ (i := 5) q (by kernel_rfl) q aa.chg q (fun _ => qt_nilCheck q) q q <| XQ (i := 6) q (by kernel_rfl) q aa.chg q (fun _ => qt_fieldAddr uf89 fi89_0 nz3 q) q q ?_
  obtain ⟨bF, aT, bG⟩ := aa.at hR4 af ah
  obtain ⟨bH, aU, bI⟩ := AtP.fst aT
  refine XT (i := 7) q (by kernel_rfl) q aa.chg q (qs_cell u3 q q (AtP.cInt aU) aa.chg (Ctx.outHas aj hR4 af ah)) q q <| XQ (i := 9) q (by kernel_rfl) q aa.chg q (fun _ => qt_move q) q q <| X1 8 (by kernel_rfl) q <| U1 q c96 (w_impl_FreeOf av hR1 aa.ctx) fun bJ bK aV => have ar := aa.cN1 [] aV; XN ar.chg <| X1 10 (by kernel_rfl) q <| U0 q c117 (w_slices_Contains___int_int aw hS0 ar.ctx) fun bL aW => have ad := ar.cN0 [] aW; XN ad.chg <| XQ (i := 11) q (by kernel_rfl) q ad.chg q (fun _ => qt_not q) q q <| XQ (i := 12) q (by kernel_rfl) q ad.chg q (fun _ => qt_move q) q q <| XQ (i := 13) q (by kernel_rfl) q ad.chg (J q ab) (fun _ => qt_move q) q q <| XQ (i := 14) q (by kernel_rfl) q ad.chg (J q ab) (fun _ => qt_nilCheck q) q q <| XQ (i := 15) q (by kernel_rfl) q ad.chg (J q ab) (fun _ => qt_fieldAddr uf31 fi31_2 nz23 q) q q <| have aX := HasB.bx (HasB.c (HasB.hd)) ad.ctx; XT (i := 16) q (by kernel_rfl) q ad.chg (J q ab) (qs_cell u23 q q (aX.cell (i := 2) q) ad.chg (Ctx.outB aj (HasB.hd))) q q <| XQ (i := 17) q (by kernel_rfl) q ad.chg (J q ab) (fun _ => qt_move q) q q ?_
  obtain ⟨bM, bN, bO, au⟩ := Ctx.isAt ad.ctx hS4 al
  refine XT (i := 18) q (by kernel_rfl) q ad.chg (J q ab) (qs_index al au u23 i3 q q) q q ?_
  obtain ⟨bP, aY, bQ⟩ := ad.at hS4 al au
  exact XT (i := 19) q (by kernel_rfl) q ad.chg (J q ab) (qs_cell u3 q q (AtP.cInt aY) ad.chg (Ctx.outHas aj hS3 al au)) q q <| XQ (i := 20) q (by kernel_rfl) q ad.chg (J q ab) (fun _ => qt_lss q q) q q <| XQ (i := 21) q (by kernel_rfl) q ad.chg q (fun _ => zf q ab q) q q <| have aZ := ao.cV1 [] ad (zc (Pure.sl q) all_nil); XC_done (by kernel_rfl) fun a ha => ⟨ha.s, aZ.q0.p4.p4.p4.p4.p4⟩
 rintro a bR ⟨ha, ak⟩
 refine S1 ha ?_
 refine Yh q h (fun h => ?_) (fun h => ?_)
 ·cases h
  exact rR <| qa q <| B <| W fun a ha => m (ret1 q ha q ⟨csp0_4, Fp0_4, q, ak.p4.p4.p4.p4.p4⟩)
 refine y <| rR <| qm q <| qn q <| qf uf31 fi31_2 nz23 q <| ql u23 ak.p0 q <| qm q <| O h fun a2 ay h => have az := ak.viewG (Vw.c (Vw.d (Vw.c (Vw.c (Vw.d Vw.refl))))); qb az hS3 ay u23 i3 q fun bS bT bU a3 => eI u3 (ak.el hS3 ay a3) q <| qi (qt_sub q q) q <| O h fun bV aA h => qb az hS3 aA u23 i3 q fun bW bX bY a4 => WL_storeH (fo := 0) (cs' := [iV (IntKind.wrap .i64 (a2 - 1))]) ak.p3 aA a4 (Upd.whole (Blt.int)) q il3 q q q q fun bZ a6 => rN <| qm q <| qm q <| qn q <| qf uf89 fi89_1 nz87 q <| have aB := a6.p4; ?_
 obtain ⟨b0, a7, a8, b4, b5, b6⟩ := Holds.ns aB ((Foc.snd (Foc.fst Foc.refl))) af ah
 refine XL_load_cell u87 q a8 q q q <| qm q <| qi (qt_build (args := [(0, .tmp 63), (1, .const (iV 0))]) (css := [#[iV p3], #[iV 0]]) (cells := #[iV p3, iV 0]) q ⟨q, q, trivial⟩ (by kernel_rfl)) q <| zs (t := ty2) (args := [.tmp 64]) (xs := ([(p3, 0)] : LP)) aB (BltL.cons (Blt.pair (Blt.int) (Blt.int)) q (BltL.nil)) u87 j103 q q q q q q fun b7 b8 a9 => ?_
 obtain ⟨b9, bb⟩ := Holds.borrow a9.p1 ((Foc.snd (Foc.fst Foc.refl))) af a7
 refine O h fun ca bc h => zw bb hS2 bc u87 j103 q q q q q q fun cb cc bd => qn q <| qf uf89 fi89_1 nz87 q <| WL_storeHole q bd.p1.p1 ah il87 q q q fun cd ce cf aC => rN <| qm q <| qm q <| qn q <| qf uf89 fi89_2 nz23 q ?_
 obtain ⟨cg, bg, bh, ch, ci, cj⟩ := Holds.ns aC ((Foc.snd (Foc.snd Foc.refl))) (geti_set af) (set_len ah)
 refine XL_load_cell u23 q bh q q q <| qm q <| zs (t := tI) (args := [.tmp 74]) (xs := ([p2] : List Int)) aC (BltL.cons (Blt.int) q (BltL.nil)) u23 j3 q q q q q q fun ck cl bi => ?_
 obtain ⟨cm, bk⟩ := Holds.borrow bi.p1 ((Foc.snd (Foc.snd Foc.refl))) (geti_set af) bg
 refine O h fun cn bl h => zw bk hS2 bl u23 j3 q q q q q q fun co cp bm => qn q <| qf uf89 fi89_2 nz23 q <| WL_storeHole q bm.p1.p1 (set_len ah) il23 q q q fun bp bq cq br => rN <| qa q <| B <| W fun a ha => ?_
 cases h
 exact ret1 q ha q ⟨bp, bq, q, br.q1.q1.p1.p4.p4.p4⟩
theorem w_impl_kitchenOf {w G A0 B0 A1 B1 A2 B2 B3 A4 B4 r} (h : impl_kitchenOfS B0 B1 B2 B3 B4 = some r) (C0 : Has G ty12 A0 B0) (C1 : Has G tI A1 B1) (C2 : Has G tI A2 B2) (C4 : Has G ty14 A4 B4) (H : Ctx w G) : Calls Tryz.prog 88 #[.agg #[A0, A1, A2, iV B3, A4]] w fun e w' => ∃ (v1 : Value) (csv1 : List Value) (Fv1 : List Nat), e = .returned (v1) ∧ Holds M0 w w' [dpR 87 dt6 v1 csv1 r Fv1] G := by
 refine F0 26 H Tryz.func88 q fun H => ?_
 refine C <| Z <| WL_box (cs := [A0, A1, A2, iV B3, A4]) H q q q q fun b1 w2 H3 => qa q <| rN <| qf uf31 fi31_4 nz29 q <| ql u29 H3.p0 q <| qz H3.ctx (C4.c) u29 q <| O h fun x6 aA h => WL_makeD (d := dt6) H3 aA u65 j87 q (DBlt.cast (DBlt.nil (e := 103) (d := dt3)) q q) q q q q q fun v8 aB aC w9 ah => qa q <| B <| C <| rR <| qf uf31 fi31_4 nz29 q <| ql u29 ah.p1 q <| have aD := ah.viewG (Vw.d (Vw.c Vw.refl)); qz aD (C4.c.c) u29 q <| qm q <| B <| g <| O h fun ba aE h => ?_
 refine fun bb aG => zp (I := fun (ao, aj) a w2 => ∃ ad ae, Fr a 26 [(3, v8), (11, A4), (12, iV (List.length B4 : Int)), (13, iV ao)] ∧ Holds M0 w w2 [dpR 87 dt6 v8 ad aj ae] G) (O := fun q0 e a w2 => e = .exit 0 ∧ ∃ aH aI, Fr a 26 [(3, v8)] ∧ Holds M0 w w2 [dpR 87 dt6 v8 aH q0 aI] G) aE ?_ ?_ ?_
 ·exact ⟨aB, aC, aG.s, ah.q1⟩
 ·rintro ⟨ao, aj⟩ _ a aJ aa ⟨ad, ae, ha, ak⟩
  refine S1 ha <| rR <| qi (qt_lss q q) q <| B <| C ?_
  refine Yh q aa (fun aa => ?_) (fun aa => ?_)
  ·refine y <| C <| g <| rR <| qm q <| O aa fun ab ap aa => have aK := ak.viewG (Vw.d Vw.refl); qb aK (C4.c) ap u29 i89 q fun bc bd be aL => ?_
   obtain ⟨bf, aM, aN⟩ := ak.atN (C4.c) ap aL
   refine XL_load_agg (t := ty14) us89 uo89 i89 aM q q q fun bg aO => ?_
   obtain ⟨c40, c41, bh, bi, rfl, aq, aP, aQ⟩ := aO
   obtain ⟨rfl, _⟩ := aP
   obtain ⟨c47, c48, bj, bk, rfl, ar, aR, aS⟩ := aQ
   obtain ⟨af, rfl, aT⟩ := Rep.sl_inv aR
   obtain ⟨ag, rfl, aU⟩ := Rep.sl_inv aS
   have aV : Holds _ w aJ [.ro ty2 af ab.2.1, .ro tI ag ab.2.2, dpR 87 dt6 v8 ad aj ae] G := aN [.ro ty2 af ab.2.1, .ro tI ag ab.2.2] ⟨⟨_, _, _, _, q, aT, (fun k h => (fun k h => (fun _ h => h) k (by rw [aq]; exact zx _ h)) k (by rw [ar]; exact List.mem_append_left _ h))⟩, ⟨_, _, _, _, q, aU, (fun k h => (fun k h => (fun _ h => h) k (by rw [aq]; exact zx _ h)) k (by rw [ar]; exact zx _ h))⟩, trivial⟩
   change XL _ _ _ _ _ ((17, .agg #[iV ab.1, af, ag]) :: _) _
   refine zq (cs := [iV 0, nS, nS]) aV z89 q q q fun bl bm au => qa q <| have av := au.viewG (Vw.c (Vw.c (Vw.c (Vw.d Vw.refl)))); zl (cs' := [iV ab.1, af, ag]) au q il89 q (T q (T (av.sliceOne hR1) (T (av.sliceOne hR2) q))) q q q fun bn al => B <| Z <| qm q <| qm q <| qf uf89 fi89_1 nz87 q <| ql u87 al.p0 q <| O aa fun aw aW aa => have aX := al.viewG (Vw.c (Vw.c (Vw.c (Vw.d Vw.refl)))); U1 q c91 (w_impl_copyTicket aW hR1 aX) fun am bo aY => have ax := al.cV1 [] aY (zc (Pure.sl q) all_nil); O aa fun bp ay aa => have aZ := ax.viewG (Vw.c (Vw.c (Vw.c (Vw.c (Vw.d Vw.refl))))); qb aZ hR4 ay u65 i87 q fun bq br bs a0 => have az := ax.p4.p1; have a2 := az.viewG (Vw.c (Vw.d (Vw.c (Vw.c (Vw.c Vw.refl))))); ?_
   cases aa
   exact WL_storeD (Rs := [.sl 103 ty2 am aw]) (fo := 0) (cs' := [am]) az ay a0 (Foc.refl) (DBlt.cast (DBlt.sl (e := 103) (t := ty2) (v := am) (x := aw) q) q q) (a2.sliceList hS0) il87 q q q fun a3 a4 bt a5 => WL_nil fun a ha => zi <| X <| S1 ha <| Z <| qi (qt_add q q) q <| qm q <| WL_nil fun a ha => ⟨q, a3, a4, ha.s, a5.q1.q1.q1⟩
  cases aa
  exact WP_exit fun a ha => zo (⟨exit_ne, q, ad, ae, ha.s, ak⟩)
 rintro _ a bu ⟨rfl, a7, a8, ha, a9⟩
 refine zn <| X <| S1 ha <| rR <| qm q <| qa q <| B <| W fun a ha => ?_
 obtain rfl := L h
 exact ret1 q ha q ⟨v8, a7, a8, q, a9⟩
theorem w_impl_KitchenValid {w G vp0 p0 r} (h : impl_KitchenValidS p0 = some r) (hp0 : Has G ty4 vp0 p0) (H : Ctx w G) : Calls Tryz.prog 124 #[vp0] w fun e w' => e = .returned (.bool r) ∧ Holds M0 w w' [] G := by
 refine F0 18 H Tryz.func124 q fun H => ?_
 refine rR <| qa q <| B <| C <| rR <| qm q <| qz H.ctx (hp0) u65 q <| qi (qt_gtr q q) q <| B ?_
 refine Yh q h (fun h => ?_) (fun h => ?_)
 ·cases h
  exact rR <| qa q <| B <| W fun a ha => m (ret1 q ha q ⟨q, H⟩)
 refine y <| C <| rR <| qm q <| qz H.ctx (hp0) u65 q <| qm q <| B <| g <| O h fun o2 ah h => ?_
 refine fun a4 aj => zp (I := fun s1 a w2 => (Fr a 18 [(8, vp0), (9, iV (List.length p0 : Int)), (10, iV s1)] ∧ Holds M0 w w2 [] G)) (O := fun o e a w2 => match o with | .inl _ => e = .exit 0 ∧ (Fr a 18 [] ∧ Holds M0 w w2 [] G) | .inr q0 => e = .ret ∧ (Fr a 18 [(2, .bool q0)] ∧ Holds M0 w w2 [] G)) ah ?_ ?_ ?_
 ·exact ⟨aj.s, H⟩
 ·rintro s1 _ a w6 aa ⟨ha, ab⟩
  refine S1 ha <| rR <| qi (qt_lss q q) q <| B <| C ?_
  refine Yh q aa (fun aa => ?_) (fun aa => ?_)
  ·refine y <| C <| g <| rR <| O aa fun ar ad aa => qe ab (hp0) ad u65 i87 q fun _ _ ak => eV u87 ak q fun ax ae => qa q <| B <| C <| zk <| qm q <| O aa fun ay al aa => qc q c116 ae (fun _ => w_impl_TicketValid al hR0) <| qi (qt_not q) q <| Qn ae fun a ha az af => X <| S1 ha ?_
   refine Yh q aa (fun aa => ?_) (fun aa => ?_)
   ·cases aa
    exact rR <| qa q <| B <| W fun a ha => zj (m (⟨ret_ne, q, ha.s, af.q0⟩))
   cases aa
   exact WP_skip fun a ha => zi <| X <| S1 ha <| Z <| qi (qt_add q q) q <| qm q <| WL_nil fun a ha => ⟨q, ha.s, af.q0⟩
  cases aa
  exact WP_exit fun a ha => zo (⟨exit_ne, q, ha.s, ab⟩)
 intro e a aA ag
 rcases o2 with o2 | o2
 ·obtain ⟨rfl, ha, ap⟩ := ag
  cases h
  exact zn <| X <| S1 ha <| rR <| qa q <| B <| W fun a ha => ret1 q ha q ⟨q, ap⟩
 obtain ⟨rfl, ha, aq⟩ := ag
 obtain rfl := L h
 exact zj (m (ret1 q ha q ⟨q, aq⟩))
theorem w_impl_copyKitchen {w G vp0 p0 r} (h : impl_copyKitchenS p0 = some r) (hp0 : Has G ty4 vp0 p0) (H : Ctx w G) : Calls Tryz.prog 145 #[vp0] w fun e w' => ∃ (v1 : Value) (csv1 : List Value) (Fv1 : List Nat), e = .returned (v1) ∧ Holds M0 w w' [dpR 87 dt6 v1 csv1 r Fv1] G := by
 refine F0 26 H Tryz.func145 q fun H => ?_
 refine rR <| qa q <| B <| C <| rR <| qm q <| qz H.ctx (hp0) u65 q <| qi (qt_eql q q) q <| B ?_
 refine Yh q h (fun h => ?_) (fun h => ?_)
 ·cases h
  exact rR <| qa q <| B <| W fun a ha => have H1 := H.nD 87 dt6; m (ret1 q ha q ⟨(nS), [], [], q, H1⟩)
 refine y <| rR <| qm q <| qz H.ctx (hp0) u65 q <| O h fun x2 aq h => WL_makeD (d := dt6) H aq u65 j87 q (DBlt.cast (DBlt.nil (e := 103) (d := dt3)) q q) q q q q q fun v4 ar F8 w5 H6 => qa q <| B <| C <| rR <| qm q <| have au := H6.viewG (Vw.d Vw.refl); qz au (hp0.c) u65 q <| qm q <| B <| g <| O h fun aP av h => ?_
 refine fun aQ aw => zp (I := fun (ag, ah) a w2 => ∃ ab ad, Fr a 26 [(3, v4), (12, vp0), (13, iV (List.length p0 : Int)), (14, iV ag)] ∧ Holds M0 w w2 [dpR 87 dt6 v4 ab ah ad] G) (O := fun q0 e a w2 => e = .exit 0 ∧ ∃ ax ay, Fr a 26 [(3, v4)] ∧ Holds M0 w w2 [dpR 87 dt6 v4 ax q0 ay] G) av ?_ ?_ ?_
 ·exact ⟨ar, F8, aw.s, H6⟩
 ·rintro ⟨ag, ah⟩ _ a aR aa ⟨ab, ad, ha, ae⟩
  refine S1 ha <| rR <| qi (qt_lss q q) q <| B <| C ?_
  refine Yh q aa (fun aa => ?_) (fun aa => ?_)
  ·refine y <| C <| g <| rR <| qm q <| O aa fun aS aj aa => have az := ae.viewG (Vw.d Vw.refl); qb az (hp0.c) aj u65 i87 q fun aT aU aV aA => eV u87 (ae.el (hp0.c) aj aA) q fun aW ak => qa q <| qa q <| B <| Z <| qm q <| qm q <| qm q <| O aa fun al aB aa => have aC := ak.viewG (Vw.c (Vw.d Vw.refl)); U1 q c91 (w_impl_copyTicket aB hR0 aC) fun af aX aD => have am := ak.cV1 [] aD (zc (Pure.sl q) all_nil); O aa fun aY ao aa => have aE := am.viewG (Vw.c (Vw.c (Vw.d Vw.refl))); qb aE hR2 ao u65 i87 q fun aZ a0 a1 aF => have ap := am.p2.p1; have aH := ap.viewG (Vw.c (Vw.d (Vw.c Vw.refl))); ?_
   cases aa
   exact WL_storeD (Rs := [.sl 103 ty2 af al]) (fo := 0) (cs' := [af]) ap ao aF (Foc.refl) (DBlt.cast (DBlt.sl (e := 103) (t := ty2) (v := af) (x := al) q) q q) (aH.sliceList hS0) il87 q q q fun aI aJ a2 aK => WL_nil fun a ha => zi <| X <| S1 ha <| Z <| qi (qt_add q q) q <| qm q <| WL_nil fun a ha => ⟨q, aI, aJ, ha.s, aK.q1⟩
  cases aa
  exact WP_exit fun a ha => zo (⟨exit_ne, q, ab, ad, ha.s, ae⟩)
 rintro _ a a3 ⟨rfl, aM, aN, ha, aO⟩
 refine zn <| X <| S1 ha <| rR <| qm q <| qa q <| B <| W fun a ha => ?_
 obtain rfl := L h
 exact ret1 q ha q ⟨v4, aM, aN, q, aO⟩
end Go.Proofs.YtpklpghbkhegnaaGreatDoor
