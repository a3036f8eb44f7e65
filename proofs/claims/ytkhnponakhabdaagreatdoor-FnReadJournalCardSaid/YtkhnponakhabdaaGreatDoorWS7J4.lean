/- The walks: each Go function computes its shallow function. Printed by a program. -/
import Derived.Test.YtkhnponakhabdaaGreatDoorWS7J3
set_option linter.unusedVariables false
set_option maxRecDepth 10000
set_option maxHeartbeats 8000000
namespace Go.Proofs.YtkhnponakhabdaaGreatDoor
open Go Go.RowKit
theorem w_spec_l20House {w G bp0 A0 B0 B1 p1 r} (h : spec_l20HouseS B0 B1 p1 = some r) (C0 : Has G (.int .u8) A0 B0) (H : Ctx w ([.bx bp0 118 [A0, iV B1]] ++ G)) : Calls Tryz.prog 28 #[pB bp0, iV p1] w fun e w' => ∃ (v1 : Value) (v2 : Value) (v3 : Value) (v4 : Value), e = .returned (.agg #[v1, v2, v3, iV r.2.2.2.2.1, v4]) ∧ Holds (([.bx bp0 118 [A0, iV B1]] : List Res).flatMap Res.own) w w' [.sl 70 ty12 v1 r.2.1, .sl 3 tI v2 r.2.2.1, .sl 3 tI v3 r.2.2.2.1, .sl 38 ty14 v4 r.2.2.2.2.2, .bx bp0 118 [A0, iV r.1]] G := by
 refine F1 79 H Tryz.func28 q fun H => ?_
 refine C <| Z <| zq (cs := [nS, nS, nS, iV 0, nS]) H z27 q q q fun b1 w2 H3 => rN <| qm q <| have H7 := H3.p1; O h fun x5 bp h => U1 q c76 (w_spec_l20Items bp (C0.c) H7.ctx) fun aI w8 H9 => have bq := H7.cN2 [_] H9; qa q <| rN <| qm q <| qm q <| qm q <| have a3 := bq.p1; O h fun cI br h => U1 q c77 (w_spec_l20Prices br (C0.c.c) hS0 a3.ctx) fun aJ cJ bs => have bt := a3.cN2 [_] bs; qm q <| qm q <| have a4 := bt.p1; O h fun cK bu h => U1 q c78 (w_spec_l20Amounts bu (C0.c.c.c) hS1 a4.ctx) fun aK cL bv => have bw := a4.cN2 [_] bv; ?_
 refine qm q <| have a5 := bw.p1; O h fun aO bz h => U0 q c29 (w_spec_l20Rd__pick bz (C0.c.c.c.c) a5.ctx) fun cM bA => have a6 := a5.cN1 [_] bA; qm q <| O h fun aP bB h => U0 q c29 (w_spec_l20Rd__pick bB (C0.c.c.c.c) a6.ctx) fun cN bC => have aL := a6.cN1 [_] bC; qi (qt_mul q q) q <| qi (qt_build (args := [(0, .tmp 12), (1, .tmp 15), (2, .tmp 18), (3, .tmp 23)]) (css := [#[aI], #[aJ], #[aK], #[iV (IntKind.wrap .i64 (aO.2 * aP.2))]]) (cells := #[aI, aJ, aK, iV (IntKind.wrap .i64 (aO.2 * aP.2)), nS]) q ⟨(aL.ctx.sliceCells hS3), (aL.ctx.sliceCells hS2), (aL.ctx.sliceCells hS1), q, trivial⟩ (by kernel_rfl)) q <| zq (cs := [nS, nS, nS, iV 0, nS]) aL z27 q q q fun aj cO aM => zl (cs' := [aI, aJ, aK, iV (IntKind.wrap .i64 (aO.2 * aP.2)), nS]) aM q il27 q (T (aM.ctx.sliceOne hS4) (T (aM.ctx.sliceOne hS3) (T (aM.ctx.sliceOne hS2) (T q (T q q))))) q q q fun cP bD => B <| C <| rR <| qm q ?_
 refine have a7 := bD.p1; O h fun cQ bE h => U0 q c29 (w_spec_l20Rd__pick bE (C0.c.c.c.c.c) a7.ctx) fun cR bF => have bG := a7.cN1 [_] bF; qa q <| B <| g <| have bH := bG.nS 38 ty14; O h fun bI bJ h => ?_
 refine fun cS bL => zp (I := fun (aQ, al, au, av, aw, ak, ax) a w2 => ∃ ab ad ae af, Fr a 79 [(0, pB bp0), (1, iV p1), (4, pB b1), (6, pB aj), (7, iV aQ)] ∧ Holds (([.bx bp0 118 [A0, iV B1]] : List Res).flatMap Res.own) w w2 [.bx bp0 118 [A0, iV al], .bx b1 27 [nS, nS, nS, iV 0, nS], .bx aj 27 [ab, ad, ae, iV ak, af], .sl 70 ty12 ab au, .sl 3 tI ad av, .sl 3 tI ae aw, .sl 38 ty14 af ax] G) (O := fun (q0, q1, q2, q3, q4, q5) e a w2 => e = .exit 0 ∧ ∃ a8 a9 ba bb, Fr a 79 [(0, pB bp0), (1, iV p1), (4, pB b1), (6, pB aj)] ∧ Holds (([.bx bp0 118 [A0, iV B1]] : List Res).flatMap Res.own) w w2 [.bx bp0 118 [A0, iV q0], .bx b1 27 [nS, nS, nS, iV 0, nS], .bx aj 27 [a8, a9, ba, iV q4, bb], .sl 70 ty12 a8 q1, .sl 3 tI a9 q2, .sl 3 tI ba q3, .sl 38 ty14 bb q5] G) bJ ?_ ?_ ?_
 ·exact ⟨aI, aJ, aK, (nS), bL.s, bH.p3.p4.p5.p5.p6.p6⟩
 ·rintro ⟨aQ, al, au, av, aw, ak, ax⟩ _ a cT ah ⟨ab, ad, ae, af, ha, bc⟩
  refine S1 ha <| C <| rR <| qm q <| qi (qt_gtr q q) q <| B ?_
  refine Yh q ah (fun ah => ?_) (fun ah => ?_)
  ·refine y <| C <| g <| C <| O ah fun bd be ah => O ah fun ag bf ah => ?_
   refine WP_join (M := fun a w2 => ∃ aR aA aB aC aD, Fr a 79 [(0, pB bp0), (1, iV p1), (4, pB b1), (6, pB aj), (7, iV aQ), (8, pB aR), (9, .bool ag.2)] ∧ Holds (([.bx bp0 118 [A0, iV B1]] : List Res).flatMap Res.own) w w2 [.bx bp0 118 [A0, iV bd.1], .bx b1 27 [nS, nS, nS, iV 0, nS], .bx aj 27 [ab, ad, ae, iV ak, af], .sl 70 ty12 ab au, .sl 3 tI ad av, .sl 3 tI ae aw, .sl 38 ty14 af ax, .bx aR 27 [aA, aB, aC, iV ag.1.2.2.2.1, aD], .sl 70 ty12 aA ag.1.1, .sl 3 tI aB ag.1.2.1, .sl 3 tI aC ag.1.2.2.1, .sl 38 ty14 aD ag.1.2.2.2.2] G) ?_ ?_
   ·refine WP_ordersT (fun w1 w2 => Chg (([.bx bp0 118 [A0, iV al]] : List Res).flatMap Res.own) w1 w2) 10 (by kernel_rfl) fun aS bM => have bg := bc.grow bM; ?_
    have aT : Ctx aS ([.bx bp0 118 [A0, iV al]] ++ ([.bx b1 27 [nS, nS, nS, iV 0, nS], .bx aj 27 [ab, ad, ae, iV ak, af], .sl 70 ty12 ab au, .sl 3 tI ad av, .sl 3 tI ae aw, .sl 38 ty14 af ax] ++ G)) := bg.ctx
    have bN : Holds _ aS aS [.bx bp0 118 [A0, iV al]] ([.bx b1 27 [nS, nS, nS, iV 0, nS], .bx aj 27 [ab, ad, ae, iV ak, af], .sl 70 ty12 ab au, .sl 3 tI ad av, .sl 3 tI ae aw, .sl 38 ty14 af ax] ++ G) := zb (Rs := [.bx bp0 118 [A0, iV al]]) aT
    refine have Hc := bN; have bO := HasB.bx (HasB.c (HasB.c (HasB.hd))) Hc.ctx; XT (i := 0) q (by kernel_rfl) q Hc.chg q (qs_agg (cs := [ab, ad, ae, iV ak, af]) us27 uo27 il27 q (fun j z hj => by rw [Nat.zero_add]; exact bO.cell hj) Hc.chg (Ctx.outB aT (HasB.c (HasB.hd)))) q q ?_
    change XC _ _ _ _ _ _ _ _ ((32, .agg #[ab, ad, ae, iV ak, af]) :: _) _
    refine XQ (i := 1) q (by kernel_rfl) q Hc.chg q (fun _ => qt_move q) q q <| have bP := HasB.bx (HasB.c (HasB.c (HasB.hd))) Hc.ctx; XT (i := 2) q (by kernel_rfl) q Hc.chg q (qs_agg (cs := [ab, ad, ae, iV ak, af]) us27 uo27 il27 q (fun j z hj => by rw [Nat.zero_add]; exact bP.cell hj) Hc.chg (Ctx.outB aT (HasB.c (HasB.hd)))) q q ?_
    change XC _ _ _ _ _ _ _ _ ((34, .agg #[ab, ad, ae, iV ak, af]) :: _) _
    repeat' first
     | refine XDo 3 q <| U0 q c79 (w_spec_l20HouseDeed be (C0.c.c.c.c.c.c) hS2 hS3 hS4 hS5 Hc.ctx) fun _ HK => ?_; have Hc := Hc.cN1 [_] HK; refine XN Hc.chg ?_
     | refine XDo 3 q ?_; have Hc := Hc.p1; refine U0 q c79 (w_spec_l20HouseDeed be (C0.c.c.c.c.c.c.c) hS3 hS4 hS5 hS6 Hc.ctx) fun _ HK => ?_; have Hc := Hc.cN1 [_] HK; refine XN Hc.chg ?_
     | refine XDo 4 q <| U4 q c50 (w_spec_HouseDo bf hS3 hS4 hS5 hS6 Hc.ctx) fun am ao ap aq _ HK => ?_; have Hc := Hc.cN4 [] HK; refine XN Hc.chg <| XQ (i := 5) q (by kernel_rfl) q Hc.chg q (fun _ => qt_move q) q q <| XQ (i := 6) q (by kernel_rfl) q Hc.chg q (fun _ => zv q q) q q <| XQ (i := 7) q (by kernel_rfl) q Hc.chg q (fun _ => zv q q) q q ?_
     | refine XDo 4 q <| U4 q c50 (w_spec_HouseDo bf hS4 hS5 hS6 hS7 Hc.ctx) fun am ao ap aq _ HK => ?_; have Hc := Hc.cN4 [] HK; refine XN Hc.chg <| XQ (i := 5) q (by kernel_rfl) q Hc.chg q (fun _ => qt_move q) q q <| XQ (i := 6) q (by kernel_rfl) q Hc.chg q (fun _ => zv q q) q q <| XQ (i := 7) q (by kernel_rfl) q Hc.chg q (fun _ => zv q q) q q ?_
     | refine XDo 8 q ?_; refine zq (cs := [nS, nS, nS, iV 0, nS]) Hc z27 q q q (fun bh _ Hc => ?_); refine XN Hc.chg ?_
     | refine XDo 9 q ?_; refine zl (cs' := [am, ao, ap, iV ag.1.2.2.2.1, aq]) Hc q il27 q (T (Hc.ctx.sliceOne hS1) (T (Hc.ctx.sliceOne hS2) (T (Hc.ctx.sliceOne hS3) (T q (T (Hc.ctx.sliceOne hS4) q))))) q q q (fun _ Hc => ?_); refine XN Hc.chg ?_
     | refine XDo 9 q ?_; have Hc := Hc.p4; refine zl (cs' := [am, ao, ap, iV ag.1.2.2.2.1, aq]) Hc q il27 q (T (Hc.ctx.sliceOne hS1) (T (Hc.ctx.sliceOne hS2) (T (Hc.ctx.sliceOne hS3) (T q (T (Hc.ctx.sliceOne hS4) q))))) q q q (fun _ Hc => ?_); refine XN Hc.chg ?_
     | refine XDo 9 q ?_; have Hc := Hc.p5; refine zl (cs' := [am, ao, ap, iV ag.1.2.2.2.1, aq]) Hc q il27 q (T (Hc.ctx.sliceOne hS1) (T (Hc.ctx.sliceOne hS2) (T (Hc.ctx.sliceOne hS3) (T q (T (Hc.ctx.sliceOne hS4) q))))) q q q (fun _ Hc => ?_); refine XN Hc.chg ?_
     | have Hc : Holds _ _ _ [.bx bh 27 [am, ao, ap, iV ag.1.2.2.2.1, aq], .sl 70 ty12 am ag.1.1, .sl 3 tI ao ag.1.2.1, .sl 3 tI ap ag.1.2.2.1, .sl 38 ty14 aq ag.1.2.2.2.2, .bx bp0 118 [A0, iV bd.1], .bx b1 27 [nS, nS, nS, iV 0, nS], .bx aj 27 [ab, ad, ae, iV ak, af], .sl 70 ty12 ab au, .sl 3 tI ad av, .sl 3 tI ae aw, .sl 38 ty14 af ax] G := bg.calledN (Rs := [.bx bp0 118 [A0, iV al]]) Hc; refine XDo 10 q <| qa q <| XE q ?_
     | refine XV [3, 8] (by decide +kernel) q (allc ?_ (allc ?_ alln))
     | refine XV [4, 8] (by decide +kernel) q (allc ?_ (allc ?_ alln))
     | refine XV [8] (by decide +kernel) q (allc ?_ alln)
     | refine XV [9] (by decide +kernel) q (allc ?_ alln)
     | refine XV [10] (by decide +kernel) q (allc ?_ alln)
     | refine XV [4] (by decide +kernel) q (allc ?_ alln)
     | refine XV [3] (by decide +kernel) q (allc ?_ alln)
     | refine XC_done (by decide +kernel) (fun a ha => ?_); have Hc := ((((((((((((Hc.p4).p4).p4).p4).p4).p11).p11).p11).p11).p11).p11).p11); exact ⟨bh, am, ao, ap, aq, ha.s, Hc⟩
   rintro a cU ⟨aR, aA, aB, aC, aD, ha, aU⟩
   refine S1 ha <| rR <| qm q <| B ?_
   refine Yh q ah (fun ah => ?_) (fun ah => ?_)
   ·cases ah
    exact Z <| eA aU.p7 us27 uo27 il27 q <| have aE := aU.p2; zl (cs' := [aA, aB, aC, iV ag.1.2.2.2.1, aD]) aE q il27 q (T (aE.ctx.sliceOne hS8) (T (aE.ctx.sliceOne hS9) (T (aE.ctx.sliceOne hS10) (T q (T (aE.ctx.sliceOne hS11) q))))) q q q fun cV bQ => WL_nil fun a ha => zi <| X <| S1 ha <| Z <| qm q <| qi (qt_sub q q) q <| qa q <| WL_nil fun a ha => ⟨q, aA, aB, aC, aD, ha.s, bQ.q3.q3.q3.q3.q3.p6.p6.p6.p6.p4.p6.p6⟩
   cases ah
   exact WP_skip fun a ha => zi <| X <| S1 ha <| Z <| qm q <| qi (qt_sub q q) q <| qa q <| WL_nil fun a ha => ⟨q, ab, ad, ae, af, ha.s, aU.q7.q7.q7.q7.q7.p6.p6.p6.p6.p6.p6.p6⟩
  cases ah
  exact WP_exit fun a ha => zo (⟨exit_ne, q, ab, ad, ae, af, ha.s, bc.p6.p6.p6.p6.p6.p6.p6⟩)
 obtain ⟨cW, bU, bV, cX, cY, cZ⟩ := bI
 rintro _ a c0 ⟨rfl, aF, aG, aN, aV, ha, bi⟩
 refine zn <| X <| S1 ha <| C <| rR <| qm q <| qm q <| O h fun c1 bW h => U0 q c31 (w_spec_l20Rd__odd bW (C0.c.c.c.c.c.c) bi.ctx) fun c2 bX => have aW := bi.cN1 [_] bX; B <| O h fun bY aa h => ?_
 obtain ⟨bZ, b0, aX, b4⟩ := bY
 refine WP_join (M := fun a w2 => ∃ ay az, Fr a 79 [(0, pB bp0), (4, pB b1), (6, pB aj)] ∧ Holds (([.bx bp0 118 [A0, iV B1]] : List Res).flatMap Res.own) w w2 [.bx bp0 118 [A0, iV bZ], .bx b1 27 [nS, nS, nS, iV 0, nS], .bx aj 27 [aF, aG, ay, iV aX, az], .sl 70 ty12 aF bU, .sl 3 tI aG bV, .sl 3 tI ay b0, .sl 38 ty14 az b4] G) ?_ ?_
 ·refine Yh q aa (fun aa => ?_) (fun aa => ?_)
  ·refine rR <| qm q <| O aa fun c3 b5 aa => U0 q c29 (w_spec_l20Rd__pick b5 (C0.c.c.c.c.c.c) aW.ctx) fun c4 b6 => have ar := aW.cN1 [_] b6; B <| g <| rR <| qi (qt_eql q q) q <| qa q <| B ?_
   refine Yh q aa (fun aa => ?_) (fun aa => ?_)
   ·refine Z <| zs (t := tI) (args := [.const (iV (-1)), .const (iV 100000)]) (xs := ([(-1), 100000] : List Int)) ar (BltL.cons (Blt.int) q (BltL.cons (Blt.int) q (BltL.nil))) u24 j3 q q q q q q fun c5 c6 b7 => qm q <| have bj := b7.p1; O aa fun c7 b8 aa => U0 q c29 (w_spec_l20Rd__pick b8 (C0.c.c.c.c.c.c.c) bj.ctx) fun c8 b9 => have aY := bj.cN1 [_] b9; O aa fun da bk aa => qe aY hS1 bk u24 i3 q fun _ _ ca => eI u3 ca q <| qf uf27 fi27_3 nz3 q <| WL_store_bx aY.p3 q il3 q q q q q fun de cc => WL_nil fun a ha => ?_
    obtain ⟨rfl, rfl, rfl, rfl⟩ := (by simpa only [Option.some.injEq, Prod.mk.injEq] using aa : _)
    exact zi (X (⟨aN, aV, ha.s, cc.q2.p6.p6.p6.p6.p4.p6.p6⟩))
   refine rR <| qi (qt_eql q q) q <| qa q <| B ?_
   refine Yh q aa (fun aa => ?_) (fun aa => ?_)
   ·refine Z <| qf uf27 fi27_2 nz24 q <| ql u24 ar.p2 q <| zs (t := tI) (args := [.const (iV 0)]) (xs := ([0] : List Int)) ar (BltL.cons (Blt.int) q (BltL.nil)) u24 j3 q q q q q q fun df dg ce => O aa fun dh cg aa => zw ce.p6 hS1 cg u24 j3 q q q q q q fun ch di ci => qf uf27 fi27_2 nz24 q <| have aZ := ci.p4; WL_store_bx aZ q il24 (aZ.ctx.sliceCells hS1) (aZ.ctx.sliceOne hS1) q q q fun dj cj => WL_nil fun a ha => ?_
    obtain ⟨rfl, rfl, rfl, rfl⟩ := (by simpa only [Option.some.injEq, Prod.mk.injEq] using aa : _)
    exact zi (X (⟨ch, aV, ha.s, cj.q2.p6.p2.p6.p6.p4.p6.p6⟩))
   refine rR <| qi (qt_eql q q) q <| qa q <| B ?_
   refine Yh q aa (fun aa => ?_) (fun aa => ?_)
   ·refine Z <| qf uf27 fi27_4 nz25 q <| ql u25 ar.p2 q <| qi (qt_build (args := []) (css := []) (cells := #[iV 0, iV 0]) q trivial (by kernel_rfl)) q <| zs (t := ty2) (args := [.tmp 71]) (xs := ([(0, 0)] : LP)) ar (BltL.cons (Blt.pair (Blt.int) (Blt.int)) q (BltL.nil)) u36 j123 q q q q q q fun bl dk cl => zs (t := tI) (args := [.const (iV 9)]) (xs := ([9] : List Int)) cl (BltL.cons (Blt.int) q (BltL.nil)) u24 j3 q q q q q q fun bm dl a0 => qi (qt_build (args := [(1, .tmp 72), (2, .tmp 73)]) (css := [#[bl], #[bm]]) (cells := #[iV 0, bl, bm]) q ⟨(a0.ctx.sliceCells hS1), (a0.ctx.sliceCells hS0), trivial⟩ (by kernel_rfl)) q <| zs (t := ty14) (args := [.tmp 74]) (xs := ([(0, [(0, 0)], [9])] : LT)) a0.p1.freeze.p1.freeze (BltL.cons (Blt.pair (Blt.int) (Blt.pair (Blt.slice hO1) (Blt.slice hO0))) q (BltL.nil)) u25 j38 q q q q q q fun dm dn cq => ?_
    refine O aa fun dq ct aa => zw cq.p9 hS1 ct u25 j38 q q q q q q fun cu dr cv => qf uf27 fi27_4 nz25 q <| have a1 := cv.p6; WL_store_bx a1 q il25 (a1.ctx.sliceCells hS1) (a1.ctx.sliceOne hS1) q q q fun ds cw => WL_nil fun a ha => ?_
    obtain ⟨rfl, rfl, rfl, rfl⟩ := (by simpa only [Option.some.injEq, Prod.mk.injEq] using aa : _)
    exact zi (X (⟨aN, cu, ha.s, cw.q2.q2.q2.p1.p6.p6.p6.p4.p6.p6⟩))
   refine Z <| qf uf27 fi27_4 nz25 q <| ql u25 ar.p2 q <| qi (qt_build (args := [(0, .const (iV (-1)))]) (css := [#[iV (-1)]]) (cells := #[iV (-1), nS, nS]) q ⟨q, trivial⟩ (by kernel_rfl)) q <| zs (t := ty14) (args := [.tmp 48]) (xs := ([((-1), [], [])] : LT)) ar (BltL.cons (Blt.pair (Blt.int) (Blt.pair (Blt.slice (HasRo.nil)) (Blt.slice (HasRo.nil)))) q (BltL.nil)) u25 j38 q q q q q q fun dt du cy => O aa fun dv cA aa => zw cy.p7 hS1 cA u25 j38 q q q q q q fun cB dw cC => qf uf27 fi27_4 nz25 q <| have a2 := cC.p4; WL_store_bx a2 q il25 (a2.ctx.sliceCells hS1) (a2.ctx.sliceOne hS1) q q q fun dx cD => WL_nil fun a ha => ?_
   obtain ⟨rfl, rfl, rfl, rfl⟩ := (by simpa only [Option.some.injEq, Prod.mk.injEq] using aa : _)
   exact zi (X (⟨aN, cB, ha.s, cD.q2.p1.p6.p6.p6.p4.p6.p6⟩))
  refine WP_skip fun a ha => ?_
  obtain ⟨rfl, rfl, rfl, rfl⟩ := (by simpa only [Option.some.injEq, Prod.mk.injEq] using aa : _)
  exact X (⟨aN, aV, ha.s, aW.p6.p6.p6.p6.p6.p6.p6⟩)
 rintro a dy ⟨ay, az, ha, bn⟩
 cases h
 exact S1 ha <| rR <| eA bn.p2 us27 uo27 il27 q <| have aH := bn.p1; zl (cs' := [aF, aG, ay, iV aX, az]) aH q il27 q (T (aH.ctx.sliceOne hS3) (T (aH.ctx.sliceOne hS4) (T (aH.ctx.sliceOne hS5) (T q (T (aH.ctx.sliceOne hS6) q))))) q q q fun dz bo => B <| W fun a ha => have cG := R bo.p0; retc q ha q (run_loadVar_bx (cs := [aF, aG, ay, iV aX, az]) us27 uo27 il27 cG) ⟨aF, aG, ay, az, q, bo.q0.q1.p4.p4.p4.p4⟩
theorem w_spec_l20HouseDeeds {w G bp0 A0 B0 B1 A1_0 p1_0 A1_1 p1_1 A1_2 p1_2 p1_3 A1_4 p1_4 r} (h : spec_l20HouseDeedsS B0 B1 p1_0 p1_1 p1_2 p1_3 p1_4 = some r) (C0 : Has G (.int .u8) A0 B0) (hp1_0 : HasRo G ty12 A1_0 p1_0) (hp1_1 : HasRo G tI A1_1 p1_1) (hp1_2 : HasRo G tI A1_2 p1_2) (hp1_4 : HasRo G ty14 A1_4 p1_4) (H : Ctx w ([.bx bp0 118 [A0, iV B1]] ++ G)) : Calls Tryz.prog 65 #[pB bp0, .agg #[A1_0, A1_1, A1_2, iV p1_3, A1_4]] w fun e w' => ∃ (v1 : Value), e = .returned (v1) ∧ Holds (([.bx bp0 118 [A0, iV B1]] : List Res).flatMap Res.own) w w' [.sl 52 ty10 v1 r.2, .bx bp0 118 [A0, iV r.1]] G := by
 refine F1 35 H Tryz.func65 q fun H => ?_
 refine C <| Z <| WL_box (cs := [A1_0, A1_1, A1_2, iV p1_3, A1_4]) H q q q q fun b1 w2 H3 => qa q <| B <| C <| Z <| zs (t := ty10) (args := []) (xs := ([] : List (Int × Int × Int × Int))) H3 (BltL.nil) u44 j52 q q q q q q fun v5 w6 H7 => qa q <| rN <| eA H7.p1 us27 uo27 il27 q <| zq (cs := [nS, nS, nS, iV 0, nS]) H7 z27 q q q fun ad bC af => zl (cs' := [A1_0, A1_1, A1_2, iV p1_3, A1_4]) af q il27 q (T (af.ctx.sliceOne (hp1_0.c.c.c.c.has)) (T (af.ctx.sliceOne (hp1_1.c.c.c.c.has)) (T (af.ctx.sliceOne (hp1_2.c.c.c.c.has)) (T q (T (af.ctx.sliceOne (hp1_4.c.c.c.c.has)) q))))) q q q fun bD aR => B <| C <| rR <| qm q <| have aG := aR.p3; O h fun ak aS h => U0 q c29 (w_spec_l20Rd__pick aS (C0.c.c.c) aG.ctx) fun al aT => have aU := aG.cN1 [_] aT; qa q <| B <| g ?_
 have aV : Holds _ w al [.ro ty12 A1_0 p1_0, .bx bp0 118 [A0, iV ak.1], .bx ad 27 [A1_0, A1_1, A1_2, iV p1_3, A1_4], .sl 52 ty10 v5 ([]), .bx b1 27 [A1_0, A1_1, A1_2, iV p1_3, A1_4]] G := aU.dup (hp1_0.c.c.c.c)
 have aW : Holds _ w al [.ro tI A1_1 p1_1, .ro ty12 A1_0 p1_0, .bx bp0 118 [A0, iV ak.1], .bx ad 27 [A1_0, A1_1, A1_2, iV p1_3, A1_4], .sl 52 ty10 v5 ([]), .bx b1 27 [A1_0, A1_1, A1_2, iV p1_3, A1_4]] G := aV.dup (hp1_1.c.c.c.c.c)
 have aX : Holds _ w al [.ro tI A1_2 p1_2, .ro tI A1_1 p1_1, .ro ty12 A1_0 p1_0, .bx bp0 118 [A0, iV ak.1], .bx ad 27 [A1_0, A1_1, A1_2, iV p1_3, A1_4], .sl 52 ty10 v5 ([]), .bx b1 27 [A1_0, A1_1, A1_2, iV p1_3, A1_4]] G := aW.dup (hp1_2.c.c.c.c.c.c)
 have aY : Holds _ w al [.ro ty14 A1_4 p1_4, .ro tI A1_2 p1_2, .ro tI A1_1 p1_1, .ro ty12 A1_0 p1_0, .bx bp0 118 [A0, iV ak.1], .bx ad 27 [A1_0, A1_1, A1_2, iV p1_3, A1_4], .sl 52 ty10 v5 ([]), .bx b1 27 [A1_0, A1_1, A1_2, iV p1_3, A1_4]] G := aX.dup (hp1_4.c.c.c.c.c.c.c)
 refine O h fun aZ a0 h => ?_
 refine fun bE a2 => zp (I := fun (az, aA, aH, aI, aJ, aK, aL, aM) a w2 => ∃ ae am ao ap aq, Fr a 35 [(0, pB bp0), (5, ae), (6, pB ad), (7, iV aA)] ∧ Holds (([.bx bp0 118 [A0, iV B1]] : List Res).flatMap Res.own) w w2 [.bx bp0 118 [A0, iV aH], .sl 52 ty10 ae az, .bx ad 27 [am, ao, ap, iV aL, aq], .ro ty12 am aI, .ro tI ao aJ, .ro tI ap aK, .ro ty14 aq aM] G) (O := fun (q0, q1, q2, q3, q4, q5, q6) e a w2 => e = .exit 0 ∧ ∃ aN, Fr a 35 [(0, pB bp0), (5, aN)] ∧ Holds (([.bx bp0 118 [A0, iV B1]] : List Res).flatMap Res.own) w w2 [.bx bp0 118 [A0, iV q1], .sl 52 ty10 aN q0] G) a0 ?_ ?_ ?_
 ·exact ⟨v5, A1_0, A1_1, A1_2, A1_4, a2.s, aY.q7.p1.p2.p3.p5.p6.p6⟩
 ·rintro ⟨az, aA, aH, aI, aJ, aK, aL, aM⟩ _ a bF aa ⟨ae, am, ao, ap, aq, ha, ar⟩
  refine S1 ha <| C <| rR <| qm q <| qi (qt_gtr q q) q <| B ?_
  refine Yh q aa (fun aa => ?_) (fun aa => ?_)
  ·refine y <| C <| g <| rR <| qm q <| eA ar.p2 us27 uo27 il27 q <| O aa fun ab a3 aa => U0 q c79 (w_spec_l20HouseDeed a3 (C0.c.c.c.c.c.c) hR2 hR3 hR4 hR5 ar.ctx) fun bG a4 => have a5 := ar.cN1 [_] a4; zq (cs := [iV 0, iV 0, iV 0, iV 0]) a5 z52 q q q fun aO bH a6 => zl (cs' := [iV ab.2.1, iV ab.2.2.1, iV ab.2.2.2.1, iV ab.2.2.2.2]) a6 q il52 q q q q q fun bI au => rN <| eA au.p3 us27 uo27 il27 q <| eA au.p0 us52 uo52 il52 q <| O aa fun aP a7 aa => U4 q c50 (w_spec_HouseDo a7 hR4 hR5 hR6 hR7 au.ctx) fun aB aC aD aE bJ a8 => have a9 := au.cN4 [] a8; qm q <| qi (zv q q) q <| qi (zv q q) q <| zq (cs := [nS, nS, nS, iV 0, nS]) a9 z27 q q q fun bK bL ag => zl (cs' := [aB, aC, aD, iV aP.1.2.2.2.1, aE]) ag q il27 q (T (ag.ctx.sliceOne hS1) (T (ag.ctx.sliceOne hS2) (T (ag.ctx.sliceOne hS3) (T q (T (ag.ctx.sliceOne hS4) q))))) q q q fun bM aF => qa q <| B <| C <| rR <| qm q <| B <| O aa fun ba ah aa => ?_
   obtain ⟨bb, bc, bd, j79, be⟩ := ba
   refine WP_join (M := fun a w2 => ∃ av aw ax ay, Fr a 35 [(0, pB bp0), (5, ae), (6, pB ad), (7, iV aA), (8, pB aO)] ∧ Holds (([.bx bp0 118 [A0, iV B1]] : List Res).flatMap Res.own) w w2 [.bx bp0 118 [A0, iV ab.1], .sl 52 ty10 ae az, .bx ad 27 [av, aw, ax, iV j79, ay], .ro ty12 av bb, .ro tI aw bc, .ro tI ax bd, .ro ty14 ay be, .bx aO 52 [iV ab.2.1, iV ab.2.2.1, iV ab.2.2.2.1, iV ab.2.2.2.2]] G) ?_ ?_
   ·refine Yh q ah (fun ah => ?_) (fun ah => ?_)
    ·cases ah
     exact Z <| eA aF.p0 us27 uo27 il27 q <| have aj := aF.p8; zl (cs' := [aB, aC, aD, iV aP.1.2.2.2.1, aE]) aj q il27 q (T (aj.ctx.sliceOne hS2) (T (aj.ctx.sliceOne hS3) (T (aj.ctx.sliceOne hS4) (T q (T (aj.ctx.sliceOne hS5) q))))) q q q fun bN bf => WL_nil fun a ha => X (⟨aB, aC, aD, aE, ha.s, bf.p2.freeze.p3.freeze.p4.freeze.p5.freeze.q5.q8.q8.q8.q8.p5.p1.p2.p3.p4.p5.p7.p7⟩)
    refine WP_skip fun a ha => ?_
    obtain ⟨rfl, rfl, rfl, rfl, rfl⟩ := (by simpa only [Option.some.injEq, Prod.mk.injEq] using ah : _)
    exact X (⟨am, ao, ap, aq, ha.s, aF.q0.q0.q0.q0.q0.p7.p7.p7.p7.p7.p7.p7⟩)
   rintro a bO ⟨av, aw, ax, ay, ha, aQ⟩
   refine S1 ha <| Z <| qm q <| eA aQ.p7 us52 uo52 il52 q <| zs (t := ty10) (args := [.tmp 31]) (xs := ([(ab.2.1, ab.2.2.1, ab.2.2.2.1, ab.2.2.2.2)] : List (Int × Int × Int × Int))) aQ (BltL.cons (Blt.pair (Blt.int) (Blt.pair (Blt.int) (Blt.pair (Blt.int) (Blt.int)))) q (BltL.nil)) u44 j52 q q q q q q fun bP bQ bq => O aa fun bR bs aa => zw bq.p2 hS1 bs u44 j52 q q q q q q fun bt bS bu => qa q <| WL_nil fun a ha => zi <| X <| S1 ha <| Z <| qm q <| qi (qt_sub q q) q <| qa q <| WL_nil fun a ha => ?_
   cases aa
   exact ⟨q, bt, av, aw, ax, ay, ha.s, bu.q1.q7.p6.p6.p6.p6.p6.p5.p6⟩
  cases aa
  exact WP_exit fun a ha => zo (⟨exit_ne, q, ae, ha.s, ar.q2.q2.q2.q2.q2.p1.p1⟩)
 obtain ⟨bT, bU, bV, bW, bX, bY, bZ⟩ := aZ
 rintro _ a b0 ⟨rfl, bz, ha, bA⟩
 cases h
 exact zn <| X <| S1 ha <| rR <| qm q <| qa q <| B <| W fun a ha => ret1 q ha q ⟨bz, q, bA.p1⟩
theorem w_spec_l7Name {w G p0 r} (h : spec_l7NameS p0 = some r) (H : Ctx w G) : Calls Tryz.prog 96 #[iV p0] w fun e w' => e = .returned (strV r) ∧ Holds M0 w w' [] G := by
 refine F0 10 H Tryz.func96 q fun H => ?_
 refine rR <| qa q <| B <| C <| C <| zk <| qm q <| O h fun x1 ab h => qc q c39 H (fun _ => w_spec_l1In ab) <| qi (qt_not q) q <| Qn H fun a ha w3 H5 => X <| S1 ha ?_
 refine Yh q h (fun h => ?_) (fun h => ?_)
 ·cases h
  exact rR <| qa q <| B <| W fun a ha => m (ret1 q ha q ⟨q, H5⟩)
 refine y <| C <| Z <| zs (t := .str) (args := [.const (strV [98, 117, 121]), .const (strV [109, 97, 107, 101]), .const (strV [111, 112, 101, 110]), .const (strV [111, 114, 100, 101, 114]), .const (strV [119, 111, 114, 107]), .const (strV [99, 108, 111, 115, 101])]) (xs := ([([98, 117, 121] : List UInt8), ([109, 97, 107, 101] : List UInt8), ([111, 112, 101, 110] : List UInt8), ([111, 114, 100, 101, 114] : List UInt8), ([119, 111, 114, 107] : List UInt8), ([99, 108, 111, 115, 101] : List UInt8)] : List (List UInt8))) H5 (BltL.cons (Blt.str) q (BltL.cons (Blt.str) q (BltL.cons (Blt.str) q (BltL.cons (Blt.str) q (BltL.cons (Blt.str) q (BltL.cons (Blt.str) q (BltL.nil))))))) u28 j9 q q q q q q fun v7 w8 H9 => qm q <| O h fun af aa h => qe H9 hS0 aa u28 i9 q fun _ _ ad => eS u9 ad q <| qa q <| B <| W fun a ha => ?_
 obtain rfl := L h
 exact ret1 q ha q ⟨q, H9.q0⟩
theorem w_spec_l7Many {w G p0 r} (h : spec_l7ManyS p0 = some r) (H : Ctx w G) : Calls Tryz.prog 115 #[iV p0] w fun e w' => e = .returned (iV r) ∧ Holds M0 w w' [] G := by
 refine F0 7 H Tryz.func115 q fun H => ?_
 refine rR <| qa q <| B <| C <| Z <| zs (t := tI) (args := [.const (iV 2), .const (iV 2), .const (iV 1), .const (iV 3), .const (iV 0), .const (iV 1)]) (xs := ([2, 2, 1, 3, 0, 1] : List Int)) H (BltL.cons (Blt.int) q (BltL.cons (Blt.int) q (BltL.cons (Blt.int) q (BltL.cons (Blt.int) q (BltL.cons (Blt.int) q (BltL.cons (Blt.int) q (BltL.nil))))))) u24 j3 q q q q q q fun v1 w2 H3 => qm q <| O h fun x5 aa h => qe H3 hS0 aa u24 i3 q fun _ _ ab => eI u3 ab q <| qa q <| B <| W fun a ha => ?_
 obtain rfl := L h
 exact ret1 q ha q ⟨q, H3.q0⟩
theorem w_spec_l1NumberF (fuel : Nat) (w : World) (G : List Res) (p0 : Int) (r : (List UInt8)) (h : spec_l1NumberF fuel p0 = some r) (H : Ctx w G) : Calls Tryz.prog 54 #[iV p0] w fun e w' => e = .returned (strV r) ∧ Holds M0 w w' [] G := by
 induction fuel generalizing w G p0 r with
 | zero => rw [spec_l1NumberF] at h; cases h
 | succ fuel ih =>
  have H : Holds M0 w w [] G := zb H
  refine zg (args := [iV p0]) (n := 34) Tryz.func54 q q q ?_
  rw [spec_l1NumberF] at h
  refine rR <| qa q <| B <| C <| rR <| qm q <| qi (qt_lss q q) q <| qm q ?_
  refine Ha (res := ((decide (p0 < 0)) && (p0 == (IntKind.wrap .i64 (-p0))))) 4 an (fun aa K2 af => ?_) ?_
  ·exact jm aa q <| jm aa q <| ji (qt_neg q) aa q <| ji (qt_eql q q) aa q <| af 4 q q q (ai aa)
  refine B ?_
  refine Yh q h (fun h => ?_) (fun h => ?_)
  ·cases h
   exact rR <| qa q <| B <| W fun a ha => m (ret1 q ha q ⟨q, H⟩)
  refine y <| C <| rR <| qm q <| qi (qt_lss q q) q <| B ?_
  refine Yh q h (fun h => ?_) (fun h => ?_)
  ·refine C <| zk <| qm q <| qi (qt_neg q) q <| O h fun x4 ag h => QC q q c54 (fun w' hb => ih w' G (IntKind.wrap .i64 (-p0)) x4 ag (H.grow hb).ctx) (by rfl) <| O h fun x6 ah h => qi (qt_sadd q q ah) q <| qa q <| Qn H fun a ha w8 aj => X <| S1 ha <| W fun a ha => ?_
   obtain rfl := L h
   exact m (ret1 q ha q ⟨q, aj⟩)
  refine y <| C <| rR <| qm q <| qi (qt_lss q q) q <| B ?_
  refine Yh q h (fun h => ?_) (fun h => ?_)
  ·cases h
   exact rR <| qm q <| qi (qt_add q q) q <| qi (qt_int u5 q u3) q <| zs (t := (.int .u8)) (args := [.tmp 21]) (xs := ([IntKind.wrap .u8 (IntKind.wrap .i64 (48 + p0))] : List Int)) H (BltL.cons (Blt.int) q (BltL.nil)) u22 j5 q q q q q q fun aw ax ad => XL_bytesH ad.ctx hS0 u22 u5 u9 q q q <| qa q <| B <| W fun a ha => m (ret1 q ha q ⟨q, ad.q0⟩)
  refine y <| C <| O h fun al am h => O h fun ao ap h => ?_
  refine WP_join (M := fun a w2 => (Fr a 34 [(2, strV ao)] ∧ Holds M0 w w2 [] G)) ?_ ?_
  ·refine WP_ordersT (fun w1 w2 => Chg M0 w1 w2) 10 (by kernel_rfl) fun ab aq => have ae := H.grow aq; ?_
   have ar : Ctx ab ([] ++ G) := ae.ctx
   have au : Holds _ ab ab [] G := zb (Rs := []) ar
   refine have Hc := au; XQ (i := 0) q (by kernel_rfl) q Hc.chg q (fun _ => qt_move q) q q <| XQ (i := 1) q (by kernel_rfl) q Hc.chg q (fun _ => qt_quo q q (by decide)) q q <| XQ (i := 3) q (by kernel_rfl) q Hc.chg q (fun _ => qt_move q) q q <| XQ (i := 4) q (by kernel_rfl) q Hc.chg q (fun _ => qt_rem q q (by decide)) q q <| XQ (i := 5) q (by kernel_rfl) q Hc.chg q (fun _ => qt_add q q) q q <| XQ (i := 6) q (by kernel_rfl) q Hc.chg q (fun _ => qt_int u5 q u3) q q ?_
   repeat' first
    | refine XDo 2 q <| zd q q c54 (ih _ _ (IntKind.wrap .i64 (Int.tdiv p0 10)) al am Hc.ctx) (by rfl) ?_; rintro _ _ ⟨rfl, HK⟩; refine ⟨_, q, ?_⟩; have Hc := Hc.cN0 [] HK; refine XN Hc.chg ?_
    | refine XDo 7 q ?_; refine zs (t := (.int .u8)) (args := [.tmp 30]) (xs := ([IntKind.wrap .u8 (IntKind.wrap .i64 (48 + (Int.tmod p0 10)))] : List Int)) Hc (BltL.cons (Blt.int) q (BltL.nil)) u22 j5 q q q q q q (fun ay _ Hc => ?_); refine XN Hc.chg ?_
    | refine XDo 8 q <| XL_bytesH Hc.ctx hS0 u22 u5 u9 q q q <| XN Hc.chg ?_
    | have Hc := ae.cN1 [] Hc; refine XDo 10 q <| qa q <| XE q ?_
    | refine XK 9 (by decide +kernel) <| XQ (i := 9) q (by kernel_rfl) q Hc.chg q (fun _ => qt_sadd q q ap) q q ?_
    | refine XV [2, 7] (by decide +kernel) q (allc ?_ (allc ?_ alln))
    | refine XV [7] (by decide +kernel) q (allc ?_ alln)
    | refine XV [8] (by decide +kernel) q (allc ?_ alln)
    | refine XV [10] (by decide +kernel) q (allc ?_ alln)
    | refine XV [2, 8] (by decide +kernel) q (allc ?_ (allc ?_ alln))
    | refine XV [2] (by decide +kernel) q (allc ?_ alln)
    | refine XC_done (by decide +kernel) (fun a ha => ?_); have Hc := (Hc.q0); exact ⟨ha.s, Hc⟩
  rintro a az ⟨ha, av⟩
  refine S1 ha <| W fun a ha => ?_
  obtain rfl := L h
  exact ret1 q ha q ⟨q, av⟩
theorem w_spec_l1Number (w : World) (G : List Res) (p0 : Int) (r : (List UInt8)) (h : spec_l1NumberS p0 = some r) (H : Ctx w G) : Calls Tryz.prog 54 #[iV p0] w fun e w' => e = .returned (strV r) ∧ Holds M0 w w' [] G :=
 w_spec_l1NumberF 200 w G p0 r h H
theorem w_spec_DeedText {w G B0 B1 B2 B3 r} (h : spec_DeedTextS B0 B1 B2 B3 = some r) (H : Ctx w G) : Calls Tryz.prog 80 #[.agg #[iV B0, iV B1, iV B2, iV B3]] w fun e w' => e = .returned (strV r) ∧ Holds M0 w w' [] G := by
 refine F0 60 H Tryz.func80 q fun H => ?_
 refine C <| Z <| WL_box (cs := [iV B0, iV B1, iV B2, iV B3]) H q q q q fun b1 w2 H3 => qa q <| B <| C <| C <| zk <| qf uf52 fi52_0 nz3 q <| ql u3 H3.p0 q <| O h fun x6 ax h => qc q c96 H3 (fun _ => w_spec_l7Name ax) <| qi (qt_seql q q) q <| Qn H3 fun a ha w8 aj => X <| S1 ha ?_
 refine Yh q h (fun h => ?_) (fun h => ?_)
 ·cases h
  exact rR <| qa q <| B <| W fun a ha => m (ret1 q ha q ⟨q, aj.q0⟩)
 refine y <| C <| zk <| qf uf52 fi52_0 nz3 q <| ql u3 aj.p0 q <| O h fun a0 az h => qc q c96 aj (fun _ => w_spec_l7Name az) <| qa q <| Qn aj fun a ha a1 ak => X <| S1 ha <| rR <| qf uf52 fi52_1 nz3 q <| ql u3 ak.p0 q <| qf uf52 fi52_2 nz3 q <| ql u3 ak.p0 q <| qf uf52 fi52_3 nz3 q <| ql u3 ak.p0 q <| zs (t := tI) (args := [.tmp 14, .tmp 16, .tmp 18]) (xs := ([B1, B2, B3] : List Int)) ak (BltL.cons (Blt.int) q (BltL.cons (Blt.int) q (BltL.cons (Blt.int) q (BltL.nil)))) u24 j3 q q q q q q fun ao a2 aA => qa q <| B <| C <| rR <| qa q <| B <| g <| O h fun am aB h => ?_
 refine fun a3 aD => zp (I := fun (ap, aq) a w2 => (Fr a 60 [(1, pB b1), (3, strV ap), (4, ao), (5, iV aq)] ∧ Holds M0 w w2 [.bx b1 52 [iV B0, iV B1, iV B2, iV B3], .sl 3 tI ao ([B1, B2, B3])] G)) (O := fun o e a w2 => match o with | .inl q0 => e = .exit 0 ∧ (Fr a 60 [(3, strV q0)] ∧ Holds M0 w w2 [] G) | .inr q0 => e = .ret ∧ (Fr a 60 [(2, strV q0)] ∧ Holds M0 w w2 [] G)) aB ?_ ?_ ?_
 ·exact ⟨aD.s, aA.p1⟩
 ·rintro ⟨ap, aq⟩ _ a a4 aa ⟨ha, ab⟩
  refine S1 ha <| C <| rR <| qm q <| qm q <| qz ab.ctx hS1 u24 q <| qi (qt_lss q q) q <| B ?_
  refine Yh q aa (fun aa => ?_) (fun aa => ?_)
  ·refine y <| C <| g <| C <| C <| zk <| qm q <| qm q <| O aa fun a5 ar aa => qe ab hS1 ar u24 i3 q fun _ _ aE => eI u3 aE q <| O aa fun a9 aF aa => qc q c39 ab (fun _ => w_spec_l1In aF) <| qi (qt_not q) q <| qm q <| O aa fun aG ad aa => ?_
   refine Go (res := aG) 12 (if_t · ad) (fun ae ba aH => ?_) ?_
   ·refine have ad := if_f ae ad; jm ae q <| jf uf52 fi52_0 nz3 ae q <| jl u3 ab.p0 ae q <| O ad fun bb aI ad => jc ae q c115 ab (fun _ => w_spec_l7Many aI) <| ji (qt_geq q q) ae q <| jm ae q <| O ad fun aJ af ad => ?_
    refine Ga (res := aJ) (hw := (J q ae)) 5 (if_f · af) (fun ag bc aK => ?_) ?_
    ·exact have af := if_t ag af; jm ag q <| jm ag q <| O af fun bd au af => je ab hS1 au u24 i3 ag q fun _ _ aL => jI u3 aL ag q <| ji (qt_neq q q) ag q <| aK 5 q q q af
    exact aH 7 q q q ad
   refine Qn ab fun a ha bh al => X <| S1 ha ?_
   refine Yh q aa (fun aa => ?_) (fun aa => ?_)
   ·cases aa
    exact rR <| qa q <| B <| W fun a ha => m (zj (m (⟨ret_ne, q, ha.s, al.q0.q0⟩)))
   refine y <| C <| zk <| qm q <| qf uf52 fi52_0 nz3 q <| ql u3 al.p0 q <| O aa fun bi aN aa => qc q c115 al (fun _ => w_spec_l7Many aN) <| qi (qt_lss q q) q <| Qn al fun a ha bj ah => X <| S1 ha ?_
   refine Yh q aa (fun aa => ?_) (fun aa => ?_)
   ·refine zk <| qm q <| O aa fun bk aO aa => qi (qt_sadd q q aO) q <| qm q <| qm q <| O aa fun aP av aa => qe ah hS1 av u24 i3 q fun _ _ aQ => eI u3 aQ q <| O aa fun aR aS aa => QC q q c54 (fun w' hb => w_spec_l1Number w' _ aP aR aS (ah.grow hb).ctx) (by rfl) <| O aa fun bo aT aa => qi (qt_sadd q q aT) q <| qa q <| Qn ah fun a ha bp aU => zi <| X <| S1 ha <| Z <| qm q <| qi (qt_add q q) q <| qa q <| WL_nil fun a ha => ?_
    cases aa
    exact ⟨q, ha.s, aU.p1.p1⟩
   cases aa
   exact WP_skip fun a ha => zi <| X <| S1 ha <| Z <| qm q <| qi (qt_add q q) q <| qa q <| WL_nil fun a ha => ⟨q, ha.s, ah.p1.p1⟩
  cases aa
  exact WP_exit fun a ha => zo (⟨exit_ne, q, ha.s, ab.q0.q0⟩)
 intro e a bq aw
 rcases am with am | am
 ·obtain ⟨rfl, ha, aY⟩ := aw
  refine zn <| X <| S1 ha <| rR <| qm q <| qa q <| B <| W fun a ha => ?_
  obtain rfl := L h
  exact ret1 q ha q ⟨q, aY⟩
 obtain ⟨rfl, ha, aZ⟩ := aw
 obtain rfl := L h
 exact zj (m (ret1 q ha q ⟨q, aZ⟩))
theorem w_spec_l20Written {w G bp0 A0 B0 B1 r} (h : spec_l20WrittenS B0 B1 = some r) (C0 : Has G (.int .u8) A0 B0) (H : Ctx w ([.bx bp0 118 [A0, iV B1]] ++ G)) : Calls Tryz.prog 61 #[pB bp0] w fun e w' => ∃ (v1 : Value) (v2 : Value) (v3 : Value) (v4 : Value) (v5 : Value), e = .returned (.tuple #[.agg #[v1, v2, v3, iV r.2.1.2.2.2.1, v4], v5]) ∧ Holds (([.bx bp0 118 [A0, iV B1]] : List Res).flatMap Res.own) w w' [.ro ty12 v1 r.2.1.1, .ro tI v2 r.2.1.2.1, .ro tI v3 r.2.1.2.2.1, .ro ty14 v4 r.2.1.2.2.2.2, .sl 52 ty10 v5 r.2.2, .bx bp0 118 [A0, iV r.1]] G := by
 refine F1 35 H Tryz.func61 q fun H => ?_
 refine C <| Z <| zq (cs := [nS, nS, nS, iV 0, nS]) H z27 q q q fun b1 w2 H3 => qa q <| rN <| qm q <| have H7 := H3.p1; O h fun x5 aD h => U4 q c28 (w_spec_l20House aD (C0.c) H7.ctx) fun ab ad ae af w8 H9 => have aE := H7.cN5 [_] H9; zq (cs := [nS, nS, nS, iV 0, nS]) aE z27 q q q fun am a9 aj => zl (cs' := [ab, ad, ae, iV x5.2.2.2.2.1, af]) aj q il27 q (T (aj.ctx.sliceOne hS1) (T (aj.ctx.sliceOne hS2) (T (aj.ctx.sliceOne hS3) (T q (T (aj.ctx.sliceOne hS4) q))))) q q q fun ba aF => B <| C <| Z <| zs (t := ty10) (args := []) (xs := ([] : List (Int × Int × Int × Int))) aF (BltL.nil) u44 j52 q q q q q q fun aG bb ar => qa q <| rN <| qm q <| eA ar.p1 us27 uo27 il27 q <| ?_
 refine have au := ar.p2.freeze.p3.freeze.p4.freeze.p5.freeze.p6; O h fun aq aP h => U1 q c65 (w_spec_l20HouseDeeds aP (C0.c.c.c.c.c.c.c) hO3 hO2 hO1 hO0 au.ctx) fun av bc aQ => have aR := au.cN2 [_] aQ; qa q <| B <| C <| rR <| qa q <| B <| g <| O h fun bd aS h => ?_
 refine fun be aU => zp (I := fun (aw, ax) a w2 => ∃ ak, Fr a 35 [(0, pB bp0), (2, pB b1), (4, pB am), (5, ak), (6, av), (7, iV ax)] ∧ Holds (([.bx bp0 118 [A0, iV B1]] : List Res).flatMap Res.own) w w2 [.bx bp0 118 [A0, iV aq.1], .bx b1 27 [nS, nS, nS, iV 0, nS], .bx am 27 [ab, ad, ae, iV x5.2.2.2.2.1, af], .ro ty12 ab x5.2.1, .ro tI ad x5.2.2.1, .ro tI ae x5.2.2.2.1, .ro ty14 af x5.2.2.2.2.2, .sl 52 ty10 ak aw, .sl 52 ty10 av aq.2] G) (O := fun q0 e a w2 => e = .exit 0 ∧ ∃ ay, Fr a 35 [(0, pB bp0), (2, pB b1), (4, pB am), (5, ay)] ∧ Holds (([.bx bp0 118 [A0, iV B1]] : List Res).flatMap Res.own) w w2 [.bx bp0 118 [A0, iV aq.1], .bx b1 27 [nS, nS, nS, iV 0, nS], .bx am 27 [ab, ad, ae, iV x5.2.2.2.2.1, af], .ro ty12 ab x5.2.1, .ro tI ad x5.2.2.1, .ro tI ae x5.2.2.2.1, .ro ty14 af x5.2.2.2.2.2, .sl 52 ty10 ay q0] G) aS ?_ ?_ ?_
 ·exact ⟨aG, aU.s, aR.p6.p3.p4.p5.p6.p7.p8.p8⟩
 ·rintro ⟨aw, ax⟩ _ a bf aa ⟨ak, ha, ah⟩
  refine S1 ha <| C <| rR <| qm q <| qm q <| qz ah.ctx hS8 u44 q <| qi (qt_lss q q) q <| B ?_
  refine Yh q aa (fun aa => ?_) (fun aa => ?_)
  ·refine y <| C <| g <| C <| zk <| qm q <| qm q <| O aa fun ao az aa => qe ah hS8 az u44 i52 q fun _ _ aV => lP [iV ao.1, iV ao.2.1, iV ao.2.2.1, iV ao.2.2.2] us52 uo52 i52 aV q q q q <| O aa fun bj aW aa => qc q c80 ah (fun _ => w_spec_DeedText aW) <| qi (qt_sneq q q) q <| Qn ah fun a ha bk ap => X <| S1 ha ?_
   refine Yh q aa (fun aa => ?_) (fun aa => ?_)
   ·refine Z <| qm q <| qm q <| qm q <| O aa fun ag aA aa => qe ap hS8 aA u44 i52 q fun _ _ aX => lP [iV ag.1, iV ag.2.1, iV ag.2.2.1, iV ag.2.2.2] us52 uo52 i52 aX q q q q <| zs (t := ty10) (args := [.tmp 30]) (xs := ([(ag.1, ag.2.1, ag.2.2.1, ag.2.2.2)] : List (Int × Int × Int × Int))) ap (BltL.cons (Blt.pair (Blt.int) (Blt.pair (Blt.int) (Blt.pair (Blt.int) (Blt.int)))) q (BltL.nil)) u44 j52 q q q q q q fun bo bp aY => O aa fun bq a0 aa => zw aY.p8 hS1 a0 u44 j52 q q q q q q fun a1 br a2 => qa q <| WL_nil fun a ha => zi <| X <| S1 ha <| Z <| qm q <| qi (qt_add q q) q <| qa q <| WL_nil fun a ha => ?_
    cases aa
    exact ⟨q, a1, ha.s, a2.q1.p8.p1.p8.p8.p8.p8.p8.p8.p8⟩
   cases aa
   exact WP_skip fun a ha => zi <| X <| S1 ha <| Z <| qm q <| qi (qt_add q q) q <| qa q <| WL_nil fun a ha => ⟨q, ak, ha.s, ap.p8.p8.p8.p8.p8.p8.p8.p8.p8⟩
  cases aa
  exact WP_exit fun a ha => zo (⟨exit_ne, q, ak, ha.s, ah.q8.p7.p7.p7.p7.p7.p7.p7.p7⟩)
 rintro _ a bs ⟨rfl, a6, ha, aB⟩
 cases h
 exact zn <| X <| S1 ha <| rR <| eA aB.p2 us27 uo27 il27 q <| qm q <| have al := aB.p1; zl (cs' := [ab, ad, ae, iV x5.2.2.2.2.1, af]) al q il27 q (T (al.ctx.sliceOne hR3) (T (al.ctx.sliceOne hR4) (T (al.ctx.sliceOne hR5) (T q (T (al.ctx.sliceOne hR6) q))))) q q q fun bt aC => qa q <| B <| W fun a ha => have a7 := R aC.p0; retct q ha q q (run_loadVar_bx (cs := [ab, ad, ae, iV x5.2.2.2.2.1, af]) us27 uo27 il27 a7) ⟨ab, ad, ae, af, a6, q, aC.q0.q1.p5.p5.p5.p5.p5⟩
theorem w_spec_JournalText {w G vp0 p0 r} (h : spec_JournalTextS p0 = some r) (hp0 : Has G ty10 vp0 p0) (H : Ctx w G) : Calls Tryz.prog 62 #[vp0] w fun e w' => e = .returned (strV r) ∧ Holds M0 w w' [] G := by
 refine F0 26 H Tryz.func62 q fun H => ?_
 refine rR <| qa q <| rN <| qa q <| B <| C <| C <| Z <| qa q <| B <| g <| O h fun o3 ak h => ?_
 refine fun a5 al => zp (I := fun (s1, s2) a w2 => (Fr a 26 [(0, vp0), (3, strV s1), (4, iV s2)] ∧ Holds M0 w w2 [] G)) (O := fun o e a w2 => match o with | .inl q0 => e = .exit 0 ∧ (Fr a 26 [(3, strV q0)] ∧ Holds M0 w w2 [] G) | .inr q0 => e = .ret ∧ (Fr a 26 [(2, strV q0)] ∧ Holds M0 w w2 [] G)) ak ?_ ?_ ?_
 ·exact ⟨al.s, H⟩
 ·rintro ⟨s1, s2⟩ _ a w7 aa ⟨ha, ab⟩
  refine S1 ha <| C <| rR <| qm q <| qm q <| qz ab.ctx (hp0) u44 q <| qi (qt_lss q q) q <| B ?_
  refine Yh q aa (fun aa => ?_) (fun aa => ?_)
  ·refine y <| C <| g <| C <| C <| zk <| qm q <| qm q <| O aa fun ae ag aa => qe ab (hp0) ag u44 i52 q fun _ _ am => lP [iV ae.1, iV ae.2.1, iV ae.2.2.1, iV ae.2.2.2] us52 uo52 i52 am q q q q <| O aa fun aB ao aa => qc q c80 ab (fun _ => w_spec_DeedText ao) <| qi (qt_seql q q) q <| Qn ab fun a ha aC ad => X <| S1 ha ?_
   refine Yh q aa (fun aa => ?_) (fun aa => ?_)
   ·cases aa
    exact rR <| qa q <| B <| W fun a ha => m (zj (m (⟨ret_ne, q, ha.s, ad⟩)))
   refine y <| zk <| qm q <| qm q <| qm q <| O aa fun af ah aa => qe ad (hp0) ah u44 i52 q fun _ _ ap => lP [iV af.1, iV af.2.1, iV af.2.2.1, iV af.2.2.2] us52 uo52 i52 ap q q q q <| O aa fun aG aq aa => qc q c80 ad (fun _ => w_spec_DeedText aq) <| O aa fun aH ar aa => qi (qt_sadd q q ar) q <| O aa fun aI au aa => qi (qt_sadd q q au) q <| qa q <| Qn ad fun a ha aJ av => zi <| X <| S1 ha <| Z <| qm q <| qi (qt_add q q) q <| qa q <| WL_nil fun a ha => ?_
   cases aa
   exact ⟨q, ha.s, av⟩
  cases aa
  exact WP_exit fun a ha => zo (⟨exit_ne, q, ha.s, ab⟩)
 intro e a aK aj
 rcases o3 with o3 | o3
 ·obtain ⟨rfl, ha, aw⟩ := aj
  refine zn <| X <| S1 ha <| rR <| qm q <| qa q <| B <| W fun a ha => ?_
  obtain rfl := L h
  exact ret1 q ha q ⟨q, aw⟩
 obtain ⟨rfl, ha, ax⟩ := aj
 obtain rfl := L h
 exact zj (m (ret1 q ha q ⟨q, ax⟩))
theorem w_spec_l20Spoil {w G bp0 A0 B0 B1 p1 r} (h : spec_l20SpoilS B0 B1 p1 = some r) (C0 : Has G (.int .u8) A0 B0) (H : Ctx w ([.bx bp0 118 [A0, iV B1]] ++ G)) : Calls Tryz.prog 63 #[pB bp0, strV p1] w fun e w' => e = .returned (strV r.2) ∧ Holds (([.bx bp0 118 [A0, iV B1]] : List Res).flatMap Res.own) w w' [.bx bp0 118 [A0, iV r.1]] G := by
 refine F1 27 H Tryz.func63 q fun H => ?_
 refine rR <| qa q <| B <| C <| rR <| qm q <| qi (qt_slen u9 q) q <| qi (qt_eql q q) q <| B ?_
 refine Yh q h (fun h => ?_) (fun h => ?_)
 ·cases h
  exact rR <| qa q <| B <| W fun a ha => m (ret1 q ha q ⟨q, H⟩)
 refine y <| rR <| qm q <| qm q <| qi (qt_slen u9 q) q <| O h fun x1 ag h => U0 q c29 (w_spec_l20Rd__pick ag (C0) H.ctx) fun w3 H4 => have H5 := H.cN1 [_] H4; qa q <| B <| C <| O h fun x6 ah h => O h fun aj ae h => O h fun ay aa h => O h fun az ak h => O h fun aA al h => O h fun am ao h => ?_
 refine WP_join (M := fun a w2 => (Fr a 27 [(0, pB bp0), (4, strV am)] ∧ Holds (([.bx bp0 118 [A0, iV B1]] : List Res).flatMap Res.own) w w2 [.bx bp0 118 [A0, iV aj.1]] G)) ?_ ?_
 ·refine WP_ordersT (fun w1 w2 => Chg (([.bx bp0 118 [A0, iV x1.1]] : List Res).flatMap Res.own) w1 w2) 14 (by kernel_rfl) fun ad ap => have af := H5.grow ap; ?_
  have aq : Ctx ad ([.bx bp0 118 [A0, iV x1.1]] ++ G) := af.ctx
  have ar : Holds _ ad ad [.bx bp0 118 [A0, iV x1.1]] G := zb (Rs := [.bx bp0 118 [A0, iV x1.1]]) aq
  refine have Hc := ar; XQ (i := 0) q (by kernel_rfl) q Hc.chg q (fun _ => qt_move q) q q <| XQ (i := 1) q (by kernel_rfl) q Hc.chg q (fun _ => qt_move q) q q <| XQ (i := 2) q (by kernel_rfl) q Hc.chg q (fun _ => qt_ssub u9 q ⟨_, q⟩ q ah) q q <| XQ (i := 4) q (by kernel_rfl) q Hc.chg q (fun _ => qt_move q) q q <| XQ (i := 9) q (by kernel_rfl) q Hc.chg q (fun _ => qt_move q) q q <| XQ (i := 10) q (by kernel_rfl) q Hc.chg q (fun _ => qt_move q) q q <| XQ (i := 11) q (by kernel_rfl) q Hc.chg q (fun _ => qt_add q q) q q <| XQ (i := 12) q (by kernel_rfl) q Hc.chg q (fun _ => qt_ssub u9 ⟨_, q⟩ q q al) q q ?_
  repeat' first
   | refine XDo 3 q ?_; refine zs (t := .str) (args := [.const (strV []), .const (strV [48]), .const (strV [32]), .const (strV [10]), .const (strV [57]), .const (strV [98, 117, 121])]) (xs := ([([] : List UInt8), ([48] : List UInt8), ([32] : List UInt8), ([10] : List UInt8), ([57] : List UInt8), ([98, 117, 121] : List UInt8)] : List (List UInt8))) Hc (BltL.cons (Blt.str) q (BltL.cons (Blt.str) q (BltL.cons (Blt.str) q (BltL.cons (Blt.str) q (BltL.cons (Blt.str) q (BltL.cons (Blt.str) q (BltL.nil))))))) u28 j9 q q q q q q (fun aB _ Hc => ?_); refine XN Hc.chg ?_
   | refine XDo 5 q ?_; have Hc := Hc.p1; refine U0 q c29 (w_spec_l20Rd__pick ae (C0.c) Hc.ctx) fun _ HK => ?_; have Hc := Hc.cN1 [_] HK; refine XN Hc.chg ?_
   | refine XDo 5 q <| U0 q c29 (w_spec_l20Rd__pick ae (C0) Hc.ctx) fun _ HK => ?_; have Hc := Hc.cN1 [_] HK; refine XN Hc.chg ?_
   | refine XDo 7 q <| eS u9 (Hc.el hS1 aa ab) q <| XN Hc.chg ?_
   | refine XDo 7 q <| eS u9 (Hc.el hS0 aa ab) q <| XN Hc.chg ?_
   | have Hc := af.cN2 [_] Hc; refine XDo 14 q <| qa q <| XE q ?_
   | refine XK 6 (by decide +kernel) ?_; obtain ⟨au, av, aw, ab⟩ := Ctx.isAt Hc.ctx hS1 aa; refine XT (i := 6) q (by kernel_rfl) q Hc.chg q (qs_index aa ab u28 i9 q q) q q ?_
   | refine XK 6 (by decide +kernel) ?_; obtain ⟨au, av, aw, ab⟩ := Ctx.isAt Hc.ctx hS0 aa; refine XT (i := 6) q (by kernel_rfl) q Hc.chg q (qs_index aa ab u28 i9 q q) q q ?_
   | refine XK 8 (by decide +kernel) <| XQ (i := 8) q (by kernel_rfl) q Hc.chg q (fun _ => qt_sadd q q ak) q q ?_
   | refine XK 13 (by decide +kernel) <| XQ (i := 13) q (by kernel_rfl) q Hc.chg q (fun _ => qt_sadd q q ao) q q ?_
   | refine XV [3, 5] (by decide +kernel) q (allc ?_ (allc ?_ alln))
   | refine XV [5] (by decide +kernel) q (allc ?_ alln)
   | refine XV [7] (by decide +kernel) q (allc ?_ alln)
   | refine XV [14] (by decide +kernel) q (allc ?_ alln)
   | refine XV [3] (by decide +kernel) q (allc ?_ alln)
   | refine XC_done (by decide +kernel) (fun a ha => ?_); have Hc := (Hc.q1); exact ⟨ha.s, Hc⟩
   | refine XC_done (by decide +kernel) (fun a ha => ?_); have Hc := (Hc.q0); exact ⟨ha.s, Hc⟩
 rintro a aC ⟨ha, ax⟩
 cases h
 exact S1 ha <| W fun a ha => ret1 q ha q ⟨q, ax⟩
theorem w_spec_DrawReadJournal {w G vp0 p0 r} (h : spec_DrawReadJournalS p0 = some r) (hp0 : HasRo G (.int .u8) vp0 p0) (H : Ctx w G) : Calls Tryz.prog 18 #[vp0] w fun e w' => e = .returned (strV r) ∧ Holds M0 w w' [] G := by
 refine F0 33 H Tryz.func18 q fun H => ?_
 refine rR <| qa q <| rN <| qm q <| O h fun x1 al h => U2 q c27 (w_spec_l20Open al (hp0) H.ctx) fun v5 b6 w3 H4 => have H7 := H.cN2 [] H4; qa q <| rN <| qm q <| have ad := H7.p1; O h fun x8 am h => U5 q c61 (w_spec_l20Written am hR0 ad.ctx) fun ae af ag ah ao ap aq => ?_
 have ar : Holds _ w ap [.ro ty12 ae x8.2.1.1, .ro tI af x8.2.1.2.1, .ro tI ag x8.2.1.2.2.1, .ro ty14 ah x8.2.1.2.2.2.2, .sl 52 ty10 ao x8.2.2, .bx b6 118 [v5, iV x8.1], .ro (.int .u8) v5 x1.1] G := ad.calledN (Rs := [_]) aq
 refine qm q <| qi (zv q q) q <| qi (zv q q) q <| zq (cs := [nS, nS, nS, iV 0, nS]) ar z27 q q q fun aI aJ aa => zl (cs' := [ae, af, ag, iV x8.2.1.2.2.2.1, ah]) aa q il27 q (T (aa.ctx.sliceOne hR1) (T (aa.ctx.sliceOne hR2) (T (aa.ctx.sliceOne hR3) (T q (T (aa.ctx.sliceOne hR4) q))))) q q q fun aK aj => qa q <| B <| C <| zk <| qm q <| O h fun aL au h => qc q c62 aj (fun _ => w_spec_JournalText au hS5) <| qa q <| Qn aj fun a ha aM av => X <| S1 ha <| C <| rR <| qm q <| have ak := av.p6; O h fun aN aw h => U0 q c29 (w_spec_l20Rd__pick aw hR6 ak.ctx) fun aO ax => have ab := ak.cN1 [_] ax; B <| g <| rR <| qi (qt_eql q q) q <| qa q <| B ?_
 refine Yh q h (fun h => ?_) (fun h => ?_)
 ·refine rR <| qm q <| qm q <| O h fun aP ay h => U0 q c63 (w_spec_l20Spoil ay hR6 ab.ctx) fun aQ az => have aA := ab.cN1 [_] az; qa q <| B <| W fun a ha => ?_
  cases h
  exact zj (m (ret1 q ha q ⟨q, aA.q0.q0.q0.q0.q0.q0.q0.q0⟩))
 refine rR <| qi (qt_eql q q) q <| qa q <| B ?_
 refine Yh q h (fun h => ?_) (fun h => ?_)
 ·refine rR <| qm q <| qm q <| qm q <| qi (qt_slen u9 q) q <| qi (qt_add q q) q <| O h fun aR aC h => U0 q c29 (w_spec_l20Rd__pick aC hR6 ab.ctx) fun aS aD => have aE := ab.cN1 [_] aD; O h fun aT aF h => qi (qt_ssub u9 q ⟨_, q⟩ q aF) q <| qa q <| B <| W fun a ha => ?_
  obtain rfl := L h
  exact zj (m (ret1 q ha q ⟨q, aE.q0.q0.q0.q0.q0.q0.q0.q0⟩))
 refine WP_skip fun a ha => zi <| X <| S1 ha <| rR <| qm q <| qa q <| B <| W fun a ha => ?_
 obtain rfl := L h
 exact ret1 q ha q ⟨q, ab.q0.q0.q0.q0.q0.q0.q0.q0⟩
theorem w_impl_readNumber {w G p0 p1 r} (h : impl_readNumberS p0 p1 = some r) (H : Ctx w G) : Calls Tryz.prog 90 #[strV p0, iV p1] w fun e w' => e = .returned (.tuple #[iV r.1, .bool r.2]) ∧ Holds M0 w w' [] G := by
 refine F0 52 H Tryz.func90 q fun H => ?_
 refine rR <| qa q <| qa q <| B <| C <| rR <| qm q <| qi (qt_slen u9 q) q <| qi (qt_lss q q) q <| qm q ?_
 refine Ho (res := ((decide ((List.length p0 : Int) < 1)) || (decide ((List.length p0 : Int) > p1)))) 4 os (fun ag K2 aq => ?_) ?_
 ·exact jm ag q <| ji (qt_slen u9 q) ag q <| jm ag q <| ji (qt_gtr q q) ag q <| aq 4 q q q (oi ag)
 refine qm q <| O h fun b4 ab h => ?_
 refine Ho (res := b4) 8 (if_t · ab) (fun ad K7 ar => ?_) ?_
 ·refine have ab := if_f ad ab; jm ad q <| ji (qt_slen u9 q) ad q <| ji (qt_gtr q q) ad q <| jm ad q <| O ab fun b9 ae ab => ?_
  refine Ha (res := b9) (hw := (J q ad)) 3 (if_f · ae) (fun aj aF au => ?_) ?_
  ·exact have ae := if_t aj ae; jm aj q <| O ae fun aG av ae => ji (qt_sidx u9 q q av) aj q <| ji (qt_eql q q) aj q <| au 3 q q q ae
  exact ar 5 q q q ab
 refine B ?_
 refine Yh q h (fun h => ?_) (fun h => ?_)
 ·cases h
  exact rR <| qa q <| qa q <| B <| W fun a ha => m (ret2 q ha q q ⟨q, H⟩)
 refine y <| rR <| qa q <| B <| C <| rR <| qa q <| B <| g <| O h fun ak aw h => ?_
 refine fun aH ax => zp (I := fun (am, ao) a w2 => (Fr a 52 [(0, strV p0), (6, iV am), (7, iV ao)] ∧ Holds M0 w w2 [] G)) (O := fun o e a w2 => match o with | .inl q0 => e = .exit 0 ∧ (Fr a 52 [(6, iV q0)] ∧ Holds M0 w w2 [] G) | .inr (q0, q1) => e = .ret ∧ (Fr a 52 [(4, iV q0), (5, .bool q1)] ∧ Holds M0 w w2 [] G)) aw ?_ ?_ ?_
 ·exact ⟨ax.s, H⟩
 ·rintro ⟨am, ao⟩ _ a aI aa ⟨ha, al⟩
  refine S1 ha <| C <| rR <| qm q <| qm q <| qi (qt_slen u9 q) q <| qi (qt_lss q q) q <| B ?_
  refine Yh q aa (fun aa => ?_) (fun aa => ?_)
  ·refine y <| C <| g <| C <| rR <| qm q <| qm q <| O aa fun aJ ay aa => qi (qt_sidx u9 q q ay) q <| qi (qt_lss q q) q <| qm q <| O aa fun az af aa => ?_
   refine Ho (res := az) 4 (if_t · af) (fun ah aK aA => ?_) ?_
   ·exact have af := if_f ah af; jm ah q <| jm ah q <| O af fun aL aB af => ji (qt_sidx u9 q q aB) ah q <| ji (qt_gtr q q) ah q <| aA 4 q q q af
   refine B ?_
   refine Yh q aa (fun aa => ?_) (fun aa => ?_)
   ·cases aa
    exact rR <| qa q <| qa q <| B <| W fun a ha => m (zj (m (⟨ret_ne, q, ha.s, al⟩)))
   refine y <| Z <| qm q <| qi (qt_mul q q) q <| qm q <| qm q <| O aa fun aM aC aa => qi (qt_sidx u9 q q aC) q <| qi (qt_sub q q) q <| qi (qt_int u3 q u5) q <| qi (qt_add q q) q <| qa q <| WL_nil fun a ha => zi <| X <| S1 ha <| Z <| qm q <| qi (qt_add q q) q <| qa q <| WL_nil fun a ha => ?_
   cases aa
   exact ⟨q, ha.s, al⟩
  cases aa
  exact WP_exit fun a ha => zo (⟨exit_ne, q, ha.s, al⟩)
 intro e a aN ap
 rcases ak with ak | ak
 ·obtain ⟨rfl, ha, aD⟩ := ap
  cases h
  exact zn <| X <| S1 ha <| rR <| qm q <| qa q <| qa q <| B <| W fun a ha => ret2 q ha q q ⟨q, aD⟩
 obtain ⟨aO, aP⟩ := ak
 obtain ⟨rfl, ha, aE⟩ := ap
 cases h
 exact zj (m (ret2 q ha q q ⟨q, aE⟩))
theorem w_impl_ReadDeed {w G p0 r} (h : impl_ReadDeedS p0 = some r) (hGl : Glob G) (hGm : GlobM G) (H : Ctx w G) : Calls Tryz.prog 44 #[strV p0] w fun e w' => e = .returned (.tuple #[.agg #[iV r.1.1, iV r.1.2.1, iV r.1.2.2.1, iV r.1.2.2.2], .bool r.2]) ∧ Holds M0 w w' [] G := by
 refine F0 63 H Tryz.func44 q fun H => ?_
 refine C <| Z <| zq (cs := [iV 0, iV 0, iV 0, iV 0]) H z52 q q q fun b1 w2 H3 => qa q <| rN <| qm q <| O h fun x5 aS h => zd q q c89 (w_strings_Split w2 _ hGm.c p0 ([32] : List UInt8) x5 aS H3.ctx) (by rfl) ?_
 rintro _ w7 ⟨v9, rfl, H8⟩; refine ⟨_, q, ?_⟩
 refine have aA := H3.cN1 [] H8; qa q <| B <| C <| rR <| XL_loadArrS aA.ctx (hGl.1.c.c.has) us101 uo101 il101 q q q <| qm q <| B <| g <| O h fun aj aT h => ?_
 refine fun bB aV => zp (I := fun (af, ap, aq, ar, au) a w2 => (Fr a 63 [(2, pB b1), (4, v9), (14, .agg (List.map strV deedNames).toArray), (15, iV af)] ∧ Holds M0 w w2 [.bx b1 52 [iV ap, iV aq, iV ar, iV au], .sl 9 .str v9 x5] G)) (O := fun o e a w2 => match o with | .inl (q0, q1, q2, q3) => e = .exit 0 ∧ (Fr a 63 [(2, pB b1)] ∧ Holds M0 w w2 [.bx b1 52 [iV q0, iV q1, iV q2, iV q3]] G) | .inr (q0, q1, q2, q3, q4) => e = .ret ∧ (Fr a 63 [(2, pB b1), (3, .bool q0)] ∧ Holds M0 w w2 [.bx b1 52 [iV q1, iV q2, iV q3, iV q4]] G)) aT ?_ ?_ ?_
 ·exact ⟨aV.s, aA.p1⟩
 ·rintro ⟨af, ap, aq, ar, au⟩ _ a bC aa ⟨ha, ad⟩
  refine S1 ha <| rR <| qi (qt_lss q q) q <| B <| C ?_
  refine Yh q aa (fun aa => ?_) (fun aa => ?_)
  ·refine y <| C <| g <| rR <| qm q <| O aa fun bD aW aa => qi (qt_idxS (xs := deedNames) u101 u9 il9 q q q aW) q <| qa q <| qa q <| B <| C <| rR <| qm q <| O aa fun bE aB aa => qe ad hS1 aB u28 i9 q fun _ _ aX => eS u9 aX q <| qm q <| qi (qt_sneq q q) q <| qm q <| O aa fun aY ah aa => ?_
   refine Ho (res := aY) 7 (if_t · ah) (fun ae bI aZ => ?_) ?_
   ·exact have ah := if_f ae ah; jm ae q <| jz ad.ctx hS1 u28 ae q <| jm ae q <| O ah fun bJ aC ah => XL_indexA ad.ctx (hGl.2.c.c.has) q aC u102 i3 (J q ae) q q q fun bK bL bM a0 => jI u3 (ad.el (hGl.2.c.c.has) aC a0) ae q <| ji (qt_add q q) ae q <| ji (qt_neq q q) ae q <| aZ 7 q q q ah
   refine B ?_
   refine Yh q aa (fun aa => ?_) (fun aa => ?_)
   ·cases aa
    exact WP_exit fun a ha => zo <| zn <| X <| S1 ha <| Z <| qi (qt_add q q) q <| qm q <| WL_nil fun a ha => ⟨q, ha.s, ad.p1.p1⟩
   refine y <| C <| Z <| zq (cs := [iV 0, iV 0, iV 0]) ad z100 q q q fun ak a2 a3 => ?_
   have av : Holds _ w a2 [.sl 100 tI (.slice (some ⟨ak, 0, none⟩) 3 3) ([0, 0, 0] : List Int), .bx b1 52 [iV ap, iV aq, iV ar, iV au], .sl 9 .str v9 x5] G := Holds.bx_sl (t := tI) (xs := [0, 0, 0]) a3 (fun _ => ⟨[_], _, [], [], q, q, ⟨q, q⟩, ⟨[_], _, [], [], q, q, ⟨q, q⟩, ⟨[_], _, [], [], q, q, ⟨q, q⟩, ⟨q, q⟩⟩⟩⟩) q q
   refine B <| C <| rR <| qm q <| O aa fun a4 ao aa => XL_sliceH av.ctx hS2 ao u28 i9 ⟨_, q⟩ q q q q <| qz av.ctx (Has.sub hS2 ao) u28 q <| qm q <| B <| g <| O aa fun al a5 aa => ?_
   refine fun bN a7 => zp (I := fun (aD, aE, aF, aG, aH, aI) a w2 => (Fr a 63 [(2, pB b1), (5, iV af), (7, pB ak), (34, (subV (Ty.size .str) v9 (Int.toNat 1) (Int.toNat (List.length x5 : Int)))), (35, iV (List.length a4 : Int)), (36, iV aD)] ∧ Holds M0 w w2 [.bx b1 52 [iV aE, iV aF, iV aG, iV aH], .sl 100 tI (.slice (some ⟨ak, 0, none⟩) 3 3) aI, .sl 9 .str v9 x5] G)) (O := fun o e a w2 => match o with | .inl (q0, q1, q2, q3, q4) => e = .exit 2 ∧ (Fr a 63 [(2, pB b1), (5, iV af), (7, pB ak)] ∧ Holds M0 w w2 [.bx b1 52 [iV q0, iV q1, iV q2, iV q3], .sl 100 tI (.slice (some ⟨ak, 0, none⟩) 3 3) q4] G) | .inr (q0, q1, q2, q3, q4, q5) => e = .ret ∧ (Fr a 63 [(2, pB b1), (3, .bool q0)] ∧ Holds M0 w w2 [.bx b1 52 [iV q1, iV q2, iV q3, iV q4]] G)) a5 ?_ ?_ ?_
   ·exact ⟨a7.s, av.p2.p1.p2⟩
   ·rintro ⟨aD, aE, aF, aG, aH, aI⟩ _ a bO ab ⟨ha, am⟩
    refine S1 ha <| rR <| qi (qt_lss q q) q <| B <| C ?_
    refine Yh q ab (fun ab => ?_) (fun ab => ?_)
    ·refine y <| C <| g <| rR <| qm q <| O ab fun bP aJ ab => qe am (Has.sub hS2 ao) aJ u28 i9 q fun _ _ a8 => eS u9 a8 q <| qa q <| qa q <| rN <| qm q <| O ab fun a9 ba ab => U0 q c90 (w_impl_readNumber ba am.ctx) fun bT bb => have aw := am.cN0 [] bb; qm q <| qi (zv q q) q <| qi (zv q q) q <| qa q <| qa q <| B <| C <| rR <| qm q <| qi (qt_not q) q <| B ?_
     refine Yh q ab (fun ab => ?_) (fun ab => ?_)
     ·cases ab
      exact rR <| qi (qt_build (args := []) (css := []) (cells := #[iV 0, iV 0, iV 0, iV 0]) q trivial (by kernel_rfl)) q <| zl (cs' := [iV 0, iV 0, iV 0, iV 0]) aw q il52 q q q q q fun bU bc => qa q <| B <| W fun a ha => m (zj (m (⟨ret_ne, q, ha.s, bc.q1.q1⟩)))
     refine y <| Z <| qm q <| qm q <| O ab fun bV aK ab => XL_indexA aw.ctx hS1 q aK u100 i3 q q q q fun bW bX bY be => WL_storeH (fo := 0) (cs' := [iV a9.1]) aw.p1 aK be (Upd.whole (Blt.int)) q il3 q q q q fun bZ bg => WL_nil fun a ha => zi <| X <| S1 ha <| Z <| qi (qt_add q q) q <| qm q <| WL_nil fun a ha => ?_
     cases ab
     exact ⟨q, ha.s, bg.p2.p1.p2⟩
    cases ab
    exact WP_exit fun a ha => zo (⟨exit_ne, q, ha.s, am.q2.p1.p1⟩)
   intro e a b0 aL
   rcases al with al | al
   ·obtain ⟨b4, b5, b6, b7, b8⟩ := al
    obtain ⟨rfl, ha, ag⟩ := aL
    refine zn <| X <| S1 ha <| rR <| qm q <| O aa fun ax aM aa => XL_indexA ag.ctx hS1 q aM u100 i3 q q q q fun b9 ca cb bj => eI u3 (ag.el hS1 aM bj) q <| O aa fun ay aN aa => XL_indexA ag.ctx hS1 q aN u100 i3 q q q q fun cc cd ce bk => eI u3 (ag.el hS1 aN bk) q <| O aa fun az aO aa => XL_indexA ag.ctx hS1 q aO u100 i3 q q q q fun cf cg ch bl => eI u3 (ag.el hS1 aO bl) q <| qi (qt_build (args := [(0, .tmp 53), (1, .tmp 55), (2, .tmp 57), (3, .tmp 59)]) (css := [#[iV af], #[iV ax], #[iV ay], #[iV az]]) (cells := #[iV af, iV ax, iV ay, iV az]) q ⟨q, q, q, q, trivial⟩ (by kernel_rfl)) q <| zl (cs' := [iV af, iV ax, iV ay, iV az]) ag q il52 q q q q q fun ci bm => qa q <| B <| W fun a ha => ?_
    cases aa
    exact zj (m (⟨ret_ne, q, ha.s, bm.q1⟩))
   obtain ⟨cj, ck, cl, cm, cn, co⟩ := al
   obtain ⟨rfl, ha, bo⟩ := aL
   cases aa
   exact zj (m (zj (m (⟨ret_ne, q, ha.s, bo⟩))))
  cases aa
  exact WP_exit fun a ha => zo (⟨exit_ne, q, ha.s, ad.q1⟩)
 intro e a cp aP
 rcases aj with aj | aj
 ·obtain ⟨cq, cr, ct, cu⟩ := aj
  obtain ⟨rfl, ha, bq⟩ := aP
  cases h
  exact zn <| X <| S1 ha <| rR <| qi (qt_build (args := []) (css := []) (cells := #[iV 0, iV 0, iV 0, iV 0]) q trivial (by kernel_rfl)) q <| zl (cs' := [iV 0, iV 0, iV 0, iV 0]) bq q il52 q q q q q fun cv aQ => qa q <| B <| W fun a ha => have br := R aQ.p0; retct q ha q q (run_loadVar_bx (cs := [iV 0, iV 0, iV 0, iV 0]) us52 uo52 il52 br) ⟨q, aQ.q0⟩
 obtain ⟨cw, bt, bu, bv, bw⟩ := aj
 obtain ⟨rfl, ha, aR⟩ := aP
 cases h
 refine have bz := R aR.p0; ?_
 exact zj (m (retct q ha q q (run_loadVar_bx (cs := [iV bt, iV bu, iV bv, iV bw]) us52 uo52 il52 bz) ⟨q, aR.q0⟩))
theorem w_impl_ReadJournal {w G p0 r} (h : impl_ReadJournalS p0 = some r) (hGl : Glob G) (hGm : GlobM G) (H : Ctx w G) : Calls Tryz.prog 19 #[strV p0] w fun e w' => ∃ (v1 : Value), e = .returned (.tuple #[v1, iV r.2]) ∧ Holds M0 w w' [.sl 52 ty10 v1 r.1] G := by
 refine F0 41 H Tryz.func19 q fun H => ?_
 refine rR <| qa q <| qa q <| rN <| qa q <| B <| C <| Z <| qa q <| B <| g <| have H3 := H.nS 52 ty10; O h fun o4 aj h => ?_
 refine fun a6 ak => zp (I := fun (s1, s2) a w2 => ∃ ad, Fr a 41 [(0, strV p0), (4, ad), (5, iV s2)] ∧ Holds M0 w w2 [.sl 52 ty10 ad s1] G) (O := fun (q0, q1) e a w2 => e = .ret ∧ ∃ ag, Fr a 41 [(2, ag), (3, iV q1)] ∧ Holds M0 w w2 [.sl 52 ty10 ag q0] G) aj ?_ ?_ ?_
 ·exact ⟨(nS), ak.s, H3⟩
 ·rintro ⟨s1, s2⟩ _ a w8 aa ⟨ad, ha, ah⟩
  refine S1 ha <| g <| rR <| qm q <| qm q <| O aa fun al am aa => qi (qt_ssub u9 ⟨_, q⟩ q q am) q <| O aa fun ao ap aa => zd q q c64 (w_strings_Cut w8 _ hGm.c al ([10] : List UInt8) ao ap ah.ctx) (by rfl) ?_
  rintro _ aG ⟨rfl, aq⟩; refine ⟨_, q, ?_⟩
  refine have ae := ah.cN0 [] aq; qm q <| qi (zv q q) q <| qi (zv q q) q <| qi (zv q q) q <| qa q <| qa q <| qa q <| B <| C <| C <| Z <| qm q <| qi (qt_not q) q <| B ?_
  refine Yh q aa (fun aa => ?_) (fun aa => ?_)
  ·cases aa
   exact rR <| qm q <| qm q <| qa q <| qa q <| B <| W fun a ha => m (zj (⟨ret_ne, q, ad, ha.s, ae⟩))
  refine y <| rR <| qm q <| O aa fun ab ar aa => U0 q c44 (w_impl_ReadDeed ar hGl.c hGm.c ae.ctx) fun aH au => have av := ae.cN0 [] au; qm q <| qi (zv q q) q <| qi (zv q q) q <| zq (cs := [iV 0, iV 0, iV 0, iV 0]) av z52 q q q fun aI aJ aw => zl (cs' := [iV ab.1.1, iV ab.1.2.1, iV ab.1.2.2.1, iV ab.1.2.2.2]) aw q il52 q q q q q fun aK af => qa q <| B <| C <| rR <| qm q <| qi (qt_not q) q <| B ?_
  refine Yh q aa (fun aa => ?_) (fun aa => ?_)
  ·cases aa
   exact rR <| qm q <| qm q <| qa q <| qa q <| B <| W fun a ha => m (zj (⟨ret_ne, q, ad, ha.s, af.q0⟩))
  refine y <| rR <| qm q <| eA af.p0 us52 uo52 il52 q <| zs (t := ty10) (args := [.tmp 33]) (xs := ([(ab.1.1, ab.1.2.1, ab.1.2.2.1, ab.1.2.2.2)] : List (Int × Int × Int × Int))) af (BltL.cons (Blt.pair (Blt.int) (Blt.pair (Blt.int) (Blt.pair (Blt.int) (Blt.int)))) q (BltL.nil)) u44 j52 q q q q q q fun aL aM ay => O aa fun aN aA aa => zw ay.p2 hS1 aA u44 j52 q q q q q q fun aB aO aC => qa q <| B <| Z <| qm q <| qm q <| qi (qt_slen u9 q) q <| qi (qt_add q q) q <| qi (qt_add q q) q <| qa q <| WL_nil fun a ha => ?_
  cases aa
  exact zi (⟨q, aB, ha.s, aC.q1.q1⟩)
 obtain ⟨aP, aQ⟩ := o4
 rintro _ a aR ⟨rfl, aE, ha, aF⟩
 cases h
 exact zj (ret2 q ha q q ⟨aE, q, aF⟩)
theorem w_spec_l1Cut {w G p0 p1 r} (h : spec_l1CutS p0 p1 = some r) (H : Ctx w G) : Calls Tryz.prog 48 #[strV p0, .int .u8 p1] w fun e w' => ∃ (v1 : Value), e = .returned (v1) ∧ Holds M0 w w' [.sl 9 .str v1 r] G := by
 refine F0 35 H Tryz.func48 q fun H => ?_
 refine rR <| qa q <| B <| C <| Z <| zs (t := .str) (args := []) (xs := ([] : List (List UInt8))) H (BltL.nil) u28 j9 q q q q q q fun v1 w2 H3 => qa q <| rN <| qa q <| B <| C <| rR <| qa q <| B <| g <| O h fun o8 af h => ?_
 refine fun aD ag => zp (I := fun (s5, s6, s7) a w2 => ∃ ab, Fr a 35 [(0, strV p0), (1, .int .u8 p1), (5, ab), (6, iV s6), (7, iV s7)] ∧ Holds M0 w w2 [.sl 9 .str ab s5] G) (O := fun (q0, q1) e a w2 => e = .exit 0 ∧ ∃ ae, Fr a 35 [(0, strV p0), (5, ae), (6, iV q1)] ∧ Holds M0 w w2 [.sl 9 .str ae q0] G) af ?_ ?_ ?_
 ·exact ⟨v1, ag.s, H3⟩
 ·rintro ⟨s5, s6, s7⟩ _ a aE aa ⟨ab, ha, ad⟩
  refine S1 ha <| C <| rR <| qm q <| qm q <| qi (qt_slen u9 q) q <| qi (qt_lss q q) q <| B ?_
  refine Yh q aa (fun aa => ?_) (fun aa => ?_)
  ·refine y <| C <| g <| rR <| qm q <| qm q <| O aa fun aF ah aa => qi (qt_sidx u9 q q ah) q <| qm q <| qi (qt_eql q q) q <| B ?_
   refine Yh q aa (fun aa => ?_) (fun aa => ?_)
   ·refine rR <| qm q <| qm q <| qm q <| qm q <| O aa fun aj ak aa => qi (qt_ssub u9 ⟨_, q⟩ ⟨_, q⟩ q ak) q <| zs (t := .str) (args := [.tmp 24]) (xs := ([aj] : List (List UInt8))) ad (BltL.cons (Blt.str) q (BltL.nil)) u28 j9 q q q q q q fun aG aH al => O aa fun aI ao aa => zw al.p1 hS1 ao u28 j9 q q q q q q fun ap aJ aq => qa q <| B <| Z <| qm q <| qi (qt_add q q) q <| qa q <| WL_nil fun a ha => zi <| X <| S1 ha <| Z <| qm q <| qi (qt_add q q) q <| qa q <| WL_nil fun a ha => ?_
    cases aa
    exact ⟨q, ap, ha.s, aq.q1⟩
   cases aa
   exact WP_skip fun a ha => zi <| X <| S1 ha <| Z <| qm q <| qi (qt_add q q) q <| qa q <| WL_nil fun a ha => ⟨q, ab, ha.s, ad⟩
  cases aa
  exact WP_exit fun a ha => zo (⟨exit_ne, q, ab, ha.s, ad⟩)
 obtain ⟨aK, aL⟩ := o8
 rintro _ a aM ⟨rfl, aN, ha, au⟩
 refine zn <| X <| S1 ha <| rR <| qm q <| qm q <| qm q <| O h fun av aw h => qi (qt_ssub u9 ⟨_, q⟩ q q aw) q <| zs (t := .str) (args := [.tmp 32]) (xs := ([av] : List (List UInt8))) au (BltL.cons (Blt.str) q (BltL.nil)) u28 j9 q q q q q q fun aO aP ax => O h fun aQ az h => zw ax.p1 hS1 az u28 j9 q q q q q q fun aA aR aB => qa q <| B <| W fun a ha => ?_
 obtain rfl := L h
 exact ret1 q ha q ⟨aA, q, aB.q1⟩
theorem w_spec_l1Read {w G p0 r} (h : spec_l1ReadS p0 = some r) (H : Ctx w G) : Calls Tryz.prog 49 #[strV p0] w fun e w' => e = .returned (iV r) ∧ Holds M0 w w' [] G := by
 refine F0 44 H Tryz.func49 q fun H => ?_
 refine rR <| qa q <| B <| C <| C <| zk <| qm q <| qi (qt_slen u9 q) q <| O h fun x1 aq h => qc q c39 H (fun _ => w_spec_l1In aq) <| qi (qt_not q) q <| qm q <| O h fun b3 ab h => ?_
 refine Go (res := b3) 8 (if_t · ab) (fun ad K6 ar => ?_) ?_
 ·refine have ab := if_f ad ab; jm ad q <| ji (qt_slen u9 q) ad q <| ji (qt_gtr q q) ad q <| jm ad q <| O ab fun b8 ae ab => ?_
  refine Ga (res := b8) (hw := (J q ad)) 3 (if_f · ae) (fun ah aF au => ?_) ?_
  ·exact have ae := if_t ah ae; jm ah q <| O ae fun aG av ae => ji (qt_sidx u9 q q av) ah q <| ji (qt_eql q q) ah q <| au 3 q q q ae
  exact ar 5 q q q ab
 refine Qn H fun a ha aH al => X <| S1 ha ?_
 refine Yh q h (fun h => ?_) (fun h => ?_)
 ·cases h
  exact rR <| qa q <| B <| W fun a ha => m (ret1 q ha q ⟨q, al⟩)
 refine y <| rR <| qa q <| B <| C <| rR <| qa q <| B <| g <| O h fun aj aw h => ?_
 refine fun aI ax => zp (I := fun (am, ao) a w2 => (Fr a 44 [(0, strV p0), (3, iV am), (4, iV ao)] ∧ Holds M0 w w2 [] G)) (O := fun o e a w2 => match o with | .inl q0 => e = .exit 0 ∧ (Fr a 44 [(3, iV q0)] ∧ Holds M0 w w2 [] G) | .inr q0 => e = .ret ∧ (Fr a 44 [(2, iV q0)] ∧ Holds M0 w w2 [] G)) aw ?_ ?_ ?_
 ·exact ⟨ax.s, al⟩
 ·rintro ⟨am, ao⟩ _ a aJ aa ⟨ha, ak⟩
  refine S1 ha <| C <| rR <| qm q <| qm q <| qi (qt_slen u9 q) q <| qi (qt_lss q q) q <| B ?_
  refine Yh q aa (fun aa => ?_) (fun aa => ?_)
  ·refine y <| C <| g <| C <| rR <| qm q <| qm q <| O aa fun aK ay aa => qi (qt_sidx u9 q q ay) q <| qi (qt_lss q q) q <| qm q <| O aa fun az af aa => ?_
   refine Ho (res := az) 4 (if_t · af) (fun ag aL aA => ?_) ?_
   ·exact have af := if_f ag af; jm ag q <| jm ag q <| O af fun aM aB af => ji (qt_sidx u9 q q aB) ag q <| ji (qt_gtr q q) ag q <| aA 4 q q q af
   refine B ?_
   refine Yh q aa (fun aa => ?_) (fun aa => ?_)
   ·cases aa
    exact rR <| qa q <| B <| W fun a ha => m (zj (m (⟨ret_ne, q, ha.s, ak⟩)))
   refine y <| Z <| qm q <| qi (qt_mul q q) q <| qm q <| qm q <| O aa fun aN aC aa => qi (qt_sidx u9 q q aC) q <| qi (qt_sub q q) q <| qi (qt_int u3 q u5) q <| qi (qt_add q q) q <| qa q <| WL_nil fun a ha => zi <| X <| S1 ha <| Z <| qm q <| qi (qt_add q q) q <| qa q <| WL_nil fun a ha => ?_
   cases aa
   exact ⟨q, ha.s, ak⟩
  cases aa
  exact WP_exit fun a ha => zo (⟨exit_ne, q, ha.s, ak⟩)
 intro e a aO ap
 rcases aj with aj | aj
 ·obtain ⟨rfl, ha, aD⟩ := ap
  refine zn <| X <| S1 ha <| rR <| qm q <| qa q <| B <| W fun a ha => ?_
  obtain rfl := L h
  exact ret1 q ha q ⟨q, aD⟩
 obtain ⟨rfl, ha, aE⟩ := ap
 obtain rfl := L h
 exact zj (m (ret1 q ha q ⟨q, aE⟩))
theorem w_spec_ReadDeed {w G p0 r} (h : spec_ReadDeedS p0 = some r) (H : Ctx w G) : Calls Tryz.prog 47 #[strV p0] w fun e w' => e = .returned (.tuple #[.agg #[iV r.1.1, iV r.1.2.1, iV r.1.2.2.1, iV r.1.2.2.2], .bool r.2]) ∧ Holds M0 w w' [] G := by
 refine F0 66 H Tryz.func47 q fun H => ?_
 refine C <| Z <| zq (cs := [iV 0, iV 0, iV 0, iV 0]) H z52 q q q fun b1 w2 H3 => qa q <| rN <| qm q <| O h fun x5 aL h => U1 q c48 (w_spec_l1Cut aL H3.ctx) fun v9 w7 H8 => have aM := H3.cN1 [] H8; qa q <| B <| C <| Z <| zs (t := tI) (args := [.const (iV 0), .const (iV 0), .const (iV 0)]) (xs := ([0, 0, 0] : List Int)) aM (BltL.cons (Blt.int) q (BltL.cons (Blt.int) q (BltL.cons (Blt.int) q (BltL.nil)))) u24 j3 q q q q q q fun ad br aN => qa q <| rN <| qi (qt_build (args := [(0, .const (iV (-1)))]) (css := [#[iV (-1)]]) (cells := #[iV (-1), iV 0, iV 0, iV 0]) q ⟨q, trivial⟩ (by kernel_rfl)) q <| zq (cs := [iV 0, iV 0, iV 0, iV 0]) aN z52 q q q fun ae bs aO => zl (cs' := [iV (-1), iV 0, iV 0, iV 0]) aO q il52 q q q q q fun bt aP => B <| C <| rR <| qa q <| B <| g <| O h fun ak aQ h => ?_
 refine fun bu aS => zp (I := fun (av, aw) a w2 => (Fr a 66 [(0, strV p0), (2, pB b1), (4, v9), (5, ad), (6, pB ae), (7, iV av)] ∧ Holds M0 w w2 [.bx b1 52 [iV 0, iV 0, iV 0, iV 0], .sl 9 .str v9 x5, .sl 3 tI ad ([0, 0, 0]), .bx ae 52 [iV aw, iV 0, iV 0, iV 0]] G)) (O := fun q0 e a w2 => e = .exit 0 ∧ (Fr a 66 [(0, strV p0), (2, pB b1), (4, v9), (5, ad), (6, pB ae)] ∧ Holds M0 w w2 [.bx b1 52 [iV 0, iV 0, iV 0, iV 0], .sl 9 .str v9 x5, .sl 3 tI ad ([0, 0, 0]), .bx ae 52 [iV q0, iV 0, iV 0, iV 0]] G)) aQ ?_ ?_ ?_
 ·exact ⟨aS.s, aP.p1.p2.p3⟩
 ·rintro ⟨av, aw⟩ _ a bv aa ⟨ha, ah⟩
  refine S1 ha <| C <| rR <| qm q <| qi (qt_leq q q) q <| B ?_
  refine Yh q aa (fun aa => ?_) (fun aa => ?_)
  ·refine y <| C <| g <| C <| WP_quiet (by kernel_rfl) (by kernel_rfl) <| qm q <| O aa fun bw ax aa => qe ah hS1 ax u28 i9 q fun _ _ aT => eS u9 aT q <| qm q <| O aa fun bC aU aa => qc q c96 ah (fun _ => w_spec_l7Name aU) <| qi (qt_seql q q) q <| Qn ah fun a ha bD ay => X <| S1 ha ?_
   refine Yh q aa (fun aa => ?_) (fun aa => ?_)
   ·cases aa
    exact Z <| qm q <| qf uf52 fi52_0 nz3 q <| WL_store_bx ay.p3 q il3 q q q q q fun bE aW => WL_nil fun a ha => zi <| X <| S1 ha <| Z <| qm q <| qi (qt_add q q) q <| qa q <| WL_nil fun a ha => ⟨q, ha.s, aW.p3.p3.p3⟩
   cases aa
   exact WP_skip fun a ha => zi <| X <| S1 ha <| Z <| qm q <| qi (qt_add q q) q <| qa q <| WL_nil fun a ha => ⟨q, ha.s, ay.p3.p3.p3.p3⟩
  cases aa
  exact WP_exit fun a ha => zo (⟨exit_ne, q, ha.s, ah.p3.p3.p3.p3⟩)
 rintro _ a bF ⟨rfl, ha, a0⟩
 refine zn <| X <| S1 ha <| C <| rR <| qa q <| B <| g <| O h fun bG a1 h => ?_
 refine fun bH a3 => zp (I := fun (al, az) a w2 => (Fr a 66 [(0, strV p0), (2, pB b1), (4, v9), (5, ad), (6, pB ae), (8, iV al)] ∧ Holds M0 w w2 [.bx b1 52 [iV 0, iV 0, iV 0, iV 0], .sl 9 .str v9 x5, .sl 3 tI ad az, .bx ae 52 [iV ak, iV 0, iV 0, iV 0]] G)) (O := fun q0 e a w2 => e = .exit 2 ∧ (Fr a 66 [(0, strV p0), (2, pB b1), (5, ad), (6, pB ae)] ∧ Holds M0 w w2 [.bx b1 52 [iV 0, iV 0, iV 0, iV 0], .sl 3 tI ad q0, .bx ae 52 [iV ak, iV 0, iV 0, iV 0]] G)) a1 ?_ ?_ ?_
 ·exact ⟨a3.s, a0.p3.p3.p3.p3⟩
 ·rintro ⟨al, az⟩ _ a bI ab ⟨ha, af⟩
  refine S1 ha <| C <| rR <| qm q <| qm q <| qz af.ctx hS1 u28 q <| qi (qt_lss q q) q <| qm q ?_
  refine Ha (res := ((decide (al < (List.length x5 : Int))) && (decide (al ≤ 3)))) 2 an (fun am bJ a4 => ?_) ?_
  ·exact jm am q <| ji (qt_leq q q) am q <| a4 2 q q q (ai am)
  refine B ?_
  refine Yh q ab (fun ab => ?_) (fun ab => ?_)
  ·refine y <| C <| g <| Z <| qm q <| qm q <| qi (qt_sub q q) q <| qm q <| qm q <| O ab fun bK aA ab => qe af hS1 aA u28 i9 q fun _ _ a5 => eS u9 a5 q <| O ab fun a6 a7 ab => U0 q c49 (w_spec_l1Read a7 af.ctx) fun bO a8 => have aB := af.cN0 [] a8; O ab fun bP aC ab => qb aB.ctx hS2 aC u24 i3 q fun bQ bR bS a9 => WL_storeH (fo := 0) (cs' := [iV a6]) aB.p2 aC a9 (Upd.whole (Blt.int)) q il3 q q q q fun bT bb => WL_nil fun a ha => zi <| X <| S1 ha <| Z <| qm q <| qi (qt_add q q) q <| qa q <| WL_nil fun a ha => ?_
   cases ab
   exact ⟨q, ha.s, bb.p3.p1.p3.p3⟩
  cases ab
  exact WP_exit fun a ha => zo (⟨exit_ne, q, ha.s, af.q1.p2.p2.p2⟩)
 rintro _ a bU ⟨rfl, ha, ao⟩
 refine zn <| X <| S1 ha <| rR <| qm q <| O h fun aD aE h => qe ao hS1 aE u24 i3 q fun _ _ be => eI u3 be q <| qf uf52 fi52_1 nz3 q <| WL_store_bx ao.p2 q il3 q q q q q fun bY ap => rN <| qm q <| O h fun aF aG h => qe ap hS2 aG u24 i3 q fun _ _ bg => eI u3 bg q <| qf uf52 fi52_2 nz3 q <| WL_store_bx ap q il3 q q q q q fun b5 aq => rN <| qm q <| O h fun aH aI h => qe aq hS2 aI u24 i3 q fun _ _ bh => eI u3 bh q <| qf uf52 fi52_3 nz3 q <| WL_store_bx aq q il3 q q q q q fun b9 ar => ?_
 refine B <| C <| C <| zk <| qm q <| qi (qt_seql q q) q <| qm q <| O h fun bi ag h => ?_
 refine Go (res := bi) 4 (if_t · ag) (fun aj ca bj => ?_) ?_
 ·exact have ag := if_f aj ag; jA ar.p0 us52 uo52 il52 aj q <| O ag fun cb bk ag => jc aj q c80 ar (fun _ => w_spec_DeedText bk) <| jm aj q <| ji (qt_sneq q q) aj q <| bj 4 q q q ag
 refine Qn ar fun a ha cc au => X <| S1 ha ?_
 refine Yh q h (fun h => ?_) (fun h => ?_)
 ·cases h
  exact rR <| qi (qt_build (args := []) (css := []) (cells := #[iV 0, iV 0, iV 0, iV 0]) q trivial (by kernel_rfl)) q <| zl (cs' := [iV 0, iV 0, iV 0, iV 0]) au.p1 q il52 q q q q q fun cd aJ => qa q <| B <| W fun a ha => have bm := R aJ.p0; m (retct q ha q q (run_loadVar_bx (cs := [iV 0, iV 0, iV 0, iV 0]) us52 uo52 il52 bm) ⟨q, aJ.q0.q0.q0⟩)
 cases h
 exact y <| rR <| eA au.p0 us52 uo52 il52 q <| zl (cs' := [iV ak, iV aD, iV aF, iV aH]) au.p1 q il52 q q q q q fun ce aK => qa q <| B <| W fun a ha => have bp := R aK.p0; retct q ha q q (run_loadVar_bx (cs := [iV ak, iV aD, iV aF, iV aH]) us52 uo52 il52 bp) ⟨q, aK.q0.q0.q0⟩
end Go.Proofs.YtkhnponakhabdaaGreatDoor
