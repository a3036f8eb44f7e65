/- The walks: each Go function computes its shallow function. Printed by a program. -/
import Derived.Test.YtkhnponakhabdaaGreatDoorWS7M23
set_option linter.unusedVariables false
set_option maxRecDepth 10000
set_option maxHeartbeats 8000000
namespace Go.Proofs.YtkhnponakhabdaaGreatDoor
open Go Go.RowKit
theorem w_spec_l20House {w G bp0 A0 B0 B1 p1 r} (h : spec_l20HouseS B0 B1 p1 = some r) (C0 : Has G (.int .u8) A0 B0) (H : Ctx w ([.bx bp0 118 [A0, iV B1]] ++ G)) : Calls Tryz.prog 28 #[pB bp0, iV p1] w fun e w' => ∃ (v1 : Value) (v2 : Value) (v3 : Value) (v4 : Value), e = .returned (.agg #[v1, v2, v3, iV r.2.2.2.2.1, v4]) ∧ Holds (([.bx bp0 118 [A0, iV B1]] : List Res).flatMap Res.own) w w' [.sl 70 ty12 v1 r.2.1, .sl 3 tI v2 r.2.2.1, .sl 3 tI v3 r.2.2.2.1, .sl 38 ty14 v4 r.2.2.2.2.2, .bx bp0 118 [A0, iV r.1]] G := by
 refine F1 79 H Tryz.func28 q fun H => ?_
 refine C <| Z <| zq (cs := [nS, nS, nS, iV 0, nS]) H z27 q q q fun b1 w2 H3 => rN <| qm q <| have H7 := H3.p1; O h fun x5 bp h => U1 q c76 (w_spec_l20Items bp (C0.c) H7.ctx) fun aI w8 H9 => have bq := H7.cN2 [_] H9; qa q <| rN <| qm q <| qm q <| qm q <| have a3 := bq.p1; O h fun cI br h => U1 q c77 (w_spec_l20Prices br (C0.c.c) hS0 a3.ctx) fun aJ cJ bs => have bt := a3.cN2 [_] bs; qm q <| qm q <| have a4 := bt.p1; O h fun cK bu h => U1 q c78 (w_spec_l20Amounts bu (C0.c.c.c) hS1 a4.ctx) fun aK cL bv => have bw := a4.cN2 [_] bv; ?_
 refine qm q <| have a5 := bw.p1; O h fun aO bz h => U0 q c29 (w_spec_l20Rd__pick bz (C0.c.c.c.c) a5.ctx) fun cM bA => have a6 := a5.cN1 [_] bA; qm q <| O h fun aP bB h => U0 q c29 (w_spec_l20Rd__pick bB (C0.c.c.c.c) a6.ctx) fun cN bC => have aL := a6.cN1 [_] bC; qi (qt_mul q q) q <| qi (qt_build (args := [(0, .tmp 12), (1, .tmp 15), (2, .tmp 18), (3, .tmp 23)]) (css := [#[aI], #[aJ], #[aK], #[iV (IntKind.wrap .i64 (aO.2 * aP.2))]]) (cells := #[aI, aJ, aK, iV (IntKind.wrap .i64 (aO.2 * aP.2)), nS]) q ⟨(aL.ctx.sliceCells hS3), (aL.ctx.sliceCells hS2), (aL.ctx.sliceCells hS1), q, trivial⟩ (by kernel_rfl)) q <| zq (cs := [nS, nS, nS, iV 0, nS]) aL z27 q q q fun aj cO aM => zl (cs' := [aI, aJ, aK, iV (IntKind.wrap .i64 (aO.2 * aP.2)), nS]) aM q il27 q (T (aM.ctx.sliceOne hS4) (T (aM.ctx.sliceOne hS3) (T (aM.ctx.sliceOne hS2) (T q (T q q))))) q q q fun cP bD => B <| C <| rR <| qm q ?_
 refine have a7 := bD.p1; O h fun cQ bE h => U0 q c29 (w_spec_l20Rd__pick bE (C0.c.c.c.c.c) a7.ctx) fun cR bF => have bG := a7.cN1 [_] bF; qa q <| B <| g <| have bH := bG.nS 38 ty14; O h fun bI bJ h => ?_
 refine fun cS bL => zp (I := fun (aQ, al, au, av, aw, ak, ax) a w2 => ∃ ab ad ae af, Fr a 79 [(0, pB bp0), (1, iV p1), (4, pB b1), (6, pB aj), (7, iV aQ)] ∧ Holds (([.bx bp0 118 [A0, iV B1]] : List Res).flatMap Res.own) w w2 [.bx bp0 118 [A0, iV al], .bx b1 27 [nS, nS, nS, iV 0, nS], .bx aj 27 [ab, ad, ae, iV ak, af], .sl 70 ty12 ab au, .sl 3 tI ad av, .sl 3 tI ae aw, .sl 38 ty14 af ax] G) (O := fun (q0, q1, q2, q3, q4, q5) e a w2 => e = .exit 0 ∧ ∃ a8 a9 ba bb, Fr a 79 [(0, pB bp0), (1, iV p1), (4, pB b1), (6, pB aj)] ∧ Holds (([.bx bp0 118 [A0, iV B1]] : List Res).flatMap Res.own) w w2 [.bx bp0 118 [A0, iV q0], .bx b1 27 [nS, nS, nS, iV 0, nS], .bx aj 27 [a8, a9, ba, iV q4, bb], .sl 70 ty12 a8 q1, .sl 3 tI a9 q2, .sl 3 tI ba q3, .sl 38 ty14 bb q5] G) bJ ?_ ?_ ?_
 ·exact ⟨aI, aJ, aK, (nS), bL.s, bH.p3.p4.p5.p5.p6.p6⟩
 ·rintro ⟨aQ, al, au, av, aw, ak, ax⟩ _ a cT ah ⟨ab, ad, ae, af, ha, bc⟩
  refine S1 ha <| C <| rR <| qm q <| qi (qt_gtr q q) q <| B ?_
  refine Yh q ah (fun ah => ?_) (fun ah => ?_)
  ·refine y <| C <| g <| C <| O ah fun bd be ah => O ah fun ag bf ah => ?_
   refine WP_join (M := fun a w2 => ∃ aR aA aB aC aD, Fr a 79 [(0, pB bp0), (1, iV p1), (4, pB b1), (6, pB aj), (7, iV aQ), (8, pB aR), (9, .bool ag.2)] ∧ Holds (([.bx bp0 118 [A0, iV B1]] : List Res).flatMap Res.own) w w2 [.bx bp0 118 [A0, iV bd.1], .bx b1 27 [nS, nS, nS, iV 0, nS], .bx aj 27 [ab, ad, ae, iV ak, af], .sl 70 ty12 ab au, .sl 3 tI ad av, .sl 3 tI ae aw, .sl 38 ty14 af ax, .bx aR 27 [aA, aB, aC, iV ag.1.2.2.2.1, aD], .sl 70 ty12 aA ag.1.1, .sl 3 tI aB ag.1.2.1, .sl 3 tI aC ag.1.2.2.1, .sl 38 ty14 aD ag.1.2.2.2.2] G) ?_ ?_
   ·refine WP_ordersT (fun w1 w2 => Chg (([.bx bp0 118 [A0, iV al]] : List Res).flatMap Res.own) w1 w2) 10 (by kernel_rfl) fun aS bM => have bg := bc.grow bM; ?_
    have aT : Ctx aS ([.bx bp0 118 [A0, iV al]] ++ ([.bx b1 27 [nS, nS, nS, iV 0, nS], .bx aj 27 [ab, ad, ae, iV ak, af], .sl 70 ty12 ab au, .sl 3 tI ad av, .sl 3 tI ae aw, .sl 38 ty14 af ax] ++ G)) := bg.ctx
    have bN : Holds _ aS aS [.bx bp0 118 [A0, iV al]] ([.bx b1 27 [nS, nS, nS, iV 0, nS], .bx aj 27 [ab, ad, ae, iV ak, af], .sl 70 ty12 ab au, .sl 3 tI ad av, .sl 3 tI ae aw, .sl 38 ty14 af ax] ++ G) := zb (Rs := [.bx bp0 118 [A0, iV al]]) aT
    refine have Hc := bN; have bO := HasB.bx (HasB.c (HasB.c (HasB.hd))) Hc.ctx; XT (i := 0) q (by kernel_rfl) q Hc.chg q (qs_agg (cs := [ab, ad, ae, iV ak, af]) us27 uo27 il27 q (fun j z hj => by rw [Nat.zero_add]; exact bO.cell hj) Hc.chg (Ctx.outB aT (HasB.c (HasB.hd)))) q q ?_
    change XC _ _ _ _ _ _ _ _ ((32, .agg #[ab, ad, ae, iV ak, af]) :: _) _
    refine XQ (i := 1) q (by kernel_rfl) q Hc.chg q (fun _ => qt_move q) q q <| have bP := HasB.bx (HasB.c (HasB.c (HasB.hd))) Hc.ctx; XT (i := 2) q (by kernel_rfl) q Hc.chg q (qs_agg (cs := [ab, ad, ae, iV ak, af]) us27 uo27 il27 q (fun j z hj => by rw [Nat.zero_add]; exact bP.cell hj) Hc.chg (Ctx.outB aT (HasB.c (HasB.hd)))) q q ?_
    change XC _ _ _ _ _ _ _ _ ((34, .agg #[ab, ad, ae, iV ak, af]) :: _) _
    repeat' first
     | refine XDo 3 q <| U0 q c79 (w_spec_l20HouseDeed be (C0.c.c.c.c.c.c) hS2 hS3 hS4 hS5 Hc.ctx) fun _ HK => ?_; have Hc := Hc.cN1 [_] HK; refine XN Hc.chg ?_
     | refine XDo 3 q ?_; have Hc := Hc.p1; refine U0 q c79 (w_spec_l20HouseDeed be (C0.c.c.c.c.c.c.c) hS3 hS4 hS5 hS6 Hc.ctx) fun _ HK => ?_; have Hc := Hc.cN1 [_] HK; refine XN Hc.chg ?_
     | refine XDo 4 q <| U4 q c50 (w_spec_HouseDo bf hS3 hS4 hS5 hS6 Hc.ctx) fun am ao ap aq _ HK => ?_; have Hc := Hc.cN4 [] HK; refine XN Hc.chg <| XQ (i := 5) q (by kernel_rfl) q Hc.chg q (fun _ => qt_move q) q q <| XQ (i := 6) q (by kernel_rfl) q Hc.chg q (fun _ => zv q q) q q <| XQ (i := 7) q (by kernel_rfl) q Hc.chg q (fun _ => zv q q) q q ?_
     | refine XDo 4 q <| U4 q c50 (w_spec_HouseDo bf hS4 hS5 hS6 hS7 Hc.ctx) fun am ao ap aq _ HK => ?_; have Hc := Hc.cN4 [] HK; refine XN Hc.chg <| XQ (i := 5) q (by kernel_rfl) q Hc.chg q (fun _ => qt_move q) q q <| XQ (i := 6) q (by kernel_rfl) q Hc.chg q (fun _ => zv q q) q q <| XQ (i := 7) q (by kernel_rfl) q Hc.chg q (fun _ => zv q q) q q ?_
     | refine XDo 8 q ?_; refine zq (cs := [nS, nS, nS, iV 0, nS]) Hc z27 q q q (fun bh _ Hc => ?_); refine XN Hc.chg ?_
     | refine XDo 9 q ?_; refine zl (cs' := [am, ao, ap, iV ag.1.2.2.2.1, aq]) Hc q il27 q (T (Hc.ctx.sliceOne hS1) (T (Hc.ctx.sliceOne hS2) (T (Hc.ctx.sliceOne hS3) (T q (T (Hc.ctx.sliceOne hS4) q))))) q q q (fun _ Hc => ?_); refine XN Hc.chg ?_
     | refine XDo 9 q ?_; have Hc := Hc.p4; refine zl (cs' := [am, ao, ap, iV ag.1.2.2.2.1, aq]) Hc q il27 q (T (Hc.ctx.sliceOne hS1) (T (Hc.ctx.sliceOne hS2) (T (Hc.ctx.sliceOne hS3) (T q (T (Hc.ctx.sliceOne hS4) q))))) q q q (fun _ Hc => ?_); refine XN Hc.chg ?_
     | refine XDo 9 q ?_; have Hc := Hc.p5; refine zl (cs' := [am, ao, ap, iV ag.1.2.2.2.1, aq]) Hc q il27 q (T (Hc.ctx.sliceOne hS1) (T (Hc.ctx.sliceOne hS2) (T (Hc.ctx.sliceOne hS3) (T q (T (Hc.ctx.sliceOne hS4) q))))) q q q (fun _ Hc => ?_); refine XN Hc.chg ?_
     | have Hc : Holds _ _ _ [.bx bh 27 [am, ao, ap, iV ag.1.2.2.2.1, aq], .sl 70 ty12 am ag.1.1, .sl 3 tI ao ag.1.2.1, .sl 3 tI ap ag.1.2.2.1, .sl 38 ty14 aq ag.1.2.2.2.2, .bx bp0 118 [A0, iV bd.1], .bx b1 27 [nS, nS, nS, iV 0, nS], .bx aj 27 [ab, ad, ae, iV ak, af], .sl 70 ty12 ab au, .sl 3 tI ad av, .sl 3 tI ae aw, .sl 38 ty14 af ax] G := bg.calledN (Rs := [.bx bp0 118 [A0, iV al]]) Hc; refine XDo 10 q <| qa q <| XE q ?_
     | refine XV [3, 8] (by decide +kernel) q (allc ?_ (allc ?_ alln))
     | refine XV [4, 8] (by decide +kernel) q (allc ?_ (allc ?_ alln))
     | refine XV [8] (by decide +kernel) q (allc ?_ alln)
     | refine XV [9] (by decide +kernel) q (allc ?_ alln)
     | refine XV [10] (by decide +kernel) q (allc ?_ alln)
     | refine XV [4] (by decide +kernel) q (allc ?_ alln)
     | refine XV [3] (by decide +kernel) q (allc ?_ alln)
     | refine XC_done (by decide +kernel) (fun a ha => ?_); have Hc := ((((((((((((Hc.p4).p4).p4).p4).p4).p11).p11).p11).p11).p11).p11).p11); exact ⟨bh, am, ao, ap, aq, ha.s, Hc⟩
   rintro a cU ⟨aR, aA, aB, aC, aD, ha, aU⟩
   refine S1 ha <| rR <| qm q <| B ?_
   refine Yh q ah (fun ah => ?_) (fun ah => ?_)
   ·cases ah
    exact Z <| eA aU.p7 us27 uo27 il27 q <| have aE := aU.p2; zl (cs' := [aA, aB, aC, iV ag.1.2.2.2.1, aD]) aE q il27 q (T (aE.ctx.sliceOne hS8) (T (aE.ctx.sliceOne hS9) (T (aE.ctx.sliceOne hS10) (T q (T (aE.ctx.sliceOne hS11) q))))) q q q fun cV bQ => WL_nil fun a ha => zi <| X <| S1 ha <| Z <| qm q <| qi (qt_sub q q) q <| qa q <| WL_nil fun a ha => ⟨q, aA, aB, aC, aD, ha.s, bQ.q3.q3.q3.q3.q3.p6.p6.p6.p6.p4.p6.p6⟩
   cases ah
   exact WP_skip fun a ha => zi <| X <| S1 ha <| Z <| qm q <| qi (qt_sub q q) q <| qa q <| WL_nil fun a ha => ⟨q, ab, ad, ae, af, ha.s, aU.q7.q7.q7.q7.q7.p6.p6.p6.p6.p6.p6.p6⟩
  cases ah
  exact WP_exit fun a ha => zo (⟨exit_ne, q, ab, ad, ae, af, ha.s, bc.p6.p6.p6.p6.p6.p6.p6⟩)
 obtain ⟨cW, bU, bV, cX, cY, cZ⟩ := bI
 rintro _ a c0 ⟨rfl, aF, aG, aN, aV, ha, bi⟩
 refine zn <| X <| S1 ha <| C <| rR <| qm q <| qm q <| O h fun c1 bW h => U0 q c31 (w_spec_l20Rd__odd bW (C0.c.c.c.c.c.c) bi.ctx) fun c2 bX => have aW := bi.cN1 [_] bX; B <| O h fun bY aa h => ?_
 obtain ⟨bZ, b0, aX, b4⟩ := bY
 refine WP_join (M := fun a w2 => ∃ ay az, Fr a 79 [(0, pB bp0), (4, pB b1), (6, pB aj)] ∧ Holds (([.bx bp0 118 [A0, iV B1]] : List Res).flatMap Res.own) w w2 [.bx bp0 118 [A0, iV bZ], .bx b1 27 [nS, nS, nS, iV 0, nS], .bx aj 27 [aF, aG, ay, iV aX, az], .sl 70 ty12 aF bU, .sl 3 tI aG bV, .sl 3 tI ay b0, .sl 38 ty14 az b4] G) ?_ ?_
 ·refine Yh q aa (fun aa => ?_) (fun aa => ?_)
  ·refine rR <| qm q <| O aa fun c3 b5 aa => U0 q c29 (w_spec_l20Rd__pick b5 (C0.c.c.c.c.c.c) aW.ctx) fun c4 b6 => have ar := aW.cN1 [_] b6; B <| g <| rR <| qi (qt_eql q q) q <| qa q <| B ?_
   refine Yh q aa (fun aa => ?_) (fun aa => ?_)
   ·refine Z <| zs (t := tI) (args := [.const (iV (-1)), .const (iV 100000)]) (xs := ([(-1), 100000] : List Int)) ar (BltL.cons (Blt.int) q (BltL.cons (Blt.int) q (BltL.nil))) u24 j3 q q q q q q fun c5 da b7 => qm q <| have bj := b7.p1; O aa fun db b8 aa => U0 q c29 (w_spec_l20Rd__pick b8 (C0.c.c.c.c.c.c.c) bj.ctx) fun dc b9 => have aY := bj.cN1 [_] b9; O aa fun dd bk aa => qe aY hS1 bk u24 i3 q fun _ _ ca => eI u3 ca q <| qf uf27 fi27_3 nz3 q <| WL_store_bx aY.p3 q il3 q q q q q fun dh cc => WL_nil fun a ha => ?_
    obtain ⟨rfl, rfl, rfl, rfl⟩ := (by simpa only [Option.some.injEq, Prod.mk.injEq] using aa : _)
    exact zi (X (⟨aN, aV, ha.s, cc.q2.p6.p6.p6.p6.p4.p6.p6⟩))
   refine rR <| qi (qt_eql q q) q <| qa q <| B ?_
   refine Yh q aa (fun aa => ?_) (fun aa => ?_)
   ·refine Z <| qf uf27 fi27_2 nz24 q <| ql u24 ar.p2 q <| zs (t := tI) (args := [.const (iV 0)]) (xs := ([0] : List Int)) ar (BltL.cons (Blt.int) q (BltL.nil)) u24 j3 q q q q q q fun di dj ce => O aa fun dk cg aa => zw ce.p6 hS1 cg u24 j3 q q q q q q fun ch dl ci => qf uf27 fi27_2 nz24 q <| have aZ := ci.p4; WL_store_bx aZ q il24 (aZ.ctx.sliceCells hS1) (aZ.ctx.sliceOne hS1) q q q fun dm cj => WL_nil fun a ha => ?_
    obtain ⟨rfl, rfl, rfl, rfl⟩ := (by simpa only [Option.some.injEq, Prod.mk.injEq] using aa : _)
    exact zi (X (⟨ch, aV, ha.s, cj.q2.p6.p2.p6.p6.p4.p6.p6⟩))
   refine rR <| qi (qt_eql q q) q <| qa q <| B ?_
   refine Yh q aa (fun aa => ?_) (fun aa => ?_)
   ·refine Z <| qf uf27 fi27_4 nz25 q <| ql u25 ar.p2 q <| qi (qt_build (args := []) (css := []) (cells := #[iV 0, iV 0]) q trivial (by kernel_rfl)) q <| zs (t := ty2) (args := [.tmp 71]) (xs := ([(0, 0)] : LP)) ar (BltL.cons (Blt.pair (Blt.int) (Blt.int)) q (BltL.nil)) u36 j123 q q q q q q fun bl dn cl => zs (t := tI) (args := [.const (iV 9)]) (xs := ([9] : List Int)) cl (BltL.cons (Blt.int) q (BltL.nil)) u24 j3 q q q q q q fun bm dq a0 => qi (qt_build (args := [(1, .tmp 72), (2, .tmp 73)]) (css := [#[bl], #[bm]]) (cells := #[iV 0, bl, bm]) q ⟨(a0.ctx.sliceCells hS1), (a0.ctx.sliceCells hS0), trivial⟩ (by kernel_rfl)) q <| zs (t := ty14) (args := [.tmp 74]) (xs := ([(0, [(0, 0)], [9])] : LT)) a0.p1.freeze.p1.freeze (BltL.cons (Blt.pair (Blt.int) (Blt.pair (Blt.slice hO1) (Blt.slice hO0))) q (BltL.nil)) u25 j38 q q q q q q fun dr ds cq => ?_
    refine O aa fun dt ct aa => zw cq.p9 hS1 ct u25 j38 q q q q q q fun cu du cv => qf uf27 fi27_4 nz25 q <| have a1 := cv.p6; WL_store_bx a1 q il25 (a1.ctx.sliceCells hS1) (a1.ctx.sliceOne hS1) q q q fun dv cw => WL_nil fun a ha => ?_
    obtain ⟨rfl, rfl, rfl, rfl⟩ := (by simpa only [Option.some.injEq, Prod.mk.injEq] using aa : _)
    exact zi (X (⟨aN, cu, ha.s, cw.q2.q2.q2.p1.p6.p6.p6.p4.p6.p6⟩))
   refine Z <| qf uf27 fi27_4 nz25 q <| ql u25 ar.p2 q <| qi (qt_build (args := [(0, .const (iV (-1)))]) (css := [#[iV (-1)]]) (cells := #[iV (-1), nS, nS]) q ⟨q, trivial⟩ (by kernel_rfl)) q <| zs (t := ty14) (args := [.tmp 48]) (xs := ([((-1), [], [])] : LT)) ar (BltL.cons (Blt.pair (Blt.int) (Blt.pair (Blt.slice (HasRo.nil)) (Blt.slice (HasRo.nil)))) q (BltL.nil)) u25 j38 q q q q q q fun dw dx cy => O aa fun dy cA aa => zw cy.p7 hS1 cA u25 j38 q q q q q q fun cB dz cC => qf uf27 fi27_4 nz25 q <| have a2 := cC.p4; WL_store_bx a2 q il25 (a2.ctx.sliceCells hS1) (a2.ctx.sliceOne hS1) q q q fun dA cD => WL_nil fun a ha => ?_
   obtain ⟨rfl, rfl, rfl, rfl⟩ := (by simpa only [Option.some.injEq, Prod.mk.injEq] using aa : _)
   exact zi (X (⟨aN, cB, ha.s, cD.q2.p1.p6.p6.p6.p4.p6.p6⟩))
  refine WP_skip fun a ha => ?_
  obtain ⟨rfl, rfl, rfl, rfl⟩ := (by simpa only [Option.some.injEq, Prod.mk.injEq] using aa : _)
  exact X (⟨aN, aV, ha.s, aW.p6.p6.p6.p6.p6.p6.p6⟩)
 rintro a dB ⟨ay, az, ha, bn⟩
 cases h
 exact S1 ha <| rR <| eA bn.p2 us27 uo27 il27 q <| have aH := bn.p1; zl (cs' := [aF, aG, ay, iV aX, az]) aH q il27 q (T (aH.ctx.sliceOne hS3) (T (aH.ctx.sliceOne hS4) (T (aH.ctx.sliceOne hS5) (T q (T (aH.ctx.sliceOne hS6) q))))) q q q fun dC bo => B <| W fun a ha => have cG := R bo.p0; retc q ha q (run_loadVar_bx (cs := [aF, aG, ay, iV aX, az]) us27 uo27 il27 cG) ⟨aF, aG, ay, az, q, bo.q0.q1.p4.p4.p4.p4⟩
theorem w_spec_l1NumberF (fuel : Nat) (w : World) (G : List Res) (p0 : Int) (r : (List UInt8)) (h : spec_l1NumberF fuel p0 = some r) (H : Ctx w G) : Calls Tryz.prog 54 #[iV p0] w fun e w' => e = .returned (strV r) ∧ Holds M0 w w' [] G := by
 induction fuel generalizing w G p0 r with
 | zero => rw [spec_l1NumberF] at h; cases h
 | succ fuel ih =>
  have H : Holds M0 w w [] G := zb H
  refine zg (args := [iV p0]) (n := 34) Tryz.func54 q q q ?_
  rw [spec_l1NumberF] at h
  refine rR <| qa q <| B <| C <| rR <| qm q <| qi (qt_lss q q) q <| qm q ?_
  refine Ha (res := ((decide (p0 < 0)) && (p0 == (IntKind.wrap .i64 (-p0))))) 4 an (fun aa K2 af => ?_) ?_
  ·exact jm aa q <| jm aa q <| ji (qt_neg q) aa q <| ji (qt_eql q q) aa q <| af 4 q q q (ai aa)
  refine B ?_
  refine Yh q h (fun h => ?_) (fun h => ?_)
  ·cases h
   exact rR <| qa q <| B <| W fun a ha => m (ret1 q ha q ⟨q, H⟩)
  refine y <| C <| rR <| qm q <| qi (qt_lss q q) q <| B ?_
  refine Yh q h (fun h => ?_) (fun h => ?_)
  ·refine C <| zk <| qm q <| qi (qt_neg q) q <| O h fun x4 ag h => QC q q c54 (fun w' hb => ih w' G (IntKind.wrap .i64 (-p0)) x4 ag (H.grow hb).ctx) (by rfl) <| O h fun x6 ah h => qi (qt_sadd q q ah) q <| qa q <| Qn H fun a ha w8 aj => X <| S1 ha <| W fun a ha => ?_
   obtain rfl := L h
   exact m (ret1 q ha q ⟨q, aj⟩)
  refine y <| C <| rR <| qm q <| qi (qt_lss q q) q <| B ?_
  refine Yh q h (fun h => ?_) (fun h => ?_)
  ·cases h
   exact rR <| qm q <| qi (qt_add q q) q <| qi (qt_int u5 q u3) q <| zs (t := (.int .u8)) (args := [.tmp 21]) (xs := ([IntKind.wrap .u8 (IntKind.wrap .i64 (48 + p0))] : List Int)) H (BltL.cons (Blt.int) q (BltL.nil)) u22 j5 q q q q q q fun aw ax ad => XL_bytesH ad.ctx hS0 u22 u5 u9 q q q <| qa q <| B <| W fun a ha => m (ret1 q ha q ⟨q, ad.q0⟩)
  refine y <| C <| O h fun al am h => O h fun ao ap h => ?_
  refine WP_join (M := fun a w2 => (Fr a 34 [(2, strV ao)] ∧ Holds M0 w w2 [] G)) ?_ ?_
  ·refine WP_ordersT (fun w1 w2 => Chg M0 w1 w2) 10 (by kernel_rfl) fun ab aq => have ae := H.grow aq; ?_
   have ar : Ctx ab ([] ++ G) := ae.ctx
   have au : Holds _ ab ab [] G := zb (Rs := []) ar
   refine have Hc := au; XQ (i := 0) q (by kernel_rfl) q Hc.chg q (fun _ => qt_move q) q q <| XQ (i := 1) q (by kernel_rfl) q Hc.chg q (fun _ => qt_quo q q (by decide)) q q <| XQ (i := 3) q (by kernel_rfl) q Hc.chg q (fun _ => qt_move q) q q <| XQ (i := 4) q (by kernel_rfl) q Hc.chg q (fun _ => qt_rem q q (by decide)) q q <| XQ (i := 5) q (by kernel_rfl) q Hc.chg q (fun _ => qt_add q q) q q <| XQ (i := 6) q (by kernel_rfl) q Hc.chg q (fun _ => qt_int u5 q u3) q q ?_
   repeat' first
    | refine XDo 2 q <| zd q q c54 (ih _ _ (IntKind.wrap .i64 (Int.tdiv p0 10)) al am Hc.ctx) (by rfl) ?_; rintro _ _ ⟨rfl, HK⟩; refine ⟨_, q, ?_⟩; have Hc := Hc.cN0 [] HK; refine XN Hc.chg ?_
    | refine XDo 7 q ?_; refine zs (t := (.int .u8)) (args := [.tmp 30]) (xs := ([IntKind.wrap .u8 (IntKind.wrap .i64 (48 + (Int.tmod p0 10)))] : List Int)) Hc (BltL.cons (Blt.int) q (BltL.nil)) u22 j5 q q q q q q (fun ay _ Hc => ?_); refine XN Hc.chg ?_
    | refine XDo 8 q <| XL_bytesH Hc.ctx hS0 u22 u5 u9 q q q <| XN Hc.chg ?_
    | have Hc := ae.cN1 [] Hc; refine XDo 10 q <| qa q <| XE q ?_
    | refine XK 9 (by decide +kernel) <| XQ (i := 9) q (by kernel_rfl) q Hc.chg q (fun _ => qt_sadd q q ap) q q ?_
    | refine XV [2, 7] (by decide +kernel) q (allc ?_ (allc ?_ alln))
    | refine XV [7] (by decide +kernel) q (allc ?_ alln)
    | refine XV [8] (by decide +kernel) q (allc ?_ alln)
    | refine XV [10] (by decide +kernel) q (allc ?_ alln)
    | refine XV [2, 8] (by decide +kernel) q (allc ?_ (allc ?_ alln))
    | refine XV [2] (by decide +kernel) q (allc ?_ alln)
    | refine XC_done (by decide +kernel) (fun a ha => ?_); have Hc := (Hc.q0); exact ⟨ha.s, Hc⟩
  rintro a az ⟨ha, av⟩
  refine S1 ha <| W fun a ha => ?_
  obtain rfl := L h
  exact ret1 q ha q ⟨q, av⟩
theorem w_spec_l1Number (w : World) (G : List Res) (p0 : Int) (r : (List UInt8)) (h : spec_l1NumberS p0 = some r) (H : Ctx w G) : Calls Tryz.prog 54 #[iV p0] w fun e w' => e = .returned (strV r) ∧ Holds M0 w w' [] G :=
 w_spec_l1NumberF 200 w G p0 r h H
theorem w_spec_l7Name {w G p0 r} (h : spec_l7NameS p0 = some r) (H : Ctx w G) : Calls Tryz.prog 96 #[iV p0] w fun e w' => e = .returned (strV r) ∧ Holds M0 w w' [] G := by
 refine F0 10 H Tryz.func96 q fun H => ?_
 refine rR <| qa q <| B <| C <| C <| zk <| qm q <| O h fun x1 ab h => qc q c39 H (fun _ => w_spec_l1In ab) <| qi (qt_not q) q <| Qn H fun a ha w3 H5 => X <| S1 ha ?_
 refine Yh q h (fun h => ?_) (fun h => ?_)
 ·cases h
  exact rR <| qa q <| B <| W fun a ha => m (ret1 q ha q ⟨q, H5⟩)
 refine y <| C <| Z <| zs (t := .str) (args := [.const (strV [98, 117, 121]), .const (strV [109, 97, 107, 101]), .const (strV [111, 112, 101, 110]), .const (strV [111, 114, 100, 101, 114]), .const (strV [119, 111, 114, 107]), .const (strV [99, 108, 111, 115, 101])]) (xs := ([([98, 117, 121] : List UInt8), ([109, 97, 107, 101] : List UInt8), ([111, 112, 101, 110] : List UInt8), ([111, 114, 100, 101, 114] : List UInt8), ([119, 111, 114, 107] : List UInt8), ([99, 108, 111, 115, 101] : List UInt8)] : List (List UInt8))) H5 (BltL.cons (Blt.str) q (BltL.cons (Blt.str) q (BltL.cons (Blt.str) q (BltL.cons (Blt.str) q (BltL.cons (Blt.str) q (BltL.cons (Blt.str) q (BltL.nil))))))) u28 j9 q q q q q q fun v7 w8 H9 => qm q <| O h fun af aa h => qe H9 hS0 aa u28 i9 q fun _ _ ad => eS u9 ad q <| qa q <| B <| W fun a ha => ?_
 obtain rfl := L h
 exact ret1 q ha q ⟨q, H9.q0⟩
theorem w_spec_l7Many {w G p0 r} (h : spec_l7ManyS p0 = some r) (H : Ctx w G) : Calls Tryz.prog 115 #[iV p0] w fun e w' => e = .returned (iV r) ∧ Holds M0 w w' [] G := by
 refine F0 7 H Tryz.func115 q fun H => ?_
 refine rR <| qa q <| B <| C <| Z <| zs (t := tI) (args := [.const (iV 2), .const (iV 2), .const (iV 1), .const (iV 3), .const (iV 0), .const (iV 1)]) (xs := ([2, 2, 1, 3, 0, 1] : List Int)) H (BltL.cons (Blt.int) q (BltL.cons (Blt.int) q (BltL.cons (Blt.int) q (BltL.cons (Blt.int) q (BltL.cons (Blt.int) q (BltL.cons (Blt.int) q (BltL.nil))))))) u24 j3 q q q q q q fun v1 w2 H3 => qm q <| O h fun x5 aa h => qe H3 hS0 aa u24 i3 q fun _ _ ab => eI u3 ab q <| qa q <| B <| W fun a ha => ?_
 obtain rfl := L h
 exact ret1 q ha q ⟨q, H3.q0⟩
theorem w_spec_DeedText {w G B0 B1 B2 B3 r} (h : spec_DeedTextS B0 B1 B2 B3 = some r) (H : Ctx w G) : Calls Tryz.prog 80 #[.agg #[iV B0, iV B1, iV B2, iV B3]] w fun e w' => e = .returned (strV r) ∧ Holds M0 w w' [] G := by
 refine F0 60 H Tryz.func80 q fun H => ?_
 refine C <| Z <| WL_box (cs := [iV B0, iV B1, iV B2, iV B3]) H q q q q fun b1 w2 H3 => qa q <| B <| C <| C <| zk <| qf uf52 fi52_0 nz3 q <| ql u3 H3.p0 q <| O h fun x6 ax h => qc q c96 H3 (fun _ => w_spec_l7Name ax) <| qi (qt_seql q q) q <| Qn H3 fun a ha w8 aj => X <| S1 ha ?_
 refine Yh q h (fun h => ?_) (fun h => ?_)
 ·cases h
  exact rR <| qa q <| B <| W fun a ha => m (ret1 q ha q ⟨q, aj.q0⟩)
 refine y <| C <| zk <| qf uf52 fi52_0 nz3 q <| ql u3 aj.p0 q <| O h fun a0 az h => qc q c96 aj (fun _ => w_spec_l7Name az) <| qa q <| Qn aj fun a ha a1 ak => X <| S1 ha <| rR <| qf uf52 fi52_1 nz3 q <| ql u3 ak.p0 q <| qf uf52 fi52_2 nz3 q <| ql u3 ak.p0 q <| qf uf52 fi52_3 nz3 q <| ql u3 ak.p0 q <| zs (t := tI) (args := [.tmp 14, .tmp 16, .tmp 18]) (xs := ([B1, B2, B3] : List Int)) ak (BltL.cons (Blt.int) q (BltL.cons (Blt.int) q (BltL.cons (Blt.int) q (BltL.nil)))) u24 j3 q q q q q q fun ao a2 aA => qa q <| B <| C <| rR <| qa q <| B <| g <| O h fun am aB h => ?_
 refine fun a3 aD => zp (I := fun (ap, aq) a w2 => (Fr a 60 [(1, pB b1), (3, strV ap), (4, ao), (5, iV aq)] ∧ Holds M0 w w2 [.bx b1 52 [iV B0, iV B1, iV B2, iV B3], .sl 3 tI ao ([B1, B2, B3])] G)) (O := fun o e a w2 => match o with | .inl q0 => e = .exit 0 ∧ (Fr a 60 [(3, strV q0)] ∧ Holds M0 w w2 [] G) | .inr q0 => e = .ret ∧ (Fr a 60 [(2, strV q0)] ∧ Holds M0 w w2 [] G)) aB ?_ ?_ ?_
 ·exact ⟨aD.s, aA.p1⟩
 ·rintro ⟨ap, aq⟩ _ a a4 aa ⟨ha, ab⟩
  refine S1 ha <| C <| rR <| qm q <| qm q <| qz ab.ctx hS1 u24 q <| qi (qt_lss q q) q <| B ?_
  refine Yh q aa (fun aa => ?_) (fun aa => ?_)
  ·refine y <| C <| g <| C <| C <| zk <| qm q <| qm q <| O aa fun a5 ar aa => qe ab hS1 ar u24 i3 q fun _ _ aE => eI u3 aE q <| O aa fun a9 aF aa => qc q c39 ab (fun _ => w_spec_l1In aF) <| qi (qt_not q) q <| qm q <| O aa fun aG ad aa => ?_
   refine Go (res := aG) 12 (if_t · ad) (fun ae ba aH => ?_) ?_
   ·refine have ad := if_f ae ad; jm ae q <| jf uf52 fi52_0 nz3 ae q <| jl u3 ab.p0 ae q <| O ad fun bb aI ad => jc ae q c115 ab (fun _ => w_spec_l7Many aI) <| ji (qt_geq q q) ae q <| jm ae q <| O ad fun aJ af ad => ?_
    refine Ga (res := aJ) (hw := (J q ae)) 5 (if_f · af) (fun ag bc aK => ?_) ?_
    ·exact have af := if_t ag af; jm ag q <| jm ag q <| O af fun bd au af => je ab hS1 au u24 i3 ag q fun _ _ aL => jI u3 aL ag q <| ji (qt_neq q q) ag q <| aK 5 q q q af
    exact aH 7 q q q ad
   refine Qn ab fun a ha bh al => X <| S1 ha ?_
   refine Yh q aa (fun aa => ?_) (fun aa => ?_)
   ·cases aa
    exact rR <| qa q <| B <| W fun a ha => m (zj (m (⟨ret_ne, q, ha.s, al.q0.q0⟩)))
   refine y <| C <| zk <| qm q <| qf uf52 fi52_0 nz3 q <| ql u3 al.p0 q <| O aa fun bi aN aa => qc q c115 al (fun _ => w_spec_l7Many aN) <| qi (qt_lss q q) q <| Qn al fun a ha bj ah => X <| S1 ha ?_
   refine Yh q aa (fun aa => ?_) (fun aa => ?_)
   ·refine zk <| qm q <| O aa fun bk aO aa => qi (qt_sadd q q aO) q <| qm q <| qm q <| O aa fun aP av aa => qe ah hS1 av u24 i3 q fun _ _ aQ => eI u3 aQ q <| O aa fun aR aS aa => QC q q c54 (fun w' hb => w_spec_l1Number w' _ aP aR aS (ah.grow hb).ctx) (by rfl) <| O aa fun bo aT aa => qi (qt_sadd q q aT) q <| qa q <| Qn ah fun a ha bp aU => zi <| X <| S1 ha <| Z <| qm q <| qi (qt_add q q) q <| qa q <| WL_nil fun a ha => ?_
    cases aa
    exact ⟨q, ha.s, aU.p1.p1⟩
   cases aa
   exact WP_skip fun a ha => zi <| X <| S1 ha <| Z <| qm q <| qi (qt_add q q) q <| qa q <| WL_nil fun a ha => ⟨q, ha.s, ah.p1.p1⟩
  cases aa
  exact WP_exit fun a ha => zo (⟨exit_ne, q, ha.s, ab.q0.q0⟩)
 intro e a bq aw
 rcases am with am | am
 ·obtain ⟨rfl, ha, aY⟩ := aw
  refine zn <| X <| S1 ha <| rR <| qm q <| qa q <| B <| W fun a ha => ?_
  obtain rfl := L h
  exact ret1 q ha q ⟨q, aY⟩
 obtain ⟨rfl, ha, aZ⟩ := aw
 obtain rfl := L h
 exact zj (m (ret1 q ha q ⟨q, aZ⟩))
theorem w_spec_l20Line {w G bp0 A0 B0 B1 A1_0 p1_0 A1_1 p1_1 A1_2 p1_2 p1_3 A1_4 p1_4 r} (h : spec_l20LineS B0 B1 p1_0 p1_1 p1_2 p1_3 p1_4 = some r) (C0 : Has G (.int .u8) A0 B0) (hp1_0 : Has G ty12 A1_0 p1_0) (hp1_1 : Has G tI A1_1 p1_1) (hp1_2 : Has G tI A1_2 p1_2) (hp1_4 : Has G ty14 A1_4 p1_4) (H : Ctx w ([.bx bp0 118 [A0, iV B1]] ++ G)) : Calls Tryz.prog 30 #[pB bp0, .agg #[A1_0, A1_1, A1_2, iV p1_3, A1_4]] w fun e w' => e = .returned (strV r.2) ∧ Holds (([.bx bp0 118 [A0, iV B1]] : List Res).flatMap Res.own) w w' [.bx bp0 118 [A0, iV r.1]] G := by
 refine F1 36 H Tryz.func30 q fun H => ?_
 refine C <| Z <| WL_box (cs := [A1_0, A1_1, A1_2, iV p1_3, A1_4]) H q q q q fun b1 w2 H3 => qa q <| B <| C <| rR <| qm q <| have H7 := H3.p1; O h fun x5 au h => U0 q c29 (w_spec_l20Rd__pick au (C0.c) H7.ctx) fun w8 H9 => have aa := H7.cN1 [_] H9; B <| g <| rR <| qi (qt_eql q q) q <| qa q <| B ?_
 refine Yh q h (fun h => ?_) (fun h => ?_)
 ·refine C <| Z <| zs (t := .str) (args := [.const (strV [115, 116, 111, 99, 107]), .const (strV [99, 97, 115, 104]), .const (strV [116, 97, 98, 108, 101, 115]), .const (strV [108, 101, 102, 116]), .const (strV [101, 110, 100])]) (xs := ([([115, 116, 111, 99, 107] : List UInt8), ([99, 97, 115, 104] : List UInt8), ([116, 97, 98, 108, 101, 115] : List UInt8), ([108, 101, 102, 116] : List UInt8), ([101, 110, 100] : List UInt8)] : List (List UInt8))) aa (BltL.cons (Blt.str) q (BltL.cons (Blt.str) q (BltL.cons (Blt.str) q (BltL.cons (Blt.str) q (BltL.cons (Blt.str) q (BltL.nil)))))) u28 j9 q q q q q q fun aW aX av => qm q <| have aj := av.p1; O h fun aY aw h => U0 q c29 (w_spec_l20Rd__pick aw (C0.c.c) aj.ctx) fun aZ ax => have ae := aj.cN1 [_] ax; O h fun a0 ak h => qe ae hS1 ak u28 i9 q fun _ _ ay => eS u9 ay q <| qa q <| B <| W fun a ha => ?_
  cases h
  exact zj (m (ret1 q ha q ⟨q, ae.q1.q1⟩))
 refine rR <| qi (qt_eql q q) q <| qa q <| B ?_
 refine Yh q h (fun h => ?_) (fun h => ?_)
 ·refine C <| Z <| zs (t := .str) (args := [.const (strV []), .const (strV [98, 117, 121]), .const (strV [98, 117, 121, 32, 48, 49, 32, 50]), .const (strV [111, 112, 101, 110, 32, 120]), .const (strV [32, 99, 97, 115, 104]), .const (strV [119, 111, 114, 107, 32, 49]), .const (strV [98, 105, 108, 108]), .const (strV [99, 108, 111, 115, 101, 32, 48, 32, 48])]) (xs := ([([] : List UInt8), ([98, 117, 121] : List UInt8), ([98, 117, 121, 32, 48, 49, 32, 50] : List UInt8), ([111, 112, 101, 110, 32, 120] : List UInt8), ([32, 99, 97, 115, 104] : List UInt8), ([119, 111, 114, 107, 32, 49] : List UInt8), ([98, 105, 108, 108] : List UInt8), ([99, 108, 111, 115, 101, 32, 48, 32, 48] : List UInt8)] : List (List UInt8))) aa (BltL.cons (Blt.str) q (BltL.cons (Blt.str) q (BltL.cons (Blt.str) q (BltL.cons (Blt.str) q (BltL.cons (Blt.str) q (BltL.cons (Blt.str) q (BltL.cons (Blt.str) q (BltL.cons (Blt.str) q (BltL.nil))))))))) u28 j9 q q q q q q fun a4 a5 aA => ?_
  refine qm q <| have al := aA.p1; O h fun a6 aB h => U0 q c29 (w_spec_l20Rd__pick aB (C0.c.c) al.ctx) fun a7 aC => have af := al.cN1 [_] aC; O h fun a8 am h => qe af hS1 am u28 i9 q fun _ _ aD => eS u9 aD q <| qa q <| B <| W fun a ha => ?_
  cases h
  exact zj (m (ret1 q ha q ⟨q, af.q1.q1⟩))
 refine rR <| qi (qt_eql q q) q <| qa q <| B ?_
 refine Yh q h (fun h => ?_) (fun h => ?_)
 ·refine C <| O h fun bc ao h => O h fun bd ab h => O h fun ap ag h => O h fun aF aG h => O h fun aH aI h => ?_
  refine WP_join (M := fun a w2 => (Fr a 36 [(0, pB bp0), (4, strV aH)] ∧ Holds (([.bx bp0 118 [A0, iV B1]] : List Res).flatMap Res.own) w w2 [.bx bp0 118 [A0, iV ap.1]] G)) ?_ ?_
  ·refine WP_ordersT (fun w1 w2 => Chg (([.bx bp0 118 [A0, iV x5.1]] : List Res).flatMap Res.own) w1 w2) 9 (by kernel_rfl) fun ah aJ => have aq := aa.grow aJ; ?_
   have aK : Ctx ah ([.bx bp0 118 [A0, iV x5.1]] ++ ([.bx b1 27 [A1_0, A1_1, A1_2, iV p1_3, A1_4]] ++ G)) := aq.ctx
   have aL : Holds _ ah ah [.bx bp0 118 [A0, iV x5.1]] ([.bx b1 27 [A1_0, A1_1, A1_2, iV p1_3, A1_4]] ++ G) := zb (Rs := [.bx bp0 118 [A0, iV x5.1]]) aK
   refine have Hc := aL; XM0 [([], [], true), ([], [], true), ([1], [1], true), ([0, 2], [0, 2], true), ([3], [3], true), ([], [], true), ([5, 2], [5], true), ([6, 6], [6], true), ([4, 7], [4, 7], true), ([8, 7, 0, 1, 2, 3, 4, 5, 6, 7, 8], [8], false)] (by kernel_rfl) <| MQ 1 q q q Hc.chg q (fun _ => qt_move q) q q <| MQ 5 q q q Hc.chg q (fun _ => qt_move q) q q ?_
   repeat' first
    | refine XG ?_; (first
     | refine MDo 0 q ?_; refine zs (t := .str) (args := [.const (strV [98, 105, 108, 108, 32]), .const (strV [102, 114, 101, 101, 32])]) (xs := ([([98, 105, 108, 108, 32] : List UInt8), ([102, 114, 101, 101, 32] : List UInt8)] : List (List UInt8))) Hc (BltL.cons (Blt.str) q (BltL.cons (Blt.str) q (BltL.nil))) u28 j9 q q q q q q (fun be _ Hc => ?_); refine MN Hc.chg ?_
     | refine XGi 2 ?_; (first
      | refine MDo 2 q ?_; have Hc := Hc.p1; refine U0 q c29 (w_spec_l20Rd__pick ao (C0.c.c) Hc.ctx) fun _ HK => ?_; have Hc := Hc.cN1 [_] HK; refine MN Hc.chg ?_
      | refine MDo 2 q <| U0 q c29 (w_spec_l20Rd__pick ao (C0.c) Hc.ctx) fun _ HK => ?_; have Hc := Hc.cN1 [_] HK; refine MN Hc.chg ?_)
     | refine XGi 4 ?_; (first
      | refine MDo 4 q <| eS u9 (Hc.el hS1 ab ad) q <| MN Hc.chg ?_
      | refine MDo 4 q <| eS u9 (Hc.el hS0 ab ad) q <| MN Hc.chg ?_)
     | refine XGi 6 ?_; (first
      | refine MDo 6 q <| U0 q c29 (w_spec_l20Rd__pick ag (C0.c.c) Hc.ctx) fun _ HK => ?_; have Hc := Hc.cN1 [_] HK; refine MN Hc.chg ?_
      | refine MDo 6 q ?_; have Hc := Hc.p1; refine U0 q c29 (w_spec_l20Rd__pick ag (C0.c.c) Hc.ctx) fun _ HK => ?_; have Hc := Hc.cN1 [_] HK; refine MN Hc.chg ?_
      | refine MDo 6 q <| U0 q c29 (w_spec_l20Rd__pick ag (C0.c) Hc.ctx) fun _ HK => ?_; have Hc := Hc.cN1 [_] HK; refine MN Hc.chg ?_)
     | refine MDo 7 q <| zd q q c54 (w_spec_l1Number _ _ ap.2 aF aG Hc.ctx) (by rfl) ?_; rintro _ _ ⟨rfl, HK⟩; refine ⟨_, q, ?_⟩; have Hc := Hc.cN0 [] HK; refine MN Hc.chg ?_
     | have Hc := aq.cN2 [_] Hc; refine MDo 9 q <| qa q <| ME q ?_)
    | refine MK 3 q ?_; obtain ⟨aM, aN, aO, ad⟩ := Ctx.isAt Hc.ctx hS1 ab; refine MT 3 q q q Hc.chg q (qs_index ab ad u28 i9 q q) q q ?_
    | refine MK 3 q ?_; obtain ⟨aM, aN, aO, ad⟩ := Ctx.isAt Hc.ctx hS0 ab; refine MT 3 q q q Hc.chg q (qs_index ab ad u28 i9 q q) q q ?_
    | refine MK 8 q <| MQ 8 q q q Hc.chg q (fun _ => qt_sadd q q aI) q q ?_
    | refine MW q ?_ ?_
    | refine Ma q ?_ ?_
    | exact Me q
    | refine MZ q (fun a ha => ?_); have Hc := ((Hc.q1).q1); exact ⟨ha.s, Hc⟩
    | refine MZ q (fun a ha => ?_); have Hc := ((Hc.q0).q1); exact ⟨ha.s, Hc⟩
  rintro a bf ⟨ha, aP⟩
  cases h
  exact S1 ha <| W fun a ha => zj (m (ret1 q ha q ⟨q, aP⟩))
 refine WP_skip fun a ha => zi <| X <| S1 ha <| rR <| qm q <| eA aa.p1 us27 uo27 il27 q <| O h fun bg aQ h => U0 q c79 (w_spec_l20HouseDeed aQ (C0.c) (hp1_0.c) (hp1_1.c) (hp1_2.c) (hp1_4.c) aa.ctx) fun bh aR => have ar := aa.cN1 [_] aR; O h fun bi aS h => U0 q c80 (w_spec_DeedText aS ar.ctx) fun bj aT => have aU := ar.cN0 [] aT; qa q <| B <| W fun a ha => ?_
 cases h
 exact ret1 q ha q ⟨q, aU.q1⟩
theorem w_spec_DrawHouseLines {w G vp0 p0 r} (h : spec_DrawHouseLinesS p0 = some r) (hp0 : HasRo G (.int .u8) vp0 p0) (H : Ctx w G) : Calls Tryz.prog 6 #[vp0] w fun e w' => ∃ (v1 : Value) (v2 : Value) (v3 : Value) (v4 : Value) (v5 : Value), e = .returned (.tuple #[.agg #[v1, v2, v3, iV r.1.2.2.2.1, v4], v5]) ∧ Holds M0 w w' [.sl 70 ty12 v1 r.1.1, .sl 3 tI v2 r.1.2.1, .sl 3 tI v3 r.1.2.2.1, .sl 38 ty14 v4 r.1.2.2.2.2, .sl 9 .str v5 r.2] G := by
 refine F0 30 H Tryz.func6 q fun H => ?_
 refine C <| Z <| zq (cs := [nS, nS, nS, iV 0, nS]) H z27 q q q fun b1 w2 H3 => qa q <| rN <| qm q <| O h fun x5 aD h => U2 q c27 (w_spec_l20Open aD (hp0.c) H3.ctx) fun v9 am w7 H8 => have aE := H3.cN2 [] H8; qa q <| rN <| qm q <| have ar := aE.p1; O h fun aa aF h => U4 q c28 (w_spec_l20House aF hR0 ar.ctx) fun ab ad ae af bf aG => have aH := ar.cN5 [_] aG; zq (cs := [nS, nS, nS, iV 0, nS]) aH z27 q q q fun aj bg al => zl (cs' := [ab, ad, ae, iV aa.2.2.2.2.1, af]) al q il27 q (T (al.ctx.sliceOne hS1) (T (al.ctx.sliceOne hS2) (T (al.ctx.sliceOne hS3) (T q (T (al.ctx.sliceOne hS4) q))))) q q q fun bh aI => B <| C <| Z <| zs (t := .str) (args := []) (xs := ([] : List (List UInt8))) aI (BltL.nil) u28 j9 q q q q q q fun aJ bi aK => qa q <| B <| C <| rR <| qm q <| have au := aK.p6; ?_
 refine O h fun bj aL h => U0 q c29 (w_spec_l20Rd__pick aL hR6 au.ctx) fun bk aM => have aN := au.cN1 [_] aM; qa q <| B <| g <| O h fun aO aP h => ?_
 refine fun bl aR => zp (I := fun (av, aw, ax) a w2 => ∃ ao, Fr a 30 [(2, pB b1), (4, pB am), (5, pB aj), (6, ao), (7, iV aw)] ∧ Holds M0 w w2 [.bx b1 27 [nS, nS, nS, iV 0, nS], .bx am 118 [v9, iV ax], .ro (.int .u8) v9 x5.1, .bx aj 27 [ab, ad, ae, iV aa.2.2.2.2.1, af], .sl 70 ty12 ab aa.2.1, .sl 3 tI ad aa.2.2.1, .sl 3 tI ae aa.2.2.2.1, .sl 38 ty14 af aa.2.2.2.2.2, .sl 9 .str ao av] G) (O := fun (q0, q1) e a w2 => e = .exit 0 ∧ ∃ ay, Fr a 30 [(2, pB b1), (4, pB am), (5, pB aj), (6, ay)] ∧ Holds M0 w w2 [.bx b1 27 [nS, nS, nS, iV 0, nS], .bx am 118 [v9, iV q1], .ro (.int .u8) v9 x5.1, .bx aj 27 [ab, ad, ae, iV aa.2.2.2.2.1, af], .sl 70 ty12 ab aa.2.1, .sl 3 tI ad aa.2.2.1, .sl 3 tI ae aa.2.2.2.1, .sl 38 ty14 af aa.2.2.2.2.2, .sl 9 .str ay q0] G) aP ?_ ?_ ?_
 ·exact ⟨aJ, aR.s, aN.p1.p6.p6.p6.p6.p6.p7.p7.p8⟩
 ·rintro ⟨av, aw, ax⟩ _ a bm ag ⟨ao, ha, aq⟩
  refine S1 ha <| C <| rR <| qm q <| qi (qt_gtr q q) q <| B ?_
  refine Yh q ag (fun ag => ?_) (fun ag => ?_)
  ·refine y <| C <| g <| Z <| qm q <| qm q <| eA aq.p3 us27 uo27 il27 q <| have az := aq.p1; O ag fun aS aT ag => U0 q c30 (w_spec_l20Line aT hR1 hS3 hS4 hS5 hS6 az.ctx) fun bn aU => have aV := az.cN1 [_] aU; zs (t := .str) (args := [.tmp 22]) (xs := ([aS.2] : List (List UInt8))) aV (BltL.cons (Blt.str) q (BltL.nil)) u28 j9 q q q q q q fun bo bp aW => O ag fun bq aY ag => zw aW.p9 hS1 aY u28 j9 q q q q q q fun aZ br a0 => qa q <| WL_nil fun a ha => zi <| X <| S1 ha <| Z <| qm q <| qi (qt_sub q q) q <| qa q <| WL_nil fun a ha => ?_
   cases ag
   exact ⟨q, aZ, ha.s, a0.q1.p8.p8.p8.p8.p8.p8.p7.p8⟩
  cases ag
  exact WP_exit fun a ha => zo (⟨exit_ne, q, ao, ha.s, aq.p8.p8.p8.p8.p8.p8.p8.p8.p8⟩)
 obtain ⟨bs, bt⟩ := aO
 rintro _ a bu ⟨rfl, a3, ha, a4⟩
 refine zn <| X <| S1 ha <| C <| rR <| qm q <| have aA := a4.p1; O h fun bv a5 h => U0 q c31 (w_spec_l20Rd__odd a5 hR1 aA.ctx) fun bw a6 => have aB := aA.cN1 [_] a6; B <| O h fun a7 ah h => ?_
 refine WP_join (M := fun a w2 => ∃ ap, Fr a 30 [(2, pB b1), (5, pB aj), (6, ap)] ∧ Holds M0 w w2 [.bx b1 27 [nS, nS, nS, iV 0, nS], .bx aj 27 [ab, ad, ae, iV aa.2.2.2.2.1, af], .sl 70 ty12 ab aa.2.1, .sl 3 tI ad aa.2.2.1, .sl 3 tI ae aa.2.2.2.1, .sl 38 ty14 af aa.2.2.2.2.2, .sl 9 .str ap a7] G) ?_ ?_
 ·refine Yh q ah (fun ah => ?_) (fun ah => ?_)
  ·refine Z <| O ah fun bz a8 ah => WL_makeH aB a8 u28 j9 q (fun _ => ⟨q, q⟩) q q q q q fun a9 bA ba => qa q <| WL_nil fun a ha => ?_
   obtain rfl := L ah
   exact X (⟨a9, ha.s, ba.q1.q2.q7.p6.p6.p6.p6.p6.p6⟩)
  refine WP_skip fun a ha => ?_
  obtain rfl := L ah
  exact X (⟨a3, ha.s, aB.q0.q1.p6.p6.p6.p6.p6.p6.p6⟩)
 rintro a bB ⟨ap, ha, ak⟩
 cases h
 exact S1 ha <| rR <| eA ak.p1 us27 uo27 il27 q <| qm q <| zl (cs' := [ab, ad, ae, iV aa.2.2.2.2.1, af]) ak q il27 q (T (ak.ctx.sliceOne hS2) (T (ak.ctx.sliceOne hS3) (T (ak.ctx.sliceOne hS4) (T q (T (ak.ctx.sliceOne hS5) q))))) q q q fun bC aC => qa q <| B <| W fun a ha => have bd := R aC.p0; retct q ha q q (run_loadVar_bx (cs := [ab, ad, ae, iV aa.2.2.2.2.1, af]) us27 uo27 il27 bd) ⟨ab, ad, ae, af, ap, q, aC.q0.q0.p4.p4.p4.p4.p4⟩
theorem w_impl_partsValid {w G vp0 p0 p1 r} (h : impl_partsValidS p0 p1 = some r) (hp0 : Has G ty2 vp0 p0) (H : Ctx w G) : Calls Tryz.prog 119 #[vp0, iV p1] w fun e w' => e = .returned (.bool r) ∧ Holds M0 w w' [] G := by
 refine F0 45 H Tryz.func119 q fun H => ?_
 refine rR <| qa q <| B <| C <| rR <| qm q <| qz H.ctx (hp0) u68 q <| qi (qt_lss q q) q <| qm q ?_
 refine Ho (res := ((decide ((List.length p0 : Int) < 1)) || (decide ((List.length p0 : Int) > 3)))) 3 os (fun af K2 am => ?_) ?_
 ·exact jm af q <| jz H.ctx (hp0) u68 af q <| ji (qt_gtr q q) af q <| am 3 q q q (oi af)
 refine B ?_
 refine Yh q h (fun h => ?_) (fun h => ?_)
 ·cases h
  exact rR <| qa q <| B <| W fun a ha => m (ret1 q ha q ⟨q, H⟩)
 refine y <| rR <| qa q <| B <| C <| rR <| qm q <| qz H.ctx (hp0) u68 q <| qm q <| B <| g <| O h fun o6 ao h => ?_
 refine fun a8 ap => zp (I := fun (s4, s5) a w2 => (Fr a 45 [(1, iV p1), (5, iV s4), (16, vp0), (17, iV (List.length p0 : Int)), (18, iV s5)] ∧ Holds M0 w w2 [] G)) (O := fun o e a w2 => match o with | .inl _ => e = .exit 0 ∧ (Fr a 45 [] ∧ Holds M0 w w2 [] G) | .inr q0 => e = .ret ∧ (Fr a 45 [(4, .bool q0)] ∧ Holds M0 w w2 [] G)) ao ?_ ?_ ?_
 ·exact ⟨ap.s, H⟩
 ·rintro ⟨s4, s5⟩ _ a aB ab ⟨ha, ag⟩
  refine S1 ha <| rR <| qi (qt_lss q q) q <| B <| C ?_
  refine Yh q ab (fun ab => ?_) (fun ab => ?_)
  ·refine y <| C <| g <| rR <| O ab fun aa ak ab => qe ag (hp0) ak u68 i79 q fun _ _ aq => lP [iV aa.1, iV aa.2] us79 uo79 i79 aq q q q q <| zq (cs := [iV 0, iV 0]) ag z79 q q q fun aF aG ar => zl (cs' := [iV aa.1, iV aa.2]) ar q il79 q q q q q fun aH ad => B <| C <| rR <| qf uf79 fi79_0 nz3 q <| ql u3 ad.p0 q <| qm q <| qi (qt_leq q q) q <| qm q ?_
   refine Ho (res := ((decide (aa.1 ≤ s4)) || (decide (aa.1 ≥ p1)))) 4 os (fun ae aI au => ?_) ?_
   ·exact jf uf79 fi79_0 nz3 ae q <| jl u3 ad.p0 ae q <| jm ae q <| ji (qt_geq q q) ae q <| au 4 q q q (oi ae)
   refine qm q ?_
   refine Ho (res := (((decide (aa.1 ≤ s4)) || (decide (aa.1 ≥ p1))) || (decide (aa.2 < 1)))) 3 os (fun ah aJ av => ?_) ?_
   ·exact jf uf79 fi79_1 nz3 ah q <| jl u3 ad.p0 ah q <| ji (qt_lss q q) ah q <| av 3 q q q (oi ah)
   refine qm q ?_
   refine Ho (res := ((((decide (aa.1 ≤ s4)) || (decide (aa.1 ≥ p1))) || (decide (aa.2 < 1))) || (decide (aa.2 > 6)))) 3 os (fun aj aK aw => ?_) ?_
   ·exact jf uf79 fi79_1 nz3 aj q <| jl u3 ad.p0 aj q <| ji (qt_gtr q q) aj q <| aw 3 q q q (oi aj)
   refine B ?_
   refine Yh q ab (fun ab => ?_) (fun ab => ?_)
   ·cases ab
    exact rR <| qa q <| B <| W fun a ha => m (zj (m (⟨ret_ne, q, ha.s, ad.q0⟩)))
   cases ab
   exact y <| Z <| qf uf79 fi79_0 nz3 q <| ql u3 ad.p0 q <| qa q <| WL_nil fun a ha => zi <| X <| S1 ha <| Z <| qi (qt_add q q) q <| qm q <| WL_nil fun a ha => ⟨q, ha.s, ad.q0⟩
  cases ab
  exact WP_exit fun a ha => zo (⟨exit_ne, q, ha.s, ag⟩)
 intro e a aL al
 rcases o6 with o6 | o6
 ·obtain ⟨rfl, ha, az⟩ := al
  cases h
  exact zn <| X <| S1 ha <| rR <| qa q <| B <| W fun a ha => ret1 q ha q ⟨q, az⟩
 obtain ⟨rfl, ha, aA⟩ := al
 obtain rfl := L h
 exact zj (m (ret1 q ha q ⟨q, aA⟩))
theorem w_impl_itemValid {w G B0 A1 B1 B2 p1 r} (h : impl_itemValidS B0 B1 B2 p1 = some r) (C1 : Has G ty2 A1 B1) (H : Ctx w G) : Calls Tryz.prog 88 #[.agg #[iV B0, A1, iV B2], iV p1] w fun e w' => e = .returned (.bool r) ∧ Holds M0 w w' [] G := by
 refine F0 34 H Tryz.func88 q fun H => ?_
 refine C <| Z <| WL_box (cs := [iV B0, A1, iV B2]) H q q q q fun b1 w2 H3 => qa q <| B <| C <| rR <| qf uf70 fi70_2 nz3 q <| ql u3 H3.p0 q <| qi (qt_lss q q) q <| qm q ?_
 refine Ho (res := ((decide (B2 < 0)) || (decide (B2 > 31)))) 3 os (fun ad K7 af => ?_) ?_
 ·exact jf uf70 fi70_2 nz3 ad q <| jl u3 H3.p0 ad q <| ji (qt_gtr q q) ad q <| af 3 q q q (oi ad)
 refine B ?_
 refine Yh q h (fun h => ?_) (fun h => ?_)
 ·cases h
  exact rR <| qa q <| B <| W fun a ha => m (ret1 q ha q ⟨q, H3.q0⟩)
 refine y <| C <| rR <| qf uf70 fi70_0 nz3 q <| ql u3 H3.p0 q <| qi (qt_eql q q) q <| B ?_
 refine Yh q h (fun h => ?_) (fun h => ?_)
 ·cases h
  exact rR <| qf uf70 fi70_1 nz68 q <| ql u68 H3.p0 q <| qz H3.ctx (C1.c) u68 q <| qi (qt_eql q q) q <| qa q <| B <| W fun a ha => m (ret1 q ha q ⟨q, H3.q0⟩)
 refine y <| C <| zk <| qf uf70 fi70_0 nz3 q <| ql u3 H3.p0 q <| qi (qt_geq q q) q <| qm q ?_
 refine Ga (res := ((decide (B0 ≥ 1)) && (decide (B0 ≤ 6)))) 3 an (fun ae aq aj => ?_) ?_
 ·exact jf uf70 fi70_0 nz3 ae q <| jl u3 H3.p0 ae q <| ji (qt_leq q q) ae q <| aj 3 q q q (ai ae)
 refine qm q <| O h fun ak aa h => ?_
 refine Ga (res := ak) 4 (if_f · aa) (fun ab ar al => ?_) ?_
 ·exact have aa := if_t ab aa; jf uf70 fi70_1 nz68 ab q <| jl u68 H3.p0 ab q <| jm ab q <| O aa fun au am aa => jc ab q c119 H3 (fun _ => w_impl_partsValid am (C1.c)) <| al 4 q q q aa
 refine qa q <| Qn H3 fun a ha av ao => X <| S1 ha <| W fun a ha => ?_
 obtain rfl := L h
 exact ret1 q ha q ⟨q, ao.q0⟩
theorem w_impl_ItemsValid {w G vp0 p0 r} (h : impl_ItemsValidS p0 = some r) (hp0 : Has G ty12 vp0 p0) (H : Ctx w G) : Calls Tryz.prog 103 #[vp0] w fun e w' => e = .returned (.bool r) ∧ Holds M0 w w' [] G := by
 refine F0 20 H Tryz.func103 q fun H => ?_
 refine rR <| qa q <| B <| C <| rR <| qm q <| qz H.ctx (hp0) u23 q <| qi (qt_gtr q q) q <| B ?_
 refine Yh q h (fun h => ?_) (fun h => ?_)
 ·cases h
  exact rR <| qa q <| B <| W fun a ha => m (ret1 q ha q ⟨q, H⟩)
 refine y <| C <| rR <| qm q <| qz H.ctx (hp0) u23 q <| qm q <| B <| g <| O h fun o2 al h => ?_
 refine fun a4 am => zp (I := fun s1 a w2 => (Fr a 20 [(8, vp0), (9, iV (List.length p0 : Int)), (10, iV s1)] ∧ Holds M0 w w2 [] G)) (O := fun o e a w2 => match o with | .inl _ => e = .exit 0 ∧ (Fr a 20 [] ∧ Holds M0 w w2 [] G) | .inr q0 => e = .ret ∧ (Fr a 20 [(2, .bool q0)] ∧ Holds M0 w w2 [] G)) al ?_ ?_ ?_
 ·exact ⟨am.s, H⟩
 ·rintro s1 _ a w6 aa ⟨ha, ae⟩
  refine S1 ha <| rR <| qi (qt_lss q q) q <| B <| C ?_
  refine Yh q aa (fun aa => ?_) (fun aa => ?_)
  ·refine y <| C <| g <| rR <| qm q <| O aa fun ab ag aa => qb ae.ctx (hp0) ag u23 i70 q fun aH aI aJ ao => ?_
   obtain ⟨aK, ap, aq⟩ := ae.atN (hp0) ag ao
   refine XL_load_agg (t := ty12) us70 uo70 i70 ap q q q fun aL ar => ?_
   obtain ⟨aM, aN, aO, aP, rfl, au, av, aw⟩ := ar
   obtain ⟨rfl, _⟩ := av
   obtain ⟨c29, c30, aQ, aR, rfl, ax, ay, az⟩ := aw
   obtain ⟨ad, rfl, aA⟩ := Rep.sl_inv ay
   obtain ⟨rfl, _⟩ := az
   have aB : Holds _ w w6 [.ro ty2 ad ab.2.1] G := aq [.ro ty2 ad ab.2.1] ⟨⟨_, _, _, _, q, aA, (fun k h => (fun k h => (fun _ h => h) k (by rw [au]; exact zx _ h)) k (by rw [ax]; exact List.mem_append_left _ h))⟩, trivial⟩
   change XL _ _ _ _ _ ((14, .agg #[iV ab.1, ad, iV ab.2.2]) :: _) _
   refine zq (cs := [iV 0, nS, iV 0]) aB z70 q q q fun aS aT ah => qa q <| zl (cs' := [iV ab.1, ad, iV ab.2.2]) ah q il70 q (T q (T (ah.ctx.sliceOne hR1) (T q q))) q q q fun aU af => B <| C <| zk <| eA af.p0 us70 uo70 il70 q <| qm q <| O aa fun aV aC aa => qc q c88 af (fun _ => w_impl_itemValid aC hR1) <| qi (qt_not q) q <| Qn af fun a ha aW aj => X <| S1 ha ?_
   refine Yh q aa (fun aa => ?_) (fun aa => ?_)
   ·cases aa
    exact rR <| qa q <| B <| W fun a ha => zj (m (⟨ret_ne, q, ha.s, aj.q0.q0⟩))
   cases aa
   exact WP_skip fun a ha => zi <| X <| S1 ha <| Z <| qi (qt_add q q) q <| qm q <| WL_nil fun a ha => ⟨q, ha.s, aj.q0.q0⟩
  cases aa
  exact WP_exit fun a ha => zo (⟨exit_ne, q, ha.s, ae⟩)
 intro e a aX ak
 rcases o2 with o2 | o2
 ·obtain ⟨rfl, ha, aF⟩ := ak
  cases h
  exact zn <| X <| S1 ha <| rR <| qa q <| B <| W fun a ha => ret1 q ha q ⟨q, aF⟩
 obtain ⟨rfl, ha, aG⟩ := ak
 obtain rfl := L h
 exact zj (m (ret1 q ha q ⟨q, aG⟩))
theorem w_impl_amountsOk {w G vp0 p0 p1 p2 r} (h : impl_amountsOkS p0 p1 p2 = some r) (hp0 : Has G tI vp0 p0) (H : Ctx w G) : Calls Tryz.prog 59 #[vp0, iV p1, iV p2] w fun e w' => e = .returned (.bool r) ∧ Holds M0 w w' [] G := by
 refine F0 27 H Tryz.func59 q fun H => ?_
 refine rR <| qa q <| B <| C <| rR <| qm q <| qz H.ctx (hp0) u24 q <| qm q <| qi (qt_neq q q) q <| B ?_
 refine Yh q h (fun h => ?_) (fun h => ?_)
 ·cases h
  exact rR <| qa q <| B <| W fun a ha => m (ret1 q ha q ⟨q, H⟩)
 refine y <| C <| rR <| qm q <| qz H.ctx (hp0) u24 q <| qm q <| B <| g <| O h fun o2 ah h => ?_
 refine fun a4 aj => zp (I := fun s1 a w2 => (Fr a 27 [(2, iV p2), (13, vp0), (14, iV (List.length p0 : Int)), (15, iV s1)] ∧ Holds M0 w w2 [] G)) (O := fun o e a w2 => match o with | .inl _ => e = .exit 0 ∧ (Fr a 27 [] ∧ Holds M0 w w2 [] G) | .inr q0 => e = .ret ∧ (Fr a 27 [(6, .bool q0)] ∧ Holds M0 w w2 [] G)) ah ?_ ?_ ?_
 ·exact ⟨aj.s, H⟩
 ·rintro s1 _ a w6 aa ⟨ha, ab⟩
  refine S1 ha <| rR <| qi (qt_lss q q) q <| B <| C ?_
  refine Yh q aa (fun aa => ?_) (fun aa => ?_)
  ·refine y <| C <| g <| rR <| O aa fun ae af aa => qe ab (hp0) af u24 i3 q fun _ _ ak => eI u3 ak q <| qa q <| rN <| qm q <| qi (qt_lss q q) q <| qm q ?_
   refine Ho (res := ((decide (ae < 0)) || (decide (ae > p2)))) 3 os (fun ad au al => ?_) ?_
   ·exact jm ad q <| jm ad q <| ji (qt_gtr q q) ad q <| al 3 q q q (oi ad)
   refine B ?_
   refine Yh q aa (fun aa => ?_) (fun aa => ?_)
   ·cases aa
    exact rR <| qa q <| B <| W fun a ha => zj (m (⟨ret_ne, q, ha.s, ab⟩))
   cases aa
   exact WP_skip fun a ha => zi <| X <| S1 ha <| Z <| qi (qt_add q q) q <| qm q <| WL_nil fun a ha => ⟨q, ha.s, ab⟩
  cases aa
  exact WP_exit fun a ha => zo (⟨exit_ne, q, ha.s, ab⟩)
 intro e a av ag
 rcases o2 with o2 | o2
 ·obtain ⟨rfl, ha, am⟩ := ag
  cases h
  exact zn <| X <| S1 ha <| rR <| qa q <| B <| W fun a ha => ret1 q ha q ⟨q, am⟩
 obtain ⟨rfl, ha, ao⟩ := ag
 obtain rfl := L h
 exact zj (m (ret1 q ha q ⟨q, ao⟩))
theorem w_impl_PricesValid {w G vp0 p0 vp1 p1 r} (h : impl_PricesValidS p0 p1 = some r) (hp0 : Has G ty12 vp0 p0) (hp1 : Has G tI vp1 p1) (H : Ctx w G) : Calls Tryz.prog 58 #[vp0, vp1] w fun e w' => e = .returned (.bool r) ∧ Holds M0 w w' [] G := by
 refine F0 13 H Tryz.func58 q fun H => ?_
 refine rR <| qa q <| B <| C <| zk <| qm q <| O h fun x1 ad h => qc q c103 H (fun _ => w_impl_ItemsValid ad (hp0)) <| qm q <| O h fun b3 aa h => ?_
 refine Ga (res := b3) 4 (if_f · aa) (fun ab K6 ae => ?_) ?_
 ·exact have aa := if_t ab aa; jm ab q <| jm ab q <| jz H.ctx (hp0) u23 ab q <| O aa fun x8 af aa => jc ab q c59 H (fun _ => w_impl_amountsOk af (hp1)) <| ae 4 q q q aa
 refine qa q <| Qn H fun a ha ah ag => X <| S1 ha <| W fun a ha => ?_
 obtain rfl := L h
 exact ret1 q ha q ⟨q, ag⟩
theorem w_impl_finished {w G B0 B1 r} (h : impl_finishedS B0 B1 = some r) (H : Ctx w G) : Calls Tryz.prog 122 #[.agg #[iV B0, iV B1]] w fun e w' => e = .returned (.bool r) ∧ Holds M0 w w' [] G := by
 refine F0 11 H Tryz.func122 q fun H => ?_
 unfold impl_finishedS at h
 refine C <| Z <| WL_box (cs := [iV B0, iV B1]) H q q q q fun b1 w2 H3 => qa q <| rN <| qf uf123 fi123_1 nz3 q <| ql u3 H3.p0 q <| qi (qt_eql q q) q <| qm q ?_
 refine Ho (res := ((B1 == 3) || (B1 == 4))) 3 os (fun aa K7 ab => ?_) ?_
 ·exact jf uf123 fi123_1 nz3 aa q <| jl u3 H3.p0 aa q <| ji (qt_eql q q) aa q <| ab 3 q q q (oi aa)
 cases h
 exact qa q <| B <| W fun a ha => ret1 q ha q ⟨q, H3.q0⟩
theorem w_impl_reached {w G vp0 p0 p1 r} (h : impl_reachedS p0 p1 = some r) (hp0 : Has G ty2 vp0 p0) (H : Ctx w G) : Calls Tryz.prog 128 #[vp0, iV p1] w fun e w' => e = .returned (.bool r) ∧ Holds M0 w w' [] G := by
 refine F0 23 H Tryz.func128 q fun H => ?_
 refine rR <| qa q <| B <| C <| rR <| qm q <| qz H.ctx (hp0) u36 q <| qm q <| B <| g <| O h fun o2 al h => ?_
 refine fun a4 am => zp (I := fun s1 a w2 => (Fr a 23 [(1, iV p1), (7, vp0), (8, iV (List.length p0 : Int)), (9, iV s1)] ∧ Holds M0 w w2 [] G)) (O := fun o e a w2 => match o with | .inl _ => e = .exit 0 ∧ (Fr a 23 [] ∧ Holds M0 w w2 [] G) | .inr q0 => e = .ret ∧ (Fr a 23 [(4, .bool q0)] ∧ Holds M0 w w2 [] G)) al ?_ ?_ ?_
 ·exact ⟨am.s, H⟩
 ·rintro s1 _ a w6 aa ⟨ha, ad⟩
  refine S1 ha <| rR <| qi (qt_lss q q) q <| B <| C ?_
  refine Yh q aa (fun aa => ?_) (fun aa => ?_)
  ·refine y <| C <| g <| rR <| O aa fun ae ah aa => qe ad (hp0) ah u36 i123 q fun _ _ ao => lP [iV ae.1, iV ae.2] us123 uo123 i123 ao q q q q <| zq (cs := [iV 0, iV 0]) ad z123 q q q fun aC aD ap => zl (cs' := [iV ae.1, iV ae.2]) ap q il123 q q q q q fun aE af => B <| C <| zk <| qf uf123 fi123_0 nz3 q <| ql u3 af.p0 q <| qm q <| qi (qt_lss q q) q <| qm q <| O aa fun aq ab aa => ?_
   refine Ga (res := aq) 3 (if_f · ab) (fun ag aF ar => ?_) ?_
   ·exact have ab := if_t ag ab; jA af.p0 us123 uo123 il123 ag q <| O ab fun aG au ab => jc ag q c122 af (fun _ => w_impl_finished au) <| ji (qt_not q) ag q <| ar 3 q q q ab
   refine Qn af fun a ha aH aj => X <| S1 ha ?_
   refine Yh q aa (fun aa => ?_) (fun aa => ?_)
   ·cases aa
    exact rR <| qa q <| B <| W fun a ha => zj (m (⟨ret_ne, q, ha.s, aj.q0⟩))
   cases aa
   exact WP_skip fun a ha => zi <| X <| S1 ha <| Z <| qi (qt_add q q) q <| qm q <| WL_nil fun a ha => ⟨q, ha.s, aj.q0⟩
  cases aa
  exact WP_exit fun a ha => zo (⟨exit_ne, q, ha.s, ad⟩)
 intro e a aI ak
 rcases o2 with o2 | o2
 ·obtain ⟨rfl, ha, ax⟩ := ak
  cases h
  exact zn <| X <| S1 ha <| rR <| qa q <| B <| W fun a ha => ret1 q ha q ⟨q, ax⟩
 obtain ⟨rfl, ha, ay⟩ := ak
 obtain rfl := L h
 exact zj (m (ret1 q ha q ⟨q, ay⟩))
theorem w_impl_TicketValid {w G vp0 p0 r} (h : impl_TicketValidS p0 = some r) (hp0 : Has G ty2 vp0 p0) (H : Ctx w G) : Calls Tryz.prog 104 #[vp0] w fun e w' => e = .returned (.bool r) ∧ Holds M0 w w' [] G := by
 refine F0 57 H Tryz.func104 q fun H => ?_
 refine rR <| qa q <| B <| C <| rR <| qm q <| qz H.ctx (hp0) u36 q <| qi (qt_gtr q q) q <| B ?_
 refine Yh q h (fun h => ?_) (fun h => ?_)
 ·cases h
  exact rR <| qa q <| B <| W fun a ha => m (ret1 q ha q ⟨q, H⟩)
 refine y <| C <| rR <| qm q <| qz H.ctx (hp0) u36 q <| qm q <| B <| g <| O h fun o2 aB h => ?_
 refine fun a4 aC => zp (I := fun s1 a w2 => (Fr a 57 [(0, vp0), (10, vp0), (11, iV (List.length p0 : Int)), (12, iV s1)] ∧ Holds M0 w w2 [] G)) (O := fun o e a w2 => match o with | .inl _ => e = .exit 0 ∧ (Fr a 57 [(0, vp0)] ∧ Holds M0 w w2 [] G) | .inr q0 => e = .ret ∧ (Fr a 57 [(2, .bool q0)] ∧ Holds M0 w w2 [] G)) aB ?_ ?_ ?_
 ·exact ⟨aC.s, H⟩
 ·rintro s1 _ a w6 ad ⟨ha, ak⟩
  refine S1 ha <| rR <| qi (qt_lss q q) q <| B <| C ?_
  refine Yh q ad (fun ad => ?_) (fun ad => ?_)
  ·refine y <| C <| g <| rR <| O ad fun aa au ad => qe ak (hp0) au u36 i123 q fun _ _ aD => lP [iV aa.1, iV aa.2] us123 uo123 i123 aD q q q q <| zq (cs := [iV 0, iV 0]) ak z123 q q q fun a0 a1 aE => zl (cs' := [iV aa.1, iV aa.2]) aE q il123 q q q q q fun a2 ae => rN <| qf uf123 fi123_0 nz3 q <| ql u3 ae.p0 q <| qi (qt_lss q q) q <| qm q ?_
   refine Ho (res := ((decide (aa.1 < 0)) || (decide (aa.1 > 2)))) 3 os (fun al a3 aF => ?_) ?_
   ·exact jf uf123 fi123_0 nz3 al q <| jl u3 ae.p0 al q <| ji (qt_gtr q q) al q <| aF 3 q q q (oi al)
   refine qm q ?_
   refine Ho (res := (((decide (aa.1 < 0)) || (decide (aa.1 > 2))) || (decide (aa.2 < 0)))) 3 os (fun am a5 aG => ?_) ?_
   ·exact jf uf123 fi123_1 nz3 am q <| jl u3 ae.p0 am q <| ji (qt_lss q q) am q <| aG 3 q q q (oi am)
   refine qm q ?_
   refine Ho (res := ((((decide (aa.1 < 0)) || (decide (aa.1 > 2))) || (decide (aa.2 < 0))) || (decide (aa.2 > 4)))) 3 os (fun ao a6 aH => ?_) ?_
   ·exact jf uf123 fi123_1 nz3 ao q <| jl u3 ae.p0 ao q <| ji (qt_gtr q q) ao q <| aH 3 q q q (oi ao)
   refine B ?_
   refine Yh q ad (fun ad => ?_) (fun ad => ?_)
   ·cases ad
    exact rR <| qa q <| B <| W fun a ha => zj (m (⟨ret_ne, q, ha.s, ae.q0⟩))
   cases ad
   exact WP_skip fun a ha => zi <| X <| S1 ha <| Z <| qi (qt_add q q) q <| qm q <| WL_nil fun a ha => ⟨q, ha.s, ae.q0⟩
  cases ad
  exact WP_exit fun a ha => zo (⟨exit_ne, q, ha.s, ak⟩)
 intro e a a7 av
 rcases o2 with o2 | o2
 ·obtain ⟨rfl, ha, aw⟩ := av
  refine zn <| X <| S1 ha <| C <| rR <| qm q <| qz aw.ctx (hp0) u36 q <| qm q <| B <| g <| O h fun ar aK h => ?_
  refine fun a8 aL => zp (I := fun ax a w2 => (Fr a 57 [(0, vp0), (35, vp0), (36, iV (List.length p0 : Int)), (37, iV ax)] ∧ Holds M0 w w2 [] G)) (O := fun o e a w2 => match o with | .inl _ => e = .exit 2 ∧ (Fr a 57 [] ∧ Holds M0 w w2 [] G) | .inr q0 => e = .ret ∧ (Fr a 57 [(2, .bool q0)] ∧ Holds M0 w w2 [] G)) aK ?_ ?_ ?_
  ·exact ⟨aL.s, aw⟩
  ·rintro ax _ a a9 ab ⟨ha, ap⟩
   refine S1 ha <| rR <| qi (qt_lss q q) q <| B <| C ?_
   refine Yh q ab (fun ab => ?_) (fun ab => ?_)
   ·refine y <| C <| g <| rR <| O ab fun af ay ab => qe ap (hp0) ay u36 i123 q fun _ _ aM => lP [iV af.1, iV af.2] us123 uo123 i123 aM q q q q <| zq (cs := [iV 0, iV 0]) ap z123 q q q fun bd be aN => zl (cs' := [iV af.1, iV af.2]) aN q il123 q q q q q fun bf aj => B <| C <| zk <| qf uf123 fi123_1 nz3 q <| ql u3 aj.p0 q <| qi (qt_neq q q) q <| qm q ?_
    refine Ga (res := ((af.2 != 0) && (af.2 != 4))) 3 an (fun aq bg aO => ?_) ?_
    ·exact jf uf123 fi123_1 nz3 aq q <| jl u3 aj.p0 aq q <| ji (qt_neq q q) aq q <| aO 3 q q q (ai aq)
    refine qm q <| O ab fun aP ag ab => ?_
    refine Ga (res := aP) 5 (if_f · ag) (fun ah bh aQ => ?_) ?_
    ·exact have ag := if_t ah ag; jm ah q <| jf uf123 fi123_0 nz3 ah q <| jl u3 aj.p0 ah q <| O ag fun bi aR ag => jc ah q c128 aj (fun _ => w_impl_reached aR (hp0.c)) <| ji (qt_not q) ah q <| aQ 5 q q q ag
    refine Qn aj fun a ha bj az => X <| S1 ha ?_
    refine Yh q ab (fun ab => ?_) (fun ab => ?_)
    ·cases ab
     exact rR <| qa q <| B <| W fun a ha => zj (m (⟨ret_ne, q, ha.s, az.q0⟩))
    cases ab
    exact WP_skip fun a ha => zi <| X <| S1 ha <| Z <| qi (qt_add q q) q <| qm q <| WL_nil fun a ha => ⟨q, ha.s, az.q0⟩
   cases ab
   exact WP_exit fun a ha => zo (⟨exit_ne, q, ha.s, ap⟩)
  intro e a bk aA
  rcases ar with ar | ar
  ·obtain ⟨rfl, ha, aU⟩ := aA
   cases h
   exact zn <| X <| S1 ha <| rR <| qa q <| B <| W fun a ha => ret1 q ha q ⟨q, aU⟩
  obtain ⟨rfl, ha, aV⟩ := aA
  obtain rfl := L h
  exact zj (m (ret1 q ha q ⟨q, aV⟩))
 obtain ⟨rfl, ha, aW⟩ := av
 obtain rfl := L h
 exact zj (m (ret1 q ha q ⟨q, aW⟩))
theorem w_impl_UsesOf {w G vp0 p0 p1 r} (h : impl_UsesOfS p0 p1 = some r) (hp0 : Has G ty12 vp0 p0) (H : Ctx w G) : Calls Tryz.prog 142 #[vp0, iV p1] w fun e w' => e = .returned (iV r) ∧ Holds M0 w w' [] G := by
 refine F0 51 H Tryz.func142 q fun H => ?_
 refine rR <| qa q <| B <| C <| C <| zk <| qm q <| O h fun x1 ax h => qc q c103 H (fun _ => w_impl_ItemsValid ax (hp0)) <| qi (qt_not q) q <| qm q ?_
 refine Go (res := ((!x1) || (decide (p1 < 0)))) 2 os (fun aj K4 ay => ?_) ?_
 ·exact jm aj q <| ji (qt_lss q q) aj q <| ay 2 q q q (oi aj)
 refine qm q ?_
 refine Go (res := (((!x1) || (decide (p1 < 0))) || (decide (p1 ≥ (List.length p0 : Int))))) 4 os (fun ad K7 az => ?_) ?_
 ·exact jm ad q <| jm ad q <| jz H.ctx (hp0) u23 ad q <| ji (qt_geq q q) ad q <| az 4 q q q (oi ad)
 refine Qn H fun a ha w9 ak => X <| S1 ha ?_
 refine Yh q h (fun h => ?_) (fun h => ?_)
 ·cases h
  exact rR <| qa q <| B <| W fun a ha => m (ret1 q ha q ⟨q, ak⟩)
 refine y <| rR <| qm q <| O h fun aO aA h => qi (qt_shlO q q aA) q <| qa q <| B <| C <| C <| Z <| qm q <| qa q <| B <| g <| O h fun aP aB h => ?_
 refine fun aQ aC => zp (I := fun (al, ae) a w2 => (Fr a 51 [(0, vp0), (5, iV al), (6, iV ae)] ∧ Holds M0 w w2 [] G)) (O := fun q0 e a w2 => e = .exit 0 ∧ (Fr a 51 [(5, iV q0)] ∧ Holds M0 w w2 [] G)) aB ?_ ?_ ?_
 ·exact ⟨aC.s, ak⟩
 ·rintro ⟨al, ae⟩ _ a aR aa ⟨ha, af⟩
  refine S1 ha <| C <| rR <| qm q <| qi (qt_geq q q) q <| B ?_
  refine Yh q aa (fun aa => ?_) (fun aa => ?_)
  ·refine y <| C <| g <| C <| rR <| qm q <| qm q <| O aa fun aS aD aa => qi (qt_shlO q q aD) q <| qi (qt_and q q) q <| qi (qt_eql q q) q <| B ?_
   refine Yh q aa (fun aa => ?_) (fun aa => ?_)
   ·cases aa
    exact WP_exit fun a ha => zo <| zn <| X <| S1 ha <| Z <| qm q <| qi (qt_sub q q) q <| qa q <| WL_nil fun a ha => ⟨q, ha.s, af⟩
   refine y <| rR <| qm q <| qm q <| O aa fun am ao aa => qe af (hp0) ao u23 i70 q fun _ _ aE => qf uf70 fi70_1 nz68 q <| eV u68 aE.s.f q fun ap aq => qz aq.ctx hR0 u68 q <| qm q <| B <| g <| O aa fun aW aF aa => ?_
   refine fun aX aG => zp (I := fun (ar, au) a w2 => (Fr a 51 [(0, vp0), (5, iV ar), (6, iV ae), (38, ap), (39, iV (List.length am.2.1 : Int)), (40, iV au)] ∧ Holds M0 w w2 [.ro ty2 ap am.2.1] G)) (O := fun q0 e a w2 => e = .exit 2 ∧ (Fr a 51 [(0, vp0), (5, iV q0), (6, iV ae)] ∧ Holds M0 w w2 [] G)) aF ?_ ?_ ?_
   ·exact ⟨aG.s, aq⟩
   ·rintro ⟨ar, au⟩ _ a aY ab ⟨ha, ag⟩
    refine S1 ha <| rR <| qi (qt_lss q q) q <| B <| C ?_
    refine Yh q ab (fun ab => ?_) (fun ab => ?_)
    ·refine y <| C <| g <| rR <| O ab fun ah av ab => qe ag hR0 av u68 i79 q fun _ _ aH => lP [iV ah.1, iV ah.2] us79 uo79 i79 aH q q q q <| zq (cs := [iV 0, iV 0]) ag z79 q q q fun a2 a3 aI => zl (cs' := [iV ah.1, iV ah.2]) aI q il79 q q q q q fun a4 aw => B <| Z <| qm q <| qf uf79 fi79_0 nz3 q <| ql u3 aw.p0 q <| O ab fun a5 aJ ab => qi (qt_shlO q q aJ) q <| qi (qt_or q q) q <| qa q <| WL_nil fun a ha => zi <| X <| S1 ha <| Z <| qi (qt_add q q) q <| qm q <| WL_nil fun a ha => ?_
     cases ab
     exact ⟨q, ha.s, aw.q0⟩
    cases ab
    exact WP_exit fun a ha => zo (⟨exit_ne, q, ha.s, ag.q0⟩)
   rintro _ a a6 ⟨rfl, ha, aM⟩
   cases aa
   exact zn <| zi <| X <| S1 ha <| Z <| qm q <| qi (qt_sub q q) q <| qa q <| WL_nil fun a ha => ⟨q, ha.s, aM⟩
  cases aa
  exact WP_exit fun a ha => zo (⟨exit_ne, q, ha.s, af⟩)
 rintro _ a a7 ⟨rfl, ha, aN⟩
 refine zn <| X <| S1 ha <| rR <| qm q <| qa q <| B <| W fun a ha => ?_
 obtain rfl := L h
 exact ret1 q ha q ⟨q, aN⟩
theorem w_impl_MarksOf {w G vp0 p0 p1 r} (h : impl_MarksOfS p0 p1 = some r) (hp0 : Has G ty12 vp0 p0) (H : Ctx w G) : Calls Tryz.prog 124 #[vp0, iV p1] w fun e w' => e = .returned (iV r) ∧ Holds M0 w w' [] G := by
 refine F0 32 H Tryz.func124 q fun H => ?_
 refine rR <| qa q <| B <| C <| zk <| qm q <| qm q <| O h fun x1 aj h => qc q c142 H (fun _ => w_impl_UsesOf aj (hp0)) <| qa q <| Qn H fun a ha w3 H5 => X <| S1 ha <| C <| rR <| qm q <| qi (qt_lss q q) q <| B ?_
 refine Yh q h (fun h => ?_) (fun h => ?_)
 ·cases h
  exact rR <| qa q <| B <| W fun a ha => m (ret1 q ha q ⟨q, H5⟩)
 refine y <| rR <| qa q <| B <| C <| rR <| qm q <| qz H5.ctx (hp0) u23 q <| qm q <| B <| g <| O h fun o9 ak h => ?_
 refine fun aG al => zp (I := fun (s7, s8) a w2 => (Fr a 32 [(5, iV x1), (6, iV s7), (14, vp0), (15, iV (List.length p0 : Int)), (16, iV s8)] ∧ Holds M0 w w2 [] G)) (O := fun q0 e a w2 => e = .exit 0 ∧ (Fr a 32 [(6, iV q0)] ∧ Holds M0 w w2 [] G)) ak ?_ ?_ ?_
 ·exact ⟨al.s, H5⟩
 ·rintro ⟨s7, s8⟩ _ a am aa ⟨ha, ae⟩
  refine S1 ha <| rR <| qi (qt_lss q q) q <| B <| C ?_
  refine Yh q aa (fun aa => ?_) (fun aa => ?_)
  ·refine y <| C <| g <| rR <| qm q <| O aa fun ab ag aa => qb ae.ctx (hp0) ag u23 i70 q fun aH aI aJ ao => ?_
   obtain ⟨aK, ap, aq⟩ := ae.atN (hp0) ag ao
   refine XL_load_agg (t := ty12) us70 uo70 i70 ap q q q fun aL ar => ?_
   obtain ⟨c29, c30, aM, aN, rfl, au, av, aw⟩ := ar
   obtain ⟨rfl, _⟩ := av
   obtain ⟨c36, c37, aO, aP, rfl, ax, ay, az⟩ := aw
   obtain ⟨ad, rfl, aA⟩ := Rep.sl_inv ay
   obtain ⟨rfl, _⟩ := az
   have aB : Holds _ w am [.ro ty2 ad ab.2.1] G := aq [.ro ty2 ad ab.2.1] ⟨⟨_, _, _, _, q, aA, (fun k h => (fun k h => (fun _ h => h) k (by rw [au]; exact zx _ h)) k (by rw [ax]; exact List.mem_append_left _ h))⟩, trivial⟩
   change XL _ _ _ _ _ ((20, .agg #[iV ab.1, ad, iV ab.2.2]) :: _) _
   refine zq (cs := [iV 0, nS, iV 0]) aB z70 q q q fun aQ aR ah => qa q <| zl (cs' := [iV ab.1, ad, iV ab.2.2]) ah q il70 q (T q (T (ah.ctx.sliceOne hR1) (T q q))) q q q fun aS af => rN <| qm q <| qm q <| O aa fun aT aC aa => qi (qt_shlO q q aC) q <| qi (qt_and q q) q <| qi (qt_neq q q) q <| B ?_
   refine Yh q aa (fun aa => ?_) (fun aa => ?_)
   ·cases aa
    exact Z <| qm q <| qf uf70 fi70_2 nz3 q <| ql u3 af.p0 q <| qi (qt_or q q) q <| qa q <| WL_nil fun a ha => zi <| X <| S1 ha <| Z <| qi (qt_add q q) q <| qm q <| WL_nil fun a ha => ⟨q, ha.s, af.q0.q0⟩
   cases aa
   exact WP_skip fun a ha => zi <| X <| S1 ha <| Z <| qi (qt_add q q) q <| qm q <| WL_nil fun a ha => ⟨q, ha.s, af.q0.q0⟩
  cases aa
  exact WP_exit fun a ha => zo (⟨exit_ne, q, ha.s, ae⟩)
 rintro _ a aU ⟨rfl, ha, aF⟩
 refine zn <| X <| S1 ha <| rR <| qm q <| qa q <| B <| W fun a ha => ?_
 obtain rfl := L h
 exact ret1 q ha q ⟨q, aF⟩
theorem w_impl_FreeOf {w G vp0 p0 p1 r} (h : impl_FreeOfS p0 p1 = some r) (hp0 : Has G ty12 vp0 p0) (H : Ctx w G) : Calls Tryz.prog 95 #[vp0, iV p1] w fun e w' => ∃ (v1 : Value), e = .returned (v1) ∧ Holds M0 w w' [.sl 3 tI v1 r] G := by
 refine F0 43 H Tryz.func95 q fun H => ?_
 refine rR <| qa q <| B <| C <| C <| zk <| qm q <| O h fun x1 aw h => qc q c103 H (fun _ => w_impl_ItemsValid aw (hp0)) <| qi (qt_not q) q <| qm q ?_
 refine Go (res := ((!x1) || (decide (p1 < 0)))) 2 os (fun ah K4 ax => ?_) ?_
 ·exact jm ah q <| ji (qt_lss q q) ah q <| ax 2 q q q (oi ah)
 refine qm q ?_
 refine Go (res := (((!x1) || (decide (p1 < 0))) || (decide (p1 > 31)))) 2 os (fun aj K7 ay => ?_) ?_
 ·exact jm aj q <| ji (qt_gtr q q) aj q <| ay 2 q q q (oi aj)
 refine Qn H fun a ha w9 ak => X <| S1 ha ?_
 refine Yh q h (fun h => ?_) (fun h => ?_)
 ·cases h
  exact rR <| qa q <| B <| W fun a ha => have az := ak.nS 3 tI; m (ret1 q ha q ⟨(nS), q, az⟩)
 refine y <| rR <| qa q <| B <| C <| rR <| qm q <| qz ak.ctx (hp0) u23 q <| qm q <| B <| g <| have aA := ak.nS 3 tI; O h fun a2 aB h => ?_
 refine fun a3 aC => zp (I := fun (al, am) a w2 => ∃ ad, Fr a 43 [(0, vp0), (1, iV p1), (5, ad), (19, vp0), (20, iV (List.length p0 : Int)), (21, iV am)] ∧ Holds M0 w w2 [.sl 3 tI ad al] G) (O := fun q0 e a w2 => e = .exit 0 ∧ ∃ aq, Fr a 43 [(5, aq)] ∧ Holds M0 w w2 [.sl 3 tI aq q0] G) aB ?_ ?_ ?_
 ·exact ⟨(nS), aC.s, aA⟩
 ·rintro ⟨al, am⟩ _ a aD aa ⟨ad, ha, ao⟩
  refine S1 ha <| rR <| qi (qt_lss q q) q <| B <| C ?_
  refine Yh q aa (fun aa => ?_) (fun aa => ?_)
  ·refine y <| C <| g <| rR <| qm q <| O aa fun ae ar aa => qb ao.ctx (hp0.c) ar u23 i70 q fun a4 a5 a6 aE => ?_
   obtain ⟨a7, aF, aG⟩ := ao.atN (hp0.c) ar aE
   refine XL_load_agg (t := ty12) us70 uo70 i70 aF q q q fun a8 aH => ?_
   obtain ⟨c37, c38, a9, ba, rfl, aI, aJ, aK⟩ := aH
   obtain ⟨rfl, _⟩ := aJ
   obtain ⟨c44, c45, bb, bc, rfl, aL, aM, aN⟩ := aK
   obtain ⟨ag, rfl, aO⟩ := Rep.sl_inv aM
   obtain ⟨rfl, _⟩ := aN
   have aP : Holds _ w aD [.ro ty2 ag ae.2.1, .sl 3 tI ad al] G := aG [.ro ty2 ag ae.2.1] ⟨⟨_, _, _, _, q, aO, (fun k h => (fun k h => (fun _ h => h) k (by rw [aI]; exact zx _ h)) k (by rw [aL]; exact List.mem_append_left _ h))⟩, trivial⟩
   change XL _ _ _ _ _ ((25, .agg #[iV ae.1, ag, iV ae.2.2]) :: _) _
   refine zq (cs := [iV 0, nS, iV 0]) aP z70 q q q fun bd be au => qa q <| zl (cs' := [iV ae.1, ag, iV ae.2.2]) au q il70 q (T q (T (au.ctx.sliceOne hR1) (T q q))) q q q fun bf ap => B <| C <| zk <| qf uf70 fi70_0 nz3 q <| ql u3 ap.p0 q <| qi (qt_gtr q q) q <| qm q <| O aa fun aQ af aa => ?_
   refine Ga (res := aQ) 6 (if_f · af) (fun ab bg aR => ?_) ?_
   ·exact have af := if_t ab af; jm ab q <| jm ab q <| O af fun bh aS af => jc ab q c124 ap (fun _ => w_impl_MarksOf aS (hp0.c.c.c)) <| jm ab q <| ji (qt_and q q) ab q <| ji (qt_eql q q) ab q <| aR 6 q q q af
   refine Qn ap fun a ha bi av => X <| S1 ha ?_
   refine Yh q aa (fun aa => ?_) (fun aa => ?_)
   ·refine Z <| qm q <| qm q <| zs (t := tI) (args := [.tmp 38]) (xs := ([am] : List Int)) av (BltL.cons (Blt.int) q (BltL.nil)) u24 j3 q q q q q q fun bj bk aT => O aa fun bl aV aa => zw aT.p3 hS1 aV u24 j3 q q q q q q fun aW bm aX => qa q <| WL_nil fun a ha => zi <| X <| S1 ha <| Z <| qi (qt_add q q) q <| qm q <| WL_nil fun a ha => ?_
    cases aa
    exact ⟨q, aW, ha.s, aX.q1.q1.q1⟩
   cases aa
   exact WP_skip fun a ha => zi <| X <| S1 ha <| Z <| qi (qt_add q q) q <| qm q <| WL_nil fun a ha => ⟨q, ad, ha.s, av.q0.q0⟩
  cases aa
  exact WP_exit fun a ha => zo (⟨exit_ne, q, ad, ha.s, ao⟩)
 rintro _ a bn ⟨rfl, a0, ha, a1⟩
 refine zn <| X <| S1 ha <| rR <| qm q <| qa q <| B <| W fun a ha => ?_
 obtain rfl := L h
 exact ret1 q ha q ⟨a0, q, a1⟩
theorem w_slices_Index___int_int {w G vp0 p0 p1 r} (h : slices_Index___int_intS p0 p1 = some r) (hp0 : Has G tI vp0 p0) (H : Ctx w G) : Calls Tryz.prog 129 #[vp0, iV p1] w fun e w' => e = .returned (iV r) ∧ Holds M0 w w' [] G := by
 refine F0 19 H Tryz.func129 q fun H => ?_
 refine rR <| qa q <| B <| C <| rR <| qm q <| qz H.ctx (hp0) u24 q <| qm q <| B <| g <| O h fun o2 ae h => ?_
 refine fun a4 af => zp (I := fun s1 a w2 => (Fr a 19 [(0, vp0), (1, iV p1), (7, iV (List.length p0 : Int)), (8, iV s1)] ∧ Holds M0 w w2 [] G)) (O := fun o e a w2 => match o with | .inl _ => e = .exit 0 ∧ (Fr a 19 [] ∧ Holds M0 w w2 [] G) | .inr q0 => e = .ret ∧ (Fr a 19 [(4, iV q0)] ∧ Holds M0 w w2 [] G)) ae ?_ ?_ ?_
 ·exact ⟨af.s, H⟩
 ·rintro s1 _ a w6 aa ⟨ha, ab⟩
  refine S1 ha <| rR <| qi (qt_lss q q) q <| B <| C ?_
  refine Yh q aa (fun aa => ?_) (fun aa => ?_)
  ·refine y <| C <| g <| rR <| qm q <| qa q <| B <| C <| Z <| qm q <| qm q <| qm q <| O aa fun ak ad aa => qe ab (hp0) ad u24 i3 q fun _ _ ag => eI u3 ag q <| qi (qt_eql q q) q <| B ?_
   refine Yh q aa (fun aa => ?_) (fun aa => ?_)
   ·cases aa
    exact rR <| qm q <| qa q <| B <| W fun a ha => zj (m (⟨ret_ne, q, ha.s, ab⟩))
   cases aa
   exact WP_skip fun a ha => zi <| X <| S1 ha <| Z <| qi (qt_add q q) q <| qm q <| WL_nil fun a ha => ⟨q, ha.s, ab⟩
  cases aa
  exact WP_exit fun a ha => zo (⟨exit_ne, q, ha.s, ab⟩)
 intro e a ap hO18
 rcases o2 with o2 | o2
 ·obtain ⟨rfl, ha, ah⟩ := hO18
  cases h
  exact zn <| X <| S1 ha <| rR <| qa q <| B <| W fun a ha => ret1 q ha q ⟨q, ah⟩
 obtain ⟨rfl, ha, aj⟩ := hO18
 obtain rfl := L h
 exact zj (m (ret1 q ha q ⟨q, aj⟩))
theorem w_slices_Contains___int_int {w G vp0 p0 p1 r} (h : slices_Contains___int_intS p0 p1 = some r) (hp0 : Has G tI vp0 p0) (H : Ctx w G) : Calls Tryz.prog 105 #[vp0, iV p1] w fun e w' => e = .returned (.bool r) ∧ Holds M0 w w' [] G := by
 refine F0 9 H Tryz.func105 q fun H => ?_
 refine rR <| qa q <| B <| C <| zk <| qm q <| qm q <| O h fun x1 aa h => qc q c129 H (fun _ => w_slices_Index___int_int aa (hp0)) <| qi (qt_geq q q) q <| qa q <| Qn H fun a ha w3 H5 => X <| S1 ha <| W fun a ha => ?_
 cases h
 exact ret1 q ha q ⟨q, H5⟩
theorem w_impl_tableValid {w G vp0 p0 p1_0 A1_1 p1_1 A1_2 p1_2 r} (h : impl_tableValidS p0 p1_0 p1_1 p1_2 = some r) (hp0 : Has G ty12 vp0 p0) (hp1_1 : Has G ty2 A1_1 p1_1) (hp1_2 : Has G tI A1_2 p1_2) (H : Ctx w G) : Calls Tryz.prog 60 #[vp0, .agg #[iV p1_0, A1_1, A1_2]] w fun e w' => e = .returned (.bool r) ∧ Holds M0 w w' [] G := by
 refine F0 47 H Tryz.func60 q fun H => ?_
 refine C <| Z <| WL_box (cs := [iV p1_0, A1_1, A1_2]) H q q q q fun b1 w2 H3 => qa q <| B <| C <| C <| zk <| qf uf38 fi38_0 nz3 q <| ql u3 H3.p0 q <| qi (qt_lss q q) q <| qm q ?_
 refine Go (res := ((decide (p1_0 < 0)) || (decide (p1_0 > 31)))) 3 os (fun ag K7 au => ?_) ?_
 ·exact jf uf38 fi38_0 nz3 ag q <| jl u3 H3.p0 ag q <| ji (qt_gtr q q) ag q <| au 3 q q q (oi ag)
 refine qm q <| O h fun al ad h => ?_
 refine Go (res := al) 4 (if_t · ad) (fun ae aL av => ?_) ?_
 ·exact have ad := if_f ae ad; jf uf38 fi38_1 nz36 ae q <| jl u36 H3.p0 ae q <| O ad fun aM aw ad => jc ae q c104 H3 (fun _ => w_impl_TicketValid aw (hp1_1.c)) <| ji (qt_not q) ae q <| av 4 q q q ad
 refine qm q ?_
 refine Go (res := (al || ((List.length p1_2 : Int) != (List.length p1_1 : Int)))) 7 os (fun ab aN ax => ?_) ?_
 ·exact jf uf38 fi38_2 nz24 ab q <| jl u24 H3.p0 ab q <| jz H3.ctx (hp1_2.c) u24 ab q <| jf uf38 fi38_1 nz36 ab q <| jl u36 H3.p0 ab q <| jz H3.ctx (hp1_1.c) u36 ab q <| ji (qt_neq q q) ab q <| ax 7 q q q (oi ab)
 refine Qn H3 fun a ha aO ah => X <| S1 ha ?_
 refine Yh q h (fun h => ?_) (fun h => ?_)
 ·cases h
  exact rR <| qa q <| B <| W fun a ha => m (ret1 q ha q ⟨q, ah.q0⟩)
 refine y <| rR <| qm q <| qf uf38 fi38_0 nz3 q <| ql u3 ah.p0 q <| O h fun az aA h => U1 q c95 (w_impl_FreeOf aA (hp0.c) ah.ctx) fun am aP aB => have aj := ah.cN1 [] aB; qa q <| B <| C <| rR <| qf uf38 fi38_2 nz24 q <| ql u24 aj.p1 q <| qz aj.ctx (hp1_2.c.c) u24 q <| qm q <| B <| g <| O h fun ak aC h => ?_
 refine fun aQ aE => zp (I := fun ao a w2 => (Fr a 47 [(5, am), (36, A1_2), (37, iV (List.length p1_2 : Int)), (38, iV ao)] ∧ Holds M0 w w2 [.sl 3 tI am az] G)) (O := fun o e a w2 => match o with | .inl _ => e = .exit 0 ∧ (Fr a 47 [] ∧ Holds M0 w w2 [] G) | .inr q0 => e = .ret ∧ (Fr a 47 [(4, .bool q0)] ∧ Holds M0 w w2 [] G)) aC ?_ ?_ ?_
 ·exact ⟨aE.s, aj.q1⟩
 ·rintro ao _ a aR aa ⟨ha, af⟩
  refine S1 ha <| rR <| qi (qt_lss q q) q <| B <| C ?_
  refine Yh q aa (fun aa => ?_) (fun aa => ?_)
  ·refine y <| C <| g <| rR <| O aa fun aS ap aa => qe af (hp1_2.c) ap u24 i3 q fun _ _ aF => eI u3 aF q <| qa q <| B <| C <| zk <| qm q <| qm q <| O aa fun aW aG aa => qc q c105 af (fun _ => w_slices_Contains___int_int aG hS0) <| qi (qt_not q) q <| Qn af fun a ha aX aq => X <| S1 ha ?_
   refine Yh q aa (fun aa => ?_) (fun aa => ?_)
   ·cases aa
    exact rR <| qa q <| B <| W fun a ha => zj (m (⟨ret_ne, q, ha.s, aq.q0⟩))
   cases aa
   exact WP_skip fun a ha => zi <| X <| S1 ha <| Z <| qi (qt_add q q) q <| qm q <| WL_nil fun a ha => ⟨q, ha.s, aq⟩
  cases aa
  exact WP_exit fun a ha => zo (⟨exit_ne, q, ha.s, af.q0⟩)
 intro e a aY ar
 rcases ak with ak | ak
 ·obtain ⟨rfl, ha, aJ⟩ := ar
  cases h
  exact zn <| X <| S1 ha <| rR <| qa q <| B <| W fun a ha => ret1 q ha q ⟨q, aJ⟩
 obtain ⟨rfl, ha, aK⟩ := ar
 obtain rfl := L h
 exact zj (m (ret1 q ha q ⟨q, aK⟩))
theorem w_impl_HouseValid {w G A0 B0 A1 B1 A2 B2 B3 A4 B4 r} (h : impl_HouseValidS B0 B1 B2 B3 B4 = some r) (C0 : Has G ty12 A0 B0) (C1 : Has G tI A1 B1) (C2 : Has G tI A2 B2) (C4 : Has G ty14 A4 B4) (H : Ctx w G) : Calls Tryz.prog 17 #[.agg #[A0, A1, A2, iV B3, A4]] w fun e w' => e = .returned (.bool r) ∧ Holds M0 w w' [] G := by
 refine F0 47 H Tryz.func17 q fun H => ?_
 refine C <| Z <| WL_box (cs := [A0, A1, A2, iV B3, A4]) H q q q q fun b1 w2 H3 => qa q <| B <| C <| C <| zk <| qf uf27 fi27_0 nz23 q <| ql u23 H3.p0 q <| qf uf27 fi27_1 nz24 q <| ql u24 H3.p0 q <| O h fun x7 ay h => qc q c58 H3 (fun _ => w_impl_PricesValid ay (C0.c) (C1.c)) <| qi (qt_not q) q <| qm q <| O h fun b9 ae h => ?_
 refine Go (res := b9) 7 (if_t · ae) (fun ad aZ az => ?_) ?_
 ·exact have ae := if_f ad ae; jf uf27 fi27_2 nz24 ad q <| jl u24 H3.p0 ad q <| jf uf27 fi27_0 nz23 ad q <| jl u23 H3.p0 ad q <| jz H3.ctx (C0.c) u23 ad q <| O ae fun a0 aA ae => jc ad q c59 H3 (fun _ => w_impl_amountsOk aA (C2.c)) <| ji (qt_not q) ad q <| az 7 q q q ae
 refine Qn H3 fun a ha a1 ab => X <| S1 ha ?_
 refine Yh q h (fun h => ?_) (fun h => ?_)
 ·cases h
  exact rR <| qa q <| B <| W fun a ha => m (ret1 q ha q ⟨q, ab.q0⟩)
 refine y <| C <| rR <| qf uf27 fi27_3 nz3 q <| ql u3 ab.p0 q <| qi (qt_lss q q) q <| qm q ?_
 refine Ho (res := ((decide (B3 < 0)) || (decide (B3 > 99999)))) 3 os (fun ah a2 aC => ?_) ?_
 ·exact jf uf27 fi27_3 nz3 ah q <| jl u3 ab.p0 ah q <| ji (qt_gtr q q) ah q <| aC 3 q q q (oi ah)
 refine qm q ?_
 refine Ho (res := (((decide (B3 < 0)) || (decide (B3 > 99999))) || (decide ((List.length B4 : Int) > 4)))) 4 os (fun ag a3 aD => ?_) ?_
 ·exact jf uf27 fi27_4 nz25 ag q <| jl u25 ab.p0 ag q <| jz ab.ctx (C4.c) u25 ag q <| ji (qt_gtr q q) ag q <| aD 4 q q q (oi ag)
 refine B ?_
 refine Yh q h (fun h => ?_) (fun h => ?_)
 ·cases h
  exact rR <| qa q <| B <| W fun a ha => m (ret1 q ha q ⟨q, ab.q0⟩)
 refine y <| C <| rR <| qf uf27 fi27_4 nz25 q <| ql u25 ab.p0 q <| qz ab.ctx (C4.c) u25 q <| qm q <| B <| g <| O h fun am aF h => ?_
 refine fun a4 aG => zp (I := fun aq a w2 => (Fr a 47 [(1, pB b1), (35, A4), (36, iV (List.length B4 : Int)), (37, iV aq)] ∧ Holds M0 w w2 [.bx b1 27 [A0, A1, A2, iV B3, A4]] G)) (O := fun o e a w2 => match o with | .inl _ => e = .exit 0 ∧ (Fr a 47 [] ∧ Holds M0 w w2 [] G) | .inr q0 => e = .ret ∧ (Fr a 47 [(2, .bool q0)] ∧ Holds M0 w w2 [] G)) aF ?_ ?_ ?_
 ·exact ⟨aG.s, ab⟩
 ·rintro aq _ a aH aa ⟨ha, ao⟩
  refine S1 ha <| rR <| qi (qt_lss q q) q <| B <| C ?_
  refine Yh q aa (fun aa => ?_) (fun aa => ?_)
  ·refine y <| C <| g <| rR <| O aa fun af ar aa => qb ao.ctx (C4.c) ar u25 i38 q fun a5 a6 a7 aI => ?_
   obtain ⟨a8, aJ, aK⟩ := ao.atN (C4.c) ar aI
   refine XL_load_agg (t := ty14) us38 uo38 i38 aJ q q q fun a9 aL => ?_
   obtain ⟨c55, c56, ba, bb, rfl, au, aM, aN⟩ := aL
   obtain ⟨rfl, _⟩ := aM
   obtain ⟨bc, bd, be, bf, rfl, av, aO, aP⟩ := aN
   obtain ⟨aj, rfl, aQ⟩ := Rep.sl_inv aO
   obtain ⟨ak, rfl, aR⟩ := Rep.sl_inv aP
   have aS : Holds _ w aH [.ro ty2 aj af.2.1, .ro tI ak af.2.2, .bx b1 27 [A0, A1, A2, iV B3, A4]] G := aK [.ro ty2 aj af.2.1, .ro tI ak af.2.2] ⟨⟨_, _, _, _, q, aQ, (fun k h => (fun k h => (fun _ h => h) k (by rw [au]; exact zx _ h)) k (by rw [av]; exact List.mem_append_left _ h))⟩, ⟨_, _, _, _, q, aR, (fun k h => (fun k h => (fun _ h => h) k (by rw [au]; exact zx _ h)) k (by rw [av]; exact zx _ h))⟩, trivial⟩
   change XL _ _ _ _ _ ((40, .agg #[iV af.1, aj, ak]) :: _) _
   refine zq (cs := [iV 0, nS, nS]) aS z38 q q q fun bg bh ap => zl (cs' := [iV af.1, aj, ak]) ap q il38 q (T q (T (ap.ctx.sliceOne hR1) (T (ap.ctx.sliceOne hR2) q))) q q q fun bi al => B <| C <| zk <| qf uf27 fi27_0 nz23 q <| ql u23 al.p3 q <| eA al.p0 us38 uo38 il38 q <| O aa fun bj aT aa => qc q c60 al (fun _ => w_impl_tableValid aT (C0.c.c.c.c) hR1 hR2) <| qi (qt_not q) q <| Qn al fun a ha bk aw => X <| S1 ha ?_
   refine Yh q aa (fun aa => ?_) (fun aa => ?_)
   ·cases aa
    exact rR <| qa q <| B <| W fun a ha => zj (m (⟨ret_ne, q, ha.s, aw.q0.q0.q0.q0⟩))
   cases aa
   exact WP_skip fun a ha => zi <| X <| S1 ha <| Z <| qi (qt_add q q) q <| qm q <| WL_nil fun a ha => ⟨q, ha.s, aw.q0.q0.q0⟩
  cases aa
  exact WP_exit fun a ha => zo (⟨exit_ne, q, ha.s, ao.q0⟩)
 intro e a bl ax
 rcases am with am | am
 ·obtain ⟨rfl, ha, aX⟩ := ax
  cases h
  exact zn <| X <| S1 ha <| rR <| qa q <| B <| W fun a ha => ret1 q ha q ⟨q, aX⟩
 obtain ⟨rfl, ha, aY⟩ := ax
 obtain rfl := L h
 exact zj (m (ret1 q ha q ⟨q, aY⟩))
theorem w_impl_copyInts {w G vp0 p0 r} (h : impl_copyIntsS p0 = some r) (hp0 : Has G tI vp0 p0) (H : Ctx w G) : Calls Tryz.prog 81 #[vp0] w fun e w' => ∃ (v1 : Value), e = .returned (v1) ∧ Holds M0 w w' [.sl 3 tI v1 r] G := by
 refine F0 14 H Tryz.func81 q fun H => ?_
 refine rR <| qa q <| B <| C <| rR <| qm q <| qz H.ctx (hp0) u24 q <| qi (qt_eql q q) q <| B ?_
 refine Yh q h (fun h => ?_) (fun h => ?_)
 ·cases h
  exact rR <| qa q <| B <| W fun a ha => have H1 := H.nS 3 tI; m (ret1 q ha q ⟨(nS), q, H1⟩)
 refine y <| rR <| qm q <| qz H.ctx (hp0) u24 q <| O h fun x2 aa h => WL_makeH H aa u24 j3 q (fun _ => ⟨q, q⟩) q q q q q fun v4 w5 H6 => qa q <| rN <| qm q <| qm q <| WL_copyH q H6 (hp0.c) q u24 i3 q q q q fun w8 H9 => rN <| qm q <| qa q <| B <| W fun a ha => ?_
 cases h
 exact ret1 q ha q ⟨v4, q, H9⟩
theorem w_impl_copyItem {w G B0 A1 B1 B2 r} (h : impl_copyItemS B0 B1 B2 = some r) (C1 : Has G ty2 A1 B1) (H : Ctx w G) : Calls Tryz.prog 82 #[.agg #[iV B0, A1, iV B2]] w fun e w' => ∃ (v1 : Value), e = .returned (.agg #[iV r.1, v1, iV r.2.2]) ∧ Holds M0 w w' [.sl 79 ty2 v1 r.2.1] G := by
 refine F0 24 H Tryz.func82 q fun H => ?_
 refine C <| Z <| WL_box (cs := [iV B0, A1, iV B2]) H q q q q fun b1 w2 H3 => zq (cs := [iV 0, nS, iV 0]) H3 z70 q q q fun b5 w6 H7 => rN <| qf uf70 fi70_0 nz3 q <| ql u3 H7.p1 q <| qf uf70 fi70_2 nz3 q <| ql u3 H7.p1 q <| qi (qt_build (args := [(0, .tmp 5), (2, .tmp 7)]) (css := [#[iV B0], #[iV B2]]) (cells := #[iV B0, nS, iV B2]) q ⟨q, q, trivial⟩ (by kernel_rfl)) q <| zq (cs := [iV 0, nS, iV 0]) H7 z70 q q q fun ah az ak => zl (cs' := [iV B0, nS, iV B2]) ak q il70 q q q q q fun aA ab => B <| C <| rR <| qf uf70 fi70_1 nz68 q <| ql u68 ab.p2 q <| qz ab.ctx (C1.c.c.c) u68 q <| qi (qt_gtr q q) q <| B <| O h fun al aa h => ?_
 refine WP_join (M := fun a w2 => ∃ ad, Fr a 24 [(2, pB b5), (3, pB ah)] ∧ Holds M0 w w2 [.bx b5 70 [iV 0, nS, iV 0], .bx ah 70 [iV B0, ad, iV B2], .sl 79 ty2 ad al] G) ?_ ?_
 ·refine Yh q aa (fun aa => ?_) (fun aa => ?_)
  ·refine rR <| qf uf70 fi70_1 nz68 q <| ql u68 ab.p2 q <| qz ab.ctx (C1.c.c.c) u68 q <| O aa fun aB am aa => WL_makeH ab am u68 j79 q (fun _ => ⟨_, _, [], [], q, q, ⟨q, q⟩, ⟨q, q⟩⟩) q q q q q fun ao aC ap => qf uf70 fi70_1 nz68 q <| have ae := ap.p1; WL_store_bx ae q il68 (ae.ctx.sliceCells hS1) (ae.ctx.sliceOne hS1) q q q fun aD af => B <| Z <| qf uf70 fi70_1 nz68 q <| ql u68 af.p0 q <| qf uf70 fi70_1 nz68 q <| ql u68 af.p3 q <| WL_copyH q af.p1 (C1.c.c.c.c) q u68 i79 q q q q fun aE ar => WL_nil fun a ha => ?_
   cases aa
   exact X (⟨ao, ha.s, ar.q3.p1.p2⟩)
  cases aa
  exact WP_skip fun a ha => have av := ab.nS 79 ty2; X (⟨(nS), ha.s, av.q3.p1.p2⟩)
 rintro a aF ⟨ad, ha, ag⟩
 cases h
 exact S1 ha <| rR <| eA ag.p1 us70 uo70 il70 q <| zl (cs' := [iV B0, ad, iV B2]) ag q il70 q (T q (T (ag.ctx.sliceOne hS2) (T q q))) q q q fun aG aj => B <| W fun a ha => have ax := R aj.p0; retc q ha q (run_loadVar_bx (cs := [iV B0, ad, iV B2]) us70 uo70 il70 ax) ⟨ad, q, aj.q0.q0⟩
theorem w_impl_copyTicket {w G vp0 p0 r} (h : impl_copyTicketS p0 = some r) (hp0 : Has G ty2 vp0 p0) (H : Ctx w G) : Calls Tryz.prog 83 #[vp0] w fun e w' => ∃ (v1 : Value), e = .returned (v1) ∧ Holds M0 w w' [.sl 123 ty2 v1 r] G := by
 refine F0 14 H Tryz.func83 q fun H => ?_
 refine rR <| qa q <| B <| C <| rR <| qm q <| qz H.ctx (hp0) u36 q <| qi (qt_eql q q) q <| B ?_
 refine Yh q h (fun h => ?_) (fun h => ?_)
 ·cases h
  exact rR <| qa q <| B <| W fun a ha => have H1 := H.nS 123 ty2; m (ret1 q ha q ⟨(nS), q, H1⟩)
 refine y <| rR <| qm q <| qz H.ctx (hp0) u36 q <| O h fun x2 aa h => WL_makeH H aa u36 j123 q (fun _ => ⟨_, _, [], [], q, q, ⟨q, q⟩, ⟨q, q⟩⟩) q q q q q fun v4 w5 H6 => qa q <| rN <| qm q <| qm q <| WL_copyH q H6 (hp0.c) q u36 i123 q q q q fun w8 H9 => rN <| qm q <| qa q <| B <| W fun a ha => ?_
 cases h
 exact ret1 q ha q ⟨v4, q, H9⟩
end Go.Proofs.YtkhnponakhabdaaGreatDoor
