/- The walks: each Go function computes its shallow function. Printed by a program. -/
import Derived.Test.YtpabogkcmbkffaaGreatDoorWS7C4
set_option linter.unusedVariables false
set_option maxRecDepth 10000
set_option maxHeartbeats 8000000
namespace Go.Proofs.YtpabogkcmbkffaaGreatDoor
open Go Go.RowKit
theorem w_spec_l20House (w : World) (G : List Res) (bp0 : Nat) (A0 : Value) (B0 : List Int) (C0 : Has G (.int .u8) A0 B0) (B1 : Int) (p1 : Int) (r : Int × (LI × (List Int) × (List Int) × Int × LT)) (h : spec_l20HouseS B0 B1 p1 = some r) (H : Ctx w ([.bx bp0 89 [A0, iV B1]] ++ G)) : Calls Tryz.prog 24 #[pB bp0, iV p1] w fun e w' => ∃ (v1 : Value) (v2 : Value) (v3 : Value) (v4 : Value), e = .returned (.agg #[v1, v2, v3, iV r.2.2.2.2.1, v4]) ∧ Holds (([.bx bp0 89 [A0, iV B1]] : List Res).flatMap Res.own) w w' [.sl 55 ty10 v1 r.2.1, .sl 3 tI v2 r.2.2.1, .sl 3 tI v3 r.2.2.2.1, .sl 47 ty12 v4 r.2.2.2.2.2, .bx bp0 89 [A0, iV r.1]] G := by
 have H : Holds (([.bx bp0 89 [A0, iV B1]] : List Res).flatMap Res.own) w w [.bx bp0 89 [A0, iV B1]] G := zb H
 refine zg (args := [pB bp0, iV p1]) (n := 79) Tryz.func24 q q q ?_
 unfold spec_l20HouseS at h
 refine C <| Z ?_
 refine zq (cs := [nS, nS, nS, iV 0, nS]) H z27 q q q (fun b1 w2 H3 => ?_)
 refine rN <| qM q q q ?_
 have H7 := H3.p1
 obtain ⟨x5, bA, h⟩ := D h
 refine zd q q c57 (w_spec_l20Items w2 _ bp0 A0 B0 (C0.c) B1 0 x5 bA H7.ctx) (by rfl) ?_
 rintro _ w8 ⟨aF, rfl, H9⟩; refine ⟨_, q, ?_⟩
 have bB := H7.cN2 [_] H9
 refine qA q q q <| rN <| qM q q q <| qM q q q <| qM q q q ?_
 have a8 := bB.p1
 obtain ⟨a9, bC, h⟩ := D h
 refine zd q q c58 (w_spec_l20Prices w8 _ bp0 A0 B0 (C0.c.c) x5.1 aF x5.2 hS0 0 a9 bC a8.ctx) (by rfl) ?_
 rintro _ bD ⟨aL, rfl, bE⟩; refine ⟨_, q, ?_⟩
 have bF := a8.cN2 [_] bE
 refine qM q q q <| qM q q q ?_
 have ba := bF.p1
 obtain ⟨bb, bG, h⟩ := D h
 refine zd q q c59 (w_spec_l20Amounts bD _ bp0 A0 B0 (C0.c.c.c) a9.1 aF x5.2 hS1 0 bb bG ba.ctx) (by rfl) ?_
 rintro _ bH ⟨aM, rfl, bI⟩; refine ⟨_, q, ?_⟩
 have bJ := ba.cN2 [_] bI
 refine qM q q q ?_
 have bc := bJ.p1
 obtain ⟨aG, bK, h⟩ := D h
 refine zd q q c60 (w_spec_l20Rd__pick bH _ bp0 A0 B0 (C0.c.c.c.c) bb.1 256 aG bK bc.ctx) (by rfl) ?_
 rintro _ bL ⟨rfl, bM⟩; refine ⟨_, q, ?_⟩
 have bd := bc.cN1 [_] bM
 refine qM q q q ?_
 obtain ⟨aH, bN, h⟩ := D h
 refine zd q q c60 (w_spec_l20Rd__pick bL _ bp0 A0 B0 (C0.c.c.c.c) aG.1 9 aH bN bd.ctx) (by rfl) ?_
 rintro _ dg ⟨rfl, bO⟩; refine ⟨_, q, ?_⟩
 have aN := bd.cN1 [_] bO
 refine A q (qt_mul q q) q q <| A q (qt_build (args := [(0, .tmp 12), (1, .tmp 15), (2, .tmp 18), (3, .tmp 23)]) (css := [#[aF], #[aL], #[aM], #[iV (IntKind.wrap .i64 (aG.2 * aH.2))]]) (cells := #[aF, aL, aM, iV (IntKind.wrap .i64 (aG.2 * aH.2)), nS]) q ⟨(aN.ctx.sliceCells hS3), (aN.ctx.sliceCells hS2), (aN.ctx.sliceCells hS1), q, trivial⟩ (by kernel_rfl)) q q ?_
 refine zq (cs := [nS, nS, nS, iV 0, nS]) aN z27 q q q (fun ak dh aO => ?_)
 refine zl (cs' := [aF, aL, aM, iV (IntKind.wrap .i64 (aG.2 * aH.2)), nS]) aO q il27 q (T (aO.ctx.sliceOne hS4) (T (aO.ctx.sliceOne hS3) (T (aO.ctx.sliceOne hS2) (T q (T q q))))) q q q (fun bP bQ => ?_)
 refine B <| C <| rR <| qM q q q ?_
 have be := bQ.p1
 obtain ⟨bR, bS, h⟩ := D h
 refine zd q q c60 (w_spec_l20Rd__pick bP _ bp0 A0 B0 (C0.c.c.c.c.c) aH.1 24 bR bS be.ctx) (by rfl) ?_
 rintro _ di ⟨rfl, bT⟩; refine ⟨_, q, ?_⟩
 have bU := be.cN1 [_] bT
 refine qA q q q <| B <| g ?_
 have bV := bU.nS 47 ty12
 obtain ⟨bW, bX, h⟩ := D h
 have bY := bV.p3.p4.p5.p5.p6.p6
 refine fun bZ bf => zp (I := fun s a w2 => match s with | (aQ, ap, al, am, an, ai, ao) => ∃ ab ad ae af, Fr a 79 [(0, pB bp0), (1, iV p1), (4, pB b1), (6, pB ak), (7, iV aQ)] ∧ Holds (([.bx bp0 89 [A0, iV B1]] : List Res).flatMap Res.own) w w2 [.bx bp0 89 [A0, iV ap], .bx b1 27 [nS, nS, nS, iV 0, nS], .bx ak 27 [ab, ad, ae, iV ai, af], .sl 55 ty10 ab al, .sl 3 tI ad am, .sl 3 tI ae an, .sl 47 ty12 af ao] G) (O := fun o e a w2 => match o with | (q0, q1, q2, q3, q4, q5) => e = .exit 0 ∧ ∃ bg bh bi bj, Fr a 79 [(0, pB bp0), (1, iV p1), (4, pB b1), (6, pB ak)] ∧ Holds (([.bx bp0 89 [A0, iV B1]] : List Res).flatMap Res.own) w w2 [.bx bp0 89 [A0, iV q0], .bx b1 27 [nS, nS, nS, iV 0, nS], .bx ak 27 [bg, bh, bi, iV q4, bj], .sl 55 ty10 bg q1, .sl 3 tI bh q2, .sl 3 tI bi q3, .sl 47 ty12 bj q5] G) bX ?_ ?_ ?_
 ·exact ⟨aF, aL, aM, (nS), bf.sub ⟨q, q, q, q, q, trivial⟩, bY⟩
 ·clear bf
  intro s dj a dk ah b0
  obtain ⟨aQ, ap, al, am, an, ai, ao⟩ := s
  obtain ⟨ab, ad, ae, af, ha, bk⟩ := b0
  refine S ?_ ha
  clear ha
  refine C <| rR <| qM q q q <| A q (qt_gtr q q) q q <| B ?_
  refine Y q (fun aR => ?_) (fun aR => ?_)
  ·have ah := if_t aR ah
   refine y <| C <| g <| C ?_
   obtain ⟨aj, bl, ah⟩ := D ah
   obtain ⟨ag, bm, ah⟩ := D ah
   refine WP_join (M := fun a w2 => ∃ aS au av aw ax, Fr a 79 [(0, pB bp0), (1, iV p1), (4, pB b1), (6, pB ak), (7, iV aQ), (8, pB aS), (9, .bool ag.2)] ∧ Holds (([.bx bp0 89 [A0, iV B1]] : List Res).flatMap Res.own) w w2 [.bx bp0 89 [A0, iV aj.1], .bx b1 27 [nS, nS, nS, iV 0, nS], .bx ak 27 [ab, ad, ae, iV ai, af], .sl 55 ty10 ab al, .sl 3 tI ad am, .sl 3 tI ae an, .sl 47 ty12 af ao, .bx aS 27 [au, av, aw, iV ag.1.2.2.2.1, ax], .sl 55 ty10 au ag.1.1, .sl 3 tI av ag.1.2.1, .sl 3 tI aw ag.1.2.2.1, .sl 47 ty12 ax ag.1.2.2.2.2] G) ?_ ?_
   ·refine WP_ordersT (fun w1 w2 => Chg (([.bx bp0 89 [A0, iV ap]] : List Res).flatMap Res.own) w1 w2) 10 (by kernel_rfl) (fun aT b4 => ?_)
    have bn := bk.grow b4
    have aU : Ctx aT ([.bx bp0 89 [A0, iV ap]] ++ ([.bx b1 27 [nS, nS, nS, iV 0, nS], .bx ak 27 [ab, ad, ae, iV ai, af], .sl 55 ty10 ab al, .sl 3 tI ad am, .sl 3 tI ae an, .sl 47 ty12 af ao] ++ G)) := bn.ctx
    have b5 : Holds _ aT aT [.bx bp0 89 [A0, iV ap]] ([.bx b1 27 [nS, nS, nS, iV 0, nS], .bx ak 27 [ab, ad, ae, iV ai, af], .sl 55 ty10 ab al, .sl 3 tI ad am, .sl 3 tI ae an, .sl 47 ty12 af ao] ++ G) := zb (Rs := [.bx bp0 89 [A0, iV ap]]) aU
    have Hc := b5
    repeat' first
     | refine XDo 3 q <| zd q q c25 (w_spec_l20HouseDeed _ _ bp0 A0 B0 (C0.c.c.c.c.c.c) ap ab al hS2 ad am hS3 ae an hS4 ai af ao hS5 aj bl Hc.ctx) (by rfl) ?_; rintro _ _ ⟨rfl, HK⟩; refine ⟨_, q, ?_⟩; have Hc := Hc.cN1 [_] HK; refine XN Hc.chg ?_
     | refine XDo 3 q ?_; have Hc := Hc.p1; refine zd q q c25 (w_spec_l20HouseDeed _ _ bp0 A0 B0 (C0.c.c.c.c.c.c.c) ap ab al hS3 ad am hS4 ae an hS5 ai af ao hS6 aj bl Hc.ctx) (by rfl) ?_; rintro _ _ ⟨rfl, HK⟩; refine ⟨_, q, ?_⟩; have Hc := Hc.cN1 [_] HK; refine XN Hc.chg ?_
     | refine XDo 4 q <| zd q q c8 (w_spec_HouseDo _ _ ab al hS3 ad am hS4 ae an hS5 ai af ao hS6 aj.2.1 aj.2.2.1 aj.2.2.2.1 aj.2.2.2.2 ag bm Hc.ctx) (by rfl) ?_; rintro _ _ ⟨ay, az, aA, aB, rfl, HK⟩; refine ⟨_, q, ?_⟩; have Hc := Hc.cN4 [] HK; refine XN Hc.chg ?_
     | refine XDo 4 q <| zd q q c8 (w_spec_HouseDo _ _ ab al hS4 ad am hS5 ae an hS6 ai af ao hS7 aj.2.1 aj.2.2.1 aj.2.2.2.1 aj.2.2.2.2 ag bm Hc.ctx) (by rfl) ?_; rintro _ _ ⟨ay, az, aA, aB, rfl, HK⟩; refine ⟨_, q, ?_⟩; have Hc := Hc.cN4 [] HK; refine XN Hc.chg ?_
     | refine XDo 8 q ?_; refine zq (cs := [nS, nS, nS, iV 0, nS]) Hc z27 q q q (fun bo _ Hc => ?_); refine XN Hc.chg ?_
     | refine XDo 9 q ?_; refine zl (cs' := [ay, az, aA, iV ag.1.2.2.2.1, aB]) Hc q il27 q (T (Hc.ctx.sliceOne hS1) (T (Hc.ctx.sliceOne hS2) (T (Hc.ctx.sliceOne hS3) (T q (T (Hc.ctx.sliceOne hS4) q))))) q q q (fun _ Hc => ?_); refine XN Hc.chg ?_
     | refine XDo 9 q ?_; have Hc := Hc.p4; refine zl (cs' := [ay, az, aA, iV ag.1.2.2.2.1, aB]) Hc q il27 q (T (Hc.ctx.sliceOne hS1) (T (Hc.ctx.sliceOne hS2) (T (Hc.ctx.sliceOne hS3) (T q (T (Hc.ctx.sliceOne hS4) q))))) q q q (fun _ Hc => ?_); refine XN Hc.chg ?_
     | refine XDo 9 q ?_; have Hc := Hc.p5; refine zl (cs' := [ay, az, aA, iV ag.1.2.2.2.1, aB]) Hc q il27 q (T (Hc.ctx.sliceOne hS1) (T (Hc.ctx.sliceOne hS2) (T (Hc.ctx.sliceOne hS3) (T q (T (Hc.ctx.sliceOne hS4) q))))) q q q (fun _ Hc => ?_); refine XN Hc.chg ?_
     | have Hc : Holds _ _ _ [.bx bo 27 [ay, az, aA, iV ag.1.2.2.2.1, aB], .sl 55 ty10 ay ag.1.1, .sl 3 tI az ag.1.2.1, .sl 3 tI aA ag.1.2.2.1, .sl 47 ty12 aB ag.1.2.2.2.2, .bx bp0 89 [A0, iV aj.1], .bx b1 27 [nS, nS, nS, iV 0, nS], .bx ak 27 [ab, ad, ae, iV ai, af], .sl 55 ty10 ab al, .sl 3 tI ad am, .sl 3 tI ae an, .sl 47 ty12 af ao] G := bn.calledN (Rs := [.bx bp0 89 [A0, iV ap]]) Hc; refine XDo 10 q <| qA q q q <| XE q ?_
     | have b6 := HasB.bx (HasB.c (HasB.c (HasB.hd))) Hc.ctx; refine XT (i := 0) q (by decide +kernel) q Hc.chg q (qs_agg (cs := [ab, ad, ae, iV ai, af]) us27 uo27 il27 q (fun j z hj => by rw [Nat.zero_add]; exact b6.cell hj) Hc.chg (Ctx.outB aU (HasB.c (HasB.hd)))) q q ?_; change XC _ _ _ _ _ _ _ _ ((32, .agg #[ab, ad, ae, iV ai, af]) :: _) _
     | refine XQ (i := 1) q (by decide +kernel) q Hc.chg q (fun _ => qt_move q) q q ?_
     | have b7 := HasB.bx (HasB.c (HasB.c (HasB.hd))) Hc.ctx; refine XT (i := 2) q (by decide +kernel) q Hc.chg q (qs_agg (cs := [ab, ad, ae, iV ai, af]) us27 uo27 il27 q (fun j z hj => by rw [Nat.zero_add]; exact b7.cell hj) Hc.chg (Ctx.outB aU (HasB.c (HasB.hd)))) q q ?_; change XC _ _ _ _ _ _ _ _ ((34, .agg #[ab, ad, ae, iV ai, af]) :: _) _
     | refine XQ (i := 5) q (by decide +kernel) q Hc.chg q (fun _ => qt_move q) q q ?_
     | refine XQ (i := 6) q (by decide +kernel) q Hc.chg q (fun _ => zv q q) q q ?_
     | refine XQ (i := 7) q (by decide +kernel) q Hc.chg q (fun _ => zv q q) q q ?_
     | refine XV [3, 8] (by decide +kernel) q (allc ?_ (allc ?_ alln))
     | refine XV [4, 8] (by decide +kernel) q (allc ?_ (allc ?_ alln))
     | refine XV [8] (by decide +kernel) q (allc ?_ alln)
     | refine XV [9] (by decide +kernel) q (allc ?_ alln)
     | refine XV [10] (by decide +kernel) q (allc ?_ alln)
     | refine XV [4] (by decide +kernel) q (allc ?_ alln)
     | refine XV [3] (by decide +kernel) q (allc ?_ alln)
     | refine XC_done (by decide +kernel) (fun a ha => ?_); have Hc := ((((((((((((Hc.p4).p4).p4).p4).p4).p11).p11).p11).p11).p11).p11).p11); exact ⟨bo, ay, az, aA, aB, ha.sub ⟨q, q, q, q, q, q, q, trivial⟩, Hc⟩
   intro a dl b8
   obtain ⟨aS, au, av, aw, ax, ha, aV⟩ := b8
   refine S ?_ ha
   clear ha
   refine rR <| qM q q q <| B ?_
   refine Y q (fun aW => ?_) (fun aW => ?_)
   ·have ah := if_t aW ah
    refine Z ?_
    have b9 := R aV.p7
    refine zm (cs := [au, av, aw, iV ag.1.2.2.2.1, ax]) us27 uo27 il27 b9 q q q ?_
    change XL _ _ _ _ _ ((40, .agg #[au, av, aw, iV ag.1.2.2.2.1, ax]) :: _) _
    have aI := aV.p2
    refine zl (cs' := [au, av, aw, iV ag.1.2.2.2.1, ax]) aI q il27 q (T (aI.ctx.sliceOne hS8) (T (aI.ctx.sliceOne hS9) (T (aI.ctx.sliceOne hS10) (T q (T (aI.ctx.sliceOne hS11) q))))) q q q (fun dm ca => ?_)
    refine WL_nil fun a ha => ?_
    refine zi (X (S ?_ ha))
    refine Z <| qM q q q <| A q (qt_sub q q) q q <| qA q q q <| WL_nil fun a ha => ?_
    obtain rfl := L ah
    have cb := ca.q3.q3.q3.q3.q3.p6.p6.p6.p6.p4.p6.p6
    exact ⟨q, au, av, aw, ax, ha.sub ⟨q, q, q, q, q, trivial⟩, cb⟩
   have ah := if_f aW ah
   refine WP_skip fun a ha => ?_
   refine zi (X (S ?_ ha))
   refine Z <| qM q q q <| A q (qt_sub q q) q q <| qA q q q <| WL_nil fun a ha => ?_
   obtain rfl := L ah
   have cc := aV.q7.q7.q7.q7.q7.p6.p6.p6.p6.p6.p6.p6
   exact ⟨q, ab, ad, ae, af, ha.sub ⟨q, q, q, q, q, trivial⟩, cc⟩
  have ah := if_f aR ah
  refine WP_exit fun a ha => ?_
  obtain rfl := L ah
  have cd := bk.p6.p6.p6.p6.p6.p6.p6
  exact zo (⟨exit_ne, q, ab, ad, ae, af, ha.sub ⟨q, q, q, q, trivial⟩, cd⟩)
 intro e bZ ce cf
 obtain ⟨cg, ch, ci, dn, dq, dr⟩ := bW
 obtain ⟨rfl, cj⟩ := cf
 obtain ⟨aC, aD, aP, aX, ha, bp⟩ := cj
 refine zn (X (S ?_ ha))
 refine C <| rR <| qM q q q <| qM q q q ?_
 obtain ⟨bq, ck, h⟩ := D h
 refine zd q q c61 (w_spec_l20Rd__odd ce _ bp0 A0 B0 (C0.c.c.c.c.c.c) cg p1 bq ck bp.ctx) (by rfl) ?_
 rintro _ cl ⟨rfl, cm⟩; refine ⟨_, q, ?_⟩
 have aY := bp.cN1 [_] cm
 refine B ?_
 obtain ⟨cn, aa, h⟩ := D h
 obtain ⟨co, cp, aJ, cq⟩ := cn
 refine WP_join (M := fun a w2 => ∃ aq ar, Fr a 79 [(0, pB bp0), (4, pB b1), (6, pB ak)] ∧ Holds (([.bx bp0 89 [A0, iV B1]] : List Res).flatMap Res.own) w w2 [.bx bp0 89 [A0, iV co], .bx b1 27 [nS, nS, nS, iV 0, nS], .bx ak 27 [aC, aD, aq, iV aJ, ar], .sl 55 ty10 aC ch, .sl 3 tI aD ci, .sl 3 tI aq cp, .sl 47 ty12 ar cq] G) ?_ ?_
 ·refine Y q (fun aZ => ?_) (fun aZ => ?_)
  ·have aa := if_t aZ aa
   refine rR <| qM q q q ?_
   obtain ⟨br, cr, aa⟩ := D aa
   refine zd q q c60 (w_spec_l20Rd__pick cl _ bp0 A0 B0 (C0.c.c.c.c.c.c) bq.1 4 br cr aY.ctx) (by rfl) ?_
   rintro _ ds ⟨rfl, ct⟩; refine ⟨_, q, ?_⟩
   have aE := aY.cN1 [_] ct
   refine B <| g <| rR <| A q (qt_eql q q) q q <| qA q q q <| B ?_
   refine Y q (fun a0 => ?_) (fun a0 => ?_)
   ·have aa := if_t a0 aa
    refine Z ?_
    refine zs (t := tI) (args := [.const (iV (-1)), .const (iV 100000)]) (xs := ([(-1), 100000] : List Int)) aE (BltL.cons (Blt.int) q (BltL.cons (Blt.int) q (BltL.nil))) u24 j3 q q q q q q (fun dt cu cv => ?_)
    refine qM q q q ?_
    have bs := cv.p1
    obtain ⟨cw, cx, aa⟩ := D aa
    refine zd q q c60 (w_spec_l20Rd__pick cu _ bp0 A0 B0 (C0.c.c.c.c.c.c.c) br.1 2 cw cx bs.ctx) (by rfl) ?_
    rintro _ du ⟨rfl, cy⟩; refine ⟨_, q, ?_⟩
    have a1 := bs.cN1 [_] cy
    obtain ⟨dv, bt, aa⟩ := D aa
    refine b a1.ctx hS1 bt u24 i3 q q q q (fun dw dx dy cz => ?_)
    obtain ⟨dz, cA, dA⟩ := a1.at hS1 bt cz
    refine zt (k := .i64) u3 q cA q q q <| qF uf27 fi27_3 nz3 q q q ?_
    have cB := a1.p3
    refine WL_store_bx cB q il3 q q q q q (fun dB cC => ?_)
    refine WL_nil fun a ha => ?_
    obtain ⟨rfl, rfl, rfl, rfl⟩ := (by simpa only [Option.some.injEq, Prod.mk.injEq] using aa : _)
    have cD := cC.q2.p6.p6.p6.p6.p4.p6.p6
    exact zi (X (⟨aP, aX, ha.sub ⟨q, q, q, trivial⟩, cD⟩))
   have aa := if_f a0 aa
   refine rR <| A q (qt_eql q q) q q <| qA q q q <| B ?_
   refine Y q (fun a2 => ?_) (fun a2 => ?_)
   ·have aa := if_t a2 aa
    refine Z <| qF uf27 fi27_2 nz24 q q q ?_
    have cE := R aE.p2
    refine l u24 q cE q q q q ?_
    refine zs (t := tI) (args := [.const (iV 0)]) (xs := ([0] : List Int)) aE (BltL.cons (Blt.int) q (BltL.nil)) u24 j3 q q q q q q (fun dC dD cF => ?_)
    have cG := cF.p6
    obtain ⟨dE, cH, aa⟩ := D aa
    refine zw cG hS1 cH u24 j3 q q q q q q (fun cI dF cJ => ?_)
    refine qF uf27 fi27_2 nz24 q q q ?_
    have a3 := cJ.p4
    refine WL_store_bx a3 q il24 (a3.ctx.sliceCells hS1) (a3.ctx.sliceOne hS1) q q q (fun dG cK => ?_)
    refine WL_nil fun a ha => ?_
    obtain ⟨rfl, rfl, rfl, rfl⟩ := (by simpa only [Option.some.injEq, Prod.mk.injEq] using aa : _)
    have cL := cK.q2.p6.p2.p6.p6.p4.p6.p6
    exact zi (X (⟨cI, aX, ha.sub ⟨q, q, q, trivial⟩, cL⟩))
   have aa := if_f a2 aa
   refine rR <| A q (qt_eql q q) q q <| qA q q q <| B ?_
   refine Y q (fun a4 => ?_) (fun a4 => ?_)
   ·have aa := if_t a4 aa
    refine Z <| qF uf27 fi27_4 nz25 q q q ?_
    have cM := R aE.p2
    refine l u25 q cM q q q q <| A q (qt_build (args := []) (css := []) (cells := #[iV 0, iV 0]) q trivial (by kernel_rfl)) q q ?_
    refine zs (t := ty2) (args := [.tmp 71]) (xs := ([(0, 0)] : LP)) aE (BltL.cons (Blt.pair (Blt.int) (Blt.int)) q (BltL.nil)) u45 j49 q q q q q q (fun bu dH cN => ?_)
    refine zs (t := tI) (args := [.const (iV 9)]) (xs := ([9] : List Int)) cN (BltL.cons (Blt.int) q (BltL.nil)) u24 j3 q q q q q q (fun bv dI a5 => ?_)
    refine A q (qt_build (args := [(1, .tmp 72), (2, .tmp 73)]) (css := [#[bu], #[bv]]) (cells := #[iV 0, bu, bv]) q ⟨(a5.ctx.sliceCells hS1), (a5.ctx.sliceCells hS0), trivial⟩ (by kernel_rfl)) q q ?_
    have cO := a5.p1
    have cP := cO.freeze
    have cQ := cP.p1
    have cR := cQ.freeze
    refine zs (t := ty12) (args := [.tmp 74]) (xs := ([(0, [(0, 0)], [9])] : LT)) cR (BltL.cons (Blt.pair (Blt.int) (Blt.pair (Blt.slice hO1) (Blt.slice hO0))) q (BltL.nil)) u25 j47 q q q q q q (fun dJ dK cS => ?_)
    have cT := cS.p9
    obtain ⟨dL, cU, aa⟩ := D aa
    refine zw cT hS1 cU u25 j47 q q q q q q (fun cV dM cW => ?_)
    refine qF uf27 fi27_4 nz25 q q q ?_
    have a6 := cW.p6
    refine WL_store_bx a6 q il25 (a6.ctx.sliceCells hS1) (a6.ctx.sliceOne hS1) q q q (fun dN cX => ?_)
    refine WL_nil fun a ha => ?_
    obtain ⟨rfl, rfl, rfl, rfl⟩ := (by simpa only [Option.some.injEq, Prod.mk.injEq] using aa : _)
    have cY := cX.q2.q2.q2.p1.p6.p6.p6.p4.p6.p6
    exact zi (X (⟨aP, cV, ha.sub ⟨q, q, q, trivial⟩, cY⟩))
   have aa := if_f a4 aa
   refine Z <| qF uf27 fi27_4 nz25 q q q ?_
   have cZ := R aE.p2
   refine l u25 q cZ q q q q <| A q (qt_build (args := [(0, .const (iV (-1)))]) (css := [#[iV (-1)]]) (cells := #[iV (-1), nS, nS]) q ⟨q, trivial⟩ (by kernel_rfl)) q q ?_
   refine zs (t := ty12) (args := [.tmp 48]) (xs := ([((-1), [], [])] : LT)) aE (BltL.cons (Blt.pair (Blt.int) (Blt.pair (Blt.slice (HasRo.nil)) (Blt.slice (HasRo.nil)))) q (BltL.nil)) u25 j47 q q q q q q (fun dO dP c0 => ?_)
   have c1 := c0.p7
   obtain ⟨dQ, c2, aa⟩ := D aa
   refine zw c1 hS1 c2 u25 j47 q q q q q q (fun c3 dR c4 => ?_)
   refine qF uf27 fi27_4 nz25 q q q ?_
   have a7 := c4.p4
   refine WL_store_bx a7 q il25 (a7.ctx.sliceCells hS1) (a7.ctx.sliceOne hS1) q q q (fun dS c5 => ?_)
   refine WL_nil fun a ha => ?_
   obtain ⟨rfl, rfl, rfl, rfl⟩ := (by simpa only [Option.some.injEq, Prod.mk.injEq] using aa : _)
   have da := c5.q2.p1.p6.p6.p6.p4.p6.p6
   exact zi (X (⟨aP, c3, ha.sub ⟨q, q, q, trivial⟩, da⟩))
  have aa := if_f aZ aa
  refine WP_skip fun a ha => ?_
  obtain ⟨rfl, rfl, rfl, rfl⟩ := (by simpa only [Option.some.injEq, Prod.mk.injEq] using aa : _)
  have db := aY.p6.p6.p6.p6.p6.p6.p6
  exact X (⟨aP, aX, ha.sub ⟨q, q, q, trivial⟩, db⟩)
 intro a dT dc
 obtain ⟨aq, ar, ha, bw⟩ := dc
 refine S ?_ ha
 clear ha
 refine C <| Z ?_
 have dd := R bw.p2
 refine zm (cs := [aC, aD, aq, iV aJ, ar]) us27 uo27 il27 dd q q q ?_
 change XL _ _ _ _ _ ((78, .agg #[aC, aD, aq, iV aJ, ar]) :: _) _
 have aK := bw.p1
 refine zl (cs' := [aC, aD, aq, iV aJ, ar]) aK q il27 q (T (aK.ctx.sliceOne hS3) (T (aK.ctx.sliceOne hS4) (T (aK.ctx.sliceOne hS5) (T q (T (aK.ctx.sliceOne hS6) q))))) q q q (fun dU bz => ?_)
 refine B <| W fun a ha => ?_
 obtain rfl := L h
 have de := R bz.p0
 have df := bz.q0.q1.p4.p4.p4.p4
 exact retc q ha q (run_loadVar_bx (cs := [aC, aD, aq, iV aJ, ar]) us27 uo27 il27 de) ⟨aC, aD, aq, ar, q, df⟩
theorem w_spec_DrawHouseDo (w : World) (G : List Res) (vp0 : Value) (p0 : List Int) (hp0 : HasRo G (.int .u8) vp0 p0) (r : (LI × (List Int) × (List Int) × Int × LT) × (Int × Int × Int × Int)) (h : spec_DrawHouseDoS p0 = some r) (H : Ctx w G) : Calls Tryz.prog 6 #[vp0] w fun e w' => ∃ (v1 : Value) (v2 : Value) (v3 : Value) (v4 : Value), e = .returned (.tuple #[.agg #[v1, v2, v3, iV r.1.2.2.2.1, v4], .agg #[iV r.2.1, iV r.2.2.1, iV r.2.2.2.1, iV r.2.2.2.2]]) ∧ Holds M0 w w' [.sl 55 ty10 v1 r.1.1, .sl 3 tI v2 r.1.2.1, .sl 3 tI v3 r.1.2.2.1, .sl 47 ty12 v4 r.1.2.2.2.2] G := by
 have H : Holds M0 w w [] G := zb H
 refine zg (args := [vp0]) (n := 14) Tryz.func6 q q q ?_
 unfold spec_DrawHouseDoS at h
 refine C <| Z ?_
 refine zq (cs := [nS, nS, nS, iV 0, nS]) H z27 q q q (fun b1 w2 H3 => ?_)
 refine zq (cs := [iV 0, iV 0, iV 0, iV 0]) H3 z29 q q q (fun b5 w6 H7 => ?_)
 refine rN <| qM q q q ?_
 obtain ⟨x9, aw, h⟩ := D h
 refine zd q q c23 (w_spec_l20Open w6 _ vp0 p0 (hp0.c.c) x9 aw H7.ctx) (by rfl) ?_
 rintro _ ax ⟨ah, ai, rfl, ay⟩; refine ⟨_, q, ?_⟩
 have az := H7.cN2 [] ay
 refine qA q q q <| rN <| qM q q q ?_
 have ar := az.p1
 obtain ⟨aa, aA, h⟩ := D h
 refine zd q q c24 (w_spec_l20House ax _ ai ah x9.1 hR0 x9.2 12 aa aA ar.ctx) (by rfl) ?_
 rintro _ aP ⟨ad, ae, af, ag, rfl, aB⟩; refine ⟨_, q, ?_⟩
 have aC := ar.cN5 [_] aB
 refine zq (cs := [nS, nS, nS, iV 0, nS]) aC z27 q q q (fun au aQ aj => ?_)
 refine zl (cs' := [ad, ae, af, iV aa.2.2.2.2.1, ag]) aj q il27 q (T (aj.ctx.sliceOne hS1) (T (aj.ctx.sliceOne hS2) (T (aj.ctx.sliceOne hS3) (T q (T (aj.ctx.sliceOne hS4) q))))) q q q (fun aR aD => ?_)
 refine B <| C ?_
 obtain ⟨ab, aE, h⟩ := D h
 refine WP_join (M := fun a w2 => ∃ ak al am an, Fr a 14 [(2, pB b1), (3, pB b5)] ∧ Holds M0 w w2 [.bx b1 27 [ak, al, am, iV aa.2.2.2.2.1, an], .sl 55 ty10 ak aa.2.1, .sl 3 tI al aa.2.2.1, .sl 3 tI am aa.2.2.2.1, .sl 47 ty12 an aa.2.2.2.2.2, .bx b5 29 [iV ab.2.1, iV ab.2.2.1, iV ab.2.2.2.1, iV ab.2.2.2.2]] G) ?_ ?_
 ·refine WP_ordersT (fun w1 w2 => Chg (([.bx ai 89 [ah, iV aa.1], .bx b1 27 [nS, nS, nS, iV 0, nS]] : List Res).flatMap Res.own) w1 w2) 5 (by kernel_rfl) (fun ao aF => ?_)
  have aG := aD.grow aF
  have aH := aG.p8
  have av := aH.p6
  have ap : Ctx ao ([.bx ai 89 [ah, iV aa.1], .bx b1 27 [nS, nS, nS, iV 0, nS]] ++ ([.bx au 27 [ad, ae, af, iV aa.2.2.2.2.1, ag], .sl 55 ty10 ad aa.2.1, .sl 3 tI ae aa.2.2.1, .sl 3 tI af aa.2.2.2.1, .sl 47 ty12 ag aa.2.2.2.2.2, .ro (.int .u8) ah x9.1, .bx b5 29 [iV 0, iV 0, iV 0, iV 0]] ++ G)) := av.ctx
  have aI : Holds _ ao ao [.bx ai 89 [ah, iV aa.1], .bx b1 27 [nS, nS, nS, iV 0, nS]] ([.bx au 27 [ad, ae, af, iV aa.2.2.2.2.1, ag], .sl 55 ty10 ad aa.2.1, .sl 3 tI ae aa.2.2.1, .sl 3 tI af aa.2.2.2.1, .sl 47 ty12 ag aa.2.2.2.2.2, .ro (.int .u8) ah x9.1, .bx b5 29 [iV 0, iV 0, iV 0, iV 0]] ++ G) := zb (Rs := [.bx ai 89 [ah, iV aa.1], .bx b1 27 [nS, nS, nS, iV 0, nS]]) ap
  have Hc := aI
  repeat' first
   | refine XDo 3 q <| zd q q c25 (w_spec_l20HouseDeed _ _ ai ah x9.1 hR6 aa.1 ad aa.2.1 hS2 ae aa.2.2.1 hS3 af aa.2.2.2.1 hS4 aa.2.2.2.2.1 ag aa.2.2.2.2.2 hS5 ab aE Hc.ctx) (by rfl) ?_; rintro _ _ ⟨rfl, HK⟩; refine ⟨_, q, ?_⟩; have Hc := Hc.cN1 [_] HK; refine XN Hc.chg ?_
   | refine XDo 4 q ?_; have Hc := Hc.p1; refine zl (cs' := [ad, ae, af, iV aa.2.2.2.2.1, ag]) Hc q il27 q (T (Hc.ctx.sliceOne hS3) (T (Hc.ctx.sliceOne hS4) (T (Hc.ctx.sliceOne hS5) (T q (T (Hc.ctx.sliceOne hS6) q))))) q q q (fun _ Hc => ?_); refine XN Hc.chg ?_
   | have Hc := av.cN2 [_, _] Hc; refine XDo 5 q ?_; have Hc := Hc.p8; refine zl (cs' := [iV ab.2.1, iV ab.2.2.1, iV ab.2.2.2.1, iV ab.2.2.2.2]) Hc q il29 q q q q q (fun _ Hc => ?_); refine XE q ?_
   | have aJ := HasB.bx (HasB.c (HasB.c (HasB.hd))) Hc.ctx; refine XT (i := 0) q (by decide +kernel) q Hc.chg q (qs_agg (cs := [ad, ae, af, iV aa.2.2.2.2.1, ag]) us27 uo27 il27 q (fun j z hj => by rw [Nat.zero_add]; exact aJ.cell hj) Hc.chg (Ctx.outB ap (HasB.hd))) q q ?_; change XC _ _ _ _ _ _ _ _ ((10, .agg #[ad, ae, af, iV aa.2.2.2.2.1, ag]) :: _) _
   | refine XQ (i := 1) q (by decide +kernel) q Hc.chg q (fun _ => qt_move q) q q ?_
   | have aK := HasB.bx (HasB.c (HasB.c (HasB.hd))) Hc.ctx; refine XT (i := 2) q (by decide +kernel) q Hc.chg q (qs_agg (cs := [ad, ae, af, iV aa.2.2.2.2.1, ag]) us27 uo27 il27 q (fun j z hj => by rw [Nat.zero_add]; exact aK.cell hj) Hc.chg (Ctx.outB ap (HasB.hd))) q q ?_; change XC _ _ _ _ _ _ _ _ ((12, .agg #[ad, ae, af, iV aa.2.2.2.2.1, ag]) :: _) _
   | refine XV [3] (by decide +kernel) q (allc ?_ alln)
   | refine XV [4] (by decide +kernel) q (allc ?_ alln)
   | refine XV [5] (by decide +kernel) q (allc ?_ alln)
   | refine XC_done (by decide +kernel) (fun a ha => ?_); have Hc := ((((((((Hc.q2).q2).q6).p5).p5).p5).p5).p5); exact ⟨ad, ae, af, ag, ha.sub ⟨q, q, trivial⟩, Hc⟩
 intro a aS aL
 obtain ⟨ak, al, am, an, ha, aq⟩ := aL
 refine S ?_ ha
 clear ha
 refine W fun a ha => ?_
 obtain rfl := L h
 have aM := R aq.p0
 have aN := R aq.p5
 have aO := aq.q0.q4.p3.p3.p3.p3
 exact retcc q ha q q (run_loadVar_bx (cs := [ak, al, am, iV aa.2.2.2.2.1, an]) us27 uo27 il27 aM) (run_loadVar_bx (cs := [iV ab.2.1, iV ab.2.2.1, iV ab.2.2.2.1, iV ab.2.2.2.2]) us29 uo29 il29 aN) ⟨ak, al, am, an, q, aO⟩
theorem w_impl_partsValid (w : World) (G : List Res) (vp0 : Value) (p0 : LP) (hp0 : Has G ty2 vp0 p0) (p1 : Int) (r : Bool) (h : impl_partsValidS p0 p1 = some r) (H : Ctx w G) : Calls Tryz.prog 103 #[vp0, iV p1] w fun e w' => e = .returned (.bool r) ∧ Holds M0 w w' [] G := by
 have H : Holds M0 w w [] G := zb H
 refine zg (args := [vp0, iV p1]) (n := 45) Tryz.func103 q q q ?_
 unfold impl_partsValidS at h
 refine rR <| qA q q q <| B <| C <| rR <| qM q q q <| za H.ctx (t := ty2) (hp0) u53 q q q <| A q (qt_lss q q) q q ?_
 refine qM q q q ?_
 refine zh 4 15 (.bool ((decide ((List.length p0 : Int) < 1)) || (decide ((List.length p0 : Int) > 3)))) ?_ (fun md hmd hk => ?_)
 rotate_left
 ·obtain ⟨Q, rfl⟩ := Md.seq_of hmd
  rcases btf (decide ((List.length p0 : Int) < 1)) with ae | ae
  ·skip
   refine qS q ae q q <| qS q ae q q <| qS q ae q q <| A q (ze q ae q) q q ?_
   exact hk _ (p (by rw [ae]; rfl) (cfn 3 q (u)))
  skip
  refine qM (J q ae) q q <| za H.ctx (t := ty2) (hp0) u53 (J q ae) q q <| A (J q ae) (qt_gtr q q) q q <| A q (zf q ae q) q q ?_
  exact hk _ (p (by rw [ae]; rfl) (cfn 3 q (u)))
 refine B ?_
 refine Y q (fun aj => ?_) (fun aj => ?_)
 ·have h := if_t aj h
  refine rR <| qA q q q <| B <| W fun a ha => ?_
  obtain rfl := L h
  exact m (ret1 q ha q ⟨q, H⟩)
 have h := if_f aj h
 refine y <| rR <| qA q q q <| B <| C <| rR <| qM q q q <| za H.ctx (t := ty2) (hp0) u53 q q q ?_
 refine qM q q q <| B <| g ?_
 obtain ⟨o5, ap, h⟩ := D h
 refine fun a7 am => zp (I := fun s a w2 => match s with | (s3, s4) => (Fr a 45 [(1, iV p1), (5, iV s3), (16, vp0), (17, iV (List.length p0 : Int)), (18, iV s4)] ∧ Holds M0 w w2 [] G)) (O := fun o e a w2 => match o with | .inl _ => e = .exit 0 ∧ (Fr a 45 [] ∧ Holds M0 w w2 [] G) | .inr q0 => e = .ret ∧ (Fr a 45 [(4, .bool q0)] ∧ Holds M0 w w2 [] G)) ap ?_ ?_ ?_
 ·exact ⟨am.sub ⟨q, q, q, q, q, trivial⟩, H⟩
 ·clear am
  intro s aK a w9 ab aq
  obtain ⟨s3, s4⟩ := s
  obtain ⟨ha, ai⟩ := aq
  refine S ?_ ha
  clear ha
  refine rR <| A q (qt_lss q q) q q <| B <| C ?_
  refine Y q (fun ak => ?_) (fun ak => ?_)
  ·have ab := if_t ak ab
   refine y <| C <| g <| C <| Z ?_
   obtain ⟨aa, an, ab⟩ := D ab
   refine b ai.ctx (hp0) an u53 i57 q q q q (fun aL aM aN ar => ?_)
   obtain ⟨aO, au, aP⟩ := ai.atN (hp0) an ar
   refine XL_load_agg (t := ty2) us57 uo57 i57 au q q q (fun aQ av => ?_)
   obtain ⟨c26, c27, aR, aS, rfl, aT, aw, ax⟩ := av
   obtain ⟨rfl, _⟩ := aw
   obtain ⟨rfl, _⟩ := ax
   change XL _ _ _ _ _ ((21, .agg #[iV aa.1, iV aa.2]) :: _) _
   refine zq (cs := [iV 0, iV 0]) ai z57 q q q (fun aU aV ay => ?_)
   refine zl (cs' := [iV aa.1, iV aa.2]) ay q il57 q q q q q (fun aW ah => ?_)
   refine B <| C <| rR <| qF uf57 fi57_0 nz3 q q q ?_
   have az := R ah.p0
   refine l u3 q az q q q q <| qM q q q <| A q (qt_leq q q) q q <| qM q q q ?_
   refine zh 5 31 (.bool ((decide (aa.1 ≤ s3)) || (decide (aa.1 ≥ p1)))) ?_ (fun md hmd hk => ?_)
   rotate_left
   ·obtain ⟨Q, rfl⟩ := Md.seq_of hmd
    rcases btf (decide (aa.1 ≤ s3)) with ad | ad
    ·skip
     refine qS q ad q q <| qS q ad q q <| qS q ad q q <| qS q ad q q <| A q (ze q ad q) q q ?_
     exact hk _ (p (by rw [ad]; rfl) (cfn 4 q (u)))
    skip
    refine qF uf57 fi57_0 nz3 (J q ad) q q ?_
    have aA := R ah.p0
    refine l u3 q aA q (J q ad) q q <| qM (J q ad) q q <| A (J q ad) (qt_geq q q) q q <| A q (zf q ad q) q q ?_
    exact hk _ (p (by rw [ad]; rfl) (cfn 4 q (u)))
   refine qM q q q ?_
   refine zh 4 36 (.bool (((decide (aa.1 ≤ s3)) || (decide (aa.1 ≥ p1))) || (decide (aa.2 < 1)))) ?_ (fun md hmd hk => ?_)
   rotate_left
   ·obtain ⟨Q, rfl⟩ := Md.seq_of hmd
    rcases btf ((decide (aa.1 ≤ s3)) || (decide (aa.1 ≥ p1))) with af | af
    ·skip
     refine qS q af q q <| qS q af q q <| qS q af q q <| A q (ze q af q) q q ?_
     exact hk _ (p (by rw [af]; rfl) (cfn 3 q (u)))
    skip
    refine qF uf57 fi57_1 nz3 (J q af) q q ?_
    have aB := R ah.p0
    refine l u3 q aB q (J q af) q q <| A (J q af) (qt_lss q q) q q <| A q (zf q af q) q q ?_
    exact hk _ (p (by rw [af]; rfl) (cfn 3 q (u)))
   refine qM q q q ?_
   refine zh 4 41 (.bool ((((decide (aa.1 ≤ s3)) || (decide (aa.1 ≥ p1))) || (decide (aa.2 < 1))) || (decide (aa.2 > 6)))) ?_ (fun md hmd hk => ?_)
   rotate_left
   ·obtain ⟨Q, rfl⟩ := Md.seq_of hmd
    rcases btf (((decide (aa.1 ≤ s3)) || (decide (aa.1 ≥ p1))) || (decide (aa.2 < 1))) with ag | ag
    ·skip
     refine qS q ag q q <| qS q ag q q <| qS q ag q q <| A q (ze q ag q) q q ?_
     exact hk _ (p (by rw [ag]; rfl) (cfn 3 q (u)))
    skip
    refine qF uf57 fi57_1 nz3 (J q ag) q q ?_
    have aC := R ah.p0
    refine l u3 q aC q (J q ag) q q <| A (J q ag) (qt_gtr q q) q q <| A q (zf q ag q) q q ?_
    exact hk _ (p (by rw [ag]; rfl) (cfn 3 q (u)))
   refine B ?_
   refine Y q (fun al => ?_) (fun al => ?_)
   ·have ab := if_t al ab
    refine rR <| qA q q q <| B <| W fun a ha => ?_
    obtain rfl := L ab
    have aD := ah.q0
    exact m (zj (m (⟨ret_ne, q, ha.sub ⟨q, trivial⟩, aD⟩)))
   have ab := if_f al ab
   refine y <| Z <| qF uf57 fi57_0 nz3 q q q ?_
   have aE := R ah.p0
   refine l u3 q aE q q q q <| qA q q q <| WL_nil fun a ha => ?_
   refine zi (X (S ?_ ha))
   refine Z <| A q (qt_add q q) q q <| qM q q q <| WL_nil fun a ha => ?_
   obtain rfl := L ab
   have aF := ah.q0
   exact ⟨q, ha.sub ⟨q, q, q, q, q, trivial⟩, aF⟩
  have ab := if_f ak ab
  refine WP_exit fun a ha => ?_
  obtain rfl := L ab
  exact zo (⟨exit_ne, q, ha.sub trivial, ai⟩)
 intro e a7 aX ao
 rcases o5 with o5 | o5
 ·skip
  obtain ⟨rfl, aG⟩ := ao
  obtain ⟨ha, aH⟩ := aG
  refine zn (X (S ?_ ha))
  refine rR <| qA q q q <| B <| W fun a ha => ?_
  obtain rfl := L h
  exact ret1 q ha q ⟨q, aH⟩
 skip
 obtain ⟨aY, rfl⟩ : ∃ z, z = o5 := ⟨o5, q⟩
 obtain ⟨rfl, aI⟩ := ao
 obtain ⟨ha, aJ⟩ := aI
 obtain rfl := L h
 exact zj (m (ret1 q ha q ⟨q, aJ⟩))
theorem w_impl_itemValid (w : World) (G : List Res) (B0 : Int) (A1 : Value) (B1 : LP) (C1 : Has G ty2 A1 B1) (B2 : Int) (p1 : Int) (r : Bool) (h : impl_itemValidS B0 B1 B2 p1 = some r) (H : Ctx w G) : Calls Tryz.prog 78 #[.agg #[iV B0, A1, iV B2], iV p1] w fun e w' => e = .returned (.bool r) ∧ Holds M0 w w' [] G := by
 have H : Holds M0 w w [] G := zb H
 refine zg (args := [.agg #[iV B0, A1, iV B2], iV p1]) (n := 34) Tryz.func78 q q q ?_
 unfold impl_itemValidS at h
 refine C <| Z ?_
 refine WL_box (cs := [iV B0, A1, iV B2]) H q q q q (fun b1 w2 H3 => ?_)
 refine qA q q q <| B <| C <| rR <| qF uf55 fi55_2 nz3 q q q ?_
 have ah := R H3.p0
 refine l u3 q ah q q q q <| A q (qt_lss q q) q q <| qM q q q ?_
 refine zh 4 12 (.bool ((decide (B2 < 0)) || (decide (B2 > 31)))) ?_ (fun md hmd hk => ?_)
 rotate_left
 ·obtain ⟨Q, rfl⟩ := Md.seq_of hmd
  rcases btf (decide (B2 < 0)) with ab | ab
  ·skip
   refine qS q ab q q <| qS q ab q q <| qS q ab q q <| A q (ze q ab q) q q ?_
   exact hk _ (p (by rw [ab]; rfl) (cfn 3 q (u)))
  skip
  refine qF uf55 fi55_2 nz3 (J q ab) q q ?_
  have ai := R H3.p0
  refine l u3 q ai q (J q ab) q q <| A (J q ab) (qt_gtr q q) q q <| A q (zf q ab q) q q ?_
  exact hk _ (p (by rw [ab]; rfl) (cfn 3 q (u)))
 refine B ?_
 refine Y q (fun af => ?_) (fun af => ?_)
 ·have h := if_t af h
  refine rR <| qA q q q <| B <| W fun a ha => ?_
  obtain rfl := L h
  have H9 := H3.q0
  exact m (ret1 q ha q ⟨q, H9⟩)
 have h := if_f af h
 refine y <| C <| rR <| qF uf55 fi55_0 nz3 q q q ?_
 have aj := R H3.p0
 refine l u3 q aj q q q q <| A q (qt_eql q q) q q <| B ?_
 refine Y q (fun ag => ?_) (fun ag => ?_)
 ·have h := if_t ag h
  refine rR <| qF uf55 fi55_1 nz53 q q q ?_
  have ak := R H3.p0
  refine l u53 q ak q q q q <| za H3.ctx (t := ty2) (C1.c) u53 q q q <| A q (qt_eql q q) q q <| qA q q q <| B <| W fun a ha => ?_
  obtain rfl := L h
  have al := H3.q0
  exact m (ret1 q ha q ⟨q, al⟩)
 have h := if_f ag h
 refine y <| C <| zk <| qF uf55 fi55_0 nz3 q q q ?_
 have am := R H3.p0
 refine l u3 q am q q q q <| A q (qt_geq q q) q q <| qM q q q ?_
 refine zh 4 27 (.bool ((decide (B0 ≥ 1)) && (decide (B0 ≤ 6)))) ?_ (fun md hmd hk => ?_)
 rotate_left
 ·obtain ⟨K, rfl⟩ := zr hmd
  rcases btf (decide (B0 ≥ 1)) with ad | ad
  ·skip
   refine qF uf55 fi55_0 nz3 (J q ad) q q ?_
   have an := R H3.p0
   refine l u3 q an q (J q ad) q q <| A (J q ad) (qt_leq q q) q q <| A q (ze q ad q) q q ?_
   exact hk _ (p (by rw [ad]; rfl) (cfn 3 q (u)))
  skip
  refine qS q ad q q <| qS q ad q q <| qS q ad q q <| A q (zf q ad q) q q ?_
  exact hk _ (p (by rw [ad]; rfl) (cfn 3 q (u)))
 refine qM q q q ?_
 obtain ⟨ao, ae, h⟩ := D h
 refine zh 5 33 (.bool ao) ?_ (fun md hmd hk => ?_)
 rotate_left
 ·obtain ⟨K, rfl⟩ := zr hmd
  rcases btf ((decide (B0 ≥ 1)) && (decide (B0 ≤ 6))) with aa | aa
  ·skip
   have ae := if_t aa ae
   refine qF uf55 fi55_1 nz53 (J q aa) q q ?_
   have ap := R H3.p0
   refine l u53 q ap q (J q aa) q q <| qM (J q aa) q q ?_
   obtain ⟨aq, ar, ae⟩ := D ae
   refine QC (J q aa) q c103 (fun w' hb => w_impl_partsValid w' _ A1 B1 (C1.c) p1 aq ar (H3.grow hb).ctx) (by rfl) <| A q (ze q aa q) q q ?_
   exact hk _ (p (vb ae) (cfn 4 q (u)))
  skip
  refine qS q aa q q <| qS q aa q q <| qS q aa q q <| qS q aa q q <| A q (zf q aa q) q q ?_
  exact hk _ (p (vb (if_f aa ae)) (cfn 4 q (u)))
 refine qA q q q <| QL_nil fun a ha ax au => ?_
 have av := H3.grow au
 refine X (S ?_ ha)
 refine W fun a ha => ?_
 obtain rfl := L h
 have aw := av.q0
 exact ret1 q ha q ⟨q, aw⟩
theorem w_impl_ItemsValid (w : World) (G : List Res) (vp0 : Value) (p0 : LI) (hp0 : Has G ty10 vp0 p0) (r : Bool) (h : impl_ItemsValidS p0 = some r) (H : Ctx w G) : Calls Tryz.prog 76 #[vp0] w fun e w' => e = .returned (.bool r) ∧ Holds M0 w w' [] G := by
 have H : Holds M0 w w [] G := zb H
 refine zg (args := [vp0]) (n := 20) Tryz.func76 q q q ?_
 unfold impl_ItemsValidS at h
 refine rR <| qA q q q <| B <| C <| rR <| qM q q q <| za H.ctx (t := ty10) (hp0) u23 q q q <| A q (qt_gtr q q) q q ?_
 refine B ?_
 refine Y q (fun ae => ?_) (fun ae => ?_)
 ·have h := if_t ae h
  refine rR <| qA q q q <| B <| W fun a ha => ?_
  obtain rfl := L h
  exact m (ret1 q ha q ⟨q, H⟩)
 have h := if_f ae h
 refine y <| C <| rR <| qM q q q <| za H.ctx (t := ty10) (hp0) u23 q q q <| qM q q q <| B <| g ?_
 obtain ⟨o3, ao, h⟩ := D h
 refine fun a5 aj => zp (I := fun s a w2 => match s with | s2 => (Fr a 20 [(8, vp0), (9, iV (List.length p0 : Int)), (10, iV s2)] ∧ Holds M0 w w2 [] G)) (O := fun o e a w2 => match o with | .inl _ => e = .exit 0 ∧ (Fr a 20 [] ∧ Holds M0 w w2 [] G) | .inr q0 => e = .ret ∧ (Fr a 20 [(2, .bool q0)] ∧ Holds M0 w w2 [] G)) ao ?_ ?_ ?_
 ·exact ⟨aj.sub ⟨q, q, q, trivial⟩, H⟩
 ·clear aj
  intro s o9 a w7 aa ap
  obtain ⟨s2, rfl⟩ : ∃ z, z = s := ⟨s, q⟩
  obtain ⟨ha, af⟩ := ap
  refine S ?_ ha
  clear ha
  refine rR <| A q (qt_lss q q) q q <| B <| C ?_
  refine Y q (fun ag => ?_) (fun ag => ?_)
  ·have aa := if_t ag aa
   refine y <| C <| g <| rR <| qM q q q ?_
   obtain ⟨ab, ak, aa⟩ := D aa
   refine b af.ctx (hp0) ak u23 i55 q q q q (fun aO aP aQ aq => ?_)
   obtain ⟨aR, ar, au⟩ := af.atN (hp0) ak aq
   refine XL_load_agg (t := ty10) us55 uo55 i55 ar q q q (fun aS av => ?_)
   obtain ⟨c24, c25, aT, aU, rfl, aw, ax, ay⟩ := av
   obtain ⟨rfl, _⟩ := ax
   obtain ⟨c31, c32, aV, aW, rfl, az, aA, aB⟩ := ay
   obtain ⟨ad, rfl, aC⟩ := Rep.sl_inv aA
   obtain ⟨rfl, _⟩ := aB
   have aD : Holds _ w w7 [.ro ty2 ad ab.2.1] G := au [.ro ty2 ad ab.2.1] ⟨⟨_, _, _, _, q, aC, (fun k h => (fun k h => (fun _ h => h) k (by rw [aw]; exact zx _ h)) k (by rw [az]; exact List.mem_append_left _ h))⟩, trivial⟩
   change XL _ _ _ _ _ ((14, .agg #[iV ab.1, ad, iV ab.2.2]) :: _) _
   refine zq (cs := [iV 0, nS, iV 0]) aD z55 q q q (fun aX aY al => ?_)
   refine qA q q q ?_
   refine zl (cs' := [iV ab.1, ad, iV ab.2.2]) al q il55 q (T q (T (al.ctx.sliceOne hR1) (T q q))) q q q (fun aZ ah => ?_)
   refine B <| C <| zk ?_
   have aE := R ah.p0
   refine zm (cs := [iV ab.1, ad, iV ab.2.2]) us55 uo55 il55 aE q q q ?_
   change XL _ _ _ _ _ ((15, .agg #[iV ab.1, ad, iV ab.2.2]) :: _) _
   refine qM q q q ?_
   obtain ⟨aF, aG, aa⟩ := D aa
   refine QC q q c78 (fun w' hb => w_impl_itemValid w' _ ab.1 ad ab.2.1 hR1 ab.2.2 s2 aF aG (ah.grow hb).ctx) (by rfl) <| A q (qt_not q) q q <| QL_nil fun a ha a0 aH => ?_
   have am := ah.grow aH
   refine X (S ?_ ha)
   refine Y q (fun ai => ?_) (fun ai => ?_)
   ·have aa := if_t ai aa
    refine rR <| qA q q q <| B <| W fun a ha => ?_
    obtain rfl := L aa
    have aI := am.q0.q0
    exact zj (m (⟨ret_ne, q, ha.sub ⟨q, trivial⟩, aI⟩))
   have aa := if_f ai aa
   refine WP_skip fun a ha => ?_
   refine zi (X (S ?_ ha))
   refine Z <| A q (qt_add q q) q q <| qM q q q <| WL_nil fun a ha => ?_
   obtain rfl := L aa
   have aJ := am.q0.q0
   exact ⟨q, ha.sub ⟨q, q, q, trivial⟩, aJ⟩
  have aa := if_f ag aa
  refine WP_exit fun a ha => ?_
  obtain rfl := L aa
  exact zo (⟨exit_ne, q, ha.sub trivial, af⟩)
 intro e a5 a1 an
 rcases o3 with o3 | o3
 ·skip
  obtain ⟨rfl, aK⟩ := an
  obtain ⟨ha, aL⟩ := aK
  refine zn (X (S ?_ ha))
  refine rR <| qA q q q <| B <| W fun a ha => ?_
  obtain rfl := L h
  exact ret1 q ha q ⟨q, aL⟩
 skip
 obtain ⟨a2, rfl⟩ : ∃ z, z = o3 := ⟨o3, q⟩
 obtain ⟨rfl, aM⟩ := an
 obtain ⟨ha, aN⟩ := aM
 obtain rfl := L h
 exact zj (m (ret1 q ha q ⟨q, aN⟩))
theorem w_impl_amountsOk (w : World) (G : List Res) (vp0 : Value) (p0 : List Int) (hp0 : Has G tI vp0 p0) (p1 : Int) (p2 : Int) (r : Bool) (h : impl_amountsOkS p0 p1 p2 = some r) (H : Ctx w G) : Calls Tryz.prog 42 #[vp0, iV p1, iV p2] w fun e w' => e = .returned (.bool r) ∧ Holds M0 w w' [] G := by
 have H : Holds M0 w w [] G := zb H
 refine zg (args := [vp0, iV p1, iV p2]) (n := 27) Tryz.func42 q q q ?_
 unfold impl_amountsOkS at h
 refine rR <| qA q q q <| B <| C <| rR <| qM q q q <| za H.ctx (t := tI) (hp0) u24 q q q <| qM q q q ?_
 refine A q (qt_neq q q) q q <| B ?_
 refine Y q (fun ae => ?_) (fun ae => ?_)
 ·have h := if_t ae h
  refine rR <| qA q q q <| B <| W fun a ha => ?_
  obtain rfl := L h
  exact m (ret1 q ha q ⟨q, H⟩)
 have h := if_f ae h
 refine y <| C <| rR <| qM q q q <| za H.ctx (t := tI) (hp0) u24 q q q <| qM q q q <| B <| g ?_
 obtain ⟨o3, al, h⟩ := D h
 refine fun a5 ai => zp (I := fun s a w2 => match s with | s2 => (Fr a 27 [(2, iV p2), (13, vp0), (14, iV (List.length p0 : Int)), (15, iV s2)] ∧ Holds M0 w w2 [] G)) (O := fun o e a w2 => match o with | .inl _ => e = .exit 0 ∧ (Fr a 27 [] ∧ Holds M0 w w2 [] G) | .inr q0 => e = .ret ∧ (Fr a 27 [(6, .bool q0)] ∧ Holds M0 w w2 [] G)) al ?_ ?_ ?_
 ·exact ⟨ai.sub ⟨q, q, q, q, trivial⟩, H⟩
 ·clear ai
  intro s o9 a w7 aa am
  obtain ⟨s2, rfl⟩ : ∃ z, z = s := ⟨s, q⟩
  obtain ⟨ha, ad⟩ := am
  refine S ?_ ha
  clear ha
  refine rR <| A q (qt_lss q q) q q <| B <| C ?_
  refine Y q (fun af => ?_) (fun af => ?_)
  ·have aa := if_t af aa
   refine y <| C <| g <| C <| Z ?_
   obtain ⟨ag, aj, aa⟩ := D aa
   refine b ad.ctx (hp0) aj u24 i3 q q q q (fun av aw ax an => ?_)
   obtain ⟨ay, ao, az⟩ := ad.at (hp0) aj an
   refine zt (k := .i64) u3 q ao q q q <| qA q q q <| rN <| qM q q q <| A q (qt_lss q q) q q <| qM q q q ?_
   refine zh 4 25 (.bool ((decide (ag < 0)) || (decide (ag > p2)))) ?_ (fun md hmd hk => ?_)
   rotate_left
   ·obtain ⟨Q, rfl⟩ := Md.seq_of hmd
    rcases btf (decide (ag < 0)) with ab | ab
    ·skip
     refine qS q ab q q <| qS q ab q q <| qS q ab q q <| A q (ze q ab q) q q ?_
     exact hk _ (p (by rw [ab]; rfl) (cfn 3 q (u)))
    skip
    refine qM (J q ab) q q <| qM (J q ab) q q <| A (J q ab) (qt_gtr q q) q q <| A q (zf q ab q) q q ?_
    exact hk _ (p (by rw [ab]; rfl) (cfn 3 q (u)))
   refine B ?_
   refine Y q (fun ah => ?_) (fun ah => ?_)
   ·have aa := if_t ah aa
    refine rR <| qA q q q <| B <| W fun a ha => ?_
    obtain rfl := L aa
    exact zj (m (⟨ret_ne, q, ha.sub ⟨q, trivial⟩, ad⟩))
   have aa := if_f ah aa
   refine WP_skip fun a ha => ?_
   refine zi (X (S ?_ ha))
   refine Z <| A q (qt_add q q) q q <| qM q q q <| WL_nil fun a ha => ?_
   obtain rfl := L aa
   exact ⟨q, ha.sub ⟨q, q, q, q, trivial⟩, ad⟩
  have aa := if_f af aa
  refine WP_exit fun a ha => ?_
  obtain rfl := L aa
  exact zo (⟨exit_ne, q, ha.sub trivial, ad⟩)
 intro e a5 aA ak
 rcases o3 with o3 | o3
 ·skip
  obtain ⟨rfl, ap⟩ := ak
  obtain ⟨ha, aq⟩ := ap
  refine zn (X (S ?_ ha))
  refine rR <| qA q q q <| B <| W fun a ha => ?_
  obtain rfl := L h
  exact ret1 q ha q ⟨q, aq⟩
 skip
 obtain ⟨p28, rfl⟩ : ∃ z, z = o3 := ⟨o3, q⟩
 obtain ⟨rfl, ar⟩ := ak
 obtain ⟨ha, au⟩ := ar
 obtain rfl := L h
 exact zj (m (ret1 q ha q ⟨q, au⟩))
theorem w_impl_PricesValid (w : World) (G : List Res) (vp0 : Value) (p0 : LI) (hp0 : Has G ty10 vp0 p0) (vp1 : Value) (p1 : List Int) (hp1 : Has G tI vp1 p1) (r : Bool) (h : impl_PricesValidS p0 p1 = some r) (H : Ctx w G) : Calls Tryz.prog 41 #[vp0, vp1] w fun e w' => e = .returned (.bool r) ∧ Holds M0 w w' [] G := by
 have H : Holds M0 w w [] G := zb H
 refine zg (args := [vp0, vp1]) (n := 13) Tryz.func41 q q q ?_
 unfold impl_PricesValidS at h
 refine rR <| qA q q q <| B <| C <| zk <| qM q q q ?_
 obtain ⟨x1, ad, h⟩ := D h
 refine QC q q c76 (fun w' hb => w_impl_ItemsValid w' G vp0 p0 (hp0) x1 ad (H.grow hb).ctx) (by rfl) <| qM q q q ?_
 obtain ⟨b3, ab, h⟩ := D h
 refine zh 5 12 (.bool b3) ?_ (fun md hmd hk => ?_)
 rotate_left
 ·obtain ⟨K, rfl⟩ := zr hmd
  rcases btf x1 with aa | aa
  ·skip
   have ab := if_t aa ab
   refine qM (J q aa) q q <| qM (J q aa) q q <| za H.ctx (t := ty10) (hp0) u23 (J q aa) q q ?_
   obtain ⟨x6, ae, ab⟩ := D ab
   refine QC (J q aa) q c42 (fun w' hb => w_impl_amountsOk w' G vp1 p1 (hp1) (List.length p0 : Int) 20 x6 ae (H.grow hb).ctx) (by rfl) <| A q (ze q aa q) q q ?_
   exact hk _ (p (vb ab) (cfn 4 q (u)))
  skip
  refine qS q aa q q <| qS q aa q q <| qS q aa q q <| qS q aa q q <| A q (zf q aa q) q q ?_
  exact hk _ (p (vb (if_f aa ab)) (cfn 4 q (u)))
 refine qA q q q <| QL_nil fun a ha w8 af => ?_
 have ag := H.grow af
 refine X (S ?_ ha)
 refine W fun a ha => ?_
 obtain rfl := L h
 exact ret1 q ha q ⟨q, ag⟩
theorem w_impl_finished (w : World) (G : List Res) (B0 : Int) (B1 : Int) (r : Bool) (h : impl_finishedS B0 B1 = some r) (H : Ctx w G) : Calls Tryz.prog 84 #[.agg #[iV B0, iV B1]] w fun e w' => e = .returned (.bool r) ∧ Holds M0 w w' [] G := by
 have H : Holds M0 w w [] G := zb H
 refine zg (args := [.agg #[iV B0, iV B1]]) (n := 11) Tryz.func84 q q q ?_
 unfold impl_finishedS at h
 refine C <| Z ?_
 refine WL_box (cs := [iV B0, iV B1]) H q q q q (fun b1 w2 H3 => ?_)
 refine qA q q q <| rN <| qF uf49 fi49_1 nz3 q q q ?_
 have ab := R H3.p0
 refine l u3 q ab q q q q <| A q (qt_eql q q) q q <| qM q q q ?_
 refine zh 4 10 (.bool ((B1 == 3) || (B1 == 4))) ?_ (fun md hmd hk => ?_)
 rotate_left
 ·obtain ⟨Q, rfl⟩ := Md.seq_of hmd
  rcases btf (B1 == 3) with aa | aa
  ·skip
   refine qS q aa q q <| qS q aa q q <| qS q aa q q <| A q (ze q aa q) q q ?_
   exact hk _ (p (by rw [aa]; rfl) (cfn 3 q (u)))
  skip
  refine qF uf49 fi49_1 nz3 (J q aa) q q ?_
  have ad := R H3.p0
  refine l u3 q ad q (J q aa) q q <| A (J q aa) (qt_eql q q) q q <| A q (zf q aa q) q q ?_
  exact hk _ (p (by rw [aa]; rfl) (cfn 3 q (u)))
 refine qA q q q <| B <| W fun a ha => ?_
 obtain rfl := L h
 have H8 := H3.q0
 exact ret1 q ha q ⟨q, H8⟩
theorem w_impl_reached (w : World) (G : List Res) (vp0 : Value) (p0 : LP) (hp0 : Has G ty2 vp0 p0) (p1 : Int) (r : Bool) (h : impl_reachedS p0 p1 = some r) (H : Ctx w G) : Calls Tryz.prog 102 #[vp0, iV p1] w fun e w' => e = .returned (.bool r) ∧ Holds M0 w w' [] G := by
 have H : Holds M0 w w [] G := zb H
 refine zg (args := [vp0, iV p1]) (n := 23) Tryz.func102 q q q ?_
 unfold impl_reachedS at h
 refine rR <| qA q q q <| B <| C <| rR <| qM q q q <| za H.ctx (t := ty2) (hp0) u45 q q q <| qM q q q ?_
 refine B <| g ?_
 obtain ⟨o2, an, h⟩ := D h
 refine fun a4 aj => zp (I := fun s a w2 => match s with | s1 => (Fr a 23 [(1, iV p1), (7, vp0), (8, iV (List.length p0 : Int)), (9, iV s1)] ∧ Holds M0 w w2 [] G)) (O := fun o e a w2 => match o with | .inl _ => e = .exit 0 ∧ (Fr a 23 [] ∧ Holds M0 w w2 [] G) | .inr q0 => e = .ret ∧ (Fr a 23 [(4, .bool q0)] ∧ Holds M0 w w2 [] G)) an ?_ ?_ ?_
 ·exact ⟨aj.sub ⟨q, q, q, q, trivial⟩, H⟩
 ·clear aj
  intro s o8 a w6 aa ao
  obtain ⟨s1, rfl⟩ : ∃ z, z = s := ⟨s, q⟩
  obtain ⟨ha, af⟩ := ao
  refine S ?_ ha
  clear ha
  refine rR <| A q (qt_lss q q) q q <| B <| C ?_
  refine Y q (fun ah => ?_) (fun ah => ?_)
  ·have aa := if_t ah aa
   refine y <| C <| g <| C <| Z ?_
   obtain ⟨ab, ak, aa⟩ := D aa
   refine b af.ctx (hp0) ak u45 i49 q q q q (fun aJ aK aL ap => ?_)
   obtain ⟨aM, aq, aN⟩ := af.atN (hp0) ak ap
   refine XL_load_agg (t := ty2) us49 uo49 i49 aq q q q (fun aO ar => ?_)
   obtain ⟨c23, c24, aP, aQ, rfl, aR, au, av⟩ := ar
   obtain ⟨rfl, _⟩ := au
   obtain ⟨rfl, _⟩ := av
   change XL _ _ _ _ _ ((12, .agg #[iV ab.1, iV ab.2]) :: _) _
   refine zq (cs := [iV 0, iV 0]) af z49 q q q (fun aS aT aw => ?_)
   refine zl (cs' := [iV ab.1, iV ab.2]) aw q il49 q q q q q (fun aU ag => ?_)
   refine B <| C <| zk <| qF uf49 fi49_0 nz3 q q q ?_
   have ax := R ag.p0
   refine l u3 q ax q q q q <| qM q q q <| A q (qt_lss q q) q q <| qM q q q ?_
   obtain ⟨ay, ae, aa⟩ := D aa
   refine zh 4 21 (.bool ay) ?_ (fun md hmd hk => ?_)
   rotate_left
   ·obtain ⟨K, rfl⟩ := zr hmd
    rcases btf (decide (ab.1 < p1)) with ad | ad
    ·skip
     have ae := if_t ad ae
     have az := R ag.p0
     refine zm (cs := [iV ab.1, iV ab.2]) us49 uo49 il49 az (J q ad) q q ?_
     change XL _ _ _ _ _ ((18, .agg #[iV ab.1, iV ab.2]) :: _) _
     obtain ⟨aA, aB, ae⟩ := D ae
     refine QC (J q ad) q c84 (fun w' hb => w_impl_finished w' _ ab.1 ab.2 aA aB (ag.grow hb).ctx) (by rfl) <| A (J q ad) (qt_not q) q q <| A q (ze q ad q) q q ?_
     exact hk _ (p (vb ae) (cfn 3 q (u)))
    skip
    refine qS q ad q q <| qS q ad q q <| qS q ad q q <| A q (zf q ad q) q q ?_
    exact hk _ (p (vb (if_f ad ae)) (cfn 3 q (u)))
   refine QL_nil fun a ha aV aC => ?_
   have al := ag.grow aC
   refine X (S ?_ ha)
   refine Y q (fun ai => ?_) (fun ai => ?_)
   ·have aa := if_t ai aa
    refine rR <| qA q q q <| B <| W fun a ha => ?_
    obtain rfl := L aa
    have aD := al.q0
    exact zj (m (⟨ret_ne, q, ha.sub ⟨q, trivial⟩, aD⟩))
   have aa := if_f ai aa
   refine WP_skip fun a ha => ?_
   refine zi (X (S ?_ ha))
   refine Z <| A q (qt_add q q) q q <| qM q q q <| WL_nil fun a ha => ?_
   obtain rfl := L aa
   have aE := al.q0
   exact ⟨q, ha.sub ⟨q, q, q, q, trivial⟩, aE⟩
  have aa := if_f ah aa
  refine WP_exit fun a ha => ?_
  obtain rfl := L aa
  exact zo (⟨exit_ne, q, ha.sub trivial, af⟩)
 intro e a4 aW am
 rcases o2 with o2 | o2
 ·skip
  obtain ⟨rfl, aF⟩ := am
  obtain ⟨ha, aG⟩ := aF
  refine zn (X (S ?_ ha))
  refine rR <| qA q q q <| B <| W fun a ha => ?_
  obtain rfl := L h
  exact ret1 q ha q ⟨q, aG⟩
 skip
 obtain ⟨aX, rfl⟩ : ∃ z, z = o2 := ⟨o2, q⟩
 obtain ⟨rfl, aH⟩ := am
 obtain ⟨ha, aI⟩ := aH
 obtain rfl := L h
 exact zj (m (ret1 q ha q ⟨q, aI⟩))
theorem w_impl_TicketValid (w : World) (G : List Res) (vp0 : Value) (p0 : LP) (hp0 : Has G ty2 vp0 p0) (r : Bool) (h : impl_TicketValidS p0 = some r) (H : Ctx w G) : Calls Tryz.prog 77 #[vp0] w fun e w' => e = .returned (.bool r) ∧ Holds M0 w w' [] G := by
 have H : Holds M0 w w [] G := zb H
 refine zg (args := [vp0]) (n := 57) Tryz.func77 q q q ?_
 unfold impl_TicketValidS at h
 refine rR <| qA q q q <| B <| C <| rR <| qM q q q <| za H.ctx (t := ty2) (hp0) u45 q q q <| A q (qt_gtr q q) q q ?_
 refine B ?_
 refine Y q (fun aq => ?_) (fun aq => ?_)
 ·have h := if_t aq h
  refine rR <| qA q q q <| B <| W fun a ha => ?_
  obtain rfl := L h
  exact m (ret1 q ha q ⟨q, H⟩)
 have h := if_f aq h
 refine y <| C <| rR <| qM q q q <| za H.ctx (t := ty2) (hp0) u45 q q q <| qM q q q <| B <| g ?_
 obtain ⟨o3, aG, h⟩ := D h
 refine fun a5 ax => zp (I := fun s a w2 => match s with | s2 => (Fr a 57 [(0, vp0), (10, vp0), (11, iV (List.length p0 : Int)), (12, iV s2)] ∧ Holds M0 w w2 [] G)) (O := fun o e a w2 => match o with | .inl _ => e = .exit 0 ∧ (Fr a 57 [(0, vp0)] ∧ Holds M0 w w2 [] G) | .inr q0 => e = .ret ∧ (Fr a 57 [(2, .bool q0)] ∧ Holds M0 w w2 [] G)) aG ?_ ?_ ?_
 ·exact ⟨ax.sub ⟨q, q, q, q, trivial⟩, H⟩
 ·clear ax
  intro s o9 a w7 ae aH
  obtain ⟨s2, rfl⟩ : ∃ z, z = s := ⟨s, q⟩
  obtain ⟨ha, ao⟩ := aH
  refine S ?_ ha
  clear ha
  refine rR <| A q (qt_lss q q) q q <| B <| C ?_
  refine Y q (fun ar => ?_) (fun ar => ?_)
  ·have ae := if_t ar ae
   refine y <| C <| g <| C <| Z ?_
   obtain ⟨aa, ay, ae⟩ := D ae
   refine b ao.ctx (hp0) ay u45 i49 q q q q (fun bk bl bm aI => ?_)
   obtain ⟨bn, aJ, bo⟩ := ao.atN (hp0) ay aI
   refine XL_load_agg (t := ty2) us49 uo49 i49 aJ q q q (fun bp aK => ?_)
   obtain ⟨c24, c25, bq, br, rfl, bs, aL, aM⟩ := aK
   obtain ⟨rfl, _⟩ := aL
   obtain ⟨rfl, _⟩ := aM
   change XL _ _ _ _ _ ((15, .agg #[iV aa.1, iV aa.2]) :: _) _
   refine zq (cs := [iV 0, iV 0]) ao z49 q q q (fun bt bu aN => ?_)
   refine zl (cs' := [iV aa.1, iV aa.2]) aN q il49 q q q q q (fun bv ak => ?_)
   refine rN <| qF uf49 fi49_0 nz3 q q q ?_
   have aO := R ak.p0
   refine l u3 q aO q q q q <| A q (qt_lss q q) q q <| qM q q q ?_
   refine zh 4 23 (.bool ((decide (aa.1 < 0)) || (decide (aa.1 > 2)))) ?_ (fun md hmd hk => ?_)
   rotate_left
   ·obtain ⟨Q, rfl⟩ := Md.seq_of hmd
    rcases btf (decide (aa.1 < 0)) with af | af
    ·skip
     refine qS q af q q <| qS q af q q <| qS q af q q <| A q (ze q af q) q q ?_
     exact hk _ (p (by rw [af]; rfl) (cfn 3 q (u)))
    skip
    refine qF uf49 fi49_0 nz3 (J q af) q q ?_
    have aP := R ak.p0
    refine l u3 q aP q (J q af) q q <| A (J q af) (qt_gtr q q) q q <| A q (zf q af q) q q ?_
    exact hk _ (p (by rw [af]; rfl) (cfn 3 q (u)))
   refine qM q q q ?_
   refine zh 4 28 (.bool (((decide (aa.1 < 0)) || (decide (aa.1 > 2))) || (decide (aa.2 < 0)))) ?_ (fun md hmd hk => ?_)
   rotate_left
   ·obtain ⟨Q, rfl⟩ := Md.seq_of hmd
    rcases btf ((decide (aa.1 < 0)) || (decide (aa.1 > 2))) with ag | ag
    ·skip
     refine qS q ag q q <| qS q ag q q <| qS q ag q q <| A q (ze q ag q) q q ?_
     exact hk _ (p (by rw [ag]; rfl) (cfn 3 q (u)))
    skip
    refine qF uf49 fi49_1 nz3 (J q ag) q q ?_
    have aQ := R ak.p0
    refine l u3 q aQ q (J q ag) q q <| A (J q ag) (qt_lss q q) q q <| A q (zf q ag q) q q ?_
    exact hk _ (p (by rw [ag]; rfl) (cfn 3 q (u)))
   refine qM q q q ?_
   refine zh 4 33 (.bool ((((decide (aa.1 < 0)) || (decide (aa.1 > 2))) || (decide (aa.2 < 0))) || (decide (aa.2 > 4)))) ?_ (fun md hmd hk => ?_)
   rotate_left
   ·obtain ⟨Q, rfl⟩ := Md.seq_of hmd
    rcases btf (((decide (aa.1 < 0)) || (decide (aa.1 > 2))) || (decide (aa.2 < 0))) with ah | ah
    ·skip
     refine qS q ah q q <| qS q ah q q <| qS q ah q q <| A q (ze q ah q) q q ?_
     exact hk _ (p (by rw [ah]; rfl) (cfn 3 q (u)))
    skip
    refine qF uf49 fi49_1 nz3 (J q ah) q q ?_
    have aR := R ak.p0
    refine l u3 q aR q (J q ah) q q <| A (J q ah) (qt_gtr q q) q q <| A q (zf q ah q) q q ?_
    exact hk _ (p (by rw [ah]; rfl) (cfn 3 q (u)))
   refine B ?_
   refine Y q (fun au => ?_) (fun au => ?_)
   ·have ae := if_t au ae
    refine rR <| qA q q q <| B <| W fun a ha => ?_
    obtain rfl := L ae
    have aS := ak.q0
    exact zj (m (⟨ret_ne, q, ha.sub ⟨q, trivial⟩, aS⟩))
   have ae := if_f au ae
   refine WP_skip fun a ha => ?_
   refine zi (X (S ?_ ha))
   refine Z <| A q (qt_add q q) q q <| qM q q q <| WL_nil fun a ha => ?_
   obtain rfl := L ae
   have aT := ak.q0
   exact ⟨q, ha.sub ⟨q, q, q, q, trivial⟩, aT⟩
  have ae := if_f ar ae
  refine WP_exit fun a ha => ?_
  obtain rfl := L ae
  exact zo (⟨exit_ne, q, ha.sub ⟨q, trivial⟩, ao⟩)
 intro e a5 bw az
 rcases o3 with o3 | o3
 ·skip
  obtain ⟨rfl, aU⟩ := az
  obtain ⟨ha, aA⟩ := aU
  refine zn (X (S ?_ ha))
  refine C <| rR <| qM q q q <| za aA.ctx (t := ty2) (hp0) u45 q q q <| qM q q q <| B <| g ?_
  obtain ⟨am, aV, h⟩ := D h
  refine fun aW aB => zp (I := fun s a w2 => match s with | aC => (Fr a 57 [(0, vp0), (35, vp0), (36, iV (List.length p0 : Int)), (37, iV aC)] ∧ Holds M0 w w2 [] G)) (O := fun o e a w2 => match o with | .inl _ => e = .exit 2 ∧ (Fr a 57 [] ∧ Holds M0 w w2 [] G) | .inr q0 => e = .ret ∧ (Fr a 57 [(2, .bool q0)] ∧ Holds M0 w w2 [] G)) aV ?_ ?_ ?_
  ·exact ⟨aB.sub ⟨q, q, q, q, trivial⟩, aA⟩
  ·clear aB
   intro s bz a bA ab aX
   obtain ⟨aC, rfl⟩ : ∃ z, z = s := ⟨s, q⟩
   obtain ⟨ha, ap⟩ := aX
   refine S ?_ ha
   clear ha
   refine rR <| A q (qt_lss q q) q q <| B <| C ?_
   refine Y q (fun av => ?_) (fun av => ?_)
   ·have ab := if_t av ab
    refine y <| C <| g <| C <| Z ?_
    obtain ⟨aj, aD, ab⟩ := D ab
    refine b ap.ctx (hp0) aD u45 i49 q q q q (fun bB bC bD aY => ?_)
    obtain ⟨bE, aZ, bF⟩ := ap.atN (hp0) aD aY
    refine XL_load_agg (t := ty2) us49 uo49 i49 aZ q q q (fun bG a0 => ?_)
    obtain ⟨c74, c75, bH, bI, rfl, bJ, a1, a2⟩ := a0
    obtain ⟨rfl, _⟩ := a1
    obtain ⟨rfl, _⟩ := a2
    change XL _ _ _ _ _ ((40, .agg #[iV aj.1, iV aj.2]) :: _) _
    refine zq (cs := [iV 0, iV 0]) ap z49 q q q (fun bK bL a3 => ?_)
    refine zl (cs' := [iV aj.1, iV aj.2]) a3 q il49 q q q q q (fun bM an => ?_)
    refine B <| C <| zk <| qF uf49 fi49_1 nz3 q q q ?_
    have a4 := R an.p0
    refine l u3 q a4 q q q q <| A q (qt_neq q q) q q <| qM q q q ?_
    refine zh 4 48 (.bool ((aj.2 != 0) && (aj.2 != 4))) ?_ (fun md hmd hk => ?_)
    rotate_left
    ·obtain ⟨K, rfl⟩ := zr hmd
     rcases btf (aj.2 != 0) with ai | ai
     ·skip
      refine qF uf49 fi49_1 nz3 (J q ai) q q ?_
      have a6 := R an.p0
      refine l u3 q a6 q (J q ai) q q <| A (J q ai) (qt_neq q q) q q <| A q (ze q ai q) q q ?_
      exact hk _ (p (by rw [ai]; rfl) (cfn 3 q (u)))
     skip
     refine qS q ai q q <| qS q ai q q <| qS q ai q q <| A q (zf q ai q) q q ?_
     exact hk _ (p (by rw [ai]; rfl) (cfn 3 q (u)))
    refine qM q q q ?_
    obtain ⟨a7, al, ab⟩ := D ab
    refine zh 6 55 (.bool a7) ?_ (fun md hmd hk => ?_)
    rotate_left
    ·obtain ⟨K, rfl⟩ := zr hmd
     rcases btf ((aj.2 != 0) && (aj.2 != 4)) with ad | ad
     ·skip
      have al := if_t ad al
      refine qM (J q ad) q q <| qF uf49 fi49_0 nz3 (J q ad) q q ?_
      have a8 := R an.p0
      refine l u3 q a8 q (J q ad) q q ?_
      obtain ⟨a9, ba, al⟩ := D al
      refine QC (J q ad) q c102 (fun w' hb => w_impl_reached w' _ vp0 p0 (hp0.c) aj.1 a9 ba (an.grow hb).ctx) (by rfl) <| A (J q ad) (qt_not q) q q <| A q (ze q ad q) q q ?_
      exact hk _ (p (vb al) (cfn 5 q (u)))
     skip
     refine qS q ad q q <| qS q ad q q <| qS q ad q q <| qS q ad q q <| qS q ad q q <| A q (zf q ad q) q q ?_
     exact hk _ (p (vb (if_f ad al)) (cfn 5 q (u)))
    refine QL_nil fun a ha bN bb => ?_
    have aE := an.grow bb
    refine X (S ?_ ha)
    refine Y q (fun aw => ?_) (fun aw => ?_)
    ·have ab := if_t aw ab
     refine rR <| qA q q q <| B <| W fun a ha => ?_
     obtain rfl := L ab
     have bc := aE.q0
     exact zj (m (⟨ret_ne, q, ha.sub ⟨q, trivial⟩, bc⟩))
    have ab := if_f aw ab
    refine WP_skip fun a ha => ?_
    refine zi (X (S ?_ ha))
    refine Z <| A q (qt_add q q) q q <| qM q q q <| WL_nil fun a ha => ?_
    obtain rfl := L ab
    have bd := aE.q0
    exact ⟨q, ha.sub ⟨q, q, q, q, trivial⟩, bd⟩
   have ab := if_f av ab
   refine WP_exit fun a ha => ?_
   obtain rfl := L ab
   exact zo (⟨exit_ne, q, ha.sub trivial, ap⟩)
  intro e aW bO aF
  rcases am with am | am
  ·skip
   obtain ⟨rfl, be⟩ := aF
   obtain ⟨ha, bf⟩ := be
   refine zn (X (S ?_ ha))
   refine rR <| qA q q q <| B <| W fun a ha => ?_
   obtain rfl := L h
   exact ret1 q ha q ⟨q, bf⟩
  skip
  obtain ⟨bP, rfl⟩ : ∃ z, z = am := ⟨am, q⟩
  obtain ⟨rfl, bg⟩ := aF
  obtain ⟨ha, bh⟩ := bg
  obtain rfl := L h
  exact zj (m (ret1 q ha q ⟨q, bh⟩))
 skip
 obtain ⟨bQ, rfl⟩ : ∃ z, z = o3 := ⟨o3, q⟩
 obtain ⟨rfl, bi⟩ := az
 obtain ⟨ha, bj⟩ := bi
 obtain rfl := L h
 exact zj (m (ret1 q ha q ⟨q, bj⟩))
theorem w_impl_UsesOf (w : World) (G : List Res) (vp0 : Value) (p0 : LI) (hp0 : Has G ty10 vp0 p0) (p1 : Int) (r : Int) (h : impl_UsesOfS p0 p1 = some r) (H : Ctx w G) : Calls Tryz.prog 109 #[vp0, iV p1] w fun e w' => e = .returned (iV r) ∧ Holds M0 w w' [] G := by
 have H : Holds M0 w w [] G := zb H
 refine zg (args := [vp0, iV p1]) (n := 51) Tryz.func109 q q q ?_
 unfold impl_UsesOfS at h
 refine rR <| qA q q q <| B <| C <| C <| zk <| qM q q q ?_
 obtain ⟨x1, aC, h⟩ := D h
 refine QC q q c76 (fun w' hb => w_impl_ItemsValid w' G vp0 p0 (hp0) x1 aC (H.grow hb).ctx) (by rfl) <| A q (qt_not q) q q <| qM q q q ?_
 refine zh 3 15 (.bool ((!x1) || (decide (p1 < 0)))) ?_ (fun md hmd hk => ?_)
 rotate_left
 ·obtain ⟨K, rfl⟩ := zr hmd
  rcases btf (!x1) with ae | ae
  ·skip
   refine qS q ae q q <| qS q ae q q <| A q (ze q ae q) q q ?_
   exact hk _ (p (by rw [ae]; rfl) (cfn 2 q (u)))
  skip
  refine qM (J q ae) q q <| A (J q ae) (qt_lss q q) q q <| A q (zf q ae q) q q ?_
  exact hk _ (p (by rw [ae]; rfl) (cfn 2 q (u)))
 refine qM q q q ?_
 refine zh 5 21 (.bool (((!x1) || (decide (p1 < 0))) || (decide (p1 ≥ (List.length p0 : Int))))) ?_ (fun md hmd hk => ?_)
 rotate_left
 ·obtain ⟨K, rfl⟩ := zr hmd
  rcases btf ((!x1) || (decide (p1 < 0))) with ab | ab
  ·skip
   refine qS q ab q q <| qS q ab q q <| qS q ab q q <| qS q ab q q <| A q (ze q ab q) q q ?_
   exact hk _ (p (by rw [ab]; rfl) (cfn 4 q (u)))
  skip
  refine qM (J q ab) q q <| qM (J q ab) q q <| za H.ctx (t := ty10) (hp0) u23 (J q ab) q q <| A (J q ab) (qt_geq q q) q q <| A q (zf q ab q) q q ?_
  exact hk _ (p (by rw [ab]; rfl) (cfn 4 q (u)))
 refine QL_nil fun a ha w5 aD => ?_
 have H7 := H.grow aD
 refine X (S ?_ ha)
 refine Y q (fun aj => ?_) (fun aj => ?_)
 ·have h := if_t aj h
  refine rR <| qA q q q <| B <| W fun a ha => ?_
  obtain rfl := L h
  exact m (ret1 q ha q ⟨q, H7⟩)
 have h := if_f aj h
 refine y <| rR <| qM q q q ?_
 obtain ⟨x9, aE, h⟩ := D h
 refine A q (qt_shlO q q aE) q q <| qA q q q <| B <| C <| rR <| qM q q q <| qA q q q <| B <| g ?_
 obtain ⟨ap, aF, h⟩ := D h
 refine fun aG aq => zp (I := fun s a w2 => match s with | (ar, af) => (Fr a 51 [(0, vp0), (5, iV ar), (6, iV af)] ∧ Holds M0 w w2 [] G)) (O := fun o e a w2 => match o with | q0 => e = .exit 0 ∧ (Fr a 51 [(5, iV q0)] ∧ Holds M0 w w2 [] G)) aF ?_ ?_ ?_
 ·exact ⟨aq.sub ⟨q, q, q, trivial⟩, H7⟩
 ·clear aq
  intro s bb a aH aa aI
  obtain ⟨ar, af⟩ := s
  obtain ⟨ha, ag⟩ := aI
  refine S ?_ ha
  clear ha
  refine C <| rR <| qM q q q <| A q (qt_geq q q) q q <| B ?_
  refine Y q (fun ak => ?_) (fun ak => ?_)
  ·have aa := if_t ak aa
   refine y <| C <| g <| C <| rR <| qM q q q <| qM q q q ?_
   obtain ⟨bc, aJ, aa⟩ := D aa
   refine A q (qt_shlO q q aJ) q q <| A q (qt_and q q) q q <| A q (qt_eql q q) q q <| B ?_
   refine Y q (fun al => ?_) (fun al => ?_)
   ·have aa := if_t al aa
    refine WP_exit fun a ha => ?_
    refine zo (zn (X (S ?_ ha)))
    refine Z <| qM q q q <| A q (qt_sub q q) q q <| qA q q q <| WL_nil fun a ha => ?_
    obtain rfl := L aa
    exact ⟨q, ha.sub ⟨q, q, q, trivial⟩, ag⟩
   have aa := if_f al aa
   refine y <| rR <| qM q q q <| qM q q q ?_
   obtain ⟨am, au, aa⟩ := D aa
   refine b ag.ctx (hp0) au u23 i55 q q q q (fun bd be bf aK => ?_)
   refine qF uf55 fi55_1 nz53 q q q ?_
   obtain ⟨bg, aL, aM⟩ := ag.at (hp0) au aK
   obtain ⟨bh, aN, aO⟩ := AtP.snd aL
   obtain ⟨bi, aP, aQ⟩ := AtP.fst aN
   refine XL_load (t := ty4) u53 q q aP q q q (fun an aR => ?_)
   have av : Holds _ w aH [.ro ty2 an am.2.1] G := aM _ _ _ _ aR (fun k h => (fun k h => (fun _ h => h) k (aO k h)) k (aQ k h))
   refine za av.ctx (t := ty2) hR0 u53 q q q <| qM q q q <| B <| g ?_
   obtain ⟨aw, aS, aa⟩ := D aa
   refine fun aT ax => zp (I := fun s a w2 => match s with | (ay, az) => (Fr a 51 [(0, vp0), (5, iV ay), (6, iV af), (38, an), (39, iV (List.length am.2.1 : Int)), (40, iV az)] ∧ Holds M0 w w2 [.ro ty2 an am.2.1] G)) (O := fun o e a w2 => match o with | q0 => e = .exit 2 ∧ (Fr a 51 [(0, vp0), (5, iV q0), (6, iV af)] ∧ Holds M0 w w2 [] G)) aS ?_ ?_ ?_
   ·exact ⟨ax.sub ⟨q, q, q, q, q, q, trivial⟩, av⟩
   ·clear ax
    intro s bj a bk ad aU
    obtain ⟨ay, az⟩ := s
    obtain ⟨ha, ah⟩ := aU
    refine S ?_ ha
    clear ha
    refine rR <| A q (qt_lss q q) q q <| B <| C ?_
    refine Y q (fun ao => ?_) (fun ao => ?_)
    ·have ad := if_t ao ad
     refine y <| C <| g <| C <| Z ?_
     obtain ⟨ai, aA, ad⟩ := D ad
     refine b ah.ctx hR0 aA u53 i57 q q q q (fun bl bm bn aV => ?_)
     obtain ⟨bo, aW, bp⟩ := ah.atN hR0 aA aV
     refine XL_load_agg (t := ty2) us57 uo57 i57 aW q q q (fun bq aX => ?_)
     obtain ⟨c67, c68, br, bs, rfl, bt, aY, aZ⟩ := aX
     obtain ⟨rfl, _⟩ := aY
     obtain ⟨rfl, _⟩ := aZ
     change XL _ _ _ _ _ ((43, .agg #[iV ai.1, iV ai.2]) :: _) _
     refine zq (cs := [iV 0, iV 0]) ah z57 q q q (fun bu bv a0 => ?_)
     refine zl (cs' := [iV ai.1, iV ai.2]) a0 q il57 q q q q q (fun bw aB => ?_)
     refine B <| Z <| qM q q q <| qF uf57 fi57_0 nz3 q q q ?_
     have a1 := R aB.p0
     refine l u3 q a1 q q q q ?_
     obtain ⟨bz, a2, ad⟩ := D ad
     refine A q (qt_shlO q q a2) q q <| A q (qt_or q q) q q <| qA q q q <| WL_nil fun a ha => ?_
     refine zi (X (S ?_ ha))
     refine Z <| A q (qt_add q q) q q <| qM q q q <| WL_nil fun a ha => ?_
     obtain rfl := L ad
     have a3 := aB.q0
     exact ⟨q, ha.sub ⟨q, q, q, q, q, q, trivial⟩, a3⟩
    have ad := if_f ao ad
    refine WP_exit fun a ha => ?_
    obtain rfl := L ad
    have a4 := ah.q0
    exact zo (⟨exit_ne, q, ha.sub ⟨q, q, q, trivial⟩, a4⟩)
   intro e aT bA a5
   obtain ⟨bB, rfl⟩ : ∃ z, z = aw := ⟨aw, q⟩
   obtain ⟨rfl, a6⟩ := a5
   obtain ⟨ha, a7⟩ := a6
   refine zn (zi (X (S ?_ ha)))
   refine Z <| qM q q q <| A q (qt_sub q q) q q <| qA q q q <| WL_nil fun a ha => ?_
   obtain rfl := L aa
   exact ⟨q, ha.sub ⟨q, q, q, trivial⟩, a7⟩
  have aa := if_f ak aa
  refine WP_exit fun a ha => ?_
  obtain rfl := L aa
  exact zo (⟨exit_ne, q, ha.sub ⟨q, trivial⟩, ag⟩)
 intro e aG bC a8
 obtain ⟨bD, rfl⟩ : ∃ z, z = ap := ⟨ap, q⟩
 obtain ⟨rfl, a9⟩ := a8
 obtain ⟨ha, ba⟩ := a9
 refine zn (X (S ?_ ha))
 refine rR <| qM q q q <| qA q q q <| B <| W fun a ha => ?_
 obtain rfl := L h
 exact ret1 q ha q ⟨q, ba⟩
theorem w_impl_MarksOf (w : World) (G : List Res) (vp0 : Value) (p0 : LI) (hp0 : Has G ty10 vp0 p0) (p1 : Int) (r : Int) (h : impl_MarksOfS p0 p1 = some r) (H : Ctx w G) : Calls Tryz.prog 93 #[vp0, iV p1] w fun e w' => e = .returned (iV r) ∧ Holds M0 w w' [] G := by
 have H : Holds M0 w w [] G := zb H
 refine zg (args := [vp0, iV p1]) (n := 32) Tryz.func93 q q q ?_
 unfold impl_MarksOfS at h
 refine rR <| qA q q q <| B <| C <| zk <| qM q q q <| qM q q q ?_
 obtain ⟨x1, am, h⟩ := D h
 refine QC q q c109 (fun w' hb => w_impl_UsesOf w' G vp0 p0 (hp0) p1 x1 am (H.grow hb).ctx) (by rfl) <| qA q q q <| QL_nil fun a ha w3 an => ?_
 have H5 := H.grow an
 refine X (S ?_ ha)
 refine C <| rR <| qM q q q <| A q (qt_lss q q) q q <| B ?_
 refine Y q (fun ae => ?_) (fun ae => ?_)
 ·have h := if_t ae h
  refine rR <| qA q q q <| B <| W fun a ha => ?_
  obtain rfl := L h
  exact m (ret1 q ha q ⟨q, H5⟩)
 have h := if_f ae h
 refine y <| rR <| qA q q q <| B <| C <| rR <| qM q q q <| za H5.ctx (t := ty10) (hp0) u23 q q q ?_
 refine qM q q q <| B <| g ?_
 obtain ⟨o9, ao, h⟩ := D h
 refine fun ap aj => zp (I := fun s a w2 => match s with | (s7, s8) => (Fr a 32 [(5, iV x1), (6, iV s7), (14, vp0), (15, iV (List.length p0 : Int)), (16, iV s8)] ∧ Holds M0 w w2 [] G)) (O := fun o e a w2 => match o with | q0 => e = .exit 0 ∧ (Fr a 32 [(6, iV q0)] ∧ Holds M0 w w2 [] G)) ao ?_ ?_ ?_
 ·exact ⟨aj.sub ⟨q, q, q, q, q, trivial⟩, H5⟩
 ·clear aj
  intro s aN a aq aa ar
  obtain ⟨s7, s8⟩ := s
  obtain ⟨ha, af⟩ := ar
  refine S ?_ ha
  clear ha
  refine rR <| A q (qt_lss q q) q q <| B <| C ?_
  refine Y q (fun ag => ?_) (fun ag => ?_)
  ·have aa := if_t ag aa
   refine y <| C <| g <| rR <| qM q q q ?_
   obtain ⟨ab, ak, aa⟩ := D aa
   refine b af.ctx (hp0) ak u23 i55 q q q q (fun aO aP aQ au => ?_)
   obtain ⟨aR, av, aw⟩ := af.atN (hp0) ak au
   refine XL_load_agg (t := ty10) us55 uo55 i55 av q q q (fun aS ax => ?_)
   obtain ⟨c30, c31, aT, aU, rfl, ay, az, aA⟩ := ax
   obtain ⟨rfl, _⟩ := az
   obtain ⟨c37, c38, aV, aW, rfl, aB, aC, aD⟩ := aA
   obtain ⟨ad, rfl, aE⟩ := Rep.sl_inv aC
   obtain ⟨rfl, _⟩ := aD
   have aF : Holds _ w aq [.ro ty2 ad ab.2.1] G := aw [.ro ty2 ad ab.2.1] ⟨⟨_, _, _, _, q, aE, (fun k h => (fun k h => (fun _ h => h) k (by rw [ay]; exact zx _ h)) k (by rw [aB]; exact List.mem_append_left _ h))⟩, trivial⟩
   change XL _ _ _ _ _ ((20, .agg #[iV ab.1, ad, iV ab.2.2]) :: _) _
   refine zq (cs := [iV 0, nS, iV 0]) aF z55 q q q (fun aX aY al => ?_)
   refine qA q q q ?_
   refine zl (cs' := [iV ab.1, ad, iV ab.2.2]) al q il55 q (T q (T (al.ctx.sliceOne hR1) (T q q))) q q q (fun aZ ah => ?_)
   refine rN <| qM q q q <| qM q q q ?_
   obtain ⟨a0, aG, aa⟩ := D aa
   refine A q (qt_shlO q q aG) q q <| A q (qt_and q q) q q <| A q (qt_neq q q) q q <| B ?_
   refine Y q (fun ai => ?_) (fun ai => ?_)
   ·have aa := if_t ai aa
    refine Z <| qM q q q <| qF uf55 fi55_2 nz3 q q q ?_
    have aH := R ah.p0
    refine l u3 q aH q q q q <| A q (qt_or q q) q q <| qA q q q <| WL_nil fun a ha => ?_
    refine zi (X (S ?_ ha))
    refine Z <| A q (qt_add q q) q q <| qM q q q <| WL_nil fun a ha => ?_
    obtain rfl := L aa
    have aI := ah.q0.q0
    exact ⟨q, ha.sub ⟨q, q, q, q, q, trivial⟩, aI⟩
   have aa := if_f ai aa
   refine WP_skip fun a ha => ?_
   refine zi (X (S ?_ ha))
   refine Z <| A q (qt_add q q) q q <| qM q q q <| WL_nil fun a ha => ?_
   obtain rfl := L aa
   have aJ := ah.q0.q0
   exact ⟨q, ha.sub ⟨q, q, q, q, q, trivial⟩, aJ⟩
  have aa := if_f ag aa
  refine WP_exit fun a ha => ?_
  obtain rfl := L aa
  exact zo (⟨exit_ne, q, ha.sub ⟨q, trivial⟩, af⟩)
 intro e ap a1 aK
 obtain ⟨a2, rfl⟩ : ∃ z, z = o9 := ⟨o9, q⟩
 obtain ⟨rfl, aL⟩ := aK
 obtain ⟨ha, aM⟩ := aL
 refine zn (X (S ?_ ha))
 refine rR <| qM q q q <| qA q q q <| B <| W fun a ha => ?_
 obtain rfl := L h
 exact ret1 q ha q ⟨q, aM⟩
theorem w_impl_FreeOf (w : World) (G : List Res) (vp0 : Value) (p0 : LI) (hp0 : Has G ty10 vp0 p0) (p1 : Int) (r : (List Int)) (h : impl_FreeOfS p0 p1 = some r) (H : Ctx w G) : Calls Tryz.prog 68 #[vp0, iV p1] w fun e w' => ∃ (v1 : Value), e = .returned (v1) ∧ Holds M0 w w' [.sl 3 tI v1 r] G := by
 have H : Holds M0 w w [] G := zb H
 refine zg (args := [vp0, iV p1]) (n := 43) Tryz.func68 q q q ?_
 unfold impl_FreeOfS at h
 refine rR <| qA q q q <| B <| C <| C <| zk <| qM q q q ?_
 obtain ⟨x1, ay, h⟩ := D h
 refine QC q q c76 (fun w' hb => w_impl_ItemsValid w' G vp0 p0 (hp0) x1 ay (H.grow hb).ctx) (by rfl) <| A q (qt_not q) q q <| qM q q q ?_
 refine zh 3 14 (.bool ((!x1) || (decide (p1 < 0)))) ?_ (fun md hmd hk => ?_)
 rotate_left
 ·obtain ⟨K, rfl⟩ := zr hmd
  rcases btf (!x1) with ad | ad
  ·skip
   refine qS q ad q q <| qS q ad q q <| A q (ze q ad q) q q ?_
   exact hk _ (p (by rw [ad]; rfl) (cfn 2 q (u)))
  skip
  refine qM (J q ad) q q <| A (J q ad) (qt_lss q q) q q <| A q (zf q ad q) q q ?_
  exact hk _ (p (by rw [ad]; rfl) (cfn 2 q (u)))
 refine qM q q q ?_
 refine zh 3 18 (.bool (((!x1) || (decide (p1 < 0))) || (decide (p1 > 31)))) ?_ (fun md hmd hk => ?_)
 rotate_left
 ·obtain ⟨K, rfl⟩ := zr hmd
  rcases btf ((!x1) || (decide (p1 < 0))) with ae | ae
  ·skip
   refine qS q ae q q <| qS q ae q q <| A q (ze q ae q) q q ?_
   exact hk _ (p (by rw [ae]; rfl) (cfn 2 q (u)))
  skip
  refine qM (J q ae) q q <| A (J q ae) (qt_gtr q q) q q <| A q (zf q ae q) q q ?_
  exact hk _ (p (by rw [ae]; rfl) (cfn 2 q (u)))
 refine QL_nil fun a ha w5 az => ?_
 have H7 := H.grow az
 refine X (S ?_ ha)
 refine Y q (fun ak => ?_) (fun ak => ?_)
 ·have h := if_t ak h
  refine rR <| qA q q q <| B <| W fun a ha => ?_
  obtain rfl := L h
  have H9 := H7.nS 3 tI
  exact m (ret1 q ha q ⟨(nS), q, H9⟩)
 have h := if_f ak h
 refine y <| rR <| qA q q q <| B <| C <| rR <| qM q q q <| za H7.ctx (t := ty10) (hp0) u23 q q q ?_
 refine qM q q q <| B <| g ?_
 have aA := H7.nS 3 tI
 obtain ⟨aq, aB, h⟩ := D h
 refine fun aC ar => zp (I := fun s a w2 => match s with | (al, ai) => ∃ ag, Fr a 43 [(0, vp0), (1, iV p1), (5, ag), (19, vp0), (20, iV (List.length p0 : Int)), (21, iV ai)] ∧ Holds M0 w w2 [.sl 3 tI ag al] G) (O := fun o e a w2 => match o with | q0 => e = .exit 0 ∧ ∃ au, Fr a 43 [(5, au)] ∧ Holds M0 w w2 [.sl 3 tI au q0] G) aB ?_ ?_ ?_
 ·exact ⟨(nS), ar.sub ⟨q, q, q, q, q, q, trivial⟩, aA⟩
 ·clear ar
  intro s a7 a aD aa aE
  obtain ⟨al, ai⟩ := s
  obtain ⟨ag, ha, am⟩ := aE
  refine S ?_ ha
  clear ha
  refine rR <| A q (qt_lss q q) q q <| B <| C ?_
  refine Y q (fun an => ?_) (fun an => ?_)
  ·have aa := if_t an aa
   refine y <| C <| g <| rR <| qM q q q ?_
   obtain ⟨af, av, aa⟩ := D aa
   refine b am.ctx (hp0.c) av u23 i55 q q q q (fun a8 a9 ba aF => ?_)
   obtain ⟨bb, aG, aH⟩ := am.atN (hp0.c) av aF
   refine XL_load_agg (t := ty10) us55 uo55 i55 aG q q q (fun bc aI => ?_)
   obtain ⟨c34, c35, bd, be, rfl, aJ, aK, aL⟩ := aI
   obtain ⟨rfl, _⟩ := aK
   obtain ⟨c41, c42, bf, bg, rfl, aM, aN, aO⟩ := aL
   obtain ⟨aj, rfl, aP⟩ := Rep.sl_inv aN
   obtain ⟨rfl, _⟩ := aO
   have aQ : Holds _ w aD [.ro ty2 aj af.2.1, .sl 3 tI ag al] G := aH [.ro ty2 aj af.2.1] ⟨⟨_, _, _, _, q, aP, (fun k h => (fun k h => (fun _ h => h) k (by rw [aJ]; exact zx _ h)) k (by rw [aM]; exact List.mem_append_left _ h))⟩, trivial⟩
   change XL _ _ _ _ _ ((25, .agg #[iV af.1, aj, iV af.2.2]) :: _) _
   refine zq (cs := [iV 0, nS, iV 0]) aQ z55 q q q (fun bh bi aw => ?_)
   refine qA q q q ?_
   refine zl (cs' := [iV af.1, aj, iV af.2.2]) aw q il55 q (T q (T (aw.ctx.sliceOne hR1) (T q q))) q q q (fun bj ao => ?_)
   refine B <| C <| zk <| qF uf55 fi55_0 nz3 q q q ?_
   have aR := R ao.p0
   refine l u3 q aR q q q q <| A q (qt_gtr q q) q q <| qM q q q ?_
   obtain ⟨aS, ah, aa⟩ := D aa
   refine zh 7 36 (.bool aS) ?_ (fun md hmd hk => ?_)
   rotate_left
   ·obtain ⟨K, rfl⟩ := zr hmd
    rcases btf (decide (af.1 > 0)) with ab | ab
    ·skip
     have ah := if_t ab ah
     refine qM (J q ab) q q <| qM (J q ab) q q ?_
     obtain ⟨aT, aU, ah⟩ := D ah
     refine QC (J q ab) q c93 (fun w' hb => w_impl_MarksOf w' _ vp0 p0 (hp0.c.c.c) ai aT aU (ao.grow hb).ctx) (by rfl) <| qM (J q ab) q q <| A (J q ab) (qt_and q q) q q <| A (J q ab) (qt_eql q q) q q <| A q (ze q ab q) q q ?_
     exact hk _ (p (vb ah) (cfn 6 q (u)))
    skip
    refine qS q ab q q <| qS q ab q q <| qS q ab q q <| qS q ab q q <| qS q ab q q <| qS q ab q q <| A q (zf q ab q) q q ?_
    exact hk _ (p (vb (if_f ab ah)) (cfn 6 q (u)))
   refine QL_nil fun a ha bk aV => ?_
   have ax := ao.grow aV
   refine X (S ?_ ha)
   refine Y q (fun ap => ?_) (fun ap => ?_)
   ·have aa := if_t ap aa
    refine Z <| qM q q q <| qM q q q ?_
    refine zs (t := tI) (args := [.tmp 38]) (xs := ([ai] : List Int)) ax (BltL.cons (Blt.int) q (BltL.nil)) u24 j3 q q q q q q (fun bl bm aW => ?_)
    have aX := aW.p3
    obtain ⟨bn, aY, aa⟩ := D aa
    refine zw aX hS1 aY u24 j3 q q q q q q (fun aZ bo a0 => ?_)
    refine qA q q q <| WL_nil fun a ha => ?_
    refine zi (X (S ?_ ha))
    refine Z <| A q (qt_add q q) q q <| qM q q q <| WL_nil fun a ha => ?_
    obtain rfl := L aa
    have a1 := a0.q1.q1.q1
    exact ⟨q, aZ, ha.sub ⟨q, q, q, q, q, q, trivial⟩, a1⟩
   have aa := if_f ap aa
   refine WP_skip fun a ha => ?_
   refine zi (X (S ?_ ha))
   refine Z <| A q (qt_add q q) q q <| qM q q q <| WL_nil fun a ha => ?_
   obtain rfl := L aa
   have a2 := ax.q0.q0
   exact ⟨q, ag, ha.sub ⟨q, q, q, q, q, q, trivial⟩, a2⟩
  have aa := if_f an aa
  refine WP_exit fun a ha => ?_
  obtain rfl := L aa
  exact zo (⟨exit_ne, q, ag, ha.sub ⟨q, trivial⟩, am⟩)
 intro e aC bp a3
 obtain ⟨bq, rfl⟩ : ∃ z, z = aq := ⟨aq, q⟩
 obtain ⟨rfl, a4⟩ := a3
 obtain ⟨a5, ha, a6⟩ := a4
 refine zn (X (S ?_ ha))
 refine rR <| qM q q q <| qA q q q <| B <| W fun a ha => ?_
 obtain rfl := L h
 exact ret1 q ha q ⟨a5, q, a6⟩
theorem w_slices_Index___int_int (w : World) (G : List Res) (vp0 : Value) (p0 : List Int) (hp0 : Has G tI vp0 p0) (p1 : Int) (r : Int) (h : slices_Index___int_intS p0 p1 = some r) (H : Ctx w G) : Calls Tryz.prog 92 #[vp0, iV p1] w fun e w' => e = .returned (iV r) ∧ Holds M0 w w' [] G := by
 have H : Holds M0 w w [] G := zb H
 refine zg (args := [vp0, iV p1]) (n := 19) Tryz.func92 q q q ?_
 unfold slices_Index___int_intS at h
 refine rR <| qA q q q <| B <| C <| rR <| qM q q q <| za H.ctx (t := tI) (hp0) u24 q q q <| qM q q q ?_
 refine B <| g ?_
 obtain ⟨o2, ai, h⟩ := D h
 refine fun a4 af => zp (I := fun s a w2 => match s with | s1 => (Fr a 19 [(0, vp0), (1, iV p1), (7, iV (List.length p0 : Int)), (8, iV s1)] ∧ Holds M0 w w2 [] G)) (O := fun o e a w2 => match o with | .inl _ => e = .exit 0 ∧ (Fr a 19 [] ∧ Holds M0 w w2 [] G) | .inr q0 => e = .ret ∧ (Fr a 19 [(4, iV q0)] ∧ Holds M0 w w2 [] G)) ai ?_ ?_ ?_
 ·exact ⟨af.sub ⟨q, q, q, q, trivial⟩, H⟩
 ·clear af
  intro s o8 a w6 aa aj
  obtain ⟨s1, rfl⟩ : ∃ z, z = s := ⟨s, q⟩
  obtain ⟨ha, ab⟩ := aj
  refine S ?_ ha
  clear ha
  refine rR <| A q (qt_lss q q) q q <| B <| C ?_
  refine Y q (fun ad => ?_) (fun ad => ?_)
  ·have aa := if_t ad aa
   refine y <| C <| g <| rR <| qM q q q <| qA q q q <| B <| C <| Z ?_
   refine qM q q q <| qM q q q <| qM q q q ?_
   obtain ⟨aq, ag, aa⟩ := D aa
   refine b ab.ctx (hp0) ag u24 i3 q q q q (fun ar au av ak => ?_)
   obtain ⟨aw, al, ax⟩ := ab.at (hp0) ag ak
   refine zt (k := .i64) u3 q al q q q <| A q (qt_eql q q) q q <| B ?_
   refine Y q (fun ae => ?_) (fun ae => ?_)
   ·have aa := if_t ae aa
    refine rR <| qM q q q <| qA q q q <| B <| W fun a ha => ?_
    obtain rfl := L aa
    exact zj (m (⟨ret_ne, q, ha.sub ⟨q, trivial⟩, ab⟩))
   have aa := if_f ae aa
   refine WP_skip fun a ha => ?_
   refine zi (X (S ?_ ha))
   refine Z <| A q (qt_add q q) q q <| qM q q q <| WL_nil fun a ha => ?_
   obtain rfl := L aa
   exact ⟨q, ha.sub ⟨q, q, q, q, trivial⟩, ab⟩
  have aa := if_f ad aa
  refine WP_exit fun a ha => ?_
  obtain rfl := L aa
  exact zo (⟨exit_ne, q, ha.sub trivial, ab⟩)
 intro e a4 ay ah
 rcases o2 with o2 | o2
 ·skip
  obtain ⟨rfl, am⟩ := ah
  obtain ⟨ha, an⟩ := am
  refine zn (X (S ?_ ha))
  refine rR <| qA q q q <| B <| W fun a ha => ?_
  obtain rfl := L h
  exact ret1 q ha q ⟨q, an⟩
 skip
 obtain ⟨p26, rfl⟩ : ∃ z, z = o2 := ⟨o2, q⟩
 obtain ⟨rfl, ao⟩ := ah
 obtain ⟨ha, ap⟩ := ao
 obtain rfl := L h
 exact zj (m (ret1 q ha q ⟨q, ap⟩))
theorem w_slices_Contains___int_int (w : World) (G : List Res) (vp0 : Value) (p0 : List Int) (hp0 : Has G tI vp0 p0) (p1 : Int) (r : Bool) (h : slices_Contains___int_intS p0 p1 = some r) (H : Ctx w G) : Calls Tryz.prog 67 #[vp0, iV p1] w fun e w' => e = .returned (.bool r) ∧ Holds M0 w w' [] G := by
 have H : Holds M0 w w [] G := zb H
 refine zg (args := [vp0, iV p1]) (n := 9) Tryz.func67 q q q ?_
 unfold slices_Contains___int_intS at h
 refine rR <| qA q q q <| B <| C <| zk <| qM q q q <| qM q q q ?_
 obtain ⟨x1, aa, h⟩ := D h
 refine QC q q c92 (fun w' hb => w_slices_Index___int_int w' G vp0 p0 (hp0) p1 x1 aa (H.grow hb).ctx) (by rfl) <| A q (qt_geq q q) q q <| qA q q q <| QL_nil fun a ha w3 ab => ?_
 have H5 := H.grow ab
 refine X (S ?_ ha)
 refine W fun a ha => ?_
 obtain rfl := L h
 exact ret1 q ha q ⟨q, H5⟩
theorem w_impl_tableValid (w : World) (G : List Res) (vp0 : Value) (p0 : LI) (hp0 : Has G ty10 vp0 p0) (p1_0 : Int) (A1_1 : Value) (p1_1 : LP) (hp1_1 : Has G ty2 A1_1 p1_1) (A1_2 : Value) (p1_2 : List Int) (hp1_2 : Has G tI A1_2 p1_2) (r : Bool) (h : impl_tableValidS p0 p1_0 p1_1 p1_2 = some r) (H : Ctx w G) : Calls Tryz.prog 43 #[vp0, .agg #[iV p1_0, A1_1, A1_2]] w fun e w' => e = .returned (.bool r) ∧ Holds M0 w w' [] G := by
 have H : Holds M0 w w [] G := zb H
 refine zg (args := [vp0, .agg #[iV p1_0, A1_1, A1_2]]) (n := 47) Tryz.func43 q q q ?_
 unfold impl_tableValidS at h
 refine C <| Z ?_
 refine WL_box (cs := [iV p1_0, A1_1, A1_2]) H q q q q (fun b1 w2 H3 => ?_)
 refine qA q q q <| B <| C <| C <| zk <| qF uf47 fi47_0 nz3 q q q ?_
 have aw := R H3.p0
 refine l u3 q aw q q q q <| A q (qt_lss q q) q q <| qM q q q ?_
 refine zh 4 15 (.bool ((decide (p1_0 < 0)) || (decide (p1_0 > 31)))) ?_ (fun md hmd hk => ?_)
 rotate_left
 ·obtain ⟨K, rfl⟩ := zr hmd
  rcases btf (decide (p1_0 < 0)) with ae | ae
  ·skip
   refine qS q ae q q <| qS q ae q q <| qS q ae q q <| A q (ze q ae q) q q ?_
   exact hk _ (p (by rw [ae]; rfl) (cfn 3 q (u)))
  skip
  refine qF uf47 fi47_0 nz3 (J q ae) q q ?_
  have ax := R H3.p0
  refine l u3 q ax q (J q ae) q q <| A (J q ae) (qt_gtr q q) q q <| A q (zf q ae q) q q ?_
  exact hk _ (p (by rw [ae]; rfl) (cfn 3 q (u)))
 refine qM q q q ?_
 obtain ⟨b8, af, h⟩ := D h
 refine zh 5 21 (.bool b8) ?_ (fun md hmd hk => ?_)
 rotate_left
 ·obtain ⟨K, rfl⟩ := zr hmd
  rcases btf ((decide (p1_0 < 0)) || (decide (p1_0 > 31))) with ad | ad
  ·skip
   refine qS q ad q q <| qS q ad q q <| qS q ad q q <| qS q ad q q <| A q (ze q ad q) q q ?_
   exact hk _ (p (vb (if_t ad af)) (cfn 4 q (u)))
  skip
  have af := if_f ad af
  refine qF uf47 fi47_1 nz45 (J q ad) q q ?_
  have ay := R H3.p0
  refine l u45 q ay q (J q ad) q q ?_
  obtain ⟨az, aA, af⟩ := D af
  refine QC (J q ad) q c77 (fun w' hb => w_impl_TicketValid w' _ A1_1 p1_1 (hp1_1.c) az aA (H3.grow hb).ctx) (by rfl) <| A (J q ad) (qt_not q) q q <| A q (zf q ad q) q q ?_
  exact hk _ (p (vb af) (cfn 4 q (u)))
 refine qM q q q ?_
 refine zh 8 30 (.bool (b8 || ((List.length p1_2 : Int) != (List.length p1_1 : Int)))) ?_ (fun md hmd hk => ?_)
 rotate_left
 ·obtain ⟨K, rfl⟩ := zr hmd
  rcases btf b8 with aa | aa
  ·skip
   refine qS q aa q q <| qS q aa q q <| qS q aa q q <| qS q aa q q <| qS q aa q q <| qS q aa q q <| qS q aa q q <| A q (ze q aa q) q q ?_
   exact hk _ (p (by rw [aa]; rfl) (cfn 7 q (u)))
  skip
  refine qF uf47 fi47_2 nz24 (J q aa) q q ?_
  have aB := R H3.p0
  refine l u24 q aB q (J q aa) q q <| za H3.ctx (t := tI) (hp1_2.c) u24 (J q aa) q q <| qF uf47 fi47_1 nz45 (J q aa) q q ?_
  have aC := R H3.p0
  refine l u45 q aC q (J q aa) q q <| za H3.ctx (t := ty2) (hp1_1.c) u45 (J q aa) q q <| A (J q aa) (qt_neq q q) q q <| A q (zf q aa q) q q ?_
  exact hk _ (p (by rw [aa]; rfl) (cfn 7 q (u)))
 refine QL_nil fun a ha aD aE => ?_
 have ai := H3.grow aE
 refine X (S ?_ ha)
 refine Y q (fun aj => ?_) (fun aj => ?_)
 ·have h := if_t aj h
  refine rR <| qA q q q <| B <| W fun a ha => ?_
  obtain rfl := L h
  have aF := ai.q0
  exact m (ret1 q ha q ⟨q, aF⟩)
 have h := if_f aj h
 refine y <| rR <| qM q q q <| qF uf47 fi47_0 nz3 q q q ?_
 have aG := R ai.p0
 refine l u3 q aG q q q q ?_
 obtain ⟨ak, aH, h⟩ := D h
 refine zd q q c68 (w_impl_FreeOf aD _ vp0 p0 (hp0.c) p1_0 ak aH ai.ctx) (by rfl) ?_
 rintro _ a0 ⟨al, rfl, aI⟩; refine ⟨_, q, ?_⟩
 have am := ai.cN1 [] aI
 refine qA q q q <| B <| C <| rR <| qF uf47 fi47_2 nz24 q q q ?_
 have aJ := R am.p1
 refine l u24 q aJ q q q q <| za am.ctx (t := tI) (hp1_2.c.c) u24 q q q <| qM q q q <| B <| g ?_
 obtain ⟨ag, aK, h⟩ := D h
 have aL := am.q1
 refine fun aM ap => zp (I := fun s a w2 => match s with | aq => (Fr a 47 [(5, al), (36, A1_2), (37, iV (List.length p1_2 : Int)), (38, iV aq)] ∧ Holds M0 w w2 [.sl 3 tI al ak] G)) (O := fun o e a w2 => match o with | .inl _ => e = .exit 0 ∧ (Fr a 47 [] ∧ Holds M0 w w2 [] G) | .inr q0 => e = .ret ∧ (Fr a 47 [(4, .bool q0)] ∧ Holds M0 w w2 [] G)) aK ?_ ?_ ?_
 ·exact ⟨ap.sub ⟨q, q, q, q, trivial⟩, aL⟩
 ·clear ap
  intro s a1 a a2 ab aN
  obtain ⟨aq, rfl⟩ : ∃ z, z = s := ⟨s, q⟩
  obtain ⟨ha, ah⟩ := aN
  refine S ?_ ha
  clear ha
  refine rR <| A q (qt_lss q q) q q <| B <| C ?_
  refine Y q (fun an => ?_) (fun an => ?_)
  ·have ab := if_t an ab
   refine y <| C <| g <| C <| Z ?_
   obtain ⟨aO, ar, ab⟩ := D ab
   refine b ah.ctx (hp1_2.c) ar u24 i3 q q q q (fun a3 a4 a5 aP => ?_)
   obtain ⟨a6, aQ, a7⟩ := ah.at (hp1_2.c) ar aP
   refine zt (k := .i64) u3 q aQ q q q <| qA q q q <| B <| C <| zk <| qM q q q <| qM q q q ?_
   obtain ⟨aR, aS, ab⟩ := D ab
   refine QC q q c67 (fun w' hb => w_slices_Contains___int_int w' _ al ak hS0 aO aR aS (ah.grow hb).ctx) (by rfl) <| A q (qt_not q) q q <| QL_nil fun a ha a8 aT => ?_
   have au := ah.grow aT
   refine X (S ?_ ha)
   refine Y q (fun ao => ?_) (fun ao => ?_)
   ·have ab := if_t ao ab
    refine rR <| qA q q q <| B <| W fun a ha => ?_
    obtain rfl := L ab
    have aU := au.q0
    exact zj (m (⟨ret_ne, q, ha.sub ⟨q, trivial⟩, aU⟩))
   have ab := if_f ao ab
   refine WP_skip fun a ha => ?_
   refine zi (X (S ?_ ha))
   refine Z <| A q (qt_add q q) q q <| qM q q q <| WL_nil fun a ha => ?_
   obtain rfl := L ab
   exact ⟨q, ha.sub ⟨q, q, q, q, trivial⟩, au⟩
  have ab := if_f an ab
  refine WP_exit fun a ha => ?_
  obtain rfl := L ab
  have aV := ah.q0
  exact zo (⟨exit_ne, q, ha.sub trivial, aV⟩)
 intro e aM a9 av
 rcases ag with ag | ag
 ·skip
  obtain ⟨rfl, aW⟩ := av
  obtain ⟨ha, aX⟩ := aW
  refine zn (X (S ?_ ha))
  refine rR <| qA q q q <| B <| W fun a ha => ?_
  obtain rfl := L h
  exact ret1 q ha q ⟨q, aX⟩
 skip
 obtain ⟨ba, rfl⟩ : ∃ z, z = ag := ⟨ag, q⟩
 obtain ⟨rfl, aY⟩ := av
 obtain ⟨ha, aZ⟩ := aY
 obtain rfl := L h
 exact zj (m (ret1 q ha q ⟨q, aZ⟩))
theorem w_impl_HouseValid (w : World) (G : List Res) (A0 : Value) (B0 : LI) (C0 : Has G ty10 A0 B0) (A1 : Value) (B1 : List Int) (C1 : Has G tI A1 B1) (A2 : Value) (B2 : List Int) (C2 : Has G tI A2 B2) (B3 : Int) (A4 : Value) (B4 : LT) (C4 : Has G ty12 A4 B4) (r : Bool) (h : impl_HouseValidS B0 B1 B2 B3 B4 = some r) (H : Ctx w G) : Calls Tryz.prog 10 #[.agg #[A0, A1, A2, iV B3, A4]] w fun e w' => e = .returned (.bool r) ∧ Holds M0 w w' [] G := by
 have H : Holds M0 w w [] G := zb H
 refine zg (args := [.agg #[A0, A1, A2, iV B3, A4]]) (n := 47) Tryz.func10 q q q ?_
 unfold impl_HouseValidS at h
 refine C <| Z ?_
 refine WL_box (cs := [A0, A1, A2, iV B3, A4]) H q q q q (fun b1 w2 H3 => ?_)
 refine qA q q q <| B <| C <| C <| zk <| qF uf27 fi27_0 nz23 q q q ?_
 have aB := R H3.p0
 refine l u23 q aB q q q q <| qF uf27 fi27_1 nz24 q q q ?_
 have aC := R H3.p0
 refine l u24 q aC q q q q ?_
 obtain ⟨x7, aD, h⟩ := D h
 refine QC q q c41 (fun w' hb => w_impl_PricesValid w' _ A0 B0 (C0.c) A1 B1 (C1.c) x7 aD (H3.grow hb).ctx) (by rfl) <| A q (qt_not q) q q <| qM q q q ?_
 obtain ⟨b9, aj, h⟩ := D h
 refine zh 8 19 (.bool b9) ?_ (fun md hmd hk => ?_)
 rotate_left
 ·obtain ⟨K, rfl⟩ := zr hmd
  rcases btf (!x7) with aa | aa
  ·skip
   refine qS q aa q q <| qS q aa q q <| qS q aa q q <| qS q aa q q <| qS q aa q q <| qS q aa q q <| qS q aa q q <| A q (ze q aa q) q q ?_
   exact hk _ (p (vb (if_t aa aj)) (cfn 7 q (u)))
  skip
  have aj := if_f aa aj
  refine qF uf27 fi27_2 nz24 (J q aa) q q ?_
  have aE := R H3.p0
  refine l u24 q aE q (J q aa) q q <| qF uf27 fi27_0 nz23 (J q aa) q q ?_
  have aF := R H3.p0
  refine l u23 q aF q (J q aa) q q <| za H3.ctx (t := ty10) (C0.c) u23 (J q aa) q q ?_
  obtain ⟨aG, aH, aj⟩ := D aj
  refine QC (J q aa) q c42 (fun w' hb => w_impl_amountsOk w' _ A2 B2 (C2.c) (List.length B0 : Int) 50 aG aH (H3.grow hb).ctx) (by rfl) <| A (J q aa) (qt_not q) q q <| A q (zf q aa q) q q ?_
  exact hk _ (p (vb aj) (cfn 7 q (u)))
 refine QL_nil fun a ha bg aI => ?_
 have ag := H3.grow aI
 refine X (S ?_ ha)
 refine Y q (fun am => ?_) (fun am => ?_)
 ·have h := if_t am h
  refine rR <| qA q q q <| B <| W fun a ha => ?_
  obtain rfl := L h
  have aJ := ag.q0
  exact m (ret1 q ha q ⟨q, aJ⟩)
 have h := if_f am h
 refine y <| C <| rR <| qF uf27 fi27_3 nz3 q q q ?_
 have aK := R ag.p0
 refine l u3 q aK q q q q <| A q (qt_lss q q) q q <| qM q q q ?_
 refine zh 4 27 (.bool ((decide (B3 < 0)) || (decide (B3 > 99999)))) ?_ (fun md hmd hk => ?_)
 rotate_left
 ·obtain ⟨Q, rfl⟩ := Md.seq_of hmd
  rcases btf (decide (B3 < 0)) with ae | ae
  ·skip
   refine qS q ae q q <| qS q ae q q <| qS q ae q q <| A q (ze q ae q) q q ?_
   exact hk _ (p (by rw [ae]; rfl) (cfn 3 q (u)))
  skip
  refine qF uf27 fi27_3 nz3 (J q ae) q q ?_
  have aL := R ag.p0
  refine l u3 q aL q (J q ae) q q <| A (J q ae) (qt_gtr q q) q q <| A q (zf q ae q) q q ?_
  exact hk _ (p (by rw [ae]; rfl) (cfn 3 q (u)))
 refine qM q q q ?_
 refine zh 5 33 (.bool (((decide (B3 < 0)) || (decide (B3 > 99999))) || (decide ((List.length B4 : Int) > 4)))) ?_ (fun md hmd hk => ?_)
 rotate_left
 ·obtain ⟨Q, rfl⟩ := Md.seq_of hmd
  rcases btf ((decide (B3 < 0)) || (decide (B3 > 99999))) with ad | ad
  ·skip
   refine qS q ad q q <| qS q ad q q <| qS q ad q q <| qS q ad q q <| A q (ze q ad q) q q ?_
   exact hk _ (p (by rw [ad]; rfl) (cfn 4 q (u)))
  skip
  refine qF uf27 fi27_4 nz25 (J q ad) q q ?_
  have aM := R ag.p0
  refine l u25 q aM q (J q ad) q q <| za ag.ctx (t := ty12) (C4.c) u25 (J q ad) q q <| A (J q ad) (qt_gtr q q) q q <| A q (zf q ad q) q q ?_
  exact hk _ (p (by rw [ad]; rfl) (cfn 4 q (u)))
 refine B ?_
 refine Y q (fun an => ?_) (fun an => ?_)
 ·have h := if_t an h
  refine rR <| qA q q q <| B <| W fun a ha => ?_
  obtain rfl := L h
  have aN := ag.q0
  exact m (ret1 q ha q ⟨q, aN⟩)
 have h := if_f an h
 refine y <| C <| rR <| qF uf27 fi27_4 nz25 q q q ?_
 have aO := R ag.p0
 refine l u25 q aO q q q q <| za ag.ctx (t := ty12) (C4.c) u25 q q q <| qM q q q <| B <| g ?_
 obtain ⟨ak, aP, h⟩ := D h
 refine fun aQ au => zp (I := fun s a w2 => match s with | av => (Fr a 47 [(1, pB b1), (35, A4), (36, iV (List.length B4 : Int)), (37, iV av)] ∧ Holds M0 w w2 [.bx b1 27 [A0, A1, A2, iV B3, A4]] G)) (O := fun o e a w2 => match o with | .inl _ => e = .exit 0 ∧ (Fr a 47 [] ∧ Holds M0 w w2 [] G) | .inr q0 => e = .ret ∧ (Fr a 47 [(2, .bool q0)] ∧ Holds M0 w w2 [] G)) aP ?_ ?_ ?_
 ·exact ⟨au.sub ⟨q, q, q, q, trivial⟩, ag⟩
 ·clear au
  intro s bh a aR ab aS
  obtain ⟨av, rfl⟩ : ∃ z, z = s := ⟨s, q⟩
  obtain ⟨ha, ao⟩ := aS
  refine S ?_ ha
  clear ha
  refine rR <| A q (qt_lss q q) q q <| B <| C ?_
  refine Y q (fun ap => ?_) (fun ap => ?_)
  ·have ab := if_t ap ab
   refine y <| C <| g <| C <| Z ?_
   obtain ⟨af, aw, ab⟩ := D ab
   refine b ao.ctx (C4.c) aw u25 i47 q q q q (fun bi bj bk aT => ?_)
   obtain ⟨bl, aU, aV⟩ := ao.atN (C4.c) aw aT
   refine XL_load_agg (t := ty12) us47 uo47 i47 aU q q q (fun bm aW => ?_)
   obtain ⟨c51, c52, bn, bo, rfl, ax, aX, aY⟩ := aW
   obtain ⟨rfl, _⟩ := aX
   obtain ⟨c58, c59, bp, bq, rfl, ay, aZ, a0⟩ := aY
   obtain ⟨ah, rfl, a1⟩ := Rep.sl_inv aZ
   obtain ⟨ai, rfl, a2⟩ := Rep.sl_inv a0
   have a3 : Holds _ w aR [.ro ty2 ah af.2.1, .ro tI ai af.2.2, .bx b1 27 [A0, A1, A2, iV B3, A4]] G := aV [.ro ty2 ah af.2.1, .ro tI ai af.2.2] ⟨⟨_, _, _, _, q, a1, (fun k h => (fun k h => (fun _ h => h) k (by rw [ax]; exact zx _ h)) k (by rw [ay]; exact List.mem_append_left _ h))⟩, ⟨_, _, _, _, q, a2, (fun k h => (fun k h => (fun _ h => h) k (by rw [ax]; exact zx _ h)) k (by rw [ay]; exact zx _ h))⟩, trivial⟩
   change XL _ _ _ _ _ ((40, .agg #[iV af.1, ah, ai]) :: _) _
   refine zq (cs := [iV 0, nS, nS]) a3 z47 q q q (fun br bs aq => ?_)
   refine zl (cs' := [iV af.1, ah, ai]) aq q il47 q (T q (T (aq.ctx.sliceOne hR1) (T (aq.ctx.sliceOne hR2) q))) q q q (fun bt al => ?_)
   refine B <| C <| zk <| qF uf27 fi27_0 nz23 q q q ?_
   have a4 := R al.p3
   refine l u23 q a4 q q q q ?_
   have a5 := R al.p0
   refine zm (cs := [iV af.1, ah, ai]) us47 uo47 il47 a5 q q q ?_
   change XL _ _ _ _ _ ((43, .agg #[iV af.1, ah, ai]) :: _) _
   obtain ⟨a6, a7, ab⟩ := D ab
   refine QC q q c43 (fun w' hb => w_impl_tableValid w' _ A0 B0 (C0.c.c.c.c) af.1 ah af.2.1 hR1 ai af.2.2 hR2 a6 a7 (al.grow hb).ctx) (by rfl) <| A q (qt_not q) q q <| QL_nil fun a ha bu a8 => ?_
   have az := al.grow a8
   refine X (S ?_ ha)
   refine Y q (fun ar => ?_) (fun ar => ?_)
   ·have ab := if_t ar ab
    refine rR <| qA q q q <| B <| W fun a ha => ?_
    obtain rfl := L ab
    have a9 := az.q0.q0.q0.q0
    exact zj (m (⟨ret_ne, q, ha.sub ⟨q, trivial⟩, a9⟩))
   have ab := if_f ar ab
   refine WP_skip fun a ha => ?_
   refine zi (X (S ?_ ha))
   refine Z <| A q (qt_add q q) q q <| qM q q q <| WL_nil fun a ha => ?_
   obtain rfl := L ab
   have ba := az.q0.q0.q0
   exact ⟨q, ha.sub ⟨q, q, q, q, trivial⟩, ba⟩
  have ab := if_f ap ab
  refine WP_exit fun a ha => ?_
  obtain rfl := L ab
  have bb := ao.q0
  exact zo (⟨exit_ne, q, ha.sub trivial, bb⟩)
 intro e aQ bv aA
 rcases ak with ak | ak
 ·skip
  obtain ⟨rfl, bc⟩ := aA
  obtain ⟨ha, bd⟩ := bc
  refine zn (X (S ?_ ha))
  refine rR <| qA q q q <| B <| W fun a ha => ?_
  obtain rfl := L h
  exact ret1 q ha q ⟨q, bd⟩
 skip
 obtain ⟨bw, rfl⟩ : ∃ z, z = ak := ⟨ak, q⟩
 obtain ⟨rfl, be⟩ := aA
 obtain ⟨ha, bf⟩ := be
 obtain rfl := L h
 exact zj (m (ret1 q ha q ⟨q, bf⟩))
theorem w_impl_onlyNamed (w : World) (G : List Res) (hGl : Glob G) (B0 : Int) (B1 : Int) (B2 : Int) (B3 : Int) (r : Bool) (h : impl_onlyNamedS B0 B1 B2 B3 = some r) (H : Ctx w G) : Calls Tryz.prog 26 #[.agg #[iV B0, iV B1, iV B2, iV B3]] w fun e w' => e = .returned (.bool r) ∧ Holds M0 w w' [] G := by
 have H : Holds M0 w w [] G := zb H
 refine zg (args := [.agg #[iV B0, iV B1, iV B2, iV B3]]) (n := 34) Tryz.func26 q q q ?_
 unfold impl_onlyNamedS at h
 refine C <| Z ?_
 refine WL_box (cs := [iV B0, iV B1, iV B2, iV B3]) H q q q q (fun b1 w2 H3 => ?_)
 refine qA q q q <| B <| C <| rR <| qF uf29 fi29_0 nz3 q q q ?_
 have aq := R H3.p0
 refine l u3 q aq q q q q <| A q (qt_lss q q) q q <| qM q q q ?_
 refine zh 4 13 (.bool ((decide (B0 < 0)) || (decide (B0 > 5)))) ?_ (fun md hmd hk => ?_)
 rotate_left
 ·obtain ⟨Q, rfl⟩ := Md.seq_of hmd
  rcases btf (decide (B0 < 0)) with ab | ab
  ·skip
   refine qS q ab q q <| qS q ab q q <| qS q ab q q <| A q (ze q ab q) q q ?_
   exact hk _ (p (by rw [ab]; rfl) (cfn 3 q (u)))
  skip
  refine qF uf29 fi29_0 nz3 (J q ab) q q ?_
  have ar := R H3.p0
  refine l u3 q ar q (J q ab) q q <| A (J q ab) (qt_gtr q q) q q <| A q (zf q ab q) q q ?_
  exact hk _ (p (by rw [ab]; rfl) (cfn 3 q (u)))
 refine B ?_
 refine Y q (fun ah => ?_) (fun ah => ?_)
 ·have h := if_t ah h
  refine rR <| qA q q q <| B <| W fun a ha => ?_
  obtain rfl := L h
  have H9 := H3.q0
  exact m (ret1 q ha q ⟨q, H9⟩)
 have h := if_f ah h
 refine y <| rR <| qF uf29 fi29_1 nz3 q q q ?_
 have au := R H3.p0
 refine l u3 q au q q q q <| qF uf29 fi29_2 nz3 q q q ?_
 have av := R H3.p0
 refine l u3 q av q q q q <| qF uf29 fi29_3 nz3 q q q ?_
 have aw := R H3.p0
 refine l u3 q aw q q q q <| A q (qt_build (args := [(0, .tmp 15), (1, .tmp 17), (2, .tmp 19)]) (css := [#[iV B1], #[iV B2], #[iV B3]]) (cells := #[iV B1, iV B2, iV B3]) q ⟨q, q, q, trivial⟩ (by kernel_rfl)) q q ?_
 refine zq (cs := [iV 0, iV 0, iV 0]) H3 z94 q q q (fun ai aR ax => ?_)
 refine zl (cs' := [iV B1, iV B2, iV B3]) ax q il94 q q q q q (fun ay az => ?_)
 have ad : Holds _ w ay [.sl 94 tI (.slice (some ⟨ai, 0, none⟩) 3 3) ([B1, B2, B3] : List Int), .bx b1 29 [iV B0, iV B1, iV B2, iV B3]] G := Holds.bx_sl (t := tI) (xs := [B1, B2, B3]) az (fun _ => ⟨[_], _, [], [], q, q, ⟨q, q⟩, ⟨[_], _, [], [], q, q, ⟨q, q⟩, ⟨[_], _, [], [], q, q, ⟨q, q⟩, ⟨q, q⟩⟩⟩⟩) q q
 refine B <| C <| rR <| qF uf29 fi29_0 nz3 q q q ?_
 have aA := R ad.p1
 refine l u3 q aA q q q q ?_
 obtain ⟨aB, al, h⟩ := D h
 refine XL_indexA ad.ctx (hGl.c.c.has) q al u95 i3 q q q q (fun aS aT aU aC => ?_)
 obtain ⟨aV, aD, aW⟩ := ad.at (hGl.c.c.has) al aC
 refine zt (k := .i64) u3 q aD q q q ?_
 obtain ⟨aE, ag, h⟩ := D h
 refine XL_sliceA ad.ctx hS0 q ag u94 i3 ⟨_, q⟩ q q q q <| za ad.ctx (t := tI) (Has.sub hS0 ag) u24 q q q <| qM q q q <| B <| g ?_
 obtain ⟨ae, aF, h⟩ := D h
 have aG := ad.q1
 refine fun aH am => zp (I := fun s a w2 => match s with | an => (Fr a 34 [(25, (subV (Ty.size tI) (.slice (some ⟨ai, 0, none⟩) 3 3) (Int.toNat aB) (Int.toNat (List.length ([B1, B2, B3] : List Int) : Int)))), (26, iV (List.length aE : Int)), (27, iV an)] ∧ Holds M0 w w2 [.sl 94 tI (.slice (some ⟨ai, 0, none⟩) 3 3) ([B1, B2, B3] : List Int)] G)) (O := fun o e a w2 => match o with | .inl _ => e = .exit 0 ∧ (Fr a 34 [] ∧ Holds M0 w w2 [] G) | .inr q0 => e = .ret ∧ (Fr a 34 [(2, .bool q0)] ∧ Holds M0 w w2 [] G)) aF ?_ ?_ ?_
 ·exact ⟨am.sub ⟨q, q, q, trivial⟩, aG⟩
 ·clear am
  intro s aX a aY aa aI
  obtain ⟨an, rfl⟩ : ∃ z, z = s := ⟨s, q⟩
  obtain ⟨ha, af⟩ := aI
  refine S ?_ ha
  clear ha
  refine rR <| A q (qt_lss q q) q q <| B <| C ?_
  refine Y q (fun aj => ?_) (fun aj => ?_)
  ·have aa := if_t aj aa
   refine y <| C <| g <| C <| Z ?_
   obtain ⟨aZ, ao, aa⟩ := D aa
   refine b af.ctx (Has.sub hS0 ag) ao u24 i3 q q q q (fun a0 a1 a2 aJ => ?_)
   obtain ⟨a3, aK, a4⟩ := af.at (Has.sub hS0 ag) ao aJ
   refine zt (k := .i64) u3 q aK q q q <| qA q q q <| rN <| qM q q q <| A q (qt_neq q q) q q <| B ?_
   refine Y q (fun ak => ?_) (fun ak => ?_)
   ·have aa := if_t ak aa
    refine rR <| qA q q q <| B <| W fun a ha => ?_
    obtain rfl := L aa
    have aL := af.q0
    exact zj (m (⟨ret_ne, q, ha.sub ⟨q, trivial⟩, aL⟩))
   have aa := if_f ak aa
   refine WP_skip fun a ha => ?_
   refine zi (X (S ?_ ha))
   refine Z <| A q (qt_add q q) q q <| qM q q q <| WL_nil fun a ha => ?_
   obtain rfl := L aa
   exact ⟨q, ha.sub ⟨q, q, q, trivial⟩, af⟩
  have aa := if_f aj aa
  refine WP_exit fun a ha => ?_
  obtain rfl := L aa
  have aM := af.q0
  exact zo (⟨exit_ne, q, ha.sub trivial, aM⟩)
 intro e aH a5 ap
 rcases ae with ae | ae
 ·skip
  obtain ⟨rfl, aN⟩ := ap
  obtain ⟨ha, aO⟩ := aN
  refine zn (X (S ?_ ha))
  refine rR <| qA q q q <| B <| W fun a ha => ?_
  obtain rfl := L h
  exact ret1 q ha q ⟨q, aO⟩
 skip
 obtain ⟨a6, rfl⟩ : ∃ z, z = ae := ⟨ae, q⟩
 obtain ⟨rfl, aP⟩ := ap
 obtain ⟨ha, aQ⟩ := aP
 obtain rfl := L h
 exact zj (m (ret1 q ha q ⟨q, aQ⟩))
theorem w_impl_copyInts (w : World) (G : List Res) (vp0 : Value) (p0 : List Int) (hp0 : Has G tI vp0 p0) (r : (List Int)) (h : impl_copyIntsS p0 = some r) (H : Ctx w G) : Calls Tryz.prog 62 #[vp0] w fun e w' => ∃ (v1 : Value), e = .returned (v1) ∧ Holds M0 w w' [.sl 3 tI v1 r] G := by
 have H : Holds M0 w w [] G := zb H
 refine zg (args := [vp0]) (n := 14) Tryz.func62 q q q ?_
 unfold impl_copyIntsS at h
 refine rR <| qA q q q <| B <| C <| rR <| qM q q q <| za H.ctx (t := tI) (hp0) u24 q q q <| A q (qt_eql q q) q q ?_
 refine B ?_
 refine Y q (fun aa => ?_) (fun aa => ?_)
 ·have h := if_t aa h
  refine rR <| qA q q q <| B <| W fun a ha => ?_
  obtain rfl := L h
  have H2 := H.nS 3 tI
  exact m (ret1 q ha q ⟨(nS), q, H2⟩)
 have h := if_f aa h
 refine y <| rR <| qM q q q <| za H.ctx (t := tI) (hp0) u24 q q q ?_
 obtain ⟨x3, ab, h⟩ := D h
 refine WL_makeH H ab u24 j3 q (fun _ => ⟨q, q⟩) q q q q q (fun v5 w6 H7 => ?_)
 refine qA q q q <| rN <| qM q q q <| qM q q q ?_
 refine WL_copyH q H7 (hp0.c) q u24 i3 q q q q (fun w9 ad => ?_)
 refine rN <| qM q q q <| qA q q q <| B <| W fun a ha => ?_
 obtain rfl := L h
 exact ret1 q ha q ⟨v5, q, ad⟩
theorem w_impl_copyItem (w : World) (G : List Res) (B0 : Int) (A1 : Value) (B1 : LP) (C1 : Has G ty2 A1 B1) (B2 : Int) (r : (Int × LP × Int)) (h : impl_copyItemS B0 B1 B2 = some r) (H : Ctx w G) : Calls Tryz.prog 63 #[.agg #[iV B0, A1, iV B2]] w fun e w' => ∃ (v1 : Value), e = .returned (.agg #[iV r.1, v1, iV r.2.2]) ∧ Holds M0 w w' [.sl 57 ty2 v1 r.2.1] G := by
 have H : Holds M0 w w [] G := zb H
 refine zg (args := [.agg #[iV B0, A1, iV B2]]) (n := 24) Tryz.func63 q q q ?_
 unfold impl_copyItemS at h
 refine C <| Z ?_
 refine WL_box (cs := [iV B0, A1, iV B2]) H q q q q (fun b1 w2 H3 => ?_)
 refine zq (cs := [iV 0, nS, iV 0]) H3 z55 q q q (fun b5 w6 H7 => ?_)
 refine rN <| qF uf55 fi55_0 nz3 q q q ?_
 have al := R H7.p1
 refine l u3 q al q q q q <| qF uf55 fi55_2 nz3 q q q ?_
 have am := R H7.p1
 refine l u3 q am q q q q <| A q (qt_build (args := [(0, .tmp 5), (2, .tmp 7)]) (css := [#[iV B0], #[iV B2]]) (cells := #[iV B0, nS, iV B2]) q ⟨q, q, trivial⟩ (by kernel_rfl)) q q ?_
 refine zq (cs := [iV 0, nS, iV 0]) H7 z55 q q q (fun ai aH an => ?_)
 refine zl (cs' := [iV B0, nS, iV B2]) an q il55 q q q q q (fun aI ad => ?_)
 refine B <| C <| rR <| qF uf55 fi55_1 nz53 q q q ?_
 have ao := R ad.p2
 refine l u53 q ao q q q q <| za ad.ctx (t := ty2) (C1.c.c.c) u53 q q q <| A q (qt_gtr q q) q q <| B ?_
 obtain ⟨aj, aa, h⟩ := D h
 obtain ⟨ap, rfl⟩ : ∃ z, z = aj := ⟨aj, q⟩
 refine WP_join (M := fun a w2 => ∃ ab, Fr a 24 [(2, pB b5), (3, pB ai)] ∧ Holds M0 w w2 [.bx b5 55 [iV 0, nS, iV 0], .bx ai 55 [iV B0, ab, iV B2], .sl 57 ty2 ab ap] G) ?_ ?_
 ·refine Y q (fun ae => ?_) (fun ae => ?_)
  ·have aa := if_t ae aa
   refine rR <| qF uf55 fi55_1 nz53 q q q ?_
   have aq := R ad.p2
   refine l u53 q aq q q q q <| za ad.ctx (t := ty2) (C1.c.c.c) u53 q q q ?_
   obtain ⟨aJ, ar, aa⟩ := D aa
   refine WL_makeH ad ar u53 j57 q (fun _ => ⟨_, _, [], [], q, q, ⟨q, q⟩, ⟨q, q⟩⟩) q q q q q (fun au aK av => ?_)
   refine qF uf55 fi55_1 nz53 q q q ?_
   have af := av.p1
   refine WL_store_bx af q il53 (af.ctx.sliceCells hS1) (af.ctx.sliceOne hS1) q q q (fun aL ag => ?_)
   refine B <| Z <| qF uf55 fi55_1 nz53 q q q ?_
   have aw := R ag.p0
   refine l u53 q aw q q q q <| qF uf55 fi55_1 nz53 q q q ?_
   have ax := R ag.p3
   refine l u53 q ax q q q q ?_
   have ay := ag.p1
   refine WL_copyH q ay (C1.c.c.c.c) q u53 i57 q q q q (fun aM az => ?_)
   refine WL_nil fun a ha => ?_
   obtain rfl := L aa
   have aA := az.q3.p1.p2
   exact X (⟨au, ha.sub ⟨q, q, trivial⟩, aA⟩)
  have aa := if_f ae aa
  refine WP_skip fun a ha => ?_
  obtain rfl := L aa
  have aB := ad.nS 57 ty2
  have aC := aB.q3.p1.p2
  exact X (⟨(nS), ha.sub ⟨q, q, trivial⟩, aC⟩)
 intro a aN aD
 obtain ⟨ab, ha, ah⟩ := aD
 refine S ?_ ha
 clear ha
 refine C <| Z ?_
 have aE := R ah.p1
 refine zm (cs := [iV B0, ab, iV B2]) us55 uo55 il55 aE q q q ?_
 change XL _ _ _ _ _ ((23, .agg #[iV B0, ab, iV B2]) :: _) _
 refine zl (cs' := [iV B0, ab, iV B2]) ah q il55 q (T q (T (ah.ctx.sliceOne hS2) (T q q))) q q q (fun aO ak => ?_)
 refine B <| W fun a ha => ?_
 obtain rfl := L h
 have aF := R ak.p0
 have aG := ak.q0.q0
 exact retc q ha q (run_loadVar_bx (cs := [iV B0, ab, iV B2]) us55 uo55 il55 aF) ⟨ab, q, aG⟩
theorem w_impl_copyTicket (w : World) (G : List Res) (vp0 : Value) (p0 : LP) (hp0 : Has G ty2 vp0 p0) (r : LP) (h : impl_copyTicketS p0 = some r) (H : Ctx w G) : Calls Tryz.prog 64 #[vp0] w fun e w' => ∃ (v1 : Value), e = .returned (v1) ∧ Holds M0 w w' [.sl 49 ty2 v1 r] G := by
 have H : Holds M0 w w [] G := zb H
 refine zg (args := [vp0]) (n := 14) Tryz.func64 q q q ?_
 unfold impl_copyTicketS at h
 refine rR <| qA q q q <| B <| C <| rR <| qM q q q <| za H.ctx (t := ty2) (hp0) u45 q q q <| A q (qt_eql q q) q q ?_
 refine B ?_
 refine Y q (fun aa => ?_) (fun aa => ?_)
 ·have h := if_t aa h
  refine rR <| qA q q q <| B <| W fun a ha => ?_
  obtain rfl := L h
  have H2 := H.nS 49 ty2
  exact m (ret1 q ha q ⟨(nS), q, H2⟩)
 have h := if_f aa h
 refine y <| rR <| qM q q q <| za H.ctx (t := ty2) (hp0) u45 q q q ?_
 obtain ⟨x3, ab, h⟩ := D h
 refine WL_makeH H ab u45 j49 q (fun _ => ⟨_, _, [], [], q, q, ⟨q, q⟩, ⟨q, q⟩⟩) q q q q q (fun v5 w6 H7 => ?_)
 refine qA q q q <| rN <| qM q q q <| qM q q q ?_
 refine WL_copyH q H7 (hp0.c) q u45 i49 q q q q (fun w9 ad => ?_)
 refine rN <| qM q q q <| qA q q q <| B <| W fun a ha => ?_
 obtain rfl := L h
 exact ret1 q ha q ⟨v5, q, ad⟩
end Go.Proofs.YtpabogkcmbkffaaGreatDoor
