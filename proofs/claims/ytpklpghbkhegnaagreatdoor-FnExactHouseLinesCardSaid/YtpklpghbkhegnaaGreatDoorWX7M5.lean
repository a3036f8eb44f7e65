/- The walks: each Go function computes its shallow function. Printed by a program. -/
import Derived.Test.YtpklpghbkhegnaaGreatDoorWX7M4
set_option linter.unusedVariables false
set_option maxRecDepth 10000
set_option maxHeartbeats 8000000
namespace Go.Proofs.YtpklpghbkhegnaaGreatDoor
open Go Go.RowKit
theorem w_spec_HouseLine {w G A0 B0 A1 B1 A2 B2 B3 A4 B4 p1 r} (h : spec_HouseLineS B0 B1 B2 B3 B4 p1 = some r) (C0 : Has G ty12 A0 B0) (C1 : Has G tI A1 B1) (C2 : Has G tI A2 B2) (C4 : Has G ty14 A4 B4) (H : Ctx w G) : Calls Tryz.prog 6 #[.agg #[A0, A1, A2, iV B3, A4], strV p1] w fun e w' => ∃ (v1 : Value) (v2 : Value) (v3 : Value) (v4 : Value), e = .returned (.tuple #[.agg #[v1, v2, v3, iV r.1.2.2.2.1, v4], strV r.2]) ∧ Holds M0 w w' [.sl 95 ty12 v1 r.1.1, .sl 3 tI v2 r.1.2.1, .sl 3 tI v3 r.1.2.2.1, .sl 89 ty14 v4 r.1.2.2.2.2] G := by
 refine F0 146 H Tryz.func6 q fun H => ?_
 refine C <| Z <| WL_box (cs := [A0, A1, A2, iV B3, A4]) H q q q q fun b1 w2 H3 => zq (cs := [nS, nS, nS, iV 0, nS]) H3 z31 q q q fun b5 w6 H7 => qa q <| B <| C <| C <| zk <| eA H7.p1 us31 uo31 il31 q <| O h fun eJ cx h => qc q c22 H7 (fun _ => w_spec_HouseValid cx (C0.c.c) (C1.c.c) (C2.c.c) (C4.c.c)) <| qi (qt_not q) q <| Qn H7 fun a ha eK br => X <| S1 ha ?_
 refine Yh q h (fun h => ?_) (fun h => ?_)
 ·cases h
  exact rR <| qi (qt_build (args := []) (css := []) (cells := #[nS, nS, nS, iV 0, nS]) q trivial (by kernel_rfl)) q <| zl (cs' := [nS, nS, nS, iV 0, nS]) br q il31 q q q q q fun eL bP => qa q <| B <| W fun a ha => have cy := R bP.p0; have cz := bP.nS 95 ty12; have cA := cz.nS 3 tI; have cB := cA.nS 3 tI; have cC := cB.nS 89 ty14; m (retct q ha q q (run_loadVar_bx (cs := [nS, nS, nS, iV 0, nS]) us31 uo31 il31 cy) ⟨(nS), (nS), (nS), (nS), q, cC.q4.q4.p1.p2.p3⟩)
 refine y <| rR <| qm q <| O h fun ab cE h => U0 q c23 (w_spec_ReadDeed cE br.ctx) fun eM cF => have cG := br.cN0 [] cF; qm q <| qi (zv q q) q <| qi (zv q q) q <| zq (cs := [iV 0, iV 0, iV 0, iV 0]) cG z50 q q q fun aj eN cH => zl (cs' := [iV ab.1.1, iV ab.1.2.1, iV ab.1.2.2.1, iV ab.1.2.2.2]) cH q il50 q q q q q fun eO bQ => qa q <| rN <| qm q <| O h fun ak cI h => U1 q c24 (w_spec_l1Cut cI bQ.ctx) fun al eP cJ => have bs := bQ.cN1 [] cJ; qa q <| rN <| eA bs.p3 us31 uo31 il31 q <| O h fun aa cK h => U4 q c25 (w_spec_l7Copy cK (C0.c.c.c.c) (C1.c.c.c.c) (C2.c.c.c.c) (C4.c.c.c.c) bs.ctx) fun ad ae af ag eQ cL => have cM := bs.cN4 [] cL; zq (cs := [nS, nS, nS, iV 0, nS]) cM z31 q q q fun am eR aP => zl (cs' := [ad, ae, af, iV aa.2.2.2.1, ag]) aP q il31 q (T (aP.ctx.sliceOne hS1) (T (aP.ctx.sliceOne hS2) (T (aP.ctx.sliceOne hS3) (T q (T (aP.ctx.sliceOne hS4) q))))) q q q fun eT aH => ?_
 refine B <| C <| zk <| qm q <| qz aH.ctx hS5 u38 q <| qi (qt_eql q q) q <| qm q <| O h fun bl ax h => ?_
 refine Ga (res := bl) 8 (if_f · ax) (fun av eU cN => ?_) ?_
 ·exact have ax := if_t av ax; jm av q <| jm av q <| jz aH.ctx hS5 u38 av q <| ji (qt_sub q q) av q <| O ax fun eW bR ax => je aH hS5 bR u38 i9 av q fun _ _ cO => jS u9 cO av q <| O ax fun e0 cP ax => jc av q c26 aH (fun _ => w_spec_l1Read cP) <| ji (qt_geq q q) av q <| cN 8 q q q ax
 refine qa q <| Qn aH fun a ha e1 ah => X <| S1 ha <| C <| g <| rR <| qm q <| qa q <| B ?_
 refine Yh q h (fun h => ?_) (fun h => ?_)
 ·refine rR <| eA ah.p8 us31 uo31 il31 q <| eA ah.p6 us50 uo50 il50 q <| O h fun aQ cQ h => U4 q c27 (w_spec_HouseDo cQ (C0.c.c.c.c.c.c.c.c.c) (C1.c.c.c.c.c.c.c.c.c) (C2.c.c.c.c.c.c.c.c.c) (C4.c.c.c.c.c.c.c.c.c) ah.ctx) fun aD aE aF aG e2 cR => have cS := ah.cN4 [] cR; qm q <| qi (zv q q) q <| qi (zv q q) q <| zq (cs := [nS, nS, nS, iV 0, nS]) cS z31 q q q fun e3 e4 aR => zl (cs' := [aD, aE, aF, iV aQ.1.2.2.2.1, aG]) aR q il31 q (T (aR.ctx.sliceOne hS1) (T (aR.ctx.sliceOne hS2) (T (aR.ctx.sliceOne hS3) (T q (T (aR.ctx.sliceOne hS4) q))))) q q q fun e5 bm => qa q <| B <| C <| rR <| qm q <| qi (qt_not q) q <| B ?_
  refine Yh q h (fun h => ?_) (fun h => ?_)
  ·cases h
   exact rR <| eA bm.p0 us31 uo31 il31 q <| have aS := bm.p12; zl (cs' := [aD, aE, aF, iV aQ.1.2.2.2.1, aG]) aS q il31 q (T (aS.ctx.sliceOne hS2) (T (aS.ctx.sliceOne hS3) (T (aS.ctx.sliceOne hS4) (T q (T (aS.ctx.sliceOne hS5) q))))) q q q fun e6 bS => qa q <| B <| W fun a ha => have cT := R bS.p0; m (zj (m (retct q ha q q (run_loadVar_bx (cs := [aD, aE, aF, iV aQ.1.2.2.2.1, aG]) us31 uo31 il31 cT) ⟨aD, aE, aF, aG, q, bS.q0.q0.q4.q4.q4.q4.q4.q4.q4.q4.p3.p3.p3.p3⟩)))
  cases h
  exact y <| rR <| eA bm.p0 us31 uo31 il31 q <| have aT := bm.p12; zl (cs' := [aD, aE, aF, iV aQ.1.2.2.2.1, aG]) aT q il31 q (T (aT.ctx.sliceOne hS2) (T (aT.ctx.sliceOne hS3) (T (aT.ctx.sliceOne hS4) (T q (T (aT.ctx.sliceOne hS5) q))))) q q q fun e7 bT => qa q <| B <| W fun a ha => have cV := R bT.p0; zj (m (retct q ha q q (run_loadVar_bx (cs := [aD, aE, aF, iV aQ.1.2.2.2.1, aG]) us31 uo31 il31 cV) ⟨aD, aE, aF, aG, q, bT.q0.q0.q4.q4.q4.q4.q4.q4.q4.q4.p3.p3.p3.p3⟩))
 refine rR <| qm q <| qi (qt_seql q q) q <| qa q <| B ?_
 refine Yh q h (fun h => ?_) (fun h => ?_)
 ·refine C <| O h fun cX bU h => O h fun ao bt h => ?_
  refine WP_join (M := fun a w2 => ∃ bu aI aJ aK aL, Fr a 146 [(4, pB b5), (13, pB bu)] ∧ Holds M0 w w2 [.bx b5 31 [nS, nS, nS, iV 0, nS], .bx bu 31 [aI, aJ, aK, iV ao.1.2.2.2.1, aL], .sl 95 ty12 aI ao.1.1, .sl 3 tI aJ ao.1.2.1, .sl 3 tI aK ao.1.2.2.1, .sl 89 ty14 aL ao.1.2.2.2.2] G) ?_ ?_
  ·refine WP_ordersT (fun w1 w2 => Chg M0 w1 w2) 9 (by kernel_rfl) fun bv cY => have bV := ah.grow cY; ?_
   have bw : Ctx bv ([] ++ ([.bx am 31 [ad, ae, af, iV aa.2.2.2.1, ag], .sl 95 ty12 ad aa.1, .sl 3 tI ae aa.2.1, .sl 3 tI af aa.2.2.1, .sl 89 ty14 ag aa.2.2.2.2, .sl 9 .str al ak, .bx aj 50 [iV ab.1.1, iV ab.1.2.1, iV ab.1.2.2.1, iV ab.1.2.2.2], .bx b5 31 [nS, nS, nS, iV 0, nS], .bx b1 31 [A0, A1, A2, iV B3, A4]] ++ G)) := bV.ctx
   have cZ : Holds _ bv bv [] ([.bx am 31 [ad, ae, af, iV aa.2.2.2.1, ag], .sl 95 ty12 ad aa.1, .sl 3 tI ae aa.2.1, .sl 3 tI af aa.2.2.1, .sl 89 ty14 ag aa.2.2.2.2, .sl 9 .str al ak, .bx aj 50 [iV ab.1.1, iV ab.1.2.1, iV ab.1.2.2.1, iV ab.1.2.2.2], .bx b5 31 [nS, nS, nS, iV 0, nS], .bx b1 31 [A0, A1, A2, iV B3, A4]] ++ G) := zb (Rs := []) bw
   refine have Hc := cZ; have c0 := HasB.bx (HasB.c (HasB.c (HasB.c (HasB.c (HasB.c (HasB.c (HasB.c (HasB.c (HasB.hd))))))))) Hc.ctx; XT (i := 0) q (by kernel_rfl) q Hc.chg q (qs_agg (cs := [A0, A1, A2, iV B3, A4]) us31 uo31 il31 q (fun j z hj => by rw [Nat.zero_add]; exact c0.cell hj) Hc.chg (Ctx.outB bw (HasB.c (HasB.c (HasB.c (HasB.c (HasB.c (HasB.c (HasB.c (HasB.c (HasB.hd))))))))))) q q ?_
   change XC _ _ _ _ _ _ _ _ ((57, .agg #[A0, A1, A2, iV B3, A4]) :: _) _
   refine have c1 := HasB.bx (HasB.c (HasB.c (HasB.c (HasB.c (HasB.c (HasB.c (HasB.c (HasB.c (HasB.hd))))))))) Hc.ctx; XT (i := 1) q (by kernel_rfl) q Hc.chg q (qs_agg (cs := [A0, A1, A2, iV B3, A4]) us31 uo31 il31 q (fun j z hj => by rw [Nat.zero_add]; exact c1.cell hj) Hc.chg (Ctx.outB bw (HasB.c (HasB.c (HasB.c (HasB.c (HasB.c (HasB.c (HasB.c (HasB.c (HasB.hd))))))))))) q q ?_
   change XC _ _ _ _ _ _ _ _ ((58, .agg #[A0, A1, A2, iV B3, A4]) :: _) _
   repeat' first
    | refine XDo 2 q <| U1 q c29 (w_spec_EndDeeds bU (C0.c.c.c.c.c.c.c.c.c) (C1.c.c.c.c.c.c.c.c.c) (C2.c.c.c.c.c.c.c.c.c) (C4.c.c.c.c.c.c.c.c.c) Hc.ctx) fun bW _ HK => ?_; have Hc := Hc.cN1 [] HK; refine XN Hc.chg ?_
    | refine XDo 2 q <| U1 q c29 (w_spec_EndDeeds bU (C0.c.c.c.c.c.c.c.c.c.c) (C1.c.c.c.c.c.c.c.c.c.c) (C2.c.c.c.c.c.c.c.c.c.c) (C4.c.c.c.c.c.c.c.c.c.c) Hc.ctx) fun bW _ HK => ?_; have Hc := Hc.cN1 [] HK; refine XN Hc.chg ?_
    | refine XDo 3 q <| U4 q c28 (w_spec_HouseRun bt (C0.c.c.c.c.c.c.c.c.c.c) (C1.c.c.c.c.c.c.c.c.c.c) (C2.c.c.c.c.c.c.c.c.c.c) (C4.c.c.c.c.c.c.c.c.c.c) hS0 Hc.ctx) fun ay az aA aB _ HK => ?_; have Hc := Hc.cN4 [] HK; refine XN Hc.chg <| XQ (i := 4) q (by kernel_rfl) q Hc.chg q (fun _ => qt_move q) q q <| XQ (i := 5) q (by kernel_rfl) q Hc.chg q (fun _ => zv q q) q q <| XQ (i := 6) q (by kernel_rfl) q Hc.chg q (fun _ => zv q q) q q ?_
    | refine XDo 3 q <| U4 q c28 (w_spec_HouseRun bt (C0.c.c.c.c.c.c.c.c.c.c.c) (C1.c.c.c.c.c.c.c.c.c.c.c) (C2.c.c.c.c.c.c.c.c.c.c.c) (C4.c.c.c.c.c.c.c.c.c.c.c) hS1 Hc.ctx) fun ay az aA aB _ HK => ?_; have Hc := Hc.cN4 [] HK; refine XN Hc.chg <| XQ (i := 4) q (by kernel_rfl) q Hc.chg q (fun _ => qt_move q) q q <| XQ (i := 5) q (by kernel_rfl) q Hc.chg q (fun _ => zv q q) q q <| XQ (i := 6) q (by kernel_rfl) q Hc.chg q (fun _ => zv q q) q q ?_
    | refine XDo 3 q <| U4 q c28 (w_spec_HouseRun bt (C0.c.c.c.c.c.c.c.c.c.c.c) (C1.c.c.c.c.c.c.c.c.c.c.c) (C2.c.c.c.c.c.c.c.c.c.c.c) (C4.c.c.c.c.c.c.c.c.c.c.c) hS0 Hc.ctx) fun ay az aA aB _ HK => ?_; have Hc := Hc.cN4 [] HK; refine XN Hc.chg <| XQ (i := 4) q (by kernel_rfl) q Hc.chg q (fun _ => qt_move q) q q <| XQ (i := 5) q (by kernel_rfl) q Hc.chg q (fun _ => zv q q) q q <| XQ (i := 6) q (by kernel_rfl) q Hc.chg q (fun _ => zv q q) q q ?_
    | refine XDo 7 q ?_; refine zq (cs := [nS, nS, nS, iV 0, nS]) Hc z31 q q q (fun bX _ Hc => ?_); refine XN Hc.chg ?_
    | refine XDo 8 q ?_; refine zl (cs' := [ay, az, aA, iV ao.1.2.2.2.1, aB]) Hc q il31 q (T (Hc.ctx.sliceOne hS1) (T (Hc.ctx.sliceOne hS2) (T (Hc.ctx.sliceOne hS3) (T q (T (Hc.ctx.sliceOne hS4) q))))) q q q (fun _ Hc => ?_); refine XN Hc.chg ?_
    | refine XDo 8 q ?_; have Hc := Hc.p4; refine zl (cs' := [ay, az, aA, iV ao.1.2.2.2.1, aB]) Hc q il31 q (T (Hc.ctx.sliceOne hS1) (T (Hc.ctx.sliceOne hS2) (T (Hc.ctx.sliceOne hS3) (T q (T (Hc.ctx.sliceOne hS4) q))))) q q q (fun _ Hc => ?_); refine XN Hc.chg ?_
    | refine XDo 8 q ?_; have Hc := Hc.p5; refine zl (cs' := [ay, az, aA, iV ao.1.2.2.2.1, aB]) Hc q il31 q (T (Hc.ctx.sliceOne hS1) (T (Hc.ctx.sliceOne hS2) (T (Hc.ctx.sliceOne hS3) (T q (T (Hc.ctx.sliceOne hS4) q))))) q q q (fun _ Hc => ?_); refine XN Hc.chg ?_
    | have Hc : Holds _ _ _ [.bx bX 31 [ay, az, aA, iV ao.1.2.2.2.1, aB], .sl 95 ty12 ay ao.1.1, .sl 3 tI az ao.1.2.1, .sl 3 tI aA ao.1.2.2.1, .sl 89 ty14 aB ao.1.2.2.2.2, .sl 50 ty10 bW cX, .bx am 31 [ad, ae, af, iV aa.2.2.2.1, ag], .sl 95 ty12 ad aa.1, .sl 3 tI ae aa.2.1, .sl 3 tI af aa.2.2.1, .sl 89 ty14 ag aa.2.2.2.2, .sl 9 .str al ak, .bx aj 50 [iV ab.1.1, iV ab.1.2.1, iV ab.1.2.2.1, iV ab.1.2.2.2], .bx b5 31 [nS, nS, nS, iV 0, nS], .bx b1 31 [A0, A1, A2, iV B3, A4]] G := bV.calledN (Rs := []) Hc; refine XDo 9 q <| qa q <| XE q ?_
    | refine XV [2, 7] (by decide +kernel) q (allc ?_ (allc ?_ alln))
    | refine XV [3, 7] (by decide +kernel) q (allc ?_ (allc ?_ alln))
    | refine XV [7] (by decide +kernel) q (allc ?_ alln)
    | refine XV [8] (by decide +kernel) q (allc ?_ alln)
    | refine XV [9] (by decide +kernel) q (allc ?_ alln)
    | refine XV [3] (by decide +kernel) q (allc ?_ alln)
    | refine XV [2] (by decide +kernel) q (allc ?_ alln)
    | refine XC_done (by decide +kernel) (fun a ha => ?_); have Hc := (((((((((((((((Hc.q5).q5).q5).q5).q5).q5).q5).q5).q6).p4).p4).p4).p4).p4).p5); exact ⟨bX, ay, az, aA, aB, ha.s, Hc⟩
  rintro a e8 ⟨bu, aI, aJ, aK, aL, ha, aM⟩
  cases h
  exact S1 ha <| rR <| eA aM.p1 us31 uo31 il31 q <| zl (cs' := [aI, aJ, aK, iV ao.1.2.2.2.1, aL]) aM q il31 q (T (aM.ctx.sliceOne hS2) (T (aM.ctx.sliceOne hS3) (T (aM.ctx.sliceOne hS4) (T q (T (aM.ctx.sliceOne hS5) q))))) q q q fun e9 bY => qa q <| B <| W fun a ha => have c2 := R bY.p0; zj (m (retct q ha q q (run_loadVar_bx (cs := [aI, aJ, aK, iV ao.1.2.2.2.1, aL]) us31 uo31 il31 c2) ⟨aI, aJ, aK, aL, q, bY.q0.q0.p3.p3.p3.p3⟩))
 refine rR <| qm q <| qi (qt_seql q q) q <| qa q <| B ?_
 refine Yh q h (fun h => ?_) (fun h => ?_)
 ·refine C <| O h fun c4 da h => ?_
  refine WP_join (M := fun a w2 => ∃ aU aV aW aX, Fr a 146 [(4, pB b5), (5, strV c4)] ∧ Holds M0 w w2 [.bx b5 31 [aU, aV, aW, iV aa.2.2.2.1, aX], .sl 95 ty12 aU aa.1, .sl 3 tI aV aa.2.1, .sl 3 tI aW aa.2.2.1, .sl 89 ty14 aX aa.2.2.2.2] G) ?_ ?_
  ·refine WP_ordersT (fun w1 w2 => Chg (([.bx b5 31 [nS, nS, nS, iV 0, nS]] : List Res).flatMap Res.own) w1 w2) 5 (by kernel_rfl) fun bz db => have dc := ah.grow db; have bZ := dc.p7; ?_
   have bA : Ctx bz ([.bx b5 31 [nS, nS, nS, iV 0, nS]] ++ ([.bx am 31 [ad, ae, af, iV aa.2.2.2.1, ag], .sl 95 ty12 ad aa.1, .sl 3 tI ae aa.2.1, .sl 3 tI af aa.2.2.1, .sl 89 ty14 ag aa.2.2.2.2, .sl 9 .str al ak, .bx aj 50 [iV ab.1.1, iV ab.1.2.1, iV ab.1.2.2.1, iV ab.1.2.2.2], .bx b1 31 [A0, A1, A2, iV B3, A4]] ++ G)) := bZ.ctx
   have aw : Holds _ bz bz [.bx b5 31 [nS, nS, nS, iV 0, nS]] ([.bx am 31 [ad, ae, af, iV aa.2.2.2.1, ag], .sl 95 ty12 ad aa.1, .sl 3 tI ae aa.2.1, .sl 3 tI af aa.2.2.1, .sl 89 ty14 ag aa.2.2.2.2, .sl 9 .str al ak, .bx aj 50 [iV ab.1.1, iV ab.1.2.1, iV ab.1.2.2.1, iV ab.1.2.2.2], .bx b1 31 [A0, A1, A2, iV B3, A4]] ++ G) := zb (Rs := [.bx b5 31 [nS, nS, nS, iV 0, nS]]) bA
   refine have dd := HasB.bx (HasB.c (HasB.hd)) aw.ctx; XT (i := 0) q (by kernel_rfl) q aw.chg q (qs_agg (cs := [ad, ae, af, iV aa.2.2.2.1, ag]) us31 uo31 il31 q (fun j z hj => by rw [Nat.zero_add]; exact dd.cell hj) aw.chg (Ctx.outB bA (HasB.hd))) q q ?_
   change XC _ _ _ _ _ _ _ _ ((67, .agg #[ad, ae, af, iV aa.2.2.2.1, ag]) :: _) _
   exact XQ (i := 1) q (by kernel_rfl) q aw.chg q (fun _ => qt_fieldAddr uf31 fi31_2 nz23 q) q q <| have de := HasB.bx (HasB.c (HasB.c (HasB.c (HasB.c (HasB.c (HasB.c (HasB.c (HasB.c (HasB.hd))))))))) aw.ctx; XT (i := 2) q (by kernel_rfl) q aw.chg q (qs_cell u23 q q (de.cell (i := 2) q) aw.chg (Ctx.outB bA (HasB.c (HasB.c (HasB.c (HasB.c (HasB.c (HasB.c (HasB.c (HasB.hd)))))))))) q q <| X1 3 (by kernel_rfl) q <| U0 q c30 (w_spec_l7List da (C2.c.c.c.c.c.c.c.c.c) aw.ctx) fun fa df => have aN := aw.cN0 [] df; XN aN.chg <| X1 4 (by kernel_rfl) q <| zl (cs' := [ad, ae, af, iV aa.2.2.2.1, ag]) aN q il31 q (T (aN.ctx.sliceOne hS2) (T (aN.ctx.sliceOne hS3) (T (aN.ctx.sliceOne hS4) (T q (T (aN.ctx.sliceOne hS5) q))))) q q q fun fb b0 => XN b0.chg <| have dg := bZ.cN1 [_] b0; X1 5 (by kernel_rfl) q <| qa q <| XE q <| XC_done (by kernel_rfl) fun a ha => ⟨ad, ae, af, ag, ha.s, dg.q1.q5.q5.q5.p4.p4.p4.p4.p4⟩
  rintro a fc ⟨aU, aV, aW, aX, ha, b4⟩
  cases h
  exact S1 ha <| W fun a ha => have di := R b4.p0; zj (m (retct q ha q q (run_loadVar_bx (cs := [aU, aV, aW, iV aa.2.2.2.1, aX]) us31 uo31 il31 di) ⟨aU, aV, aW, aX, q, b4.q0.p3.p3.p3.p3⟩))
 refine rR <| qm q <| qi (qt_seql q q) q <| qa q <| B ?_
 refine Yh q h (fun h => ?_) (fun h => ?_)
 ·refine C <| O h fun b6 dk h => ?_
  refine WP_join (M := fun a w2 => ∃ aY aZ a0 a1, Fr a 146 [(4, pB b5), (5, strV b6)] ∧ Holds M0 w w2 [.bx b5 31 [aY, aZ, a0, iV aa.2.2.2.1, a1], .sl 95 ty12 aY aa.1, .sl 3 tI aZ aa.2.1, .sl 3 tI a0 aa.2.2.1, .sl 89 ty14 a1 aa.2.2.2.2] G) ?_ ?_
  ·refine WP_ordersT (fun w1 w2 => Chg (([.bx b5 31 [nS, nS, nS, iV 0, nS]] : List Res).flatMap Res.own) w1 w2) 5 (by kernel_rfl) fun bB dl => have dm := ah.grow dl; have b7 := dm.p7; ?_
   have bC : Ctx bB ([.bx b5 31 [nS, nS, nS, iV 0, nS]] ++ ([.bx am 31 [ad, ae, af, iV aa.2.2.2.1, ag], .sl 95 ty12 ad aa.1, .sl 3 tI ae aa.2.1, .sl 3 tI af aa.2.2.1, .sl 89 ty14 ag aa.2.2.2.2, .sl 9 .str al ak, .bx aj 50 [iV ab.1.1, iV ab.1.2.1, iV ab.1.2.2.1, iV ab.1.2.2.2], .bx b1 31 [A0, A1, A2, iV B3, A4]] ++ G)) := b7.ctx
   have dn : Holds _ bB bB [.bx b5 31 [nS, nS, nS, iV 0, nS]] ([.bx am 31 [ad, ae, af, iV aa.2.2.2.1, ag], .sl 95 ty12 ad aa.1, .sl 3 tI ae aa.2.1, .sl 3 tI af aa.2.2.1, .sl 89 ty14 ag aa.2.2.2.2, .sl 9 .str al ak, .bx aj 50 [iV ab.1.1, iV ab.1.2.1, iV ab.1.2.2.1, iV ab.1.2.2.2], .bx b1 31 [A0, A1, A2, iV B3, A4]] ++ G) := zb (Rs := [.bx b5 31 [nS, nS, nS, iV 0, nS]]) bC
   refine have Hc := dn; have dq := HasB.bx (HasB.c (HasB.hd)) Hc.ctx; XT (i := 0) q (by kernel_rfl) q Hc.chg q (qs_agg (cs := [ad, ae, af, iV aa.2.2.2.1, ag]) us31 uo31 il31 q (fun j z hj => by rw [Nat.zero_add]; exact dq.cell hj) Hc.chg (Ctx.outB bC (HasB.hd))) q q ?_
   change XC _ _ _ _ _ _ _ _ ((74, .agg #[ad, ae, af, iV aa.2.2.2.1, ag]) :: _) _
   refine XQ (i := 1) q (by kernel_rfl) q Hc.chg q (fun _ => qt_fieldAddr uf31 fi31_3 nz3 q) q q <| have dr := HasB.bx (HasB.c (HasB.c (HasB.c (HasB.c (HasB.c (HasB.c (HasB.c (HasB.c (HasB.hd))))))))) Hc.ctx; XT (i := 2) q (by kernel_rfl) q Hc.chg q (qs_cell u3 q q (dr.cell (i := 3) q) Hc.chg (Ctx.outB bC (HasB.c (HasB.c (HasB.c (HasB.c (HasB.c (HasB.c (HasB.c (HasB.hd)))))))))) q q ?_
   repeat' first
    | refine XDo 3 q <| zd q q c31 (w_spec_l1Number _ _ B3 b6 dk Hc.ctx) (by rfl) ?_; rintro _ _ ⟨rfl, HK⟩; refine ⟨_, q, ?_⟩; have Hc := Hc.cN0 [] HK; refine XN Hc.chg ?_
    | refine XDo 4 q ?_; refine zl (cs' := [ad, ae, af, iV aa.2.2.2.1, ag]) Hc q il31 q (T (Hc.ctx.sliceOne hS2) (T (Hc.ctx.sliceOne hS3) (T (Hc.ctx.sliceOne hS4) (T q (T (Hc.ctx.sliceOne hS5) q))))) q q q (fun _ Hc => ?_); refine XN Hc.chg ?_
    | have Hc := b7.cN1 [_] Hc; refine XDo 5 q <| qa q <| XE q ?_
    | refine XV [3] (by decide +kernel) q (allc ?_ alln)
    | refine XV [4] (by decide +kernel) q (allc ?_ alln)
    | refine XV [5] (by decide +kernel) q (allc ?_ alln)
    | refine XC_done (by decide +kernel) (fun a ha => ?_); have Hc := (((((((((Hc.q1).q5).q5).q5).p4).p4).p4).p4).p4); exact ⟨ad, ae, af, ag, ha.s, Hc⟩
  rintro a fd ⟨aY, aZ, a0, a1, ha, b8⟩
  cases h
  exact S1 ha <| W fun a ha => have ds := R b8.p0; zj (m (retct q ha q q (run_loadVar_bx (cs := [aY, aZ, a0, iV aa.2.2.2.1, a1]) us31 uo31 il31 ds) ⟨aY, aZ, a0, a1, q, b8.q0.p3.p3.p3.p3⟩))
 refine rR <| qm q <| qi (qt_seql q q) q <| qa q <| B ?_
 refine Yh q h (fun h => ?_) (fun h => ?_)
 ·refine C <| O h fun b9 du h => ?_
  refine WP_join (M := fun a w2 => ∃ a2 a3 a4 a5, Fr a 146 [(4, pB b5), (5, strV b9)] ∧ Holds M0 w w2 [.bx b5 31 [a2, a3, a4, iV aa.2.2.2.1, a5], .sl 95 ty12 a2 aa.1, .sl 3 tI a3 aa.2.1, .sl 3 tI a4 aa.2.2.1, .sl 89 ty14 a5 aa.2.2.2.2] G) ?_ ?_
  ·refine WP_ordersT (fun w1 w2 => Chg (([.bx b5 31 [nS, nS, nS, iV 0, nS]] : List Res).flatMap Res.own) w1 w2) 6 (by kernel_rfl) fun bD dv => have dw := ah.grow dv; have ca := dw.p7; ?_
   have bE : Ctx bD ([.bx b5 31 [nS, nS, nS, iV 0, nS]] ++ ([.bx am 31 [ad, ae, af, iV aa.2.2.2.1, ag], .sl 95 ty12 ad aa.1, .sl 3 tI ae aa.2.1, .sl 3 tI af aa.2.2.1, .sl 89 ty14 ag aa.2.2.2.2, .sl 9 .str al ak, .bx aj 50 [iV ab.1.1, iV ab.1.2.1, iV ab.1.2.2.1, iV ab.1.2.2.2], .bx b1 31 [A0, A1, A2, iV B3, A4]] ++ G)) := ca.ctx
   have dx : Holds _ bD bD [.bx b5 31 [nS, nS, nS, iV 0, nS]] ([.bx am 31 [ad, ae, af, iV aa.2.2.2.1, ag], .sl 95 ty12 ad aa.1, .sl 3 tI ae aa.2.1, .sl 3 tI af aa.2.2.1, .sl 89 ty14 ag aa.2.2.2.2, .sl 9 .str al ak, .bx aj 50 [iV ab.1.1, iV ab.1.2.1, iV ab.1.2.2.1, iV ab.1.2.2.2], .bx b1 31 [A0, A1, A2, iV B3, A4]] ++ G) := zb (Rs := [.bx b5 31 [nS, nS, nS, iV 0, nS]]) bE
   refine have Hc := dx; have dy := HasB.bx (HasB.c (HasB.hd)) Hc.ctx; XT (i := 0) q (by kernel_rfl) q Hc.chg q (qs_agg (cs := [ad, ae, af, iV aa.2.2.2.1, ag]) us31 uo31 il31 q (fun j z hj => by rw [Nat.zero_add]; exact dy.cell hj) Hc.chg (Ctx.outB bE (HasB.hd))) q q ?_
   change XC _ _ _ _ _ _ _ _ ((81, .agg #[ad, ae, af, iV aa.2.2.2.1, ag]) :: _) _
   refine XQ (i := 1) q (by kernel_rfl) q Hc.chg q (fun _ => qt_fieldAddr uf31 fi31_4 nz29 q) q q <| have dz := HasB.bx (HasB.c (HasB.c (HasB.c (HasB.c (HasB.c (HasB.c (HasB.c (HasB.c (HasB.hd))))))))) Hc.ctx; XT (i := 2) q (by kernel_rfl) q Hc.chg q (qs_cell u29 q q (dz.cell (i := 4) q) Hc.chg (Ctx.outB bE (HasB.c (HasB.c (HasB.c (HasB.c (HasB.c (HasB.c (HasB.c (HasB.hd)))))))))) q q <| XT (i := 3) q (by kernel_rfl) q Hc.chg q (qs_len (t := ty14) Hc.ctx (C4.c.c.c.c.c.c.c.c.c) u29 q) q q ?_
   repeat' first
    | refine XDo 4 q <| zd q q c31 (w_spec_l1Number _ _ (List.length B4 : Int) b9 du Hc.ctx) (by rfl) ?_; rintro _ _ ⟨rfl, HK⟩; refine ⟨_, q, ?_⟩; have Hc := Hc.cN0 [] HK; refine XN Hc.chg ?_
    | refine XDo 5 q ?_; refine zl (cs' := [ad, ae, af, iV aa.2.2.2.1, ag]) Hc q il31 q (T (Hc.ctx.sliceOne hS2) (T (Hc.ctx.sliceOne hS3) (T (Hc.ctx.sliceOne hS4) (T q (T (Hc.ctx.sliceOne hS5) q))))) q q q (fun _ Hc => ?_); refine XN Hc.chg ?_
    | have Hc := ca.cN1 [_] Hc; refine XDo 6 q <| qa q <| XE q ?_
    | refine XV [4] (by decide +kernel) q (allc ?_ alln)
    | refine XV [5] (by decide +kernel) q (allc ?_ alln)
    | refine XV [6] (by decide +kernel) q (allc ?_ alln)
    | refine XC_done (by decide +kernel) (fun a ha => ?_); have Hc := (((((((((Hc.q1).q5).q5).q5).p4).p4).p4).p4).p4); exact ⟨ad, ae, af, ag, ha.s, Hc⟩
  rintro a fe ⟨a2, a3, a4, a5, ha, cb⟩
  cases h
  exact S1 ha <| W fun a ha => have dA := R cb.p0; zj (m (retct q ha q q (run_loadVar_bx (cs := [a2, a3, a4, iV aa.2.2.2.1, a5]) us31 uo31 il31 dA) ⟨a2, a3, a4, a5, q, cb.q0.p3.p3.p3.p3⟩))
 refine rR <| qm q <| qi (qt_seql q q) q <| qa q <| B ?_
 refine Yh q h (fun h => ?_) (fun h => ?_)
 ·refine C <| O h fun ff dC h => O h fun dD dE h => O h fun cc dF h => ?_
  refine WP_join (M := fun a w2 => ∃ a6 a7 a8 a9, Fr a 146 [(4, pB b5), (5, strV cc)] ∧ Holds M0 w w2 [.bx b5 31 [a6, a7, a8, iV aa.2.2.2.1, a9], .sl 95 ty12 a6 aa.1, .sl 3 tI a7 aa.2.1, .sl 3 tI a8 aa.2.2.1, .sl 89 ty14 a9 aa.2.2.2.2] G) ?_ ?_
  ·refine WP_ordersT (fun w1 w2 => Chg (([.bx b5 31 [nS, nS, nS, iV 0, nS]] : List Res).flatMap Res.own) w1 w2) 6 (by kernel_rfl) fun bF dG => have dH := ah.grow dG; have cd := dH.p7; ?_
   have bG : Ctx bF ([.bx b5 31 [nS, nS, nS, iV 0, nS]] ++ ([.bx am 31 [ad, ae, af, iV aa.2.2.2.1, ag], .sl 95 ty12 ad aa.1, .sl 3 tI ae aa.2.1, .sl 3 tI af aa.2.2.1, .sl 89 ty14 ag aa.2.2.2.2, .sl 9 .str al ak, .bx aj 50 [iV ab.1.1, iV ab.1.2.1, iV ab.1.2.2.1, iV ab.1.2.2.2], .bx b1 31 [A0, A1, A2, iV B3, A4]] ++ G)) := cd.ctx
   have dI : Holds _ bF bF [.bx b5 31 [nS, nS, nS, iV 0, nS]] ([.bx am 31 [ad, ae, af, iV aa.2.2.2.1, ag], .sl 95 ty12 ad aa.1, .sl 3 tI ae aa.2.1, .sl 3 tI af aa.2.2.1, .sl 89 ty14 ag aa.2.2.2.2, .sl 9 .str al ak, .bx aj 50 [iV ab.1.1, iV ab.1.2.1, iV ab.1.2.2.1, iV ab.1.2.2.2], .bx b1 31 [A0, A1, A2, iV B3, A4]] ++ G) := zb (Rs := [.bx b5 31 [nS, nS, nS, iV 0, nS]]) bG
   refine have Hc := dI; have dJ := HasB.bx (HasB.c (HasB.hd)) Hc.ctx; XT (i := 0) q (by kernel_rfl) q Hc.chg q (qs_agg (cs := [ad, ae, af, iV aa.2.2.2.1, ag]) us31 uo31 il31 q (fun j z hj => by rw [Nat.zero_add]; exact dJ.cell hj) Hc.chg (Ctx.outB bG (HasB.hd))) q q ?_
   change XC _ _ _ _ _ _ _ _ ((89, .agg #[ad, ae, af, iV aa.2.2.2.1, ag]) :: _) _
   refine have dK := HasB.bx (HasB.c (HasB.c (HasB.c (HasB.c (HasB.c (HasB.c (HasB.c (HasB.c (HasB.hd))))))))) Hc.ctx; XT (i := 1) q (by kernel_rfl) q Hc.chg q (qs_agg (cs := [A0, A1, A2, iV B3, A4]) us31 uo31 il31 q (fun j z hj => by rw [Nat.zero_add]; exact dK.cell hj) Hc.chg (Ctx.outB bG (HasB.c (HasB.c (HasB.c (HasB.c (HasB.c (HasB.c (HasB.c (HasB.hd)))))))))) q q ?_
   change XC _ _ _ _ _ _ _ _ ((90, .agg #[A0, A1, A2, iV B3, A4]) :: _) _
   repeat' first
    | refine XDo 2 q <| U1 q c33 (w_spec_l7Tickets dC (C0.c.c.c.c.c.c.c.c.c) (C1.c.c.c.c.c.c.c.c.c) (C2.c.c.c.c.c.c.c.c.c) (C4.c.c.c.c.c.c.c.c.c) Hc.ctx) fun fg _ HK => ?_; have Hc := Hc.cN1 [] HK; refine XN Hc.chg ?_
    | refine XDo 3 q <| U0 q c32 (w_spec_WorkLeft dE hS0 Hc.ctx) fun _ HK => ?_; have Hc := Hc.cN0 [] HK; refine XN Hc.chg ?_
    | refine XDo 4 q <| zd q q c31 (w_spec_l1Number _ _ dD cc dF Hc.ctx) (by rfl) ?_; rintro _ _ ⟨rfl, HK⟩; refine ⟨_, q, ?_⟩; have Hc := Hc.cN0 [] HK; refine XN Hc.chg ?_
    | refine XDo 5 q ?_; have Hc := Hc.p1; refine zl (cs' := [ad, ae, af, iV aa.2.2.2.1, ag]) Hc q il31 q (T (Hc.ctx.sliceOne hS3) (T (Hc.ctx.sliceOne hS4) (T (Hc.ctx.sliceOne hS5) (T q (T (Hc.ctx.sliceOne hS6) q))))) q q q (fun _ Hc => ?_); refine XN Hc.chg ?_
    | have Hc := cd.cN2 [_] Hc; refine XDo 6 q <| qa q <| XE q ?_
    | refine XV [2] (by decide +kernel) q (allc ?_ alln)
    | refine XV [3] (by decide +kernel) q (allc ?_ alln)
    | refine XV [4] (by decide +kernel) q (allc ?_ alln)
    | refine XV [5] (by decide +kernel) q (allc ?_ alln)
    | refine XV [6] (by decide +kernel) q (allc ?_ alln)
    | refine XC_done (by decide +kernel) (fun a ha => ?_); have Hc := ((((((((((Hc.q1).q1).q5).q5).q5).p4).p4).p4).p4).p4); exact ⟨ad, ae, af, ag, ha.s, Hc⟩
  rintro a fh ⟨a6, a7, a8, a9, ha, ce⟩
  cases h
  exact S1 ha <| W fun a ha => have dL := R ce.p0; zj (m (retct q ha q q (run_loadVar_bx (cs := [a6, a7, a8, iV aa.2.2.2.1, a9]) us31 uo31 il31 dL) ⟨a6, a7, a8, a9, q, ce.q0.p3.p3.p3.p3⟩))
 refine C <| WP_quiet (by kernel_rfl) (by kernel_rfl) <| qm q <| O h fun dN cf h => qe ah hS5 cf u38 i9 q fun _ _ dO => eS u9 dO q <| qi (qt_seql q q) q <| qm q ?_
 refine Ga (res := ((dN == ([98, 105, 108, 108] : List UInt8)) && bl)) 1 an (fun cg fl dP => ?_) ?_
 ·exact jm cg q <| dP 1 q q q (ai cg)
 refine qm q <| O h fun dQ ar h => ?_
 refine Ga (res := dQ) 7 (if_f · ar) (fun aC fm dR => ?_) ?_
 ·exact have ar := if_t aC ar; jA ah.p8 us31 uo31 il31 aC q <| jm aC q <| O ar fun fn ch ar => je ah hS5 ch u38 i9 aC q fun _ _ dS => jS u9 dS aC q <| O ar fun fr dT ar => jc aC q c26 ah (fun _ => w_spec_l1Read dT) <| O ar fun fs dU ar => jc aC q c34 ah (fun _ => w_spec_TableBill dU (C0.c.c.c.c.c.c.c.c.c) (C1.c.c.c.c.c.c.c.c.c) (C2.c.c.c.c.c.c.c.c.c) (C4.c.c.c.c.c.c.c.c.c)) <| ji (qt_lss q q) aC q <| dR 7 q q q ar
 refine qa q <| Qn ah fun a ha ft au => X <| S1 ha ?_
 refine Yh q h (fun h => ?_) (fun h => ?_)
 ·cases h
  exact rR <| eA au.p0 us31 uo31 il31 q <| have ba := au.p7; zl (cs' := [ad, ae, af, iV aa.2.2.2.1, ag]) ba q il31 q (T (ba.ctx.sliceOne hS2) (T (ba.ctx.sliceOne hS3) (T (ba.ctx.sliceOne hS4) (T q (T (ba.ctx.sliceOne hS5) q))))) q q q fun fu ci => qa q <| B <| W fun a ha => have dV := R ci.p0; zj (m (retct q ha q q (run_loadVar_bx (cs := [ad, ae, af, iV aa.2.2.2.1, ag]) us31 uo31 il31 dV) ⟨ad, ae, af, ag, q, ci.q0.q0.q4.q4.q4.p3.p3.p3.p3⟩))
 refine rR <| qm q <| O h fun dX cj h => qe au hS5 cj u38 i9 q fun _ _ dY => eS u9 dY q <| qi (qt_seql q q) q <| qm q ?_
 refine Ha (res := ((dX == ([98, 105, 108, 108] : List UInt8)) && bl)) 1 an (fun ck fy dZ => ?_) ?_
 ·exact jm ck q <| dZ 1 q q q (ai ck)
 refine qa q <| B ?_
 refine Yh q h (fun h => ?_) (fun h => ?_)
 ·refine C <| O h fun fz bn h => O h fun fA d0 h => O h fun d1 d2 h => O h fun cl d3 h => ?_
  refine WP_join (M := fun a w2 => ∃ bb bc bd be, Fr a 146 [(4, pB b5), (5, strV cl)] ∧ Holds M0 w w2 [.bx b5 31 [bb, bc, bd, iV aa.2.2.2.1, be], .sl 95 ty12 bb aa.1, .sl 3 tI bc aa.2.1, .sl 3 tI bd aa.2.2.1, .sl 89 ty14 be aa.2.2.2.2] G) ?_ ?_
  ·refine WP_ordersT (fun w1 w2 => Chg (([.bx b5 31 [nS, nS, nS, iV 0, nS]] : List Res).flatMap Res.own) w1 w2) 9 (by kernel_rfl) fun bH d4 => have d5 := au.grow d4; have cm := d5.p7; ?_
   have bo : Ctx bH ([.bx b5 31 [nS, nS, nS, iV 0, nS]] ++ ([.bx am 31 [ad, ae, af, iV aa.2.2.2.1, ag], .sl 95 ty12 ad aa.1, .sl 3 tI ae aa.2.1, .sl 3 tI af aa.2.2.1, .sl 89 ty14 ag aa.2.2.2.2, .sl 9 .str al ak, .bx aj 50 [iV ab.1.1, iV ab.1.2.1, iV ab.1.2.2.1, iV ab.1.2.2.2], .bx b1 31 [A0, A1, A2, iV B3, A4]] ++ G)) := cm.ctx
   have aq : Holds _ bH bH [.bx b5 31 [nS, nS, nS, iV 0, nS]] ([.bx am 31 [ad, ae, af, iV aa.2.2.2.1, ag], .sl 95 ty12 ad aa.1, .sl 3 tI ae aa.2.1, .sl 3 tI af aa.2.2.1, .sl 89 ty14 ag aa.2.2.2.2, .sl 9 .str al ak, .bx aj 50 [iV ab.1.1, iV ab.1.2.1, iV ab.1.2.2.1, iV ab.1.2.2.2], .bx b1 31 [A0, A1, A2, iV B3, A4]] ++ G) := zb (Rs := [.bx b5 31 [nS, nS, nS, iV 0, nS]]) bo
   refine have d6 := HasB.bx (HasB.c (HasB.hd)) aq.ctx; XT (i := 0) q (by kernel_rfl) q aq.chg q (qs_agg (cs := [ad, ae, af, iV aa.2.2.2.1, ag]) us31 uo31 il31 q (fun j z hj => by rw [Nat.zero_add]; exact d6.cell hj) aq.chg (Ctx.outB bo (HasB.hd))) q q ?_
   change XC _ _ _ _ _ _ _ _ ((120, .agg #[ad, ae, af, iV aa.2.2.2.1, ag]) :: _) _
   refine have d7 := HasB.bx (HasB.c (HasB.c (HasB.c (HasB.c (HasB.c (HasB.c (HasB.c (HasB.c (HasB.hd))))))))) aq.ctx; XT (i := 1) q (by kernel_rfl) q aq.chg q (qs_agg (cs := [A0, A1, A2, iV B3, A4]) us31 uo31 il31 q (fun j z hj => by rw [Nat.zero_add]; exact d7.cell hj) aq.chg (Ctx.outB bo (HasB.c (HasB.c (HasB.c (HasB.c (HasB.c (HasB.c (HasB.c (HasB.hd)))))))))) q q ?_
   change XC _ _ _ _ _ _ _ _ ((121, .agg #[A0, A1, A2, iV B3, A4]) :: _) _
   refine XQ (i := 2) q (by kernel_rfl) q aq.chg q (fun _ => qt_move q) q q ?_
   obtain ⟨fB, fC, fD, bI⟩ := Ctx.isAt aq.ctx hS6 bn
   refine XT (i := 3) q (by kernel_rfl) q aq.chg q (qs_index bn bI u38 i9 q q) q q ?_
   obtain ⟨fE, d8, fF⟩ := aq.at hS6 bn bI
   refine XT (i := 4) q (by kernel_rfl) q aq.chg q (qs_cell u9 q q (AtP.cStr d8) aq.chg (Ctx.outHas bo hS5 bn bI)) q q <| X1 5 (by kernel_rfl) q <| U0 q c26 (w_spec_l1Read d0 aq.ctx) fun fG d9 => have bJ := aq.cN0 [] d9; XN bJ.chg <| X1 6 (by kernel_rfl) q <| U0 q c34 (w_spec_TableBill d2 (C0.c.c.c.c.c.c.c.c.c) (C1.c.c.c.c.c.c.c.c.c) (C2.c.c.c.c.c.c.c.c.c) (C4.c.c.c.c.c.c.c.c.c) bJ.ctx) fun ea eb => have bK := bJ.cN0 [] eb; XN bK.chg <| X1 7 (by kernel_rfl) q <| zd q q c31 (w_spec_l1Number ea _ d1 cl d3 bK.ctx) (by rfl) ?_
   rintro _ fH ⟨rfl, ec⟩; refine ⟨_, q, ?_⟩
   exact have aO := bK.cN0 [] ec; XN aO.chg <| X1 8 (by kernel_rfl) q <| zl (cs' := [ad, ae, af, iV aa.2.2.2.1, ag]) aO q il31 q (T (aO.ctx.sliceOne hS2) (T (aO.ctx.sliceOne hS3) (T (aO.ctx.sliceOne hS4) (T q (T (aO.ctx.sliceOne hS5) q))))) q q q fun fI cn => XN cn.chg <| have ed := cm.cN1 [_] cn; X1 9 (by kernel_rfl) q <| qa q <| XE q <| XC_done (by kernel_rfl) fun a ha => ⟨ad, ae, af, ag, ha.s, ed.q1.q5.q5.q5.p4.p4.p4.p4.p4⟩
  rintro a fJ ⟨bb, bc, bd, be, ha, co⟩
  cases h
  exact S1 ha <| W fun a ha => have ef := R co.p0; zj (m (retct q ha q q (run_loadVar_bx (cs := [bb, bc, bd, iV aa.2.2.2.1, be]) us31 uo31 il31 ef) ⟨bb, bc, bd, be, q, co.q0.p3.p3.p3.p3⟩))
 refine rR <| qm q <| O h fun eh cp h => qe au hS5 cp u38 i9 q fun _ _ ei => eS u9 ei q <| qi (qt_seql q q) q <| qm q ?_
 refine Ha (res := ((eh == ([102, 114, 101, 101] : List UInt8)) && bl)) 1 an (fun cq fN ej => ?_) ?_
 ·exact jm cq q <| ej 1 q q q (ai cq)
 refine qa q <| B ?_
 refine Yh q h (fun h => ?_) (fun h => ?_)
 ·refine C <| O h fun fO bp h => O h fun fP ek h => O h fun fQ em h => O h fun en eo h => ?_
  refine WP_join (M := fun a w2 => ∃ bf bg bh bi, Fr a 146 [(4, pB b5), (5, strV en)] ∧ Holds M0 w w2 [.bx b5 31 [bf, bg, bh, iV aa.2.2.2.1, bi], .sl 95 ty12 bf aa.1, .sl 3 tI bg aa.2.1, .sl 3 tI bh aa.2.2.1, .sl 89 ty14 bi aa.2.2.2.2] G) ?_ ?_
  ·refine WP_ordersT (fun w1 w2 => Chg (([.bx b5 31 [nS, nS, nS, iV 0, nS]] : List Res).flatMap Res.own) w1 w2) 10 (by kernel_rfl) fun bL ep => have er := au.grow ep; have cr := er.p7; ?_
   have bq : Ctx bL ([.bx b5 31 [nS, nS, nS, iV 0, nS]] ++ ([.bx am 31 [ad, ae, af, iV aa.2.2.2.1, ag], .sl 95 ty12 ad aa.1, .sl 3 tI ae aa.2.1, .sl 3 tI af aa.2.2.1, .sl 89 ty14 ag aa.2.2.2.2, .sl 9 .str al ak, .bx aj 50 [iV ab.1.1, iV ab.1.2.1, iV ab.1.2.2.1, iV ab.1.2.2.2], .bx b1 31 [A0, A1, A2, iV B3, A4]] ++ G)) := cr.ctx
   have ap : Holds _ bL bL [.bx b5 31 [nS, nS, nS, iV 0, nS]] ([.bx am 31 [ad, ae, af, iV aa.2.2.2.1, ag], .sl 95 ty12 ad aa.1, .sl 3 tI ae aa.2.1, .sl 3 tI af aa.2.2.1, .sl 89 ty14 ag aa.2.2.2.2, .sl 9 .str al ak, .bx aj 50 [iV ab.1.1, iV ab.1.2.1, iV ab.1.2.2.1, iV ab.1.2.2.2], .bx b1 31 [A0, A1, A2, iV B3, A4]] ++ G) := zb (Rs := [.bx b5 31 [nS, nS, nS, iV 0, nS]]) bq
   refine have es := HasB.bx (HasB.c (HasB.hd)) ap.ctx; XT (i := 0) q (by kernel_rfl) q ap.chg q (qs_agg (cs := [ad, ae, af, iV aa.2.2.2.1, ag]) us31 uo31 il31 q (fun j z hj => by rw [Nat.zero_add]; exact es.cell hj) ap.chg (Ctx.outB bq (HasB.hd))) q q ?_
   change XC _ _ _ _ _ _ _ _ ((136, .agg #[ad, ae, af, iV aa.2.2.2.1, ag]) :: _) _
   refine XQ (i := 1) q (by kernel_rfl) q ap.chg q (fun _ => qt_fieldAddr uf31 fi31_0 nz28 q) q q <| have et := HasB.bx (HasB.c (HasB.c (HasB.c (HasB.c (HasB.c (HasB.c (HasB.c (HasB.c (HasB.hd))))))))) ap.ctx; XT (i := 2) q (by kernel_rfl) q ap.chg q (qs_cell u28 q q (et.cell (i := 0) q) ap.chg (Ctx.outB bq (HasB.c (HasB.c (HasB.c (HasB.c (HasB.c (HasB.c (HasB.c (HasB.hd)))))))))) q q <| XQ (i := 3) q (by kernel_rfl) q ap.chg q (fun _ => qt_move q) q q ?_
   obtain ⟨fR, fS, fU, bM⟩ := Ctx.isAt ap.ctx hS6 bp
   refine XT (i := 4) q (by kernel_rfl) q ap.chg q (qs_index bp bM u38 i9 q q) q q ?_
   obtain ⟨fV, eu, fW⟩ := ap.at hS6 bp bM
   exact XT (i := 5) q (by kernel_rfl) q ap.chg q (qs_cell u9 q q (AtP.cStr eu) ap.chg (Ctx.outHas bq hS5 bp bM)) q q <| X1 6 (by kernel_rfl) q <| U0 q c26 (w_spec_l1Read ek ap.ctx) fun fX ew => have bN := ap.cN0 [] ew; XN bN.chg <| X1 7 (by kernel_rfl) q <| U1 q c35 (w_spec_FreeOf em (C0.c.c.c.c.c.c.c.c.c) bN.ctx) fun fY fZ ey => have bO := bN.cN1 [] ey; XN bO.chg <| X1 8 (by kernel_rfl) q <| U0 q c30 (w_spec_l7List eo hS0 bO.ctx) fun f0 ez => have ct := bO.cN0 [] ez; XN ct.chg <| X1 9 (by kernel_rfl) q <| have bj := ct.p1; zl (cs' := [ad, ae, af, iV aa.2.2.2.1, ag]) bj q il31 q (T (bj.ctx.sliceOne hS3) (T (bj.ctx.sliceOne hS4) (T (bj.ctx.sliceOne hS5) (T q (T (bj.ctx.sliceOne hS6) q))))) q q q fun f1 cu => XN cu.chg <| have eC := cr.cN2 [_] cu; X1 10 (by kernel_rfl) q <| qa q <| XE q <| XC_done (by kernel_rfl) fun a ha => ⟨ad, ae, af, ag, ha.s, eC.q1.q1.q5.q5.q5.p4.p4.p4.p4.p4⟩
  rintro a f2 ⟨bf, bg, bh, bi, ha, cv⟩
  cases h
  exact S1 ha <| W fun a ha => have eE := R cv.p0; zj (m (retct q ha q q (run_loadVar_bx (cs := [bf, bg, bh, iV aa.2.2.2.1, bi]) us31 uo31 il31 eE) ⟨bf, bg, bh, bi, q, cv.q0.p3.p3.p3.p3⟩))
 cases h
 exact WP_skip fun a ha => zi <| X <| S1 ha <| rR <| eA au.p0 us31 uo31 il31 q <| have bk := au.p7; zl (cs' := [ad, ae, af, iV aa.2.2.2.1, ag]) bk q il31 q (T (bk.ctx.sliceOne hS2) (T (bk.ctx.sliceOne hS3) (T (bk.ctx.sliceOne hS4) (T q (T (bk.ctx.sliceOne hS5) q))))) q q q fun f3 cw => qa q <| B <| W fun a ha => have eG := R cw.p0; retct q ha q q (run_loadVar_bx (cs := [ad, ae, af, iV aa.2.2.2.1, ag]) us31 uo31 il31 eG) ⟨ad, ae, af, ag, q, cw.q0.q0.q4.q4.q4.p3.p3.p3.p3⟩
theorem w_spec_HouseLines {w G A0 B0 A1 B1 A2 B2 B3 A4 B4 vp1 p1 r} (h : spec_HouseLinesS B0 B1 B2 B3 B4 p1 = some r) (C0 : Has G ty12 A0 B0) (C1 : Has G tI A1 B1) (C2 : Has G tI A2 B2) (C4 : Has G ty14 A4 B4) (hp1 : Has G .str vp1 p1) (H : Ctx w G) : Calls Tryz.prog 13 #[.agg #[A0, A1, A2, iV B3, A4], vp1] w fun e w' => ∃ (v1 : Value) (v2 : Value) (v3 : Value) (v4 : Value) (v5 : Value), e = .returned (.tuple #[.agg #[v1, v2, v3, iV r.1.2.2.2.1, v4], v5]) ∧ Holds M0 w w' [.sl 95 ty12 v1 r.1.1, .sl 3 tI v2 r.1.2.1, .sl 3 tI v3 r.1.2.2.1, .sl 89 ty14 v4 r.1.2.2.2.2, .sl 9 .str v5 r.2] G := by
 refine F0 46 H Tryz.func13 q fun H => ?_
 refine C <| Z <| WL_box (cs := [A0, A1, A2, iV B3, A4]) H q q q q fun b1 w2 H3 => zq (cs := [nS, nS, nS, iV 0, nS]) H3 z31 q q q fun b5 w6 H7 => qa q <| B <| C <| Z <| zs (t := .str) (args := []) (xs := ([] : List (List UInt8))) H7 (BltL.nil) u38 j9 q q q q q q fun v9 bI aA => qa q <| B <| C <| C <| zk <| eA aA.p2 us31 uo31 il31 q <| O h fun a7 a8 h => qc q c22 aA (fun _ => w_spec_HouseValid a8 (C0.c.c.c) (C1.c.c.c) (C2.c.c.c) (C4.c.c.c)) <| qi (qt_not q) q <| qm q ?_
 refine Go (res := ((!a7) || (decide ((List.length p1 : Int) > 40)))) 3 os (fun aB bJ a9 => ?_) ?_
 ·exact jm aB q <| jz aA.ctx (hp1.c.c.c) u38 aB q <| ji (qt_gtr q q) aB q <| a9 3 q q q (oi aB)
 refine Qn aA fun a ha bK aC => X <| S1 ha ?_
 refine Yh q h (fun h => ?_) (fun h => ?_)
 ·cases h
  exact rR <| qi (qt_build (args := []) (css := []) (cells := #[nS, nS, nS, iV 0, nS]) q trivial (by kernel_rfl)) q <| qm q <| zl (cs' := [nS, nS, nS, iV 0, nS]) aC.p1 q il31 q q q q q fun bL aS => qa q <| B <| W fun a ha => have bb := R aS.p0; have bc := aS.nS 95 ty12; have bd := bc.nS 3 tI; have be := bd.nS 3 tI; have bf := be.nS 89 ty14; m (retct q ha q q (run_loadVar_bx (cs := [nS, nS, nS, iV 0, nS]) us31 uo31 il31 bb) ⟨(nS), (nS), (nS), (nS), v9, q, bf.q4.q5.p4.p1.p2.p3.p4⟩)
 refine y <| rR <| eA aC.p2 us31 uo31 il31 q <| O h fun bh bi h => U4 q c25 (w_spec_l7Copy bi (C0.c.c.c) (C1.c.c.c) (C2.c.c.c) (C4.c.c.c) aC.ctx) fun aT aU aV aW bM bj => have bk := aC.cN4 [] bj; zq (cs := [nS, nS, nS, iV 0, nS]) bk z31 q q q fun ah bN am => zl (cs' := [aT, aU, aV, iV bh.2.2.2.1, aW]) am q il31 q (T (am.ctx.sliceOne hS1) (T (am.ctx.sliceOne hS2) (T (am.ctx.sliceOne hS3) (T q (T (am.ctx.sliceOne hS4) q))))) q q q fun bO bl => B <| C <| rR <| qa q <| B <| g <| O h fun bm bn h => ?_
 refine fun bP bp => zp (I := fun (ao, aI, ap, aq, ar, ak, au) a w2 => ∃ aj aa ab ad ae, Fr a 46 [(1, vp1), (4, pB b5), (6, aj), (7, pB ah), (8, iV aI)] ∧ Holds M0 w w2 [.bx b5 31 [nS, nS, nS, iV 0, nS], .sl 9 .str aj ao, .bx ah 31 [aa, ab, ad, iV ak, ae], .sl 95 ty12 aa ap, .sl 3 tI ab aq, .sl 3 tI ad ar, .sl 89 ty14 ae au] G) (O := fun (q0, q1, q2, q3, q4, q5) e a w2 => e = .exit 0 ∧ ∃ aX aY aZ a0 a1, Fr a 46 [(4, pB b5), (6, aX), (7, pB ah)] ∧ Holds M0 w w2 [.bx b5 31 [nS, nS, nS, iV 0, nS], .sl 9 .str aX q0, .bx ah 31 [aY, aZ, a0, iV q4, a1], .sl 95 ty12 aY q1, .sl 3 tI aZ q2, .sl 3 tI a0 q3, .sl 89 ty14 a1 q5] G) bn ?_ ?_ ?_
 ·exact ⟨v9, aT, aU, aV, aW, bp.s, bl.q7.p4.p4.p4.p4.p4.p5.p6⟩
 ·rintro ⟨ao, aI, ap, aq, ar, ak, au⟩ _ a bQ af ⟨aj, aa, ab, ad, ae, ha, aJ⟩
  refine S1 ha <| C <| rR <| qm q <| qm q <| qz aJ.ctx (hp1.c.c.c.c.c.c.c) u38 q <| qi (qt_lss q q) q <| B ?_
  refine Yh q af (fun af => ?_) (fun af => ?_)
  ·refine y <| C <| g <| C <| O af fun bR aD af => O af fun ag a2 af => ?_
   refine WP_join (M := fun a w2 => ∃ aK av aw ax ay, Fr a 46 [(1, vp1), (4, pB b5), (6, aj), (7, pB ah), (8, iV aI), (9, pB aK), (10, strV ag.2)] ∧ Holds M0 w w2 [.bx b5 31 [nS, nS, nS, iV 0, nS], .sl 9 .str aj ao, .bx ah 31 [aa, ab, ad, iV ak, ae], .sl 95 ty12 aa ap, .sl 3 tI ab aq, .sl 3 tI ad ar, .sl 89 ty14 ae au, .bx aK 31 [av, aw, ax, iV ag.1.2.2.2.1, ay], .sl 95 ty12 av ag.1.1, .sl 3 tI aw ag.1.2.1, .sl 3 tI ax ag.1.2.2.1, .sl 89 ty14 ay ag.1.2.2.2.2] G) ?_ ?_
   ·refine WP_ordersT (fun w1 w2 => Chg M0 w1 w2) 11 (by kernel_rfl) fun aL bq => have a3 := aJ.grow bq; ?_
    have aM : Ctx aL ([] ++ ([.bx b5 31 [nS, nS, nS, iV 0, nS], .sl 9 .str aj ao, .bx ah 31 [aa, ab, ad, iV ak, ae], .sl 95 ty12 aa ap, .sl 3 tI ab aq, .sl 3 tI ad ar, .sl 89 ty14 ae au] ++ G)) := a3.ctx
    have br : Holds _ aL aL [] ([.bx b5 31 [nS, nS, nS, iV 0, nS], .sl 9 .str aj ao, .bx ah 31 [aa, ab, ad, iV ak, ae], .sl 95 ty12 aa ap, .sl 3 tI ab aq, .sl 3 tI ad ar, .sl 89 ty14 ae au] ++ G) := zb (Rs := []) aM
    refine have Hc := br; have bs := HasB.bx (HasB.c (HasB.c (HasB.hd))) Hc.ctx; XT (i := 0) q (by kernel_rfl) q Hc.chg q (qs_agg (cs := [aa, ab, ad, iV ak, ae]) us31 uo31 il31 q (fun j z hj => by rw [Nat.zero_add]; exact bs.cell hj) Hc.chg (Ctx.outB aM (HasB.c (HasB.c (HasB.hd))))) q q ?_
    change XC _ _ _ _ _ _ _ _ ((31, .agg #[aa, ab, ad, iV ak, ae]) :: _) _
    refine XQ (i := 1) q (by kernel_rfl) q Hc.chg q (fun _ => qt_move q) q q <| XQ (i := 2) q (by kernel_rfl) q Hc.chg q (fun _ => qt_move q) q q ?_
    obtain ⟨bS, bT, bU, aN⟩ := Ctx.isAt Hc.ctx (hp1.c.c.c.c.c.c.c) aD
    refine XT (i := 3) q (by kernel_rfl) q Hc.chg q (qs_index aD aN u38 i9 q q) q q ?_
    obtain ⟨bV, bt, bW⟩ := Hc.at (hp1.c.c.c.c.c.c.c) aD aN
    refine XT (i := 4) q (by kernel_rfl) q Hc.chg q (qs_cell u9 q q (AtP.cStr bt) Hc.chg (Ctx.outHas aM (hp1.c.c.c.c.c.c.c) aD aN)) q q ?_
    repeat' first
     | refine XDo 5 q <| U4 q c6 (w_spec_HouseLine a2 hS3 hS4 hS5 hS6 Hc.ctx) fun aE aF aG aH _ HK => ?_; have Hc := Hc.cN4 [] HK; refine XN Hc.chg <| XQ (i := 6) q (by kernel_rfl) q Hc.chg q (fun _ => qt_move q) q q <| XQ (i := 7) q (by kernel_rfl) q Hc.chg q (fun _ => zv q q) q q <| XQ (i := 8) q (by kernel_rfl) q Hc.chg q (fun _ => zv q q) q q ?_
     | refine XDo 5 q <| U4 q c6 (w_spec_HouseLine a2 hS4 hS5 hS6 hS7 Hc.ctx) fun aE aF aG aH _ HK => ?_; have Hc := Hc.cN4 [] HK; refine XN Hc.chg <| XQ (i := 6) q (by kernel_rfl) q Hc.chg q (fun _ => qt_move q) q q <| XQ (i := 7) q (by kernel_rfl) q Hc.chg q (fun _ => zv q q) q q <| XQ (i := 8) q (by kernel_rfl) q Hc.chg q (fun _ => zv q q) q q ?_
     | refine XDo 9 q ?_; refine zq (cs := [nS, nS, nS, iV 0, nS]) Hc z31 q q q (fun bu _ Hc => ?_); refine XN Hc.chg ?_
     | refine XDo 10 q ?_; refine zl (cs' := [aE, aF, aG, iV ag.1.2.2.2.1, aH]) Hc q il31 q (T (Hc.ctx.sliceOne hS1) (T (Hc.ctx.sliceOne hS2) (T (Hc.ctx.sliceOne hS3) (T q (T (Hc.ctx.sliceOne hS4) q))))) q q q (fun _ Hc => ?_); refine XN Hc.chg ?_
     | refine XDo 10 q ?_; have Hc := Hc.p4; refine zl (cs' := [aE, aF, aG, iV ag.1.2.2.2.1, aH]) Hc q il31 q (T (Hc.ctx.sliceOne hS1) (T (Hc.ctx.sliceOne hS2) (T (Hc.ctx.sliceOne hS3) (T q (T (Hc.ctx.sliceOne hS4) q))))) q q q (fun _ Hc => ?_); refine XN Hc.chg ?_
     | have Hc := a3.cN5 [] Hc; refine XDo 11 q <| qa q <| XE q ?_
     | refine XV [5, 9] (by decide +kernel) q (allc ?_ (allc ?_ alln))
     | refine XV [9] (by decide +kernel) q (allc ?_ alln)
     | refine XV [10] (by decide +kernel) q (allc ?_ alln)
     | refine XV [11] (by decide +kernel) q (allc ?_ alln)
     | refine XV [5] (by decide +kernel) q (allc ?_ alln)
     | refine XC_done (by decide +kernel) (fun a ha => ?_); have Hc := ((((((((((((Hc.p4).p4).p4).p4).p4).p11).p11).p11).p11).p11).p11).p11); exact ⟨bu, aE, aF, aG, aH, ha.s, Hc⟩
   rintro a bX ⟨aK, av, aw, ax, ay, ha, a4⟩
   refine S1 ha <| rR <| eA a4.p7 us31 uo31 il31 q <| have az := a4.p2; zl (cs' := [av, aw, ax, iV ag.1.2.2.2.1, ay]) az q il31 q (T (az.ctx.sliceOne hS8) (T (az.ctx.sliceOne hS9) (T (az.ctx.sliceOne hS10) (T q (T (az.ctx.sliceOne hS11) q))))) q q q fun bY bv => B <| Z <| qm q <| qm q <| zs (t := .str) (args := [.tmp 41]) (xs := ([ag.2] : List (List UInt8))) bv (BltL.cons (Blt.str) q (BltL.nil)) u38 j9 q q q q q q fun bZ b0 bw => O af fun b4 bA af => zw bw.p3 hS1 bA u38 j9 q q q q q q fun bB b6 bC => qa q <| WL_nil fun a ha => zi <| X <| S1 ha <| Z <| qm q <| qi (qt_add q q) q <| qa q <| WL_nil fun a ha => ?_
   cases af
   exact ⟨q, bB, av, aw, ax, ay, ha.s, bC.q1.q3.q3.q3.q3.q3.p6.p6.p6.p6.p5.p5.p6⟩
  cases af
  exact WP_exit fun a ha => zo (⟨exit_ne, q, aj, aa, ab, ad, ae, ha.s, aJ.p6.p6.p6.p6.p6.p6.p6⟩)
 obtain ⟨b7, b8, b9, ca, a5, cb⟩ := bm
 rintro _ a cc ⟨rfl, bF, aO, aP, aQ, aR, ha, al⟩
 cases h
 exact zn <| X <| S1 ha <| rR <| eA al.p2 us31 uo31 il31 q <| qm q <| zl (cs' := [aO, aP, aQ, iV a5, aR]) al q il31 q (T (al.ctx.sliceOne hS3) (T (al.ctx.sliceOne hS4) (T (al.ctx.sliceOne hS5) (T q (T (al.ctx.sliceOne hS6) q))))) q q q fun cd a6 => qa q <| B <| W fun a ha => have bG := R a6.p0; retct q ha q q (run_loadVar_bx (cs := [aO, aP, aQ, iV a5, aR]) us31 uo31 il31 bG) ⟨aO, aP, aQ, aR, bF, q, a6.q0.q1.p4.p4.p4.p4⟩
theorem w_impl_partsValid {w G vp0 p0 p1 r} (h : impl_partsValidS p0 p1 = some r) (hp0 : Has G ty2 vp0 p0) (H : Ctx w G) : Calls Tryz.prog 159 #[vp0, iV p1] w fun e w' => e = .returned (.bool r) ∧ Holds M0 w w' [] G := by
 refine F0 45 H Tryz.func159 q fun H => ?_
 refine rR <| qa q <| B <| C <| rR <| qm q <| qz H.ctx (hp0) u93 q <| qi (qt_lss q q) q <| qm q ?_
 refine Ho (res := ((decide ((List.length p0 : Int) < 1)) || (decide ((List.length p0 : Int) > 3)))) 3 os (fun af K2 am => ?_) ?_
 ·exact jm af q <| jz H.ctx (hp0) u93 af q <| ji (qt_gtr q q) af q <| am 3 q q q (oi af)
 refine B ?_
 refine Yh q h (fun h => ?_) (fun h => ?_)
 ·cases h
  exact rR <| qa q <| B <| W fun a ha => m (ret1 q ha q ⟨q, H⟩)
 refine y <| rR <| qa q <| B <| C <| rR <| qm q <| qz H.ctx (hp0) u93 q <| qm q <| B <| g <| O h fun o6 ao h => ?_
 refine fun a8 ap => zp (I := fun (s4, s5) a w2 => (Fr a 45 [(1, iV p1), (5, iV s4), (16, vp0), (17, iV (List.length p0 : Int)), (18, iV s5)] ∧ Holds M0 w w2 [] G)) (O := fun o e a w2 => match o with | .inl _ => e = .exit 0 ∧ (Fr a 45 [] ∧ Holds M0 w w2 [] G) | .inr q0 => e = .ret ∧ (Fr a 45 [(4, .bool q0)] ∧ Holds M0 w w2 [] G)) ao ?_ ?_ ?_
 ·exact ⟨ap.s, H⟩
 ·rintro ⟨s4, s5⟩ _ a aB ab ⟨ha, ag⟩
  refine S1 ha <| rR <| qi (qt_lss q q) q <| B <| C ?_
  refine Yh q ab (fun ab => ?_) (fun ab => ?_)
  ·refine y <| C <| g <| rR <| O ab fun aa ak ab => qe ag (hp0) ak u93 i152 q fun _ _ aq => lP [iV aa.1, iV aa.2] us152 uo152 i152 aq q q q q <| zq (cs := [iV 0, iV 0]) ag z152 q q q fun aF aG ar => zl (cs' := [iV aa.1, iV aa.2]) ar q il152 q q q q q fun aH ad => B <| C <| rR <| qf uf152 fi152_0 nz3 q <| ql u3 ad.p0 q <| qm q <| qi (qt_leq q q) q <| qm q ?_
   refine Ho (res := ((decide (aa.1 ≤ s4)) || (decide (aa.1 ≥ p1)))) 4 os (fun ae aI au => ?_) ?_
   ·exact jf uf152 fi152_0 nz3 ae q <| jl u3 ad.p0 ae q <| jm ae q <| ji (qt_geq q q) ae q <| au 4 q q q (oi ae)
   refine qm q ?_
   refine Ho (res := (((decide (aa.1 ≤ s4)) || (decide (aa.1 ≥ p1))) || (decide (aa.2 < 1)))) 3 os (fun ah aJ av => ?_) ?_
   ·exact jf uf152 fi152_1 nz3 ah q <| jl u3 ad.p0 ah q <| ji (qt_lss q q) ah q <| av 3 q q q (oi ah)
   refine qm q ?_
   refine Ho (res := ((((decide (aa.1 ≤ s4)) || (decide (aa.1 ≥ p1))) || (decide (aa.2 < 1))) || (decide (aa.2 > 6)))) 3 os (fun aj aK aw => ?_) ?_
   ·exact jf uf152 fi152_1 nz3 aj q <| jl u3 ad.p0 aj q <| ji (qt_gtr q q) aj q <| aw 3 q q q (oi aj)
   refine B ?_
   refine Yh q ab (fun ab => ?_) (fun ab => ?_)
   ·cases ab
    exact rR <| qa q <| B <| W fun a ha => m (zj (m (⟨ret_ne, q, ha.s, ad.q0⟩)))
   cases ab
   exact y <| Z <| qf uf152 fi152_0 nz3 q <| ql u3 ad.p0 q <| qa q <| WL_nil fun a ha => zi <| X <| S1 ha <| Z <| qi (qt_add q q) q <| qm q <| WL_nil fun a ha => ⟨q, ha.s, ad.q0⟩
  cases ab
  exact WP_exit fun a ha => zo (⟨exit_ne, q, ha.s, ag⟩)
 intro e a aL al
 rcases o6 with o6 | o6
 ·obtain ⟨rfl, ha, az⟩ := al
  cases h
  exact zn <| X <| S1 ha <| rR <| qa q <| B <| W fun a ha => ret1 q ha q ⟨q, az⟩
 obtain ⟨rfl, ha, aA⟩ := al
 obtain rfl := L h
 exact zj (m (ret1 q ha q ⟨q, aA⟩))
theorem w_impl_itemValid {w G B0 A1 B1 B2 p1 r} (h : impl_itemValidS B0 B1 B2 p1 = some r) (C1 : Has G ty2 A1 B1) (H : Ctx w G) : Calls Tryz.prog 138 #[.agg #[iV B0, A1, iV B2], iV p1] w fun e w' => e = .returned (.bool r) ∧ Holds M0 w w' [] G := by
 refine F0 34 H Tryz.func138 q fun H => ?_
 refine C <| Z <| WL_box (cs := [iV B0, A1, iV B2]) H q q q q fun b1 w2 H3 => qa q <| B <| C <| rR <| qf uf95 fi95_2 nz3 q <| ql u3 H3.p0 q <| qi (qt_lss q q) q <| qm q ?_
 refine Ho (res := ((decide (B2 < 0)) || (decide (B2 > 31)))) 3 os (fun ad K7 af => ?_) ?_
 ·exact jf uf95 fi95_2 nz3 ad q <| jl u3 H3.p0 ad q <| ji (qt_gtr q q) ad q <| af 3 q q q (oi ad)
 refine B ?_
 refine Yh q h (fun h => ?_) (fun h => ?_)
 ·cases h
  exact rR <| qa q <| B <| W fun a ha => m (ret1 q ha q ⟨q, H3.q0⟩)
 refine y <| C <| rR <| qf uf95 fi95_0 nz3 q <| ql u3 H3.p0 q <| qi (qt_eql q q) q <| B ?_
 refine Yh q h (fun h => ?_) (fun h => ?_)
 ·cases h
  exact rR <| qf uf95 fi95_1 nz93 q <| ql u93 H3.p0 q <| qz H3.ctx (C1.c) u93 q <| qi (qt_eql q q) q <| qa q <| B <| W fun a ha => m (ret1 q ha q ⟨q, H3.q0⟩)
 refine y <| C <| zk <| qf uf95 fi95_0 nz3 q <| ql u3 H3.p0 q <| qi (qt_geq q q) q <| qm q ?_
 refine Ga (res := ((decide (B0 ≥ 1)) && (decide (B0 ≤ 6)))) 3 an (fun ae aq aj => ?_) ?_
 ·exact jf uf95 fi95_0 nz3 ae q <| jl u3 H3.p0 ae q <| ji (qt_leq q q) ae q <| aj 3 q q q (ai ae)
 refine qm q <| O h fun ak aa h => ?_
 refine Ga (res := ak) 4 (if_f · aa) (fun ab ar al => ?_) ?_
 ·exact have aa := if_t ab aa; jf uf95 fi95_1 nz93 ab q <| jl u93 H3.p0 ab q <| jm ab q <| O aa fun au am aa => jc ab q c159 H3 (fun _ => w_impl_partsValid am (C1.c)) <| al 4 q q q aa
 refine qa q <| Qn H3 fun a ha av ao => X <| S1 ha <| W fun a ha => ?_
 obtain rfl := L h
 exact ret1 q ha q ⟨q, ao.q0⟩
theorem w_impl_ItemsValid {w G vp0 p0 r} (h : impl_ItemsValidS p0 = some r) (hp0 : Has G ty12 vp0 p0) (H : Ctx w G) : Calls Tryz.prog 115 #[vp0] w fun e w' => e = .returned (.bool r) ∧ Holds M0 w w' [] G := by
 refine F0 20 H Tryz.func115 q fun H => ?_
 refine rR <| qa q <| B <| C <| rR <| qm q <| qz H.ctx (hp0) u28 q <| qi (qt_gtr q q) q <| B ?_
 refine Yh q h (fun h => ?_) (fun h => ?_)
 ·cases h
  exact rR <| qa q <| B <| W fun a ha => m (ret1 q ha q ⟨q, H⟩)
 refine y <| C <| rR <| qm q <| qz H.ctx (hp0) u28 q <| qm q <| B <| g <| O h fun o2 al h => ?_
 refine fun a4 am => zp (I := fun s1 a w2 => (Fr a 20 [(8, vp0), (9, iV (List.length p0 : Int)), (10, iV s1)] ∧ Holds M0 w w2 [] G)) (O := fun o e a w2 => match o with | .inl _ => e = .exit 0 ∧ (Fr a 20 [] ∧ Holds M0 w w2 [] G) | .inr q0 => e = .ret ∧ (Fr a 20 [(2, .bool q0)] ∧ Holds M0 w w2 [] G)) al ?_ ?_ ?_
 ·exact ⟨am.s, H⟩
 ·rintro s1 _ a w6 aa ⟨ha, ae⟩
  refine S1 ha <| rR <| qi (qt_lss q q) q <| B <| C ?_
  refine Yh q aa (fun aa => ?_) (fun aa => ?_)
  ·refine y <| C <| g <| rR <| qm q <| O aa fun ab ag aa => qb ae.ctx (hp0) ag u28 i95 q fun aH aI aJ ao => ?_
   obtain ⟨aK, ap, aq⟩ := ae.atN (hp0) ag ao
   refine XL_load_agg (t := ty12) us95 uo95 i95 ap q q q fun aL ar => ?_
   obtain ⟨c22, c23, aM, aN, rfl, au, av, aw⟩ := ar
   obtain ⟨rfl, _⟩ := av
   obtain ⟨c29, c30, aO, aP, rfl, ax, ay, az⟩ := aw
   obtain ⟨ad, rfl, aA⟩ := Rep.sl_inv ay
   obtain ⟨rfl, _⟩ := az
   have aB : Holds _ w w6 [.ro ty2 ad ab.2.1] G := aq [.ro ty2 ad ab.2.1] ⟨⟨_, _, _, _, q, aA, (fun k h => (fun k h => (fun _ h => h) k (by rw [au]; exact zx _ h)) k (by rw [ax]; exact List.mem_append_left _ h))⟩, trivial⟩
   change XL _ _ _ _ _ ((14, .agg #[iV ab.1, ad, iV ab.2.2]) :: _) _
   refine zq (cs := [iV 0, nS, iV 0]) aB z95 q q q fun aQ aR ah => qa q <| zl (cs' := [iV ab.1, ad, iV ab.2.2]) ah q il95 q (T q (T (ah.ctx.sliceOne hR1) (T q q))) q q q fun aS af => B <| C <| zk <| eA af.p0 us95 uo95 il95 q <| qm q <| O aa fun aT aC aa => qc q c138 af (fun _ => w_impl_itemValid aC hR1) <| qi (qt_not q) q <| Qn af fun a ha aU aj => X <| S1 ha ?_
   refine Yh q aa (fun aa => ?_) (fun aa => ?_)
   ·cases aa
    exact rR <| qa q <| B <| W fun a ha => zj (m (⟨ret_ne, q, ha.s, aj.q0.q0⟩))
   cases aa
   exact WP_skip fun a ha => zi <| X <| S1 ha <| Z <| qi (qt_add q q) q <| qm q <| WL_nil fun a ha => ⟨q, ha.s, aj.q0.q0⟩
  cases aa
  exact WP_exit fun a ha => zo (⟨exit_ne, q, ha.s, ae⟩)
 intro e a aV ak
 rcases o2 with o2 | o2
 ·obtain ⟨rfl, ha, aF⟩ := ak
  cases h
  exact zn <| X <| S1 ha <| rR <| qa q <| B <| W fun a ha => ret1 q ha q ⟨q, aF⟩
 obtain ⟨rfl, ha, aG⟩ := ak
 obtain rfl := L h
 exact zj (m (ret1 q ha q ⟨q, aG⟩))
theorem w_impl_amountsOk {w G vp0 p0 p1 p2 r} (h : impl_amountsOkS p0 p1 p2 = some r) (hp0 : Has G tI vp0 p0) (H : Ctx w G) : Calls Tryz.prog 77 #[vp0, iV p1, iV p2] w fun e w' => e = .returned (.bool r) ∧ Holds M0 w w' [] G := by
 refine F0 27 H Tryz.func77 q fun H => ?_
 refine rR <| qa q <| B <| C <| rR <| qm q <| qz H.ctx (hp0) u23 q <| qm q <| qi (qt_neq q q) q <| B ?_
 refine Yh q h (fun h => ?_) (fun h => ?_)
 ·cases h
  exact rR <| qa q <| B <| W fun a ha => m (ret1 q ha q ⟨q, H⟩)
 refine y <| C <| rR <| qm q <| qz H.ctx (hp0) u23 q <| qm q <| B <| g <| O h fun o2 ah h => ?_
 refine fun a4 aj => zp (I := fun s1 a w2 => (Fr a 27 [(2, iV p2), (13, vp0), (14, iV (List.length p0 : Int)), (15, iV s1)] ∧ Holds M0 w w2 [] G)) (O := fun o e a w2 => match o with | .inl _ => e = .exit 0 ∧ (Fr a 27 [] ∧ Holds M0 w w2 [] G) | .inr q0 => e = .ret ∧ (Fr a 27 [(6, .bool q0)] ∧ Holds M0 w w2 [] G)) ah ?_ ?_ ?_
 ·exact ⟨aj.s, H⟩
 ·rintro s1 _ a w6 aa ⟨ha, ab⟩
  refine S1 ha <| rR <| qi (qt_lss q q) q <| B <| C ?_
  refine Yh q aa (fun aa => ?_) (fun aa => ?_)
  ·refine y <| C <| g <| rR <| O aa fun ae af aa => qe ab (hp0) af u23 i3 q fun _ _ ak => eI u3 ak q <| qa q <| rN <| qm q <| qi (qt_lss q q) q <| qm q ?_
   refine Ho (res := ((decide (ae < 0)) || (decide (ae > p2)))) 3 os (fun ad au al => ?_) ?_
   ·exact jm ad q <| jm ad q <| ji (qt_gtr q q) ad q <| al 3 q q q (oi ad)
   refine B ?_
   refine Yh q aa (fun aa => ?_) (fun aa => ?_)
   ·cases aa
    exact rR <| qa q <| B <| W fun a ha => zj (m (⟨ret_ne, q, ha.s, ab⟩))
   cases aa
   exact WP_skip fun a ha => zi <| X <| S1 ha <| Z <| qi (qt_add q q) q <| qm q <| WL_nil fun a ha => ⟨q, ha.s, ab⟩
  cases aa
  exact WP_exit fun a ha => zo (⟨exit_ne, q, ha.s, ab⟩)
 intro e a av ag
 rcases o2 with o2 | o2
 ·obtain ⟨rfl, ha, am⟩ := ag
  cases h
  exact zn <| X <| S1 ha <| rR <| qa q <| B <| W fun a ha => ret1 q ha q ⟨q, am⟩
 obtain ⟨rfl, ha, ao⟩ := ag
 obtain rfl := L h
 exact zj (m (ret1 q ha q ⟨q, ao⟩))
theorem w_impl_PricesValid {w G vp0 p0 vp1 p1 r} (h : impl_PricesValidS p0 p1 = some r) (hp0 : Has G ty12 vp0 p0) (hp1 : Has G tI vp1 p1) (H : Ctx w G) : Calls Tryz.prog 76 #[vp0, vp1] w fun e w' => e = .returned (.bool r) ∧ Holds M0 w w' [] G := by
 refine F0 13 H Tryz.func76 q fun H => ?_
 refine rR <| qa q <| B <| C <| zk <| qm q <| O h fun x1 ad h => qc q c115 H (fun _ => w_impl_ItemsValid ad (hp0)) <| qm q <| O h fun b3 aa h => ?_
 refine Ga (res := b3) 4 (if_f · aa) (fun ab K6 ae => ?_) ?_
 ·exact have aa := if_t ab aa; jm ab q <| jm ab q <| jz H.ctx (hp0) u28 ab q <| O aa fun x8 af aa => jc ab q c77 H (fun _ => w_impl_amountsOk af (hp1)) <| ae 4 q q q aa
 refine qa q <| Qn H fun a ha ah ag => X <| S1 ha <| W fun a ha => ?_
 obtain rfl := L h
 exact ret1 q ha q ⟨q, ag⟩
theorem w_impl_finished {w G B0 B1 r} (h : impl_finishedS B0 B1 = some r) (H : Ctx w G) : Calls Tryz.prog 125 #[.agg #[iV B0, iV B1]] w fun e w' => e = .returned (.bool r) ∧ Holds M0 w w' [] G := by
 refine F0 11 H Tryz.func125 q fun H => ?_
 unfold impl_finishedS at h
 refine C <| Z <| WL_box (cs := [iV B0, iV B1]) H q q q q fun b1 w2 H3 => qa q <| rN <| qf uf103 fi103_1 nz3 q <| ql u3 H3.p0 q <| qi (qt_eql q q) q <| qm q ?_
 refine Ho (res := ((B1 == 3) || (B1 == 4))) 3 os (fun aa K7 ab => ?_) ?_
 ·exact jf uf103 fi103_1 nz3 aa q <| jl u3 H3.p0 aa q <| ji (qt_eql q q) aa q <| ab 3 q q q (oi aa)
 cases h
 exact qa q <| B <| W fun a ha => ret1 q ha q ⟨q, H3.q0⟩
theorem w_impl_reached {w G vp0 p0 p1 r} (h : impl_reachedS p0 p1 = some r) (hp0 : Has G ty2 vp0 p0) (H : Ctx w G) : Calls Tryz.prog 139 #[vp0, iV p1] w fun e w' => e = .returned (.bool r) ∧ Holds M0 w w' [] G := by
 refine F0 23 H Tryz.func139 q fun H => ?_
 refine rR <| qa q <| B <| C <| rR <| qm q <| qz H.ctx (hp0) u87 q <| qm q <| B <| g <| O h fun o2 al h => ?_
 refine fun a4 am => zp (I := fun s1 a w2 => (Fr a 23 [(1, iV p1), (7, vp0), (8, iV (List.length p0 : Int)), (9, iV s1)] ∧ Holds M0 w w2 [] G)) (O := fun o e a w2 => match o with | .inl _ => e = .exit 0 ∧ (Fr a 23 [] ∧ Holds M0 w w2 [] G) | .inr q0 => e = .ret ∧ (Fr a 23 [(4, .bool q0)] ∧ Holds M0 w w2 [] G)) al ?_ ?_ ?_
 ·exact ⟨am.s, H⟩
 ·rintro s1 _ a w6 aa ⟨ha, ad⟩
  refine S1 ha <| rR <| qi (qt_lss q q) q <| B <| C ?_
  refine Yh q aa (fun aa => ?_) (fun aa => ?_)
  ·refine y <| C <| g <| rR <| O aa fun ae ah aa => qe ad (hp0) ah u87 i103 q fun _ _ ao => lP [iV ae.1, iV ae.2] us103 uo103 i103 ao q q q q <| zq (cs := [iV 0, iV 0]) ad z103 q q q fun aC aD ap => zl (cs' := [iV ae.1, iV ae.2]) ap q il103 q q q q q fun aE af => B <| C <| zk <| qf uf103 fi103_0 nz3 q <| ql u3 af.p0 q <| qm q <| qi (qt_lss q q) q <| qm q <| O aa fun aq ab aa => ?_
   refine Ga (res := aq) 3 (if_f · ab) (fun ag aF ar => ?_) ?_
   ·exact have ab := if_t ag ab; jA af.p0 us103 uo103 il103 ag q <| O ab fun aG au ab => jc ag q c125 af (fun _ => w_impl_finished au) <| ji (qt_not q) ag q <| ar 3 q q q ab
   refine Qn af fun a ha aH aj => X <| S1 ha ?_
   refine Yh q aa (fun aa => ?_) (fun aa => ?_)
   ·cases aa
    exact rR <| qa q <| B <| W fun a ha => zj (m (⟨ret_ne, q, ha.s, aj.q0⟩))
   cases aa
   exact WP_skip fun a ha => zi <| X <| S1 ha <| Z <| qi (qt_add q q) q <| qm q <| WL_nil fun a ha => ⟨q, ha.s, aj.q0⟩
  cases aa
  exact WP_exit fun a ha => zo (⟨exit_ne, q, ha.s, ad⟩)
 intro e a aI ak
 rcases o2 with o2 | o2
 ·obtain ⟨rfl, ha, ax⟩ := ak
  cases h
  exact zn <| X <| S1 ha <| rR <| qa q <| B <| W fun a ha => ret1 q ha q ⟨q, ax⟩
 obtain ⟨rfl, ha, ay⟩ := ak
 obtain rfl := L h
 exact zj (m (ret1 q ha q ⟨q, ay⟩))
theorem w_impl_TicketValid {w G vp0 p0 r} (h : impl_TicketValidS p0 = some r) (hp0 : Has G ty2 vp0 p0) (H : Ctx w G) : Calls Tryz.prog 116 #[vp0] w fun e w' => e = .returned (.bool r) ∧ Holds M0 w w' [] G := by
 refine F0 57 H Tryz.func116 q fun H => ?_
 refine rR <| qa q <| B <| C <| rR <| qm q <| qz H.ctx (hp0) u87 q <| qi (qt_gtr q q) q <| B ?_
 refine Yh q h (fun h => ?_) (fun h => ?_)
 ·cases h
  exact rR <| qa q <| B <| W fun a ha => m (ret1 q ha q ⟨q, H⟩)
 refine y <| C <| rR <| qm q <| qz H.ctx (hp0) u87 q <| qm q <| B <| g <| O h fun o2 aB h => ?_
 refine fun a4 aC => zp (I := fun s1 a w2 => (Fr a 57 [(0, vp0), (10, vp0), (11, iV (List.length p0 : Int)), (12, iV s1)] ∧ Holds M0 w w2 [] G)) (O := fun o e a w2 => match o with | .inl _ => e = .exit 0 ∧ (Fr a 57 [(0, vp0)] ∧ Holds M0 w w2 [] G) | .inr q0 => e = .ret ∧ (Fr a 57 [(2, .bool q0)] ∧ Holds M0 w w2 [] G)) aB ?_ ?_ ?_
 ·exact ⟨aC.s, H⟩
 ·rintro s1 _ a w6 ad ⟨ha, ak⟩
  refine S1 ha <| rR <| qi (qt_lss q q) q <| B <| C ?_
  refine Yh q ad (fun ad => ?_) (fun ad => ?_)
  ·refine y <| C <| g <| rR <| O ad fun aa au ad => qe ak (hp0) au u87 i103 q fun _ _ aD => lP [iV aa.1, iV aa.2] us103 uo103 i103 aD q q q q <| zq (cs := [iV 0, iV 0]) ak z103 q q q fun a0 a1 aE => zl (cs' := [iV aa.1, iV aa.2]) aE q il103 q q q q q fun a2 ae => rN <| qf uf103 fi103_0 nz3 q <| ql u3 ae.p0 q <| qi (qt_lss q q) q <| qm q ?_
   refine Ho (res := ((decide (aa.1 < 0)) || (decide (aa.1 > 2)))) 3 os (fun al a3 aF => ?_) ?_
   ·exact jf uf103 fi103_0 nz3 al q <| jl u3 ae.p0 al q <| ji (qt_gtr q q) al q <| aF 3 q q q (oi al)
   refine qm q ?_
   refine Ho (res := (((decide (aa.1 < 0)) || (decide (aa.1 > 2))) || (decide (aa.2 < 0)))) 3 os (fun am a5 aG => ?_) ?_
   ·exact jf uf103 fi103_1 nz3 am q <| jl u3 ae.p0 am q <| ji (qt_lss q q) am q <| aG 3 q q q (oi am)
   refine qm q ?_
   refine Ho (res := ((((decide (aa.1 < 0)) || (decide (aa.1 > 2))) || (decide (aa.2 < 0))) || (decide (aa.2 > 4)))) 3 os (fun ao a6 aH => ?_) ?_
   ·exact jf uf103 fi103_1 nz3 ao q <| jl u3 ae.p0 ao q <| ji (qt_gtr q q) ao q <| aH 3 q q q (oi ao)
   refine B ?_
   refine Yh q ad (fun ad => ?_) (fun ad => ?_)
   ·cases ad
    exact rR <| qa q <| B <| W fun a ha => zj (m (⟨ret_ne, q, ha.s, ae.q0⟩))
   cases ad
   exact WP_skip fun a ha => zi <| X <| S1 ha <| Z <| qi (qt_add q q) q <| qm q <| WL_nil fun a ha => ⟨q, ha.s, ae.q0⟩
  cases ad
  exact WP_exit fun a ha => zo (⟨exit_ne, q, ha.s, ak⟩)
 intro e a a7 av
 rcases o2 with o2 | o2
 ·obtain ⟨rfl, ha, aw⟩ := av
  refine zn <| X <| S1 ha <| C <| rR <| qm q <| qz aw.ctx (hp0) u87 q <| qm q <| B <| g <| O h fun ar aK h => ?_
  refine fun a8 aL => zp (I := fun ax a w2 => (Fr a 57 [(0, vp0), (35, vp0), (36, iV (List.length p0 : Int)), (37, iV ax)] ∧ Holds M0 w w2 [] G)) (O := fun o e a w2 => match o with | .inl _ => e = .exit 2 ∧ (Fr a 57 [] ∧ Holds M0 w w2 [] G) | .inr q0 => e = .ret ∧ (Fr a 57 [(2, .bool q0)] ∧ Holds M0 w w2 [] G)) aK ?_ ?_ ?_
  ·exact ⟨aL.s, aw⟩
  ·rintro ax _ a a9 ab ⟨ha, ap⟩
   refine S1 ha <| rR <| qi (qt_lss q q) q <| B <| C ?_
   refine Yh q ab (fun ab => ?_) (fun ab => ?_)
   ·refine y <| C <| g <| rR <| O ab fun af ay ab => qe ap (hp0) ay u87 i103 q fun _ _ aM => lP [iV af.1, iV af.2] us103 uo103 i103 aM q q q q <| zq (cs := [iV 0, iV 0]) ap z103 q q q fun bd be aN => zl (cs' := [iV af.1, iV af.2]) aN q il103 q q q q q fun bf aj => B <| C <| zk <| qf uf103 fi103_1 nz3 q <| ql u3 aj.p0 q <| qi (qt_neq q q) q <| qm q ?_
    refine Ga (res := ((af.2 != 0) && (af.2 != 4))) 3 an (fun aq bg aO => ?_) ?_
    ·exact jf uf103 fi103_1 nz3 aq q <| jl u3 aj.p0 aq q <| ji (qt_neq q q) aq q <| aO 3 q q q (ai aq)
    refine qm q <| O ab fun aP ag ab => ?_
    refine Ga (res := aP) 5 (if_f · ag) (fun ah bh aQ => ?_) ?_
    ·exact have ag := if_t ah ag; jm ah q <| jf uf103 fi103_0 nz3 ah q <| jl u3 aj.p0 ah q <| O ag fun bi aR ag => jc ah q c139 aj (fun _ => w_impl_reached aR (hp0.c)) <| ji (qt_not q) ah q <| aQ 5 q q q ag
    refine Qn aj fun a ha bj az => X <| S1 ha ?_
    refine Yh q ab (fun ab => ?_) (fun ab => ?_)
    ·cases ab
     exact rR <| qa q <| B <| W fun a ha => zj (m (⟨ret_ne, q, ha.s, az.q0⟩))
    cases ab
    exact WP_skip fun a ha => zi <| X <| S1 ha <| Z <| qi (qt_add q q) q <| qm q <| WL_nil fun a ha => ⟨q, ha.s, az.q0⟩
   cases ab
   exact WP_exit fun a ha => zo (⟨exit_ne, q, ha.s, ap⟩)
  intro e a bk aA
  rcases ar with ar | ar
  ·obtain ⟨rfl, ha, aU⟩ := aA
   cases h
   exact zn <| X <| S1 ha <| rR <| qa q <| B <| W fun a ha => ret1 q ha q ⟨q, aU⟩
  obtain ⟨rfl, ha, aV⟩ := aA
  obtain rfl := L h
  exact zj (m (ret1 q ha q ⟨q, aV⟩))
 obtain ⟨rfl, ha, aW⟩ := av
 obtain rfl := L h
 exact zj (m (ret1 q ha q ⟨q, aW⟩))
theorem w_impl_UsesOf {w G vp0 p0 p1 r} (h : impl_UsesOfS p0 p1 = some r) (hp0 : Has G ty12 vp0 p0) (H : Ctx w G) : Calls Tryz.prog 154 #[vp0, iV p1] w fun e w' => e = .returned (iV r) ∧ Holds M0 w w' [] G := by
 refine F0 51 H Tryz.func154 q fun H => ?_
 refine rR <| qa q <| B <| C <| C <| zk <| qm q <| O h fun x1 ax h => qc q c115 H (fun _ => w_impl_ItemsValid ax (hp0)) <| qi (qt_not q) q <| qm q ?_
 refine Go (res := ((!x1) || (decide (p1 < 0)))) 2 os (fun aj K4 ay => ?_) ?_
 ·exact jm aj q <| ji (qt_lss q q) aj q <| ay 2 q q q (oi aj)
 refine qm q ?_
 refine Go (res := (((!x1) || (decide (p1 < 0))) || (decide (p1 ≥ (List.length p0 : Int))))) 4 os (fun ad K7 az => ?_) ?_
 ·exact jm ad q <| jm ad q <| jz H.ctx (hp0) u28 ad q <| ji (qt_geq q q) ad q <| az 4 q q q (oi ad)
 refine Qn H fun a ha w9 ak => X <| S1 ha ?_
 refine Yh q h (fun h => ?_) (fun h => ?_)
 ·cases h
  exact rR <| qa q <| B <| W fun a ha => m (ret1 q ha q ⟨q, ak⟩)
 refine y <| rR <| qm q <| O h fun aO aA h => qi (qt_shlO q q aA) q <| qa q <| B <| C <| C <| Z <| qm q <| qa q <| B <| g <| O h fun aP aB h => ?_
 refine fun aQ aC => zp (I := fun (al, ae) a w2 => (Fr a 51 [(0, vp0), (5, iV al), (6, iV ae)] ∧ Holds M0 w w2 [] G)) (O := fun q0 e a w2 => e = .exit 0 ∧ (Fr a 51 [(5, iV q0)] ∧ Holds M0 w w2 [] G)) aB ?_ ?_ ?_
 ·exact ⟨aC.s, ak⟩
 ·rintro ⟨al, ae⟩ _ a aR aa ⟨ha, af⟩
  refine S1 ha <| C <| rR <| qm q <| qi (qt_geq q q) q <| B ?_
  refine Yh q aa (fun aa => ?_) (fun aa => ?_)
  ·refine y <| C <| g <| C <| rR <| qm q <| qm q <| O aa fun aS aD aa => qi (qt_shlO q q aD) q <| qi (qt_and q q) q <| qi (qt_eql q q) q <| B ?_
   refine Yh q aa (fun aa => ?_) (fun aa => ?_)
   ·cases aa
    exact WP_exit fun a ha => zo <| zn <| X <| S1 ha <| Z <| qm q <| qi (qt_sub q q) q <| qa q <| WL_nil fun a ha => ⟨q, ha.s, af⟩
   refine y <| rR <| qm q <| qm q <| O aa fun am ao aa => qe af (hp0) ao u28 i95 q fun _ _ aE => qf uf95 fi95_1 nz93 q <| eV u93 aE.s.f q fun ap aq => qz aq.ctx hR0 u93 q <| qm q <| B <| g <| O aa fun aW aF aa => ?_
   refine fun aX aG => zp (I := fun (ar, au) a w2 => (Fr a 51 [(0, vp0), (5, iV ar), (6, iV ae), (38, ap), (39, iV (List.length am.2.1 : Int)), (40, iV au)] ∧ Holds M0 w w2 [.ro ty2 ap am.2.1] G)) (O := fun q0 e a w2 => e = .exit 2 ∧ (Fr a 51 [(0, vp0), (5, iV q0), (6, iV ae)] ∧ Holds M0 w w2 [] G)) aF ?_ ?_ ?_
   ·exact ⟨aG.s, aq⟩
   ·rintro ⟨ar, au⟩ _ a aY ab ⟨ha, ag⟩
    refine S1 ha <| rR <| qi (qt_lss q q) q <| B <| C ?_
    refine Yh q ab (fun ab => ?_) (fun ab => ?_)
    ·refine y <| C <| g <| rR <| O ab fun ah av ab => qe ag hR0 av u93 i152 q fun _ _ aH => lP [iV ah.1, iV ah.2] us152 uo152 i152 aH q q q q <| zq (cs := [iV 0, iV 0]) ag z152 q q q fun a2 a3 aI => zl (cs' := [iV ah.1, iV ah.2]) aI q il152 q q q q q fun a4 aw => B <| Z <| qm q <| qf uf152 fi152_0 nz3 q <| ql u3 aw.p0 q <| O ab fun a5 aJ ab => qi (qt_shlO q q aJ) q <| qi (qt_or q q) q <| qa q <| WL_nil fun a ha => zi <| X <| S1 ha <| Z <| qi (qt_add q q) q <| qm q <| WL_nil fun a ha => ?_
     cases ab
     exact ⟨q, ha.s, aw.q0⟩
    cases ab
    exact WP_exit fun a ha => zo (⟨exit_ne, q, ha.s, ag.q0⟩)
   rintro _ a a6 ⟨rfl, ha, aM⟩
   cases aa
   exact zn <| zi <| X <| S1 ha <| Z <| qm q <| qi (qt_sub q q) q <| qa q <| WL_nil fun a ha => ⟨q, ha.s, aM⟩
  cases aa
  exact WP_exit fun a ha => zo (⟨exit_ne, q, ha.s, af⟩)
 rintro _ a a7 ⟨rfl, ha, aN⟩
 refine zn <| X <| S1 ha <| rR <| qm q <| qa q <| B <| W fun a ha => ?_
 obtain rfl := L h
 exact ret1 q ha q ⟨q, aN⟩
theorem w_impl_MarksOf {w G vp0 p0 p1 r} (h : impl_MarksOfS p0 p1 = some r) (hp0 : Has G ty12 vp0 p0) (H : Ctx w G) : Calls Tryz.prog 129 #[vp0, iV p1] w fun e w' => e = .returned (iV r) ∧ Holds M0 w w' [] G := by
 refine F0 32 H Tryz.func129 q fun H => ?_
 refine rR <| qa q <| B <| C <| zk <| qm q <| qm q <| O h fun x1 aj h => qc q c154 H (fun _ => w_impl_UsesOf aj (hp0)) <| qa q <| Qn H fun a ha w3 H5 => X <| S1 ha <| C <| rR <| qm q <| qi (qt_lss q q) q <| B ?_
 refine Yh q h (fun h => ?_) (fun h => ?_)
 ·cases h
  exact rR <| qa q <| B <| W fun a ha => m (ret1 q ha q ⟨q, H5⟩)
 refine y <| rR <| qa q <| B <| C <| rR <| qm q <| qz H5.ctx (hp0) u28 q <| qm q <| B <| g <| O h fun o9 ak h => ?_
 refine fun aG al => zp (I := fun (s7, s8) a w2 => (Fr a 32 [(5, iV x1), (6, iV s7), (14, vp0), (15, iV (List.length p0 : Int)), (16, iV s8)] ∧ Holds M0 w w2 [] G)) (O := fun q0 e a w2 => e = .exit 0 ∧ (Fr a 32 [(6, iV q0)] ∧ Holds M0 w w2 [] G)) ak ?_ ?_ ?_
 ·exact ⟨al.s, H5⟩
 ·rintro ⟨s7, s8⟩ _ a am aa ⟨ha, ae⟩
  refine S1 ha <| rR <| qi (qt_lss q q) q <| B <| C ?_
  refine Yh q aa (fun aa => ?_) (fun aa => ?_)
  ·refine y <| C <| g <| rR <| qm q <| O aa fun ab ag aa => qb ae.ctx (hp0) ag u28 i95 q fun aH aI aJ ao => ?_
   obtain ⟨aK, ap, aq⟩ := ae.atN (hp0) ag ao
   refine XL_load_agg (t := ty12) us95 uo95 i95 ap q q q fun aL ar => ?_
   obtain ⟨c29, c30, aM, aN, rfl, au, av, aw⟩ := ar
   obtain ⟨rfl, _⟩ := av
   obtain ⟨c36, c37, aO, aP, rfl, ax, ay, az⟩ := aw
   obtain ⟨ad, rfl, aA⟩ := Rep.sl_inv ay
   obtain ⟨rfl, _⟩ := az
   have aB : Holds _ w am [.ro ty2 ad ab.2.1] G := aq [.ro ty2 ad ab.2.1] ⟨⟨_, _, _, _, q, aA, (fun k h => (fun k h => (fun _ h => h) k (by rw [au]; exact zx _ h)) k (by rw [ax]; exact List.mem_append_left _ h))⟩, trivial⟩
   change XL _ _ _ _ _ ((20, .agg #[iV ab.1, ad, iV ab.2.2]) :: _) _
   refine zq (cs := [iV 0, nS, iV 0]) aB z95 q q q fun aQ aR ah => qa q <| zl (cs' := [iV ab.1, ad, iV ab.2.2]) ah q il95 q (T q (T (ah.ctx.sliceOne hR1) (T q q))) q q q fun aS af => rN <| qm q <| qm q <| O aa fun aT aC aa => qi (qt_shlO q q aC) q <| qi (qt_and q q) q <| qi (qt_neq q q) q <| B ?_
   refine Yh q aa (fun aa => ?_) (fun aa => ?_)
   ·cases aa
    exact Z <| qm q <| qf uf95 fi95_2 nz3 q <| ql u3 af.p0 q <| qi (qt_or q q) q <| qa q <| WL_nil fun a ha => zi <| X <| S1 ha <| Z <| qi (qt_add q q) q <| qm q <| WL_nil fun a ha => ⟨q, ha.s, af.q0.q0⟩
   cases aa
   exact WP_skip fun a ha => zi <| X <| S1 ha <| Z <| qi (qt_add q q) q <| qm q <| WL_nil fun a ha => ⟨q, ha.s, af.q0.q0⟩
  cases aa
  exact WP_exit fun a ha => zo (⟨exit_ne, q, ha.s, ae⟩)
 rintro _ a aU ⟨rfl, ha, aF⟩
 refine zn <| X <| S1 ha <| rR <| qm q <| qa q <| B <| W fun a ha => ?_
 obtain rfl := L h
 exact ret1 q ha q ⟨q, aF⟩
theorem w_impl_FreeOf {w G vp0 p0 p1 r} (h : impl_FreeOfS p0 p1 = some r) (hp0 : Has G ty12 vp0 p0) (H : Ctx w G) : Calls Tryz.prog 96 #[vp0, iV p1] w fun e w' => ∃ (v1 : Value), e = .returned (v1) ∧ Holds M0 w w' [.sl 3 tI v1 r] G := by
 refine F0 43 H Tryz.func96 q fun H => ?_
 refine rR <| qa q <| B <| C <| C <| zk <| qm q <| O h fun x1 aw h => qc q c115 H (fun _ => w_impl_ItemsValid aw (hp0)) <| qi (qt_not q) q <| qm q ?_
 refine Go (res := ((!x1) || (decide (p1 < 0)))) 2 os (fun ah K4 ax => ?_) ?_
 ·exact jm ah q <| ji (qt_lss q q) ah q <| ax 2 q q q (oi ah)
 refine qm q ?_
 refine Go (res := (((!x1) || (decide (p1 < 0))) || (decide (p1 > 31)))) 2 os (fun aj K7 ay => ?_) ?_
 ·exact jm aj q <| ji (qt_gtr q q) aj q <| ay 2 q q q (oi aj)
 refine Qn H fun a ha w9 ak => X <| S1 ha ?_
 refine Yh q h (fun h => ?_) (fun h => ?_)
 ·cases h
  exact rR <| qa q <| B <| W fun a ha => have az := ak.nS 3 tI; m (ret1 q ha q ⟨(nS), q, az⟩)
 refine y <| rR <| qa q <| B <| C <| rR <| qm q <| qz ak.ctx (hp0) u28 q <| qm q <| B <| g <| have aA := ak.nS 3 tI; O h fun a2 aB h => ?_
 refine fun a3 aC => zp (I := fun (al, am) a w2 => ∃ ad, Fr a 43 [(0, vp0), (1, iV p1), (5, ad), (19, vp0), (20, iV (List.length p0 : Int)), (21, iV am)] ∧ Holds M0 w w2 [.sl 3 tI ad al] G) (O := fun q0 e a w2 => e = .exit 0 ∧ ∃ aq, Fr a 43 [(5, aq)] ∧ Holds M0 w w2 [.sl 3 tI aq q0] G) aB ?_ ?_ ?_
 ·exact ⟨(nS), aC.s, aA⟩
 ·rintro ⟨al, am⟩ _ a aD aa ⟨ad, ha, ao⟩
  refine S1 ha <| rR <| qi (qt_lss q q) q <| B <| C ?_
  refine Yh q aa (fun aa => ?_) (fun aa => ?_)
  ·refine y <| C <| g <| rR <| qm q <| O aa fun ae ar aa => qb ao.ctx (hp0.c) ar u28 i95 q fun a4 a5 a6 aE => ?_
   obtain ⟨a7, aF, aG⟩ := ao.atN (hp0.c) ar aE
   refine XL_load_agg (t := ty12) us95 uo95 i95 aF q q q fun a8 aH => ?_
   obtain ⟨c37, c38, a9, ba, rfl, aI, aJ, aK⟩ := aH
   obtain ⟨rfl, _⟩ := aJ
   obtain ⟨c44, c45, bb, bc, rfl, aL, aM, aN⟩ := aK
   obtain ⟨ag, rfl, aO⟩ := Rep.sl_inv aM
   obtain ⟨rfl, _⟩ := aN
   have aP : Holds _ w aD [.ro ty2 ag ae.2.1, .sl 3 tI ad al] G := aG [.ro ty2 ag ae.2.1] ⟨⟨_, _, _, _, q, aO, (fun k h => (fun k h => (fun _ h => h) k (by rw [aI]; exact zx _ h)) k (by rw [aL]; exact List.mem_append_left _ h))⟩, trivial⟩
   change XL _ _ _ _ _ ((25, .agg #[iV ae.1, ag, iV ae.2.2]) :: _) _
   refine zq (cs := [iV 0, nS, iV 0]) aP z95 q q q fun bd be au => qa q <| zl (cs' := [iV ae.1, ag, iV ae.2.2]) au q il95 q (T q (T (au.ctx.sliceOne hR1) (T q q))) q q q fun bf ap => B <| C <| zk <| qf uf95 fi95_0 nz3 q <| ql u3 ap.p0 q <| qi (qt_gtr q q) q <| qm q <| O aa fun aQ af aa => ?_
   refine Ga (res := aQ) 6 (if_f · af) (fun ab bg aR => ?_) ?_
   ·exact have af := if_t ab af; jm ab q <| jm ab q <| O af fun bh aS af => jc ab q c129 ap (fun _ => w_impl_MarksOf aS (hp0.c.c.c)) <| jm ab q <| ji (qt_and q q) ab q <| ji (qt_eql q q) ab q <| aR 6 q q q af
   refine Qn ap fun a ha bi av => X <| S1 ha ?_
   refine Yh q aa (fun aa => ?_) (fun aa => ?_)
   ·refine Z <| qm q <| qm q <| zs (t := tI) (args := [.tmp 38]) (xs := ([am] : List Int)) av (BltL.cons (Blt.int) q (BltL.nil)) u23 j3 q q q q q q fun bj bk aT => O aa fun bl aV aa => zw aT.p3 hS1 aV u23 j3 q q q q q q fun aW bm aX => qa q <| WL_nil fun a ha => zi <| X <| S1 ha <| Z <| qi (qt_add q q) q <| qm q <| WL_nil fun a ha => ?_
    cases aa
    exact ⟨q, aW, ha.s, aX.q1.q1.q1⟩
   cases aa
   exact WP_skip fun a ha => zi <| X <| S1 ha <| Z <| qi (qt_add q q) q <| qm q <| WL_nil fun a ha => ⟨q, ad, ha.s, av.q0.q0⟩
  cases aa
  exact WP_exit fun a ha => zo (⟨exit_ne, q, ad, ha.s, ao⟩)
 rintro _ a bn ⟨rfl, a0, ha, a1⟩
 refine zn <| X <| S1 ha <| rR <| qm q <| qa q <| B <| W fun a ha => ?_
 obtain rfl := L h
 exact ret1 q ha q ⟨a0, q, a1⟩
theorem w_slices_Index___int_int {w G vp0 p0 p1 r} (h : slices_Index___int_intS p0 p1 = some r) (hp0 : Has G tI vp0 p0) (H : Ctx w G) : Calls Tryz.prog 140 #[vp0, iV p1] w fun e w' => e = .returned (iV r) ∧ Holds M0 w w' [] G := by
 refine F0 19 H Tryz.func140 q fun H => ?_
 refine rR <| qa q <| B <| C <| rR <| qm q <| qz H.ctx (hp0) u23 q <| qm q <| B <| g <| O h fun o2 ae h => ?_
 refine fun a4 af => zp (I := fun s1 a w2 => (Fr a 19 [(0, vp0), (1, iV p1), (7, iV (List.length p0 : Int)), (8, iV s1)] ∧ Holds M0 w w2 [] G)) (O := fun o e a w2 => match o with | .inl _ => e = .exit 0 ∧ (Fr a 19 [] ∧ Holds M0 w w2 [] G) | .inr q0 => e = .ret ∧ (Fr a 19 [(4, iV q0)] ∧ Holds M0 w w2 [] G)) ae ?_ ?_ ?_
 ·exact ⟨af.s, H⟩
 ·rintro s1 _ a w6 aa ⟨ha, ab⟩
  refine S1 ha <| rR <| qi (qt_lss q q) q <| B <| C ?_
  refine Yh q aa (fun aa => ?_) (fun aa => ?_)
  ·refine y <| C <| g <| rR <| qm q <| qa q <| B <| C <| Z <| qm q <| qm q <| qm q <| O aa fun ak ad aa => qe ab (hp0) ad u23 i3 q fun _ _ ag => eI u3 ag q <| qi (qt_eql q q) q <| B ?_
   refine Yh q aa (fun aa => ?_) (fun aa => ?_)
   ·cases aa
    exact rR <| qm q <| qa q <| B <| W fun a ha => zj (m (⟨ret_ne, q, ha.s, ab⟩))
   cases aa
   exact WP_skip fun a ha => zi <| X <| S1 ha <| Z <| qi (qt_add q q) q <| qm q <| WL_nil fun a ha => ⟨q, ha.s, ab⟩
  cases aa
  exact WP_exit fun a ha => zo (⟨exit_ne, q, ha.s, ab⟩)
 intro e a ap hO18
 rcases o2 with o2 | o2
 ·obtain ⟨rfl, ha, ah⟩ := hO18
  cases h
  exact zn <| X <| S1 ha <| rR <| qa q <| B <| W fun a ha => ret1 q ha q ⟨q, ah⟩
 obtain ⟨rfl, ha, aj⟩ := hO18
 obtain rfl := L h
 exact zj (m (ret1 q ha q ⟨q, aj⟩))
theorem w_slices_Contains___int_int {w G vp0 p0 p1 r} (h : slices_Contains___int_intS p0 p1 = some r) (hp0 : Has G tI vp0 p0) (H : Ctx w G) : Calls Tryz.prog 117 #[vp0, iV p1] w fun e w' => e = .returned (.bool r) ∧ Holds M0 w w' [] G := by
 refine F0 9 H Tryz.func117 q fun H => ?_
 refine rR <| qa q <| B <| C <| zk <| qm q <| qm q <| O h fun x1 aa h => qc q c140 H (fun _ => w_slices_Index___int_int aa (hp0)) <| qi (qt_geq q q) q <| qa q <| Qn H fun a ha w3 H5 => X <| S1 ha <| W fun a ha => ?_
 cases h
 exact ret1 q ha q ⟨q, H5⟩
theorem w_impl_tableValid {w G vp0 p0 p1_0 A1_1 p1_1 A1_2 p1_2 r} (h : impl_tableValidS p0 p1_0 p1_1 p1_2 = some r) (hp0 : Has G ty12 vp0 p0) (hp1_1 : Has G ty2 A1_1 p1_1) (hp1_2 : Has G tI A1_2 p1_2) (H : Ctx w G) : Calls Tryz.prog 78 #[vp0, .agg #[iV p1_0, A1_1, A1_2]] w fun e w' => e = .returned (.bool r) ∧ Holds M0 w w' [] G := by
 refine F0 47 H Tryz.func78 q fun H => ?_
 refine C <| Z <| WL_box (cs := [iV p1_0, A1_1, A1_2]) H q q q q fun b1 w2 H3 => qa q <| B <| C <| C <| zk <| qf uf89 fi89_0 nz3 q <| ql u3 H3.p0 q <| qi (qt_lss q q) q <| qm q ?_
 refine Go (res := ((decide (p1_0 < 0)) || (decide (p1_0 > 31)))) 3 os (fun ag K7 au => ?_) ?_
 ·exact jf uf89 fi89_0 nz3 ag q <| jl u3 H3.p0 ag q <| ji (qt_gtr q q) ag q <| au 3 q q q (oi ag)
 refine qm q <| O h fun al ad h => ?_
 refine Go (res := al) 4 (if_t · ad) (fun ae aL av => ?_) ?_
 ·exact have ad := if_f ae ad; jf uf89 fi89_1 nz87 ae q <| jl u87 H3.p0 ae q <| O ad fun aM aw ad => jc ae q c116 H3 (fun _ => w_impl_TicketValid aw (hp1_1.c)) <| ji (qt_not q) ae q <| av 4 q q q ad
 refine qm q ?_
 refine Go (res := (al || ((List.length p1_2 : Int) != (List.length p1_1 : Int)))) 7 os (fun ab aN ax => ?_) ?_
 ·exact jf uf89 fi89_2 nz23 ab q <| jl u23 H3.p0 ab q <| jz H3.ctx (hp1_2.c) u23 ab q <| jf uf89 fi89_1 nz87 ab q <| jl u87 H3.p0 ab q <| jz H3.ctx (hp1_1.c) u87 ab q <| ji (qt_neq q q) ab q <| ax 7 q q q (oi ab)
 refine Qn H3 fun a ha aO ah => X <| S1 ha ?_
 refine Yh q h (fun h => ?_) (fun h => ?_)
 ·cases h
  exact rR <| qa q <| B <| W fun a ha => m (ret1 q ha q ⟨q, ah.q0⟩)
 refine y <| rR <| qm q <| qf uf89 fi89_0 nz3 q <| ql u3 ah.p0 q <| O h fun az aA h => U1 q c96 (w_impl_FreeOf aA (hp0.c) ah.ctx) fun am aP aB => have aj := ah.cN1 [] aB; qa q <| B <| C <| rR <| qf uf89 fi89_2 nz23 q <| ql u23 aj.p1 q <| qz aj.ctx (hp1_2.c.c) u23 q <| qm q <| B <| g <| O h fun ak aC h => ?_
 refine fun aQ aE => zp (I := fun ao a w2 => (Fr a 47 [(5, am), (36, A1_2), (37, iV (List.length p1_2 : Int)), (38, iV ao)] ∧ Holds M0 w w2 [.sl 3 tI am az] G)) (O := fun o e a w2 => match o with | .inl _ => e = .exit 0 ∧ (Fr a 47 [] ∧ Holds M0 w w2 [] G) | .inr q0 => e = .ret ∧ (Fr a 47 [(4, .bool q0)] ∧ Holds M0 w w2 [] G)) aC ?_ ?_ ?_
 ·exact ⟨aE.s, aj.q1⟩
 ·rintro ao _ a aR aa ⟨ha, af⟩
  refine S1 ha <| rR <| qi (qt_lss q q) q <| B <| C ?_
  refine Yh q aa (fun aa => ?_) (fun aa => ?_)
  ·refine y <| C <| g <| rR <| O aa fun aS ap aa => qe af (hp1_2.c) ap u23 i3 q fun _ _ aF => eI u3 aF q <| qa q <| B <| C <| zk <| qm q <| qm q <| O aa fun aW aG aa => qc q c117 af (fun _ => w_slices_Contains___int_int aG hS0) <| qi (qt_not q) q <| Qn af fun a ha aX aq => X <| S1 ha ?_
   refine Yh q aa (fun aa => ?_) (fun aa => ?_)
   ·cases aa
    exact rR <| qa q <| B <| W fun a ha => zj (m (⟨ret_ne, q, ha.s, aq.q0⟩))
   cases aa
   exact WP_skip fun a ha => zi <| X <| S1 ha <| Z <| qi (qt_add q q) q <| qm q <| WL_nil fun a ha => ⟨q, ha.s, aq⟩
  cases aa
  exact WP_exit fun a ha => zo (⟨exit_ne, q, ha.s, af.q0⟩)
 intro e a aY ar
 rcases ak with ak | ak
 ·obtain ⟨rfl, ha, aJ⟩ := ar
  cases h
  exact zn <| X <| S1 ha <| rR <| qa q <| B <| W fun a ha => ret1 q ha q ⟨q, aJ⟩
 obtain ⟨rfl, ha, aK⟩ := ar
 obtain rfl := L h
 exact zj (m (ret1 q ha q ⟨q, aK⟩))
theorem w_impl_HouseValid {w G A0 B0 A1 B1 A2 B2 B3 A4 B4 r} (h : impl_HouseValidS B0 B1 B2 B3 B4 = some r) (C0 : Has G ty12 A0 B0) (C1 : Has G tI A1 B1) (C2 : Has G tI A2 B2) (C4 : Has G ty14 A4 B4) (H : Ctx w G) : Calls Tryz.prog 39 #[.agg #[A0, A1, A2, iV B3, A4]] w fun e w' => e = .returned (.bool r) ∧ Holds M0 w w' [] G := by
 refine F0 47 H Tryz.func39 q fun H => ?_
 refine C <| Z <| WL_box (cs := [A0, A1, A2, iV B3, A4]) H q q q q fun b1 w2 H3 => qa q <| B <| C <| C <| zk <| qf uf31 fi31_0 nz28 q <| ql u28 H3.p0 q <| qf uf31 fi31_1 nz23 q <| ql u23 H3.p0 q <| O h fun x7 ay h => qc q c76 H3 (fun _ => w_impl_PricesValid ay (C0.c) (C1.c)) <| qi (qt_not q) q <| qm q <| O h fun b9 ae h => ?_
 refine Go (res := b9) 7 (if_t · ae) (fun ad aZ az => ?_) ?_
 ·exact have ae := if_f ad ae; jf uf31 fi31_2 nz23 ad q <| jl u23 H3.p0 ad q <| jf uf31 fi31_0 nz28 ad q <| jl u28 H3.p0 ad q <| jz H3.ctx (C0.c) u28 ad q <| O ae fun a0 aA ae => jc ad q c77 H3 (fun _ => w_impl_amountsOk aA (C2.c)) <| ji (qt_not q) ad q <| az 7 q q q ae
 refine Qn H3 fun a ha a1 ab => X <| S1 ha ?_
 refine Yh q h (fun h => ?_) (fun h => ?_)
 ·cases h
  exact rR <| qa q <| B <| W fun a ha => m (ret1 q ha q ⟨q, ab.q0⟩)
 refine y <| C <| rR <| qf uf31 fi31_3 nz3 q <| ql u3 ab.p0 q <| qi (qt_lss q q) q <| qm q ?_
 refine Ho (res := ((decide (B3 < 0)) || (decide (B3 > 99999)))) 3 os (fun ah a2 aC => ?_) ?_
 ·exact jf uf31 fi31_3 nz3 ah q <| jl u3 ab.p0 ah q <| ji (qt_gtr q q) ah q <| aC 3 q q q (oi ah)
 refine qm q ?_
 refine Ho (res := (((decide (B3 < 0)) || (decide (B3 > 99999))) || (decide ((List.length B4 : Int) > 4)))) 4 os (fun ag a3 aD => ?_) ?_
 ·exact jf uf31 fi31_4 nz29 ag q <| jl u29 ab.p0 ag q <| jz ab.ctx (C4.c) u29 ag q <| ji (qt_gtr q q) ag q <| aD 4 q q q (oi ag)
 refine B ?_
 refine Yh q h (fun h => ?_) (fun h => ?_)
 ·cases h
  exact rR <| qa q <| B <| W fun a ha => m (ret1 q ha q ⟨q, ab.q0⟩)
 refine y <| C <| rR <| qf uf31 fi31_4 nz29 q <| ql u29 ab.p0 q <| qz ab.ctx (C4.c) u29 q <| qm q <| B <| g <| O h fun am aF h => ?_
 refine fun a4 aG => zp (I := fun aq a w2 => (Fr a 47 [(1, pB b1), (35, A4), (36, iV (List.length B4 : Int)), (37, iV aq)] ∧ Holds M0 w w2 [.bx b1 31 [A0, A1, A2, iV B3, A4]] G)) (O := fun o e a w2 => match o with | .inl _ => e = .exit 0 ∧ (Fr a 47 [] ∧ Holds M0 w w2 [] G) | .inr q0 => e = .ret ∧ (Fr a 47 [(2, .bool q0)] ∧ Holds M0 w w2 [] G)) aF ?_ ?_ ?_
 ·exact ⟨aG.s, ab⟩
 ·rintro aq _ a aH aa ⟨ha, ao⟩
  refine S1 ha <| rR <| qi (qt_lss q q) q <| B <| C ?_
  refine Yh q aa (fun aa => ?_) (fun aa => ?_)
  ·refine y <| C <| g <| rR <| O aa fun af ar aa => qb ao.ctx (C4.c) ar u29 i89 q fun a5 a6 a7 aI => ?_
   obtain ⟨a8, aJ, aK⟩ := ao.atN (C4.c) ar aI
   refine XL_load_agg (t := ty14) us89 uo89 i89 aJ q q q fun a9 aL => ?_
   obtain ⟨c55, c56, ba, bb, rfl, au, aM, aN⟩ := aL
   obtain ⟨rfl, _⟩ := aM
   obtain ⟨c62, c63, bc, bd, rfl, av, aO, aP⟩ := aN
   obtain ⟨aj, rfl, aQ⟩ := Rep.sl_inv aO
   obtain ⟨ak, rfl, aR⟩ := Rep.sl_inv aP
   have aS : Holds _ w aH [.ro ty2 aj af.2.1, .ro tI ak af.2.2, .bx b1 31 [A0, A1, A2, iV B3, A4]] G := aK [.ro ty2 aj af.2.1, .ro tI ak af.2.2] ⟨⟨_, _, _, _, q, aQ, (fun k h => (fun k h => (fun _ h => h) k (by rw [au]; exact zx _ h)) k (by rw [av]; exact List.mem_append_left _ h))⟩, ⟨_, _, _, _, q, aR, (fun k h => (fun k h => (fun _ h => h) k (by rw [au]; exact zx _ h)) k (by rw [av]; exact zx _ h))⟩, trivial⟩
   change XL _ _ _ _ _ ((40, .agg #[iV af.1, aj, ak]) :: _) _
   refine zq (cs := [iV 0, nS, nS]) aS z89 q q q fun be bf ap => zl (cs' := [iV af.1, aj, ak]) ap q il89 q (T q (T (ap.ctx.sliceOne hR1) (T (ap.ctx.sliceOne hR2) q))) q q q fun bg al => B <| C <| zk <| qf uf31 fi31_0 nz28 q <| ql u28 al.p3 q <| eA al.p0 us89 uo89 il89 q <| O aa fun bh aT aa => qc q c78 al (fun _ => w_impl_tableValid aT (C0.c.c.c.c) hR1 hR2) <| qi (qt_not q) q <| Qn al fun a ha bi aw => X <| S1 ha ?_
   refine Yh q aa (fun aa => ?_) (fun aa => ?_)
   ·cases aa
    exact rR <| qa q <| B <| W fun a ha => zj (m (⟨ret_ne, q, ha.s, aw.q0.q0.q0.q0⟩))
   cases aa
   exact WP_skip fun a ha => zi <| X <| S1 ha <| Z <| qi (qt_add q q) q <| qm q <| WL_nil fun a ha => ⟨q, ha.s, aw.q0.q0.q0⟩
  cases aa
  exact WP_exit fun a ha => zo (⟨exit_ne, q, ha.s, ao.q0⟩)
 intro e a bj ax
 rcases am with am | am
 ·obtain ⟨rfl, ha, aX⟩ := ax
  cases h
  exact zn <| X <| S1 ha <| rR <| qa q <| B <| W fun a ha => ret1 q ha q ⟨q, aX⟩
 obtain ⟨rfl, ha, aY⟩ := ax
 obtain rfl := L h
 exact zj (m (ret1 q ha q ⟨q, aY⟩))
theorem w_impl_copyInts {w G vp0 p0 r} (h : impl_copyIntsS p0 = some r) (hp0 : Has G tI vp0 p0) (H : Ctx w G) : Calls Tryz.prog 89 #[vp0] w fun e w' => ∃ (v1 : Value), e = .returned (v1) ∧ Holds M0 w w' [.sl 3 tI v1 r] G := by
 refine F0 14 H Tryz.func89 q fun H => ?_
 refine rR <| qa q <| B <| C <| rR <| qm q <| qz H.ctx (hp0) u23 q <| qi (qt_eql q q) q <| B ?_
 refine Yh q h (fun h => ?_) (fun h => ?_)
 ·cases h
  exact rR <| qa q <| B <| W fun a ha => have H1 := H.nS 3 tI; m (ret1 q ha q ⟨(nS), q, H1⟩)
 refine y <| rR <| qm q <| qz H.ctx (hp0) u23 q <| O h fun x2 aa h => WL_makeH H aa u23 j3 q (fun _ => ⟨q, q⟩) q q q q q fun v4 w5 H6 => qa q <| rN <| qm q <| qm q <| WL_copyH q H6 (hp0.c) q u23 i3 q q q q fun w8 H9 => rN <| qm q <| qa q <| B <| W fun a ha => ?_
 cases h
 exact ret1 q ha q ⟨v4, q, H9⟩
end Go.Proofs.YtpklpghbkhegnaaGreatDoor
