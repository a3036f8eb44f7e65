/- The walks: each Go function computes its shallow function. Printed by a program. -/
import Derived.Test.YtkhnponakhabdaaGreatDoorWS7M27
set_option linter.unusedVariables false
set_option maxRecDepth 10000
set_option maxHeartbeats 8000000
namespace Go.Proofs.YtkhnponakhabdaaGreatDoor
open Go Go.RowKit
theorem w_spec_HouseLine {w G A0 B0 A1 B1 A2 B2 B3 A4 B4 p1 r} (h : spec_HouseLineS B0 B1 B2 B3 B4 p1 = some r) (C0 : Has G ty12 A0 B0) (C1 : Has G tI A1 B1) (C2 : Has G tI A2 B2) (C4 : Has G ty14 A4 B4) (H : Ctx w G) : Calls Tryz.prog 16 #[.agg #[A0, A1, A2, iV B3, A4], strV p1] w fun e w' => ∃ (v1 : Value) (v2 : Value) (v3 : Value) (v4 : Value), e = .returned (.tuple #[.agg #[v1, v2, v3, iV r.1.2.2.2.1, v4], strV r.2]) ∧ Holds M0 w w' [.sl 70 ty12 v1 r.1.1, .sl 3 tI v2 r.1.2.1, .sl 3 tI v3 r.1.2.2.1, .sl 38 ty14 v4 r.1.2.2.2.2] G := by
 refine F0 146 H Tryz.func16 q fun H => ?_
 refine C <| Z <| WL_box (cs := [A0, A1, A2, iV B3, A4]) H q q q q fun b1 w2 H3 => zq (cs := [nS, nS, nS, iV 0, nS]) H3 z27 q q q fun b5 w6 H7 => qa q <| B <| C <| C <| zk <| eA H7.p1 us27 uo27 il27 q <| O h fun eH cx h => qc q c11 H7 (fun _ => w_spec_HouseValid cx (C0.c.c) (C1.c.c) (C2.c.c) (C4.c.c)) <| qi (qt_not q) q <| Qn H7 fun a ha eJ br => X <| S1 ha ?_
 refine Yh q h (fun h => ?_) (fun h => ?_)
 ·cases h
  exact rR <| qi (qt_build (args := []) (css := []) (cells := #[nS, nS, nS, iV 0, nS]) q trivial (by kernel_rfl)) q <| zl (cs' := [nS, nS, nS, iV 0, nS]) br q il27 q q q q q fun eK bP => qa q <| B <| W fun a ha => have cy := R bP.p0; have cz := bP.nS 70 ty12; have cA := cz.nS 3 tI; have cB := cA.nS 3 tI; have cC := cB.nS 38 ty14; m (retct q ha q q (run_loadVar_bx (cs := [nS, nS, nS, iV 0, nS]) us27 uo27 il27 cy) ⟨(nS), (nS), (nS), (nS), q, cC.q4.q4.p1.p2.p3⟩)
 refine y <| rR <| qm q <| O h fun ab cE h => U0 q c47 (w_spec_ReadDeed cE br.ctx) fun eL cF => have cG := br.cN0 [] cF; qm q <| qi (zv q q) q <| qi (zv q q) q <| zq (cs := [iV 0, iV 0, iV 0, iV 0]) cG z52 q q q fun aj eM cH => zl (cs' := [iV ab.1.1, iV ab.1.2.1, iV ab.1.2.2.1, iV ab.1.2.2.2]) cH q il52 q q q q q fun eN bQ => qa q <| rN <| qm q <| O h fun ak cI h => U1 q c48 (w_spec_l1Cut cI bQ.ctx) fun al eO cJ => have bs := bQ.cN1 [] cJ; qa q <| rN <| eA bs.p3 us27 uo27 il27 q <| O h fun aa cK h => U4 q c33 (w_spec_l7Copy cK (C0.c.c.c.c) (C1.c.c.c.c) (C2.c.c.c.c) (C4.c.c.c.c) bs.ctx) fun ad ae af ag eP cL => have cM := bs.cN4 [] cL; zq (cs := [nS, nS, nS, iV 0, nS]) cM z27 q q q fun am eQ aP => zl (cs' := [ad, ae, af, iV aa.2.2.2.1, ag]) aP q il27 q (T (aP.ctx.sliceOne hS1) (T (aP.ctx.sliceOne hS2) (T (aP.ctx.sliceOne hS3) (T q (T (aP.ctx.sliceOne hS4) q))))) q q q fun eR aH => ?_
 refine B <| C <| zk <| qm q <| qz aH.ctx hS5 u28 q <| qi (qt_eql q q) q <| qm q <| O h fun bl ax h => ?_
 refine Ga (res := bl) 8 (if_f · ax) (fun av eT cN => ?_) ?_
 ·exact have ax := if_t av ax; jm av q <| jm av q <| jz aH.ctx hS5 u28 av q <| ji (qt_sub q q) av q <| O ax fun eU bR ax => je aH hS5 bR u28 i9 av q fun _ _ cO => jS u9 cO av q <| O ax fun eZ cP ax => jc av q c49 aH (fun _ => w_spec_l1Read cP) <| ji (qt_geq q q) av q <| cN 8 q q q ax
 refine qa q <| Qn aH fun a ha e0 ah => X <| S1 ha <| C <| g <| rR <| qm q <| qa q <| B ?_
 refine Yh q h (fun h => ?_) (fun h => ?_)
 ·refine rR <| eA ah.p8 us27 uo27 il27 q <| eA ah.p6 us52 uo52 il52 q <| O h fun aQ cQ h => U4 q c50 (w_spec_HouseDo cQ (C0.c.c.c.c.c.c.c.c.c) (C1.c.c.c.c.c.c.c.c.c) (C2.c.c.c.c.c.c.c.c.c) (C4.c.c.c.c.c.c.c.c.c) ah.ctx) fun aD aE aF aG e1 cR => have cS := ah.cN4 [] cR; qm q <| qi (zv q q) q <| qi (zv q q) q <| zq (cs := [nS, nS, nS, iV 0, nS]) cS z27 q q q fun e2 e3 aR => zl (cs' := [aD, aE, aF, iV aQ.1.2.2.2.1, aG]) aR q il27 q (T (aR.ctx.sliceOne hS1) (T (aR.ctx.sliceOne hS2) (T (aR.ctx.sliceOne hS3) (T q (T (aR.ctx.sliceOne hS4) q))))) q q q fun e4 bm => qa q <| B <| C <| rR <| qm q <| qi (qt_not q) q <| B ?_
  refine Yh q h (fun h => ?_) (fun h => ?_)
  ·cases h
   exact rR <| eA bm.p0 us27 uo27 il27 q <| have aS := bm.p12; zl (cs' := [aD, aE, aF, iV aQ.1.2.2.2.1, aG]) aS q il27 q (T (aS.ctx.sliceOne hS2) (T (aS.ctx.sliceOne hS3) (T (aS.ctx.sliceOne hS4) (T q (T (aS.ctx.sliceOne hS5) q))))) q q q fun e5 bS => qa q <| B <| W fun a ha => have cT := R bS.p0; m (zj (m (retct q ha q q (run_loadVar_bx (cs := [aD, aE, aF, iV aQ.1.2.2.2.1, aG]) us27 uo27 il27 cT) ⟨aD, aE, aF, aG, q, bS.q0.q0.q4.q4.q4.q4.q4.q4.q4.q4.p3.p3.p3.p3⟩)))
  cases h
  exact y <| rR <| eA bm.p0 us27 uo27 il27 q <| have aT := bm.p12; zl (cs' := [aD, aE, aF, iV aQ.1.2.2.2.1, aG]) aT q il27 q (T (aT.ctx.sliceOne hS2) (T (aT.ctx.sliceOne hS3) (T (aT.ctx.sliceOne hS4) (T q (T (aT.ctx.sliceOne hS5) q))))) q q q fun e6 bT => qa q <| B <| W fun a ha => have cV := R bT.p0; zj (m (retct q ha q q (run_loadVar_bx (cs := [aD, aE, aF, iV aQ.1.2.2.2.1, aG]) us27 uo27 il27 cV) ⟨aD, aE, aF, aG, q, bT.q0.q0.q4.q4.q4.q4.q4.q4.q4.q4.p3.p3.p3.p3⟩))
 refine rR <| qm q <| qi (qt_seql q q) q <| qa q <| B ?_
 refine Yh q h (fun h => ?_) (fun h => ?_)
 ·refine C <| O h fun cX bU h => O h fun ao bt h => ?_
  refine WP_join (M := fun a w2 => ∃ bu aI aJ aK aL, Fr a 146 [(4, pB b5), (13, pB bu)] ∧ Holds M0 w w2 [.bx b5 27 [nS, nS, nS, iV 0, nS], .bx bu 27 [aI, aJ, aK, iV ao.1.2.2.2.1, aL], .sl 70 ty12 aI ao.1.1, .sl 3 tI aJ ao.1.2.1, .sl 3 tI aK ao.1.2.2.1, .sl 38 ty14 aL ao.1.2.2.2.2] G) ?_ ?_
  ·refine WP_ordersT (fun w1 w2 => Chg M0 w1 w2) 9 (by kernel_rfl) fun bv cY => have bV := ah.grow cY; ?_
   have bw : Ctx bv ([] ++ ([.bx am 27 [ad, ae, af, iV aa.2.2.2.1, ag], .sl 70 ty12 ad aa.1, .sl 3 tI ae aa.2.1, .sl 3 tI af aa.2.2.1, .sl 38 ty14 ag aa.2.2.2.2, .sl 9 .str al ak, .bx aj 52 [iV ab.1.1, iV ab.1.2.1, iV ab.1.2.2.1, iV ab.1.2.2.2], .bx b5 27 [nS, nS, nS, iV 0, nS], .bx b1 27 [A0, A1, A2, iV B3, A4]] ++ G)) := bV.ctx
   have cZ : Holds _ bv bv [] ([.bx am 27 [ad, ae, af, iV aa.2.2.2.1, ag], .sl 70 ty12 ad aa.1, .sl 3 tI ae aa.2.1, .sl 3 tI af aa.2.2.1, .sl 38 ty14 ag aa.2.2.2.2, .sl 9 .str al ak, .bx aj 52 [iV ab.1.1, iV ab.1.2.1, iV ab.1.2.2.1, iV ab.1.2.2.2], .bx b5 27 [nS, nS, nS, iV 0, nS], .bx b1 27 [A0, A1, A2, iV B3, A4]] ++ G) := zb (Rs := []) bw
   refine have Hc := cZ; have c0 := HasB.bx (HasB.c (HasB.c (HasB.c (HasB.c (HasB.c (HasB.c (HasB.c (HasB.c (HasB.hd))))))))) Hc.ctx; XT (i := 0) q (by kernel_rfl) q Hc.chg q (qs_agg (cs := [A0, A1, A2, iV B3, A4]) us27 uo27 il27 q (fun j z hj => by rw [Nat.zero_add]; exact c0.cell hj) Hc.chg (Ctx.outB bw (HasB.c (HasB.c (HasB.c (HasB.c (HasB.c (HasB.c (HasB.c (HasB.c (HasB.hd))))))))))) q q ?_
   change XC _ _ _ _ _ _ _ _ ((57, .agg #[A0, A1, A2, iV B3, A4]) :: _) _
   refine have c1 := HasB.bx (HasB.c (HasB.c (HasB.c (HasB.c (HasB.c (HasB.c (HasB.c (HasB.c (HasB.hd))))))))) Hc.ctx; XT (i := 1) q (by kernel_rfl) q Hc.chg q (qs_agg (cs := [A0, A1, A2, iV B3, A4]) us27 uo27 il27 q (fun j z hj => by rw [Nat.zero_add]; exact c1.cell hj) Hc.chg (Ctx.outB bw (HasB.c (HasB.c (HasB.c (HasB.c (HasB.c (HasB.c (HasB.c (HasB.c (HasB.hd))))))))))) q q ?_
   change XC _ _ _ _ _ _ _ _ ((58, .agg #[A0, A1, A2, iV B3, A4]) :: _) _
   repeat' first
    | refine XDo 2 q <| U1 q c52 (w_spec_EndDeeds bU (C0.c.c.c.c.c.c.c.c.c) (C1.c.c.c.c.c.c.c.c.c) (C2.c.c.c.c.c.c.c.c.c) (C4.c.c.c.c.c.c.c.c.c) Hc.ctx) fun bW _ HK => ?_; have Hc := Hc.cN1 [] HK; refine XN Hc.chg ?_
    | refine XDo 2 q <| U1 q c52 (w_spec_EndDeeds bU (C0.c.c.c.c.c.c.c.c.c.c) (C1.c.c.c.c.c.c.c.c.c.c) (C2.c.c.c.c.c.c.c.c.c.c) (C4.c.c.c.c.c.c.c.c.c.c) Hc.ctx) fun bW _ HK => ?_; have Hc := Hc.cN1 [] HK; refine XN Hc.chg ?_
    | refine XDo 3 q <| U4 q c51 (w_spec_HouseRun bt (C0.c.c.c.c.c.c.c.c.c.c) (C1.c.c.c.c.c.c.c.c.c.c) (C2.c.c.c.c.c.c.c.c.c.c) (C4.c.c.c.c.c.c.c.c.c.c) hS0 Hc.ctx) fun ay az aA aB _ HK => ?_; have Hc := Hc.cN4 [] HK; refine XN Hc.chg <| XQ (i := 4) q (by kernel_rfl) q Hc.chg q (fun _ => qt_move q) q q <| XQ (i := 5) q (by kernel_rfl) q Hc.chg q (fun _ => zv q q) q q <| XQ (i := 6) q (by kernel_rfl) q Hc.chg q (fun _ => zv q q) q q ?_
    | refine XDo 3 q <| U4 q c51 (w_spec_HouseRun bt (C0.c.c.c.c.c.c.c.c.c.c.c) (C1.c.c.c.c.c.c.c.c.c.c.c) (C2.c.c.c.c.c.c.c.c.c.c.c) (C4.c.c.c.c.c.c.c.c.c.c.c) hS1 Hc.ctx) fun ay az aA aB _ HK => ?_; have Hc := Hc.cN4 [] HK; refine XN Hc.chg <| XQ (i := 4) q (by kernel_rfl) q Hc.chg q (fun _ => qt_move q) q q <| XQ (i := 5) q (by kernel_rfl) q Hc.chg q (fun _ => zv q q) q q <| XQ (i := 6) q (by kernel_rfl) q Hc.chg q (fun _ => zv q q) q q ?_
    | refine XDo 3 q <| U4 q c51 (w_spec_HouseRun bt (C0.c.c.c.c.c.c.c.c.c.c.c) (C1.c.c.c.c.c.c.c.c.c.c.c) (C2.c.c.c.c.c.c.c.c.c.c.c) (C4.c.c.c.c.c.c.c.c.c.c.c) hS0 Hc.ctx) fun ay az aA aB _ HK => ?_; have Hc := Hc.cN4 [] HK; refine XN Hc.chg <| XQ (i := 4) q (by kernel_rfl) q Hc.chg q (fun _ => qt_move q) q q <| XQ (i := 5) q (by kernel_rfl) q Hc.chg q (fun _ => zv q q) q q <| XQ (i := 6) q (by kernel_rfl) q Hc.chg q (fun _ => zv q q) q q ?_
    | refine XDo 7 q ?_; refine zq (cs := [nS, nS, nS, iV 0, nS]) Hc z27 q q q (fun bX _ Hc => ?_); refine XN Hc.chg ?_
    | refine XDo 8 q ?_; refine zl (cs' := [ay, az, aA, iV ao.1.2.2.2.1, aB]) Hc q il27 q (T (Hc.ctx.sliceOne hS1) (T (Hc.ctx.sliceOne hS2) (T (Hc.ctx.sliceOne hS3) (T q (T (Hc.ctx.sliceOne hS4) q))))) q q q (fun _ Hc => ?_); refine XN Hc.chg ?_
    | refine XDo 8 q ?_; have Hc := Hc.p4; refine zl (cs' := [ay, az, aA, iV ao.1.2.2.2.1, aB]) Hc q il27 q (T (Hc.ctx.sliceOne hS1) (T (Hc.ctx.sliceOne hS2) (T (Hc.ctx.sliceOne hS3) (T q (T (Hc.ctx.sliceOne hS4) q))))) q q q (fun _ Hc => ?_); refine XN Hc.chg ?_
    | refine XDo 8 q ?_; have Hc := Hc.p5; refine zl (cs' := [ay, az, aA, iV ao.1.2.2.2.1, aB]) Hc q il27 q (T (Hc.ctx.sliceOne hS1) (T (Hc.ctx.sliceOne hS2) (T (Hc.ctx.sliceOne hS3) (T q (T (Hc.ctx.sliceOne hS4) q))))) q q q (fun _ Hc => ?_); refine XN Hc.chg ?_
    | have Hc : Holds _ _ _ [.bx bX 27 [ay, az, aA, iV ao.1.2.2.2.1, aB], .sl 70 ty12 ay ao.1.1, .sl 3 tI az ao.1.2.1, .sl 3 tI aA ao.1.2.2.1, .sl 38 ty14 aB ao.1.2.2.2.2, .sl 52 ty10 bW cX, .bx am 27 [ad, ae, af, iV aa.2.2.2.1, ag], .sl 70 ty12 ad aa.1, .sl 3 tI ae aa.2.1, .sl 3 tI af aa.2.2.1, .sl 38 ty14 ag aa.2.2.2.2, .sl 9 .str al ak, .bx aj 52 [iV ab.1.1, iV ab.1.2.1, iV ab.1.2.2.1, iV ab.1.2.2.2], .bx b5 27 [nS, nS, nS, iV 0, nS], .bx b1 27 [A0, A1, A2, iV B3, A4]] G := bV.calledN (Rs := []) Hc; refine XDo 9 q <| qa q <| XE q ?_
    | refine XV [2, 7] (by decide +kernel) q (allc ?_ (allc ?_ alln))
    | refine XV [3, 7] (by decide +kernel) q (allc ?_ (allc ?_ alln))
    | refine XV [7] (by decide +kernel) q (allc ?_ alln)
    | refine XV [8] (by decide +kernel) q (allc ?_ alln)
    | refine XV [9] (by decide +kernel) q (allc ?_ alln)
    | refine XV [3] (by decide +kernel) q (allc ?_ alln)
    | refine XV [2] (by decide +kernel) q (allc ?_ alln)
    | refine XC_done (by decide +kernel) (fun a ha => ?_); have Hc := (((((((((((((((Hc.q5).q5).q5).q5).q5).q5).q5).q5).q6).p4).p4).p4).p4).p4).p5); exact ⟨bX, ay, az, aA, aB, ha.s, Hc⟩
  rintro a e7 ⟨bu, aI, aJ, aK, aL, ha, aM⟩
  cases h
  exact S1 ha <| rR <| eA aM.p1 us27 uo27 il27 q <| zl (cs' := [aI, aJ, aK, iV ao.1.2.2.2.1, aL]) aM q il27 q (T (aM.ctx.sliceOne hS2) (T (aM.ctx.sliceOne hS3) (T (aM.ctx.sliceOne hS4) (T q (T (aM.ctx.sliceOne hS5) q))))) q q q fun e8 bY => qa q <| B <| W fun a ha => have c2 := R bY.p0; zj (m (retct q ha q q (run_loadVar_bx (cs := [aI, aJ, aK, iV ao.1.2.2.2.1, aL]) us27 uo27 il27 c2) ⟨aI, aJ, aK, aL, q, bY.q0.q0.p3.p3.p3.p3⟩))
 refine rR <| qm q <| qi (qt_seql q q) q <| qa q <| B ?_
 refine Yh q h (fun h => ?_) (fun h => ?_)
 ·refine C <| O h fun c4 c5 h => ?_
  refine WP_join (M := fun a w2 => ∃ aU aV aW aX, Fr a 146 [(4, pB b5), (5, strV c4)] ∧ Holds M0 w w2 [.bx b5 27 [aU, aV, aW, iV aa.2.2.2.1, aX], .sl 70 ty12 aU aa.1, .sl 3 tI aV aa.2.1, .sl 3 tI aW aa.2.2.1, .sl 38 ty14 aX aa.2.2.2.2] G) ?_ ?_
  ·refine WP_ordersT (fun w1 w2 => Chg (([.bx b5 27 [nS, nS, nS, iV 0, nS]] : List Res).flatMap Res.own) w1 w2) 5 (by kernel_rfl) fun bz da => have db := ah.grow da; have bZ := db.p7; ?_
   have bA : Ctx bz ([.bx b5 27 [nS, nS, nS, iV 0, nS]] ++ ([.bx am 27 [ad, ae, af, iV aa.2.2.2.1, ag], .sl 70 ty12 ad aa.1, .sl 3 tI ae aa.2.1, .sl 3 tI af aa.2.2.1, .sl 38 ty14 ag aa.2.2.2.2, .sl 9 .str al ak, .bx aj 52 [iV ab.1.1, iV ab.1.2.1, iV ab.1.2.2.1, iV ab.1.2.2.2], .bx b1 27 [A0, A1, A2, iV B3, A4]] ++ G)) := bZ.ctx
   have aw : Holds _ bz bz [.bx b5 27 [nS, nS, nS, iV 0, nS]] ([.bx am 27 [ad, ae, af, iV aa.2.2.2.1, ag], .sl 70 ty12 ad aa.1, .sl 3 tI ae aa.2.1, .sl 3 tI af aa.2.2.1, .sl 38 ty14 ag aa.2.2.2.2, .sl 9 .str al ak, .bx aj 52 [iV ab.1.1, iV ab.1.2.1, iV ab.1.2.2.1, iV ab.1.2.2.2], .bx b1 27 [A0, A1, A2, iV B3, A4]] ++ G) := zb (Rs := [.bx b5 27 [nS, nS, nS, iV 0, nS]]) bA
   refine have dc := HasB.bx (HasB.c (HasB.hd)) aw.ctx; XT (i := 0) q (by kernel_rfl) q aw.chg q (qs_agg (cs := [ad, ae, af, iV aa.2.2.2.1, ag]) us27 uo27 il27 q (fun j z hj => by rw [Nat.zero_add]; exact dc.cell hj) aw.chg (Ctx.outB bA (HasB.hd))) q q ?_
   change XC _ _ _ _ _ _ _ _ ((67, .agg #[ad, ae, af, iV aa.2.2.2.1, ag]) :: _) _
   exact XQ (i := 1) q (by kernel_rfl) q aw.chg q (fun _ => qt_fieldAddr uf27 fi27_2 nz24 q) q q <| have dd := HasB.bx (HasB.c (HasB.c (HasB.c (HasB.c (HasB.c (HasB.c (HasB.c (HasB.c (HasB.hd))))))))) aw.ctx; XT (i := 2) q (by kernel_rfl) q aw.chg q (qs_cell u24 q q (dd.cell (i := 2) q) aw.chg (Ctx.outB bA (HasB.c (HasB.c (HasB.c (HasB.c (HasB.c (HasB.c (HasB.c (HasB.hd)))))))))) q q <| X1 3 (by kernel_rfl) q <| U0 q c53 (w_spec_l7List c5 (C2.c.c.c.c.c.c.c.c.c) aw.ctx) fun e9 de => have aN := aw.cN0 [] de; XN aN.chg <| X1 4 (by kernel_rfl) q <| zl (cs' := [ad, ae, af, iV aa.2.2.2.1, ag]) aN q il27 q (T (aN.ctx.sliceOne hS2) (T (aN.ctx.sliceOne hS3) (T (aN.ctx.sliceOne hS4) (T q (T (aN.ctx.sliceOne hS5) q))))) q q q fun fa b0 => XN b0.chg <| have df := bZ.cN1 [_] b0; X1 5 (by kernel_rfl) q <| qa q <| XE q <| XC_done (by kernel_rfl) fun a ha => ⟨ad, ae, af, ag, ha.s, df.q1.q5.q5.q5.p4.p4.p4.p4.p4⟩
  rintro a fb ⟨aU, aV, aW, aX, ha, b4⟩
  cases h
  exact S1 ha <| W fun a ha => have dh := R b4.p0; zj (m (retct q ha q q (run_loadVar_bx (cs := [aU, aV, aW, iV aa.2.2.2.1, aX]) us27 uo27 il27 dh) ⟨aU, aV, aW, aX, q, b4.q0.p3.p3.p3.p3⟩))
 refine rR <| qm q <| qi (qt_seql q q) q <| qa q <| B ?_
 refine Yh q h (fun h => ?_) (fun h => ?_)
 ·refine C <| O h fun b6 dj h => ?_
  refine WP_join (M := fun a w2 => ∃ aY aZ a0 a1, Fr a 146 [(4, pB b5), (5, strV b6)] ∧ Holds M0 w w2 [.bx b5 27 [aY, aZ, a0, iV aa.2.2.2.1, a1], .sl 70 ty12 aY aa.1, .sl 3 tI aZ aa.2.1, .sl 3 tI a0 aa.2.2.1, .sl 38 ty14 a1 aa.2.2.2.2] G) ?_ ?_
  ·refine WP_ordersT (fun w1 w2 => Chg (([.bx b5 27 [nS, nS, nS, iV 0, nS]] : List Res).flatMap Res.own) w1 w2) 5 (by kernel_rfl) fun bB dk => have dl := ah.grow dk; have b7 := dl.p7; ?_
   have bC : Ctx bB ([.bx b5 27 [nS, nS, nS, iV 0, nS]] ++ ([.bx am 27 [ad, ae, af, iV aa.2.2.2.1, ag], .sl 70 ty12 ad aa.1, .sl 3 tI ae aa.2.1, .sl 3 tI af aa.2.2.1, .sl 38 ty14 ag aa.2.2.2.2, .sl 9 .str al ak, .bx aj 52 [iV ab.1.1, iV ab.1.2.1, iV ab.1.2.2.1, iV ab.1.2.2.2], .bx b1 27 [A0, A1, A2, iV B3, A4]] ++ G)) := b7.ctx
   have dm : Holds _ bB bB [.bx b5 27 [nS, nS, nS, iV 0, nS]] ([.bx am 27 [ad, ae, af, iV aa.2.2.2.1, ag], .sl 70 ty12 ad aa.1, .sl 3 tI ae aa.2.1, .sl 3 tI af aa.2.2.1, .sl 38 ty14 ag aa.2.2.2.2, .sl 9 .str al ak, .bx aj 52 [iV ab.1.1, iV ab.1.2.1, iV ab.1.2.2.1, iV ab.1.2.2.2], .bx b1 27 [A0, A1, A2, iV B3, A4]] ++ G) := zb (Rs := [.bx b5 27 [nS, nS, nS, iV 0, nS]]) bC
   refine have Hc := dm; have dn := HasB.bx (HasB.c (HasB.hd)) Hc.ctx; XT (i := 0) q (by kernel_rfl) q Hc.chg q (qs_agg (cs := [ad, ae, af, iV aa.2.2.2.1, ag]) us27 uo27 il27 q (fun j z hj => by rw [Nat.zero_add]; exact dn.cell hj) Hc.chg (Ctx.outB bC (HasB.hd))) q q ?_
   change XC _ _ _ _ _ _ _ _ ((74, .agg #[ad, ae, af, iV aa.2.2.2.1, ag]) :: _) _
   refine XQ (i := 1) q (by kernel_rfl) q Hc.chg q (fun _ => qt_fieldAddr uf27 fi27_3 nz3 q) q q <| have dq := HasB.bx (HasB.c (HasB.c (HasB.c (HasB.c (HasB.c (HasB.c (HasB.c (HasB.c (HasB.hd))))))))) Hc.ctx; XT (i := 2) q (by kernel_rfl) q Hc.chg q (qs_cell u3 q q (dq.cell (i := 3) q) Hc.chg (Ctx.outB bC (HasB.c (HasB.c (HasB.c (HasB.c (HasB.c (HasB.c (HasB.c (HasB.hd)))))))))) q q ?_
   repeat' first
    | refine XDo 3 q <| zd q q c54 (w_spec_l1Number _ _ B3 b6 dj Hc.ctx) (by rfl) ?_; rintro _ _ ⟨rfl, HK⟩; refine ⟨_, q, ?_⟩; have Hc := Hc.cN0 [] HK; refine XN Hc.chg ?_
    | refine XDo 4 q ?_; refine zl (cs' := [ad, ae, af, iV aa.2.2.2.1, ag]) Hc q il27 q (T (Hc.ctx.sliceOne hS2) (T (Hc.ctx.sliceOne hS3) (T (Hc.ctx.sliceOne hS4) (T q (T (Hc.ctx.sliceOne hS5) q))))) q q q (fun _ Hc => ?_); refine XN Hc.chg ?_
    | have Hc := b7.cN1 [_] Hc; refine XDo 5 q <| qa q <| XE q ?_
    | refine XV [3] (by decide +kernel) q (allc ?_ alln)
    | refine XV [4] (by decide +kernel) q (allc ?_ alln)
    | refine XV [5] (by decide +kernel) q (allc ?_ alln)
    | refine XC_done (by decide +kernel) (fun a ha => ?_); have Hc := (((((((((Hc.q1).q5).q5).q5).p4).p4).p4).p4).p4); exact ⟨ad, ae, af, ag, ha.s, Hc⟩
  rintro a fc ⟨aY, aZ, a0, a1, ha, b8⟩
  cases h
  exact S1 ha <| W fun a ha => have dr := R b8.p0; zj (m (retct q ha q q (run_loadVar_bx (cs := [aY, aZ, a0, iV aa.2.2.2.1, a1]) us27 uo27 il27 dr) ⟨aY, aZ, a0, a1, q, b8.q0.p3.p3.p3.p3⟩))
 refine rR <| qm q <| qi (qt_seql q q) q <| qa q <| B ?_
 refine Yh q h (fun h => ?_) (fun h => ?_)
 ·refine C <| O h fun b9 dt h => ?_
  refine WP_join (M := fun a w2 => ∃ a2 a3 a4 a5, Fr a 146 [(4, pB b5), (5, strV b9)] ∧ Holds M0 w w2 [.bx b5 27 [a2, a3, a4, iV aa.2.2.2.1, a5], .sl 70 ty12 a2 aa.1, .sl 3 tI a3 aa.2.1, .sl 3 tI a4 aa.2.2.1, .sl 38 ty14 a5 aa.2.2.2.2] G) ?_ ?_
  ·refine WP_ordersT (fun w1 w2 => Chg (([.bx b5 27 [nS, nS, nS, iV 0, nS]] : List Res).flatMap Res.own) w1 w2) 6 (by kernel_rfl) fun bD du => have dv := ah.grow du; have ca := dv.p7; ?_
   have bE : Ctx bD ([.bx b5 27 [nS, nS, nS, iV 0, nS]] ++ ([.bx am 27 [ad, ae, af, iV aa.2.2.2.1, ag], .sl 70 ty12 ad aa.1, .sl 3 tI ae aa.2.1, .sl 3 tI af aa.2.2.1, .sl 38 ty14 ag aa.2.2.2.2, .sl 9 .str al ak, .bx aj 52 [iV ab.1.1, iV ab.1.2.1, iV ab.1.2.2.1, iV ab.1.2.2.2], .bx b1 27 [A0, A1, A2, iV B3, A4]] ++ G)) := ca.ctx
   have dw : Holds _ bD bD [.bx b5 27 [nS, nS, nS, iV 0, nS]] ([.bx am 27 [ad, ae, af, iV aa.2.2.2.1, ag], .sl 70 ty12 ad aa.1, .sl 3 tI ae aa.2.1, .sl 3 tI af aa.2.2.1, .sl 38 ty14 ag aa.2.2.2.2, .sl 9 .str al ak, .bx aj 52 [iV ab.1.1, iV ab.1.2.1, iV ab.1.2.2.1, iV ab.1.2.2.2], .bx b1 27 [A0, A1, A2, iV B3, A4]] ++ G) := zb (Rs := [.bx b5 27 [nS, nS, nS, iV 0, nS]]) bE
   refine have Hc := dw; have dx := HasB.bx (HasB.c (HasB.hd)) Hc.ctx; XT (i := 0) q (by kernel_rfl) q Hc.chg q (qs_agg (cs := [ad, ae, af, iV aa.2.2.2.1, ag]) us27 uo27 il27 q (fun j z hj => by rw [Nat.zero_add]; exact dx.cell hj) Hc.chg (Ctx.outB bE (HasB.hd))) q q ?_
   change XC _ _ _ _ _ _ _ _ ((81, .agg #[ad, ae, af, iV aa.2.2.2.1, ag]) :: _) _
   refine XQ (i := 1) q (by kernel_rfl) q Hc.chg q (fun _ => qt_fieldAddr uf27 fi27_4 nz25 q) q q <| have dy := HasB.bx (HasB.c (HasB.c (HasB.c (HasB.c (HasB.c (HasB.c (HasB.c (HasB.c (HasB.hd))))))))) Hc.ctx; XT (i := 2) q (by kernel_rfl) q Hc.chg q (qs_cell u25 q q (dy.cell (i := 4) q) Hc.chg (Ctx.outB bE (HasB.c (HasB.c (HasB.c (HasB.c (HasB.c (HasB.c (HasB.c (HasB.hd)))))))))) q q <| XT (i := 3) q (by kernel_rfl) q Hc.chg q (qs_len (t := ty14) Hc.ctx (C4.c.c.c.c.c.c.c.c.c) u25 q) q q ?_
   repeat' first
    | refine XDo 4 q <| zd q q c54 (w_spec_l1Number _ _ (List.length B4 : Int) b9 dt Hc.ctx) (by rfl) ?_; rintro _ _ ⟨rfl, HK⟩; refine ⟨_, q, ?_⟩; have Hc := Hc.cN0 [] HK; refine XN Hc.chg ?_
    | refine XDo 5 q ?_; refine zl (cs' := [ad, ae, af, iV aa.2.2.2.1, ag]) Hc q il27 q (T (Hc.ctx.sliceOne hS2) (T (Hc.ctx.sliceOne hS3) (T (Hc.ctx.sliceOne hS4) (T q (T (Hc.ctx.sliceOne hS5) q))))) q q q (fun _ Hc => ?_); refine XN Hc.chg ?_
    | have Hc := ca.cN1 [_] Hc; refine XDo 6 q <| qa q <| XE q ?_
    | refine XV [4] (by decide +kernel) q (allc ?_ alln)
    | refine XV [5] (by decide +kernel) q (allc ?_ alln)
    | refine XV [6] (by decide +kernel) q (allc ?_ alln)
    | refine XC_done (by decide +kernel) (fun a ha => ?_); have Hc := (((((((((Hc.q1).q5).q5).q5).p4).p4).p4).p4).p4); exact ⟨ad, ae, af, ag, ha.s, Hc⟩
  rintro a fd ⟨a2, a3, a4, a5, ha, cb⟩
  cases h
  exact S1 ha <| W fun a ha => have dz := R cb.p0; zj (m (retct q ha q q (run_loadVar_bx (cs := [a2, a3, a4, iV aa.2.2.2.1, a5]) us27 uo27 il27 dz) ⟨a2, a3, a4, a5, q, cb.q0.p3.p3.p3.p3⟩))
 refine rR <| qm q <| qi (qt_seql q q) q <| qa q <| B ?_
 refine Yh q h (fun h => ?_) (fun h => ?_)
 ·refine C <| O h fun fe dB h => O h fun dC dD h => O h fun cc dE h => ?_
  refine WP_join (M := fun a w2 => ∃ a6 a7 a8 a9, Fr a 146 [(4, pB b5), (5, strV cc)] ∧ Holds M0 w w2 [.bx b5 27 [a6, a7, a8, iV aa.2.2.2.1, a9], .sl 70 ty12 a6 aa.1, .sl 3 tI a7 aa.2.1, .sl 3 tI a8 aa.2.2.1, .sl 38 ty14 a9 aa.2.2.2.2] G) ?_ ?_
  ·refine WP_ordersT (fun w1 w2 => Chg (([.bx b5 27 [nS, nS, nS, iV 0, nS]] : List Res).flatMap Res.own) w1 w2) 6 (by kernel_rfl) fun bF dF => have dG := ah.grow dF; have cd := dG.p7; ?_
   have bG : Ctx bF ([.bx b5 27 [nS, nS, nS, iV 0, nS]] ++ ([.bx am 27 [ad, ae, af, iV aa.2.2.2.1, ag], .sl 70 ty12 ad aa.1, .sl 3 tI ae aa.2.1, .sl 3 tI af aa.2.2.1, .sl 38 ty14 ag aa.2.2.2.2, .sl 9 .str al ak, .bx aj 52 [iV ab.1.1, iV ab.1.2.1, iV ab.1.2.2.1, iV ab.1.2.2.2], .bx b1 27 [A0, A1, A2, iV B3, A4]] ++ G)) := cd.ctx
   have dH : Holds _ bF bF [.bx b5 27 [nS, nS, nS, iV 0, nS]] ([.bx am 27 [ad, ae, af, iV aa.2.2.2.1, ag], .sl 70 ty12 ad aa.1, .sl 3 tI ae aa.2.1, .sl 3 tI af aa.2.2.1, .sl 38 ty14 ag aa.2.2.2.2, .sl 9 .str al ak, .bx aj 52 [iV ab.1.1, iV ab.1.2.1, iV ab.1.2.2.1, iV ab.1.2.2.2], .bx b1 27 [A0, A1, A2, iV B3, A4]] ++ G) := zb (Rs := [.bx b5 27 [nS, nS, nS, iV 0, nS]]) bG
   refine have Hc := dH; have dI := HasB.bx (HasB.c (HasB.hd)) Hc.ctx; XT (i := 0) q (by kernel_rfl) q Hc.chg q (qs_agg (cs := [ad, ae, af, iV aa.2.2.2.1, ag]) us27 uo27 il27 q (fun j z hj => by rw [Nat.zero_add]; exact dI.cell hj) Hc.chg (Ctx.outB bG (HasB.hd))) q q ?_
   change XC _ _ _ _ _ _ _ _ ((89, .agg #[ad, ae, af, iV aa.2.2.2.1, ag]) :: _) _
   refine have dJ := HasB.bx (HasB.c (HasB.c (HasB.c (HasB.c (HasB.c (HasB.c (HasB.c (HasB.c (HasB.hd))))))))) Hc.ctx; XT (i := 1) q (by kernel_rfl) q Hc.chg q (qs_agg (cs := [A0, A1, A2, iV B3, A4]) us27 uo27 il27 q (fun j z hj => by rw [Nat.zero_add]; exact dJ.cell hj) Hc.chg (Ctx.outB bG (HasB.c (HasB.c (HasB.c (HasB.c (HasB.c (HasB.c (HasB.c (HasB.hd)))))))))) q q ?_
   change XC _ _ _ _ _ _ _ _ ((90, .agg #[A0, A1, A2, iV B3, A4]) :: _) _
   repeat' first
    | refine XDo 2 q <| U1 q c56 (w_spec_l7Tickets dB (C0.c.c.c.c.c.c.c.c.c) (C1.c.c.c.c.c.c.c.c.c) (C2.c.c.c.c.c.c.c.c.c) (C4.c.c.c.c.c.c.c.c.c) Hc.ctx) fun ff _ HK => ?_; have Hc := Hc.cN1 [] HK; refine XN Hc.chg ?_
    | refine XDo 3 q <| U0 q c55 (w_spec_WorkLeft dD hS0 Hc.ctx) fun _ HK => ?_; have Hc := Hc.cN0 [] HK; refine XN Hc.chg ?_
    | refine XDo 4 q <| zd q q c54 (w_spec_l1Number _ _ dC cc dE Hc.ctx) (by rfl) ?_; rintro _ _ ⟨rfl, HK⟩; refine ⟨_, q, ?_⟩; have Hc := Hc.cN0 [] HK; refine XN Hc.chg ?_
    | refine XDo 5 q ?_; have Hc := Hc.p1; refine zl (cs' := [ad, ae, af, iV aa.2.2.2.1, ag]) Hc q il27 q (T (Hc.ctx.sliceOne hS3) (T (Hc.ctx.sliceOne hS4) (T (Hc.ctx.sliceOne hS5) (T q (T (Hc.ctx.sliceOne hS6) q))))) q q q (fun _ Hc => ?_); refine XN Hc.chg ?_
    | have Hc := cd.cN2 [_] Hc; refine XDo 6 q <| qa q <| XE q ?_
    | refine XV [2] (by decide +kernel) q (allc ?_ alln)
    | refine XV [3] (by decide +kernel) q (allc ?_ alln)
    | refine XV [4] (by decide +kernel) q (allc ?_ alln)
    | refine XV [5] (by decide +kernel) q (allc ?_ alln)
    | refine XV [6] (by decide +kernel) q (allc ?_ alln)
    | refine XC_done (by decide +kernel) (fun a ha => ?_); have Hc := ((((((((((Hc.q1).q1).q5).q5).q5).p4).p4).p4).p4).p4); exact ⟨ad, ae, af, ag, ha.s, Hc⟩
  rintro a fg ⟨a6, a7, a8, a9, ha, ce⟩
  cases h
  exact S1 ha <| W fun a ha => have dK := R ce.p0; zj (m (retct q ha q q (run_loadVar_bx (cs := [a6, a7, a8, iV aa.2.2.2.1, a9]) us27 uo27 il27 dK) ⟨a6, a7, a8, a9, q, ce.q0.p3.p3.p3.p3⟩))
 refine C <| WP_quiet (by kernel_rfl) (by kernel_rfl) <| qm q <| O h fun dM cf h => qe ah hS5 cf u28 i9 q fun _ _ dN => eS u9 dN q <| qi (qt_seql q q) q <| qm q ?_
 refine Ga (res := ((dM == ([98, 105, 108, 108] : List UInt8)) && bl)) 1 an (fun cg fk dO => ?_) ?_
 ·exact jm cg q <| dO 1 q q q (ai cg)
 refine qm q <| O h fun dP ar h => ?_
 refine Ga (res := dP) 7 (if_f · ar) (fun aC fl dQ => ?_) ?_
 ·exact have ar := if_t aC ar; jA ah.p8 us27 uo27 il27 aC q <| jm aC q <| O ar fun fm ch ar => je ah hS5 ch u28 i9 aC q fun _ _ dR => jS u9 dR aC q <| O ar fun fq dS ar => jc aC q c49 ah (fun _ => w_spec_l1Read dS) <| O ar fun fr dT ar => jc aC q c57 ah (fun _ => w_spec_TableBill dT (C0.c.c.c.c.c.c.c.c.c) (C1.c.c.c.c.c.c.c.c.c) (C2.c.c.c.c.c.c.c.c.c) (C4.c.c.c.c.c.c.c.c.c)) <| ji (qt_lss q q) aC q <| dQ 7 q q q ar
 refine qa q <| Qn ah fun a ha fs au => X <| S1 ha ?_
 refine Yh q h (fun h => ?_) (fun h => ?_)
 ·cases h
  exact rR <| eA au.p0 us27 uo27 il27 q <| have ba := au.p7; zl (cs' := [ad, ae, af, iV aa.2.2.2.1, ag]) ba q il27 q (T (ba.ctx.sliceOne hS2) (T (ba.ctx.sliceOne hS3) (T (ba.ctx.sliceOne hS4) (T q (T (ba.ctx.sliceOne hS5) q))))) q q q fun ft ci => qa q <| B <| W fun a ha => have dU := R ci.p0; zj (m (retct q ha q q (run_loadVar_bx (cs := [ad, ae, af, iV aa.2.2.2.1, ag]) us27 uo27 il27 dU) ⟨ad, ae, af, ag, q, ci.q0.q0.q4.q4.q4.p3.p3.p3.p3⟩))
 refine rR <| qm q <| O h fun dW cj h => qe au hS5 cj u28 i9 q fun _ _ dX => eS u9 dX q <| qi (qt_seql q q) q <| qm q ?_
 refine Ha (res := ((dW == ([98, 105, 108, 108] : List UInt8)) && bl)) 1 an (fun ck fx dY => ?_) ?_
 ·exact jm ck q <| dY 1 q q q (ai ck)
 refine qa q <| B ?_
 refine Yh q h (fun h => ?_) (fun h => ?_)
 ·refine C <| O h fun fy bn h => O h fun fz dZ h => O h fun d0 d1 h => O h fun cl d2 h => ?_
  refine WP_join (M := fun a w2 => ∃ bb bc bd be, Fr a 146 [(4, pB b5), (5, strV cl)] ∧ Holds M0 w w2 [.bx b5 27 [bb, bc, bd, iV aa.2.2.2.1, be], .sl 70 ty12 bb aa.1, .sl 3 tI bc aa.2.1, .sl 3 tI bd aa.2.2.1, .sl 38 ty14 be aa.2.2.2.2] G) ?_ ?_
  ·refine WP_ordersT (fun w1 w2 => Chg (([.bx b5 27 [nS, nS, nS, iV 0, nS]] : List Res).flatMap Res.own) w1 w2) 9 (by kernel_rfl) fun bH d3 => have d4 := au.grow d3; have cm := d4.p7; ?_
   have bo : Ctx bH ([.bx b5 27 [nS, nS, nS, iV 0, nS]] ++ ([.bx am 27 [ad, ae, af, iV aa.2.2.2.1, ag], .sl 70 ty12 ad aa.1, .sl 3 tI ae aa.2.1, .sl 3 tI af aa.2.2.1, .sl 38 ty14 ag aa.2.2.2.2, .sl 9 .str al ak, .bx aj 52 [iV ab.1.1, iV ab.1.2.1, iV ab.1.2.2.1, iV ab.1.2.2.2], .bx b1 27 [A0, A1, A2, iV B3, A4]] ++ G)) := cm.ctx
   have aq : Holds _ bH bH [.bx b5 27 [nS, nS, nS, iV 0, nS]] ([.bx am 27 [ad, ae, af, iV aa.2.2.2.1, ag], .sl 70 ty12 ad aa.1, .sl 3 tI ae aa.2.1, .sl 3 tI af aa.2.2.1, .sl 38 ty14 ag aa.2.2.2.2, .sl 9 .str al ak, .bx aj 52 [iV ab.1.1, iV ab.1.2.1, iV ab.1.2.2.1, iV ab.1.2.2.2], .bx b1 27 [A0, A1, A2, iV B3, A4]] ++ G) := zb (Rs := [.bx b5 27 [nS, nS, nS, iV 0, nS]]) bo
   refine have d5 := HasB.bx (HasB.c (HasB.hd)) aq.ctx; XT (i := 0) q (by kernel_rfl) q aq.chg q (qs_agg (cs := [ad, ae, af, iV aa.2.2.2.1, ag]) us27 uo27 il27 q (fun j z hj => by rw [Nat.zero_add]; exact d5.cell hj) aq.chg (Ctx.outB bo (HasB.hd))) q q ?_
   change XC _ _ _ _ _ _ _ _ ((120, .agg #[ad, ae, af, iV aa.2.2.2.1, ag]) :: _) _
   refine have d6 := HasB.bx (HasB.c (HasB.c (HasB.c (HasB.c (HasB.c (HasB.c (HasB.c (HasB.c (HasB.hd))))))))) aq.ctx; XT (i := 1) q (by kernel_rfl) q aq.chg q (qs_agg (cs := [A0, A1, A2, iV B3, A4]) us27 uo27 il27 q (fun j z hj => by rw [Nat.zero_add]; exact d6.cell hj) aq.chg (Ctx.outB bo (HasB.c (HasB.c (HasB.c (HasB.c (HasB.c (HasB.c (HasB.c (HasB.hd)))))))))) q q ?_
   change XC _ _ _ _ _ _ _ _ ((121, .agg #[A0, A1, A2, iV B3, A4]) :: _) _
   refine XQ (i := 2) q (by kernel_rfl) q aq.chg q (fun _ => qt_move q) q q ?_
   obtain ⟨fA, fB, fC, bI⟩ := Ctx.isAt aq.ctx hS6 bn
   refine XT (i := 3) q (by kernel_rfl) q aq.chg q (qs_index bn bI u28 i9 q q) q q ?_
   obtain ⟨fD, d7, fE⟩ := aq.at hS6 bn bI
   refine XT (i := 4) q (by kernel_rfl) q aq.chg q (qs_cell u9 q q (AtP.cStr d7) aq.chg (Ctx.outHas bo hS5 bn bI)) q q <| X1 5 (by kernel_rfl) q <| U0 q c49 (w_spec_l1Read dZ aq.ctx) fun fF d8 => have bJ := aq.cN0 [] d8; XN bJ.chg <| X1 6 (by kernel_rfl) q <| U0 q c57 (w_spec_TableBill d1 (C0.c.c.c.c.c.c.c.c.c) (C1.c.c.c.c.c.c.c.c.c) (C2.c.c.c.c.c.c.c.c.c) (C4.c.c.c.c.c.c.c.c.c) bJ.ctx) fun d9 ea => have bK := bJ.cN0 [] ea; XN bK.chg <| X1 7 (by kernel_rfl) q <| zd q q c54 (w_spec_l1Number d9 _ d0 cl d2 bK.ctx) (by rfl) ?_
   rintro _ fG ⟨rfl, eb⟩; refine ⟨_, q, ?_⟩
   exact have aO := bK.cN0 [] eb; XN aO.chg <| X1 8 (by kernel_rfl) q <| zl (cs' := [ad, ae, af, iV aa.2.2.2.1, ag]) aO q il27 q (T (aO.ctx.sliceOne hS2) (T (aO.ctx.sliceOne hS3) (T (aO.ctx.sliceOne hS4) (T q (T (aO.ctx.sliceOne hS5) q))))) q q q fun fH cn => XN cn.chg <| have ec := cm.cN1 [_] cn; X1 9 (by kernel_rfl) q <| qa q <| XE q <| XC_done (by kernel_rfl) fun a ha => ⟨ad, ae, af, ag, ha.s, ec.q1.q5.q5.q5.p4.p4.p4.p4.p4⟩
  rintro a fI ⟨bb, bc, bd, be, ha, co⟩
  cases h
  exact S1 ha <| W fun a ha => have ee := R co.p0; zj (m (retct q ha q q (run_loadVar_bx (cs := [bb, bc, bd, iV aa.2.2.2.1, be]) us27 uo27 il27 ee) ⟨bb, bc, bd, be, q, co.q0.p3.p3.p3.p3⟩))
 refine rR <| qm q <| O h fun eg cp h => qe au hS5 cp u28 i9 q fun _ _ eh => eS u9 eh q <| qi (qt_seql q q) q <| qm q ?_
 refine Ha (res := ((eg == ([102, 114, 101, 101] : List UInt8)) && bl)) 1 an (fun cq fM ei => ?_) ?_
 ·exact jm cq q <| ei 1 q q q (ai cq)
 refine qa q <| B ?_
 refine Yh q h (fun h => ?_) (fun h => ?_)
 ·refine C <| O h fun fN bp h => O h fun fO ej h => O h fun fP ek h => O h fun em en h => ?_
  refine WP_join (M := fun a w2 => ∃ bf bg bh bi, Fr a 146 [(4, pB b5), (5, strV em)] ∧ Holds M0 w w2 [.bx b5 27 [bf, bg, bh, iV aa.2.2.2.1, bi], .sl 70 ty12 bf aa.1, .sl 3 tI bg aa.2.1, .sl 3 tI bh aa.2.2.1, .sl 38 ty14 bi aa.2.2.2.2] G) ?_ ?_
  ·refine WP_ordersT (fun w1 w2 => Chg (([.bx b5 27 [nS, nS, nS, iV 0, nS]] : List Res).flatMap Res.own) w1 w2) 10 (by kernel_rfl) fun bL eo => have ep := au.grow eo; have cr := ep.p7; ?_
   have bq : Ctx bL ([.bx b5 27 [nS, nS, nS, iV 0, nS]] ++ ([.bx am 27 [ad, ae, af, iV aa.2.2.2.1, ag], .sl 70 ty12 ad aa.1, .sl 3 tI ae aa.2.1, .sl 3 tI af aa.2.2.1, .sl 38 ty14 ag aa.2.2.2.2, .sl 9 .str al ak, .bx aj 52 [iV ab.1.1, iV ab.1.2.1, iV ab.1.2.2.1, iV ab.1.2.2.2], .bx b1 27 [A0, A1, A2, iV B3, A4]] ++ G)) := cr.ctx
   have ap : Holds _ bL bL [.bx b5 27 [nS, nS, nS, iV 0, nS]] ([.bx am 27 [ad, ae, af, iV aa.2.2.2.1, ag], .sl 70 ty12 ad aa.1, .sl 3 tI ae aa.2.1, .sl 3 tI af aa.2.2.1, .sl 38 ty14 ag aa.2.2.2.2, .sl 9 .str al ak, .bx aj 52 [iV ab.1.1, iV ab.1.2.1, iV ab.1.2.2.1, iV ab.1.2.2.2], .bx b1 27 [A0, A1, A2, iV B3, A4]] ++ G) := zb (Rs := [.bx b5 27 [nS, nS, nS, iV 0, nS]]) bq
   refine have er := HasB.bx (HasB.c (HasB.hd)) ap.ctx; XT (i := 0) q (by kernel_rfl) q ap.chg q (qs_agg (cs := [ad, ae, af, iV aa.2.2.2.1, ag]) us27 uo27 il27 q (fun j z hj => by rw [Nat.zero_add]; exact er.cell hj) ap.chg (Ctx.outB bq (HasB.hd))) q q ?_
   change XC _ _ _ _ _ _ _ _ ((136, .agg #[ad, ae, af, iV aa.2.2.2.1, ag]) :: _) _
   refine XQ (i := 1) q (by kernel_rfl) q ap.chg q (fun _ => qt_fieldAddr uf27 fi27_0 nz23 q) q q <| have es := HasB.bx (HasB.c (HasB.c (HasB.c (HasB.c (HasB.c (HasB.c (HasB.c (HasB.c (HasB.hd))))))))) ap.ctx; XT (i := 2) q (by kernel_rfl) q ap.chg q (qs_cell u23 q q (es.cell (i := 0) q) ap.chg (Ctx.outB bq (HasB.c (HasB.c (HasB.c (HasB.c (HasB.c (HasB.c (HasB.c (HasB.hd)))))))))) q q <| XQ (i := 3) q (by kernel_rfl) q ap.chg q (fun _ => qt_move q) q q ?_
   obtain ⟨fQ, fR, fS, bM⟩ := Ctx.isAt ap.ctx hS6 bp
   refine XT (i := 4) q (by kernel_rfl) q ap.chg q (qs_index bp bM u28 i9 q q) q q ?_
   obtain ⟨fU, et, fV⟩ := ap.at hS6 bp bM
   exact XT (i := 5) q (by kernel_rfl) q ap.chg q (qs_cell u9 q q (AtP.cStr et) ap.chg (Ctx.outHas bq hS5 bp bM)) q q <| X1 6 (by kernel_rfl) q <| U0 q c49 (w_spec_l1Read ej ap.ctx) fun fW eu => have bN := ap.cN0 [] eu; XN bN.chg <| X1 7 (by kernel_rfl) q <| U1 q c41 (w_spec_FreeOf ek (C0.c.c.c.c.c.c.c.c.c) bN.ctx) fun fX fY ew => have bO := bN.cN1 [] ew; XN bO.chg <| X1 8 (by kernel_rfl) q <| U0 q c53 (w_spec_l7List en hS0 bO.ctx) fun fZ ey => have ct := bO.cN0 [] ey; XN ct.chg <| X1 9 (by kernel_rfl) q <| have bj := ct.p1; zl (cs' := [ad, ae, af, iV aa.2.2.2.1, ag]) bj q il27 q (T (bj.ctx.sliceOne hS3) (T (bj.ctx.sliceOne hS4) (T (bj.ctx.sliceOne hS5) (T q (T (bj.ctx.sliceOne hS6) q))))) q q q fun f0 cu => XN cu.chg <| have ez := cr.cN2 [_] cu; X1 10 (by kernel_rfl) q <| qa q <| XE q <| XC_done (by kernel_rfl) fun a ha => ⟨ad, ae, af, ag, ha.s, ez.q1.q1.q5.q5.q5.p4.p4.p4.p4.p4⟩
  rintro a f1 ⟨bf, bg, bh, bi, ha, cv⟩
  cases h
  exact S1 ha <| W fun a ha => have eD := R cv.p0; zj (m (retct q ha q q (run_loadVar_bx (cs := [bf, bg, bh, iV aa.2.2.2.1, bi]) us27 uo27 il27 eD) ⟨bf, bg, bh, bi, q, cv.q0.p3.p3.p3.p3⟩))
 cases h
 exact WP_skip fun a ha => zi <| X <| S1 ha <| rR <| eA au.p0 us27 uo27 il27 q <| have bk := au.p7; zl (cs' := [ad, ae, af, iV aa.2.2.2.1, ag]) bk q il27 q (T (bk.ctx.sliceOne hS2) (T (bk.ctx.sliceOne hS3) (T (bk.ctx.sliceOne hS4) (T q (T (bk.ctx.sliceOne hS5) q))))) q q q fun f2 cw => qa q <| B <| W fun a ha => have eF := R cw.p0; retct q ha q q (run_loadVar_bx (cs := [ad, ae, af, iV aa.2.2.2.1, ag]) us27 uo27 il27 eF) ⟨ad, ae, af, ag, q, cw.q0.q0.q4.q4.q4.p3.p3.p3.p3⟩
theorem w_spec_HouseLines {w G A0 B0 A1 B1 A2 B2 B3 A4 B4 vp1 p1 r} (h : spec_HouseLinesS B0 B1 B2 B3 B4 p1 = some r) (C0 : Has G ty12 A0 B0) (C1 : Has G tI A1 B1) (C2 : Has G tI A2 B2) (C4 : Has G ty14 A4 B4) (hp1 : Has G .str vp1 p1) (H : Ctx w G) : Calls Tryz.prog 8 #[.agg #[A0, A1, A2, iV B3, A4], vp1] w fun e w' => ∃ (v1 : Value) (v2 : Value) (v3 : Value) (v4 : Value) (v5 : Value), e = .returned (.tuple #[.agg #[v1, v2, v3, iV r.1.2.2.2.1, v4], v5]) ∧ Holds M0 w w' [.sl 70 ty12 v1 r.1.1, .sl 3 tI v2 r.1.2.1, .sl 3 tI v3 r.1.2.2.1, .sl 38 ty14 v4 r.1.2.2.2.2, .sl 9 .str v5 r.2] G := by
 refine F0 46 H Tryz.func8 q fun H => ?_
 refine C <| Z <| WL_box (cs := [A0, A1, A2, iV B3, A4]) H q q q q fun b1 w2 H3 => zq (cs := [nS, nS, nS, iV 0, nS]) H3 z27 q q q fun b5 w6 H7 => qa q <| B <| C <| Z <| zs (t := .str) (args := []) (xs := ([] : List (List UInt8))) H7 (BltL.nil) u28 j9 q q q q q q fun v9 bI aA => qa q <| B <| C <| C <| zk <| eA aA.p2 us27 uo27 il27 q <| O h fun a7 a8 h => qc q c11 aA (fun _ => w_spec_HouseValid a8 (C0.c.c.c) (C1.c.c.c) (C2.c.c.c) (C4.c.c.c)) <| qi (qt_not q) q <| qm q ?_
 refine Go (res := ((!a7) || (decide ((List.length p1 : Int) > 40)))) 3 os (fun aB bJ a9 => ?_) ?_
 ·exact jm aB q <| jz aA.ctx (hp1.c.c.c) u28 aB q <| ji (qt_gtr q q) aB q <| a9 3 q q q (oi aB)
 refine Qn aA fun a ha bK aC => X <| S1 ha ?_
 refine Yh q h (fun h => ?_) (fun h => ?_)
 ·cases h
  exact rR <| qi (qt_build (args := []) (css := []) (cells := #[nS, nS, nS, iV 0, nS]) q trivial (by kernel_rfl)) q <| qm q <| zl (cs' := [nS, nS, nS, iV 0, nS]) aC.p1 q il27 q q q q q fun bL aS => qa q <| B <| W fun a ha => have bb := R aS.p0; have bc := aS.nS 70 ty12; have bd := bc.nS 3 tI; have be := bd.nS 3 tI; have bf := be.nS 38 ty14; m (retct q ha q q (run_loadVar_bx (cs := [nS, nS, nS, iV 0, nS]) us27 uo27 il27 bb) ⟨(nS), (nS), (nS), (nS), v9, q, bf.q4.q5.p4.p1.p2.p3.p4⟩)
 refine y <| rR <| eA aC.p2 us27 uo27 il27 q <| O h fun bh bi h => U4 q c33 (w_spec_l7Copy bi (C0.c.c.c) (C1.c.c.c) (C2.c.c.c) (C4.c.c.c) aC.ctx) fun aT aU aV aW bM bj => have bk := aC.cN4 [] bj; zq (cs := [nS, nS, nS, iV 0, nS]) bk z27 q q q fun ah bN am => zl (cs' := [aT, aU, aV, iV bh.2.2.2.1, aW]) am q il27 q (T (am.ctx.sliceOne hS1) (T (am.ctx.sliceOne hS2) (T (am.ctx.sliceOne hS3) (T q (T (am.ctx.sliceOne hS4) q))))) q q q fun bO bl => B <| C <| rR <| qa q <| B <| g <| O h fun bm bn h => ?_
 refine fun bP bp => zp (I := fun (ao, aI, ap, aq, ar, ak, au) a w2 => ∃ aj aa ab ad ae, Fr a 46 [(1, vp1), (4, pB b5), (6, aj), (7, pB ah), (8, iV aI)] ∧ Holds M0 w w2 [.bx b5 27 [nS, nS, nS, iV 0, nS], .sl 9 .str aj ao, .bx ah 27 [aa, ab, ad, iV ak, ae], .sl 70 ty12 aa ap, .sl 3 tI ab aq, .sl 3 tI ad ar, .sl 38 ty14 ae au] G) (O := fun (q0, q1, q2, q3, q4, q5) e a w2 => e = .exit 0 ∧ ∃ aX aY aZ a0 a1, Fr a 46 [(4, pB b5), (6, aX), (7, pB ah)] ∧ Holds M0 w w2 [.bx b5 27 [nS, nS, nS, iV 0, nS], .sl 9 .str aX q0, .bx ah 27 [aY, aZ, a0, iV q4, a1], .sl 70 ty12 aY q1, .sl 3 tI aZ q2, .sl 3 tI a0 q3, .sl 38 ty14 a1 q5] G) bn ?_ ?_ ?_
 ·exact ⟨v9, aT, aU, aV, aW, bp.s, bl.q7.p4.p4.p4.p4.p4.p5.p6⟩
 ·rintro ⟨ao, aI, ap, aq, ar, ak, au⟩ _ a bQ af ⟨aj, aa, ab, ad, ae, ha, aJ⟩
  refine S1 ha <| C <| rR <| qm q <| qm q <| qz aJ.ctx (hp1.c.c.c.c.c.c.c) u28 q <| qi (qt_lss q q) q <| B ?_
  refine Yh q af (fun af => ?_) (fun af => ?_)
  ·refine y <| C <| g <| C <| O af fun bR aD af => O af fun ag a2 af => ?_
   refine WP_join (M := fun a w2 => ∃ aK av aw ax ay, Fr a 46 [(1, vp1), (4, pB b5), (6, aj), (7, pB ah), (8, iV aI), (9, pB aK), (10, strV ag.2)] ∧ Holds M0 w w2 [.bx b5 27 [nS, nS, nS, iV 0, nS], .sl 9 .str aj ao, .bx ah 27 [aa, ab, ad, iV ak, ae], .sl 70 ty12 aa ap, .sl 3 tI ab aq, .sl 3 tI ad ar, .sl 38 ty14 ae au, .bx aK 27 [av, aw, ax, iV ag.1.2.2.2.1, ay], .sl 70 ty12 av ag.1.1, .sl 3 tI aw ag.1.2.1, .sl 3 tI ax ag.1.2.2.1, .sl 38 ty14 ay ag.1.2.2.2.2] G) ?_ ?_
   ·refine WP_ordersT (fun w1 w2 => Chg M0 w1 w2) 11 (by kernel_rfl) fun aL bq => have a3 := aJ.grow bq; ?_
    have aM : Ctx aL ([] ++ ([.bx b5 27 [nS, nS, nS, iV 0, nS], .sl 9 .str aj ao, .bx ah 27 [aa, ab, ad, iV ak, ae], .sl 70 ty12 aa ap, .sl 3 tI ab aq, .sl 3 tI ad ar, .sl 38 ty14 ae au] ++ G)) := a3.ctx
    have br : Holds _ aL aL [] ([.bx b5 27 [nS, nS, nS, iV 0, nS], .sl 9 .str aj ao, .bx ah 27 [aa, ab, ad, iV ak, ae], .sl 70 ty12 aa ap, .sl 3 tI ab aq, .sl 3 tI ad ar, .sl 38 ty14 ae au] ++ G) := zb (Rs := []) aM
    refine have Hc := br; have bs := HasB.bx (HasB.c (HasB.c (HasB.hd))) Hc.ctx; XT (i := 0) q (by kernel_rfl) q Hc.chg q (qs_agg (cs := [aa, ab, ad, iV ak, ae]) us27 uo27 il27 q (fun j z hj => by rw [Nat.zero_add]; exact bs.cell hj) Hc.chg (Ctx.outB aM (HasB.c (HasB.c (HasB.hd))))) q q ?_
    change XC _ _ _ _ _ _ _ _ ((31, .agg #[aa, ab, ad, iV ak, ae]) :: _) _
    refine XQ (i := 1) q (by kernel_rfl) q Hc.chg q (fun _ => qt_move q) q q <| XQ (i := 2) q (by kernel_rfl) q Hc.chg q (fun _ => qt_move q) q q ?_
    obtain ⟨bS, bT, bU, aN⟩ := Ctx.isAt Hc.ctx (hp1.c.c.c.c.c.c.c) aD
    refine XT (i := 3) q (by kernel_rfl) q Hc.chg q (qs_index aD aN u28 i9 q q) q q ?_
    obtain ⟨bV, bt, bW⟩ := Hc.at (hp1.c.c.c.c.c.c.c) aD aN
    refine XT (i := 4) q (by kernel_rfl) q Hc.chg q (qs_cell u9 q q (AtP.cStr bt) Hc.chg (Ctx.outHas aM (hp1.c.c.c.c.c.c.c) aD aN)) q q ?_
    repeat' first
     | refine XDo 5 q <| U4 q c16 (w_spec_HouseLine a2 hS3 hS4 hS5 hS6 Hc.ctx) fun aE aF aG aH _ HK => ?_; have Hc := Hc.cN4 [] HK; refine XN Hc.chg <| XQ (i := 6) q (by kernel_rfl) q Hc.chg q (fun _ => qt_move q) q q <| XQ (i := 7) q (by kernel_rfl) q Hc.chg q (fun _ => zv q q) q q <| XQ (i := 8) q (by kernel_rfl) q Hc.chg q (fun _ => zv q q) q q ?_
     | refine XDo 5 q <| U4 q c16 (w_spec_HouseLine a2 hS4 hS5 hS6 hS7 Hc.ctx) fun aE aF aG aH _ HK => ?_; have Hc := Hc.cN4 [] HK; refine XN Hc.chg <| XQ (i := 6) q (by kernel_rfl) q Hc.chg q (fun _ => qt_move q) q q <| XQ (i := 7) q (by kernel_rfl) q Hc.chg q (fun _ => zv q q) q q <| XQ (i := 8) q (by kernel_rfl) q Hc.chg q (fun _ => zv q q) q q ?_
     | refine XDo 9 q ?_; refine zq (cs := [nS, nS, nS, iV 0, nS]) Hc z27 q q q (fun bu _ Hc => ?_); refine XN Hc.chg ?_
     | refine XDo 10 q ?_; refine zl (cs' := [aE, aF, aG, iV ag.1.2.2.2.1, aH]) Hc q il27 q (T (Hc.ctx.sliceOne hS1) (T (Hc.ctx.sliceOne hS2) (T (Hc.ctx.sliceOne hS3) (T q (T (Hc.ctx.sliceOne hS4) q))))) q q q (fun _ Hc => ?_); refine XN Hc.chg ?_
     | refine XDo 10 q ?_; have Hc := Hc.p4; refine zl (cs' := [aE, aF, aG, iV ag.1.2.2.2.1, aH]) Hc q il27 q (T (Hc.ctx.sliceOne hS1) (T (Hc.ctx.sliceOne hS2) (T (Hc.ctx.sliceOne hS3) (T q (T (Hc.ctx.sliceOne hS4) q))))) q q q (fun _ Hc => ?_); refine XN Hc.chg ?_
     | have Hc := a3.cN5 [] Hc; refine XDo 11 q <| qa q <| XE q ?_
     | refine XV [5, 9] (by decide +kernel) q (allc ?_ (allc ?_ alln))
     | refine XV [9] (by decide +kernel) q (allc ?_ alln)
     | refine XV [10] (by decide +kernel) q (allc ?_ alln)
     | refine XV [11] (by decide +kernel) q (allc ?_ alln)
     | refine XV [5] (by decide +kernel) q (allc ?_ alln)
     | refine XC_done (by decide +kernel) (fun a ha => ?_); have Hc := ((((((((((((Hc.p4).p4).p4).p4).p4).p11).p11).p11).p11).p11).p11).p11); exact ⟨bu, aE, aF, aG, aH, ha.s, Hc⟩
   rintro a bX ⟨aK, av, aw, ax, ay, ha, a4⟩
   refine S1 ha <| rR <| eA a4.p7 us27 uo27 il27 q <| have az := a4.p2; zl (cs' := [av, aw, ax, iV ag.1.2.2.2.1, ay]) az q il27 q (T (az.ctx.sliceOne hS8) (T (az.ctx.sliceOne hS9) (T (az.ctx.sliceOne hS10) (T q (T (az.ctx.sliceOne hS11) q))))) q q q fun bY bv => B <| Z <| qm q <| qm q <| zs (t := .str) (args := [.tmp 41]) (xs := ([ag.2] : List (List UInt8))) bv (BltL.cons (Blt.str) q (BltL.nil)) u28 j9 q q q q q q fun bZ b0 bw => O af fun b4 bA af => zw bw.p3 hS1 bA u28 j9 q q q q q q fun bB b6 bC => qa q <| WL_nil fun a ha => zi <| X <| S1 ha <| Z <| qm q <| qi (qt_add q q) q <| qa q <| WL_nil fun a ha => ?_
   cases af
   exact ⟨q, bB, av, aw, ax, ay, ha.s, bC.q1.q3.q3.q3.q3.q3.p6.p6.p6.p6.p5.p5.p6⟩
  cases af
  exact WP_exit fun a ha => zo (⟨exit_ne, q, aj, aa, ab, ad, ae, ha.s, aJ.p6.p6.p6.p6.p6.p6.p6⟩)
 obtain ⟨b7, b8, b9, ca, a5, cb⟩ := bm
 rintro _ a cc ⟨rfl, bF, aO, aP, aQ, aR, ha, al⟩
 cases h
 exact zn <| X <| S1 ha <| rR <| eA al.p2 us27 uo27 il27 q <| qm q <| zl (cs' := [aO, aP, aQ, iV a5, aR]) al q il27 q (T (al.ctx.sliceOne hS3) (T (al.ctx.sliceOne hS4) (T (al.ctx.sliceOne hS5) (T q (T (al.ctx.sliceOne hS6) q))))) q q q fun cd a6 => qa q <| B <| W fun a ha => have bG := R a6.p0; retct q ha q q (run_loadVar_bx (cs := [aO, aP, aQ, iV a5, aR]) us27 uo27 il27 bG) ⟨aO, aP, aQ, aR, bF, q, a6.q0.q1.p4.p4.p4.p4⟩
theorem w_laws_sameInts {w G vp0 p0 vp1 p1 r} (h : laws_sameIntsS p0 p1 = some r) (hp0 : Has G tI vp0 p0) (hp1 : Has G tI vp1 p1) (H : Ctx w G) : Calls Tryz.prog 34 #[vp0, vp1] w fun e w' => e = .returned (.bool r) ∧ Holds M0 w w' [] G := by
 refine F0 26 H Tryz.func34 q fun H => ?_
 refine rR <| qa q <| B <| C <| rR <| qm q <| qz H.ctx (hp0) u24 q <| qm q <| qz H.ctx (hp1) u24 q <| qi (qt_neq q q) q <| B ?_
 refine Yh q h (fun h => ?_) (fun h => ?_)
 ·cases h
  exact rR <| qa q <| B <| W fun a ha => m (ret1 q ha q ⟨q, H⟩)
 refine y <| C <| rR <| qa q <| B <| g <| O h fun o2 ah h => ?_
 refine fun a4 aj => zp (I := fun s1 a w2 => (Fr a 26 [(0, vp0), (1, vp1), (5, iV s1)] ∧ Holds M0 w w2 [] G)) (O := fun o e a w2 => match o with | .inl _ => e = .exit 0 ∧ (Fr a 26 [] ∧ Holds M0 w w2 [] G) | .inr q0 => e = .ret ∧ (Fr a 26 [(4, .bool q0)] ∧ Holds M0 w w2 [] G)) ah ?_ ?_ ?_
 ·exact ⟨aj.s, H⟩
 ·rintro s1 _ a w6 aa ⟨ha, ab⟩
  refine S1 ha <| C <| rR <| qm q <| qm q <| qz ab.ctx (hp0) u24 q <| qi (qt_lss q q) q <| B ?_
  refine Yh q aa (fun aa => ?_) (fun aa => ?_)
  ·refine y <| C <| g <| C <| WP_quiet (by kernel_rfl) (by kernel_rfl) <| qm q <| qm q <| O aa fun ap ad aa => qe ab (hp0) ad u24 i3 q fun _ _ ak => eI u3 ak q <| qm q <| qm q <| O aa fun av ae aa => qe ab (hp1) ae u24 i3 q fun _ _ al => eI u3 al q <| qi (qt_neq q q) q <| Qn ab fun a ha az af => X <| S1 ha ?_
   refine Yh q aa (fun aa => ?_) (fun aa => ?_)
   ·cases aa
    exact rR <| qa q <| B <| W fun a ha => zj (m (⟨ret_ne, q, ha.s, af⟩))
   cases aa
   exact WP_skip fun a ha => zi <| X <| S1 ha <| Z <| qm q <| qi (qt_add q q) q <| qa q <| WL_nil fun a ha => ⟨q, ha.s, af⟩
  cases aa
  exact WP_exit fun a ha => zo (⟨exit_ne, q, ha.s, ab⟩)
 intro e a aA ag
 rcases o2 with o2 | o2
 ·obtain ⟨rfl, ha, am⟩ := ag
  cases h
  exact zn <| X <| S1 ha <| rR <| qa q <| B <| W fun a ha => ret1 q ha q ⟨q, am⟩
 obtain ⟨rfl, ha, ao⟩ := ag
 obtain rfl := L h
 exact zj (m (ret1 q ha q ⟨q, ao⟩))
theorem w_laws_sameItem {w G B0 A1 B1 B2 p1_0 A1_1 p1_1 p1_2 r} (h : laws_sameItemS B0 B1 B2 p1_0 p1_1 p1_2 = some r) (C1 : Has G ty2 A1 B1) (hp1_1 : Has G ty2 A1_1 p1_1) (H : Ctx w G) : Calls Tryz.prog 35 #[.agg #[iV B0, A1, iV B2], .agg #[iV p1_0, A1_1, iV p1_2]] w fun e w' => e = .returned (.bool r) ∧ Holds M0 w w' [] G := by
 refine F0 45 H Tryz.func35 q fun H => ?_
 refine C <| Z <| WL_box (cs := [iV B0, A1, iV B2]) H q q q q fun b1 w2 H3 => WL_box (cs := [iV p1_0, A1_1, iV p1_2]) H3 q q q q fun b5 w6 H7 => qa q <| B <| C <| rR <| qf uf70 fi70_0 nz3 q <| ql u3 H7.p1 q <| qf uf70 fi70_0 nz3 q <| ql u3 H7.p0 q <| qi (qt_neq q q) q <| qm q ?_
 refine Ho (res := ((B0 != p1_0) || (B2 != p1_2))) 5 os (fun ae aE ap => ?_) ?_
 ·exact jf uf70 fi70_2 nz3 ae q <| jl u3 H7.p1 ae q <| jf uf70 fi70_2 nz3 ae q <| jl u3 H7.p0 ae q <| ji (qt_neq q q) ae q <| ap 5 q q q (oi ae)
 refine qm q ?_
 refine Ho (res := (((B0 != p1_0) || (B2 != p1_2)) || ((List.length B1 : Int) != (List.length p1_1 : Int)))) 7 os (fun ad aF aq => ?_) ?_
 ·exact jf uf70 fi70_1 nz68 ad q <| jl u68 H7.p1 ad q <| jz H7.ctx (C1.c.c) u68 ad q <| jf uf70 fi70_1 nz68 ad q <| jl u68 H7.p0 ad q <| jz H7.ctx (hp1_1.c.c) u68 ad q <| ji (qt_neq q q) ad q <| aq 7 q q q (oi ad)
 refine B ?_
 refine Yh q h (fun h => ?_) (fun h => ?_)
 ·cases h
  exact rR <| qa q <| B <| W fun a ha => m (ret1 q ha q ⟨q, H7.q0.q0⟩)
 refine y <| C <| rR <| qa q <| B <| g <| O h fun ah au h => ?_
 refine fun aG aw => zp (I := fun aj a w2 => (Fr a 45 [(2, pB b1), (3, pB b5), (5, iV aj)] ∧ Holds M0 w w2 [.bx b1 70 [iV B0, A1, iV B2], .bx b5 70 [iV p1_0, A1_1, iV p1_2]] G)) (O := fun o e a w2 => match o with | .inl _ => e = .exit 0 ∧ (Fr a 45 [] ∧ Holds M0 w w2 [] G) | .inr q0 => e = .ret ∧ (Fr a 45 [(4, .bool q0)] ∧ Holds M0 w w2 [] G)) au ?_ ?_ ?_
 ·exact ⟨aw.s, H7.p1⟩
 ·rintro aj _ a aH aa ⟨ha, ab⟩
  refine S1 ha <| C <| rR <| qm q <| qf uf70 fi70_1 nz68 q <| ql u68 ab.p0 q <| qz ab.ctx (C1.c.c) u68 q <| qi (qt_lss q q) q <| B ?_
  refine Yh q aa (fun aa => ?_) (fun aa => ?_)
  ·refine y <| C <| g <| C <| WP_quiet (by kernel_rfl) (by kernel_rfl) <| qf uf70 fi70_1 nz68 q <| ql u68 ab.p0 q <| qm q <| O aa fun af ak aa => qe ab (C1.c.c) ak u68 i79 q fun _ _ ax => lP [iV af.1, iV af.2] us79 uo79 i79 ax q q q q <| qf uf70 fi70_1 nz68 q <| ql u68 ab.p1 q <| qm q <| O aa fun ag al aa => qe ab (hp1_1.c.c) al u68 i79 q fun _ _ ay => lP [iV ag.1, iV ag.2] us79 uo79 i79 ay q q q q <| qi (qt_neqA q q (by kernel_rfl) (eqs79 af.1 ag.1 af.2 ag.2)) q <| Qn ab fun a ha aO am => X <| S1 ha ?_
   refine Yh q aa (fun aa => ?_) (fun aa => ?_)
   ·cases aa
    exact rR <| qa q <| B <| W fun a ha => zj (m (⟨ret_ne, q, ha.s, am.q0.q0⟩))
   cases aa
   exact WP_skip fun a ha => zi <| X <| S1 ha <| Z <| qm q <| qi (qt_add q q) q <| qa q <| WL_nil fun a ha => ⟨q, ha.s, am.p1.p1⟩
  cases aa
  exact WP_exit fun a ha => zo (⟨exit_ne, q, ha.s, ab.q0.q0⟩)
 intro e a aP ao
 rcases ah with ah | ah
 ·obtain ⟨rfl, ha, aC⟩ := ao
  cases h
  exact zn <| X <| S1 ha <| rR <| qa q <| B <| W fun a ha => ret1 q ha q ⟨q, aC⟩
 obtain ⟨rfl, ha, aD⟩ := ao
 obtain rfl := L h
 exact zj (m (ret1 q ha q ⟨q, aD⟩))
theorem w_laws_sameTicket {w G vp0 p0 vp1 p1 r} (h : laws_sameTicketS p0 p1 = some r) (hp0 : Has G ty2 vp0 p0) (hp1 : Has G ty2 vp1 p1) (H : Ctx w G) : Calls Tryz.prog 36 #[vp0, vp1] w fun e w' => e = .returned (.bool r) ∧ Holds M0 w w' [] G := by
 refine F0 26 H Tryz.func36 q fun H => ?_
 refine rR <| qa q <| B <| C <| rR <| qm q <| qz H.ctx (hp0) u36 q <| qm q <| qz H.ctx (hp1) u36 q <| qi (qt_neq q q) q <| B ?_
 refine Yh q h (fun h => ?_) (fun h => ?_)
 ·cases h
  exact rR <| qa q <| B <| W fun a ha => m (ret1 q ha q ⟨q, H⟩)
 refine y <| C <| rR <| qa q <| B <| g <| O h fun o2 ak h => ?_
 refine fun a4 al => zp (I := fun s1 a w2 => (Fr a 26 [(0, vp0), (1, vp1), (5, iV s1)] ∧ Holds M0 w w2 [] G)) (O := fun o e a w2 => match o with | .inl _ => e = .exit 0 ∧ (Fr a 26 [] ∧ Holds M0 w w2 [] G) | .inr q0 => e = .ret ∧ (Fr a 26 [(4, .bool q0)] ∧ Holds M0 w w2 [] G)) ak ?_ ?_ ?_
 ·exact ⟨al.s, H⟩
 ·rintro s1 _ a w6 aa ⟨ha, ab⟩
  refine S1 ha <| C <| rR <| qm q <| qm q <| qz ab.ctx (hp0) u36 q <| qi (qt_lss q q) q <| B ?_
  refine Yh q aa (fun aa => ?_) (fun aa => ?_)
  ·refine y <| C <| g <| C <| WP_quiet (by kernel_rfl) (by kernel_rfl) <| qm q <| qm q <| O aa fun ad af aa => qe ab (hp0) af u36 i123 q fun _ _ am => lP [iV ad.1, iV ad.2] us123 uo123 i123 am q q q q <| qm q <| qm q <| O aa fun ae ag aa => qe ab (hp1) ag u36 i123 q fun _ _ ao => lP [iV ae.1, iV ae.2] us123 uo123 i123 ao q q q q <| qi (qt_neqA q q (by kernel_rfl) (eqs123 ad.1 ae.1 ad.2 ae.2)) q <| Qn ab fun a ha az ah => X <| S1 ha ?_
   refine Yh q aa (fun aa => ?_) (fun aa => ?_)
   ·cases aa
    exact rR <| qa q <| B <| W fun a ha => zj (m (⟨ret_ne, q, ha.s, ah⟩))
   cases aa
   exact WP_skip fun a ha => zi <| X <| S1 ha <| Z <| qm q <| qi (qt_add q q) q <| qa q <| WL_nil fun a ha => ⟨q, ha.s, ah⟩
  cases aa
  exact WP_exit fun a ha => zo (⟨exit_ne, q, ha.s, ab⟩)
 intro e a aA aj
 rcases o2 with o2 | o2
 ·obtain ⟨rfl, ha, ap⟩ := aj
  cases h
  exact zn <| X <| S1 ha <| rR <| qa q <| B <| W fun a ha => ret1 q ha q ⟨q, ap⟩
 obtain ⟨rfl, ha, aq⟩ := aj
 obtain rfl := L h
 exact zj (m (ret1 q ha q ⟨q, aq⟩))
theorem w_laws_sameHouse {w G A0 B0 A1 B1 A2 B2 B3 A4 B4 A1_0 p1_0 A1_1 p1_1 A1_2 p1_2 p1_3 A1_4 p1_4 r} (h : laws_sameHouseS B0 B1 B2 B3 B4 p1_0 p1_1 p1_2 p1_3 p1_4 = some r) (C0 : Has G ty12 A0 B0) (C1 : Has G tI A1 B1) (C2 : Has G tI A2 B2) (C4 : Has G ty14 A4 B4) (hp1_0 : Has G ty12 A1_0 p1_0) (hp1_1 : Has G tI A1_1 p1_1) (hp1_2 : Has G tI A1_2 p1_2) (hp1_4 : Has G ty14 A1_4 p1_4) (H : Ctx w G) : Calls Tryz.prog 9 #[.agg #[A0, A1, A2, iV B3, A4], .agg #[A1_0, A1_1, A1_2, iV p1_3, A1_4]] w fun e w' => e = .returned (.bool r) ∧ Holds M0 w w' [] G := by
 refine F0 117 H Tryz.func9 q fun H => ?_
 refine C <| Z <| WL_box (cs := [A0, A1, A2, iV B3, A4]) H q q q q fun b1 w2 H3 => WL_box (cs := [A1_0, A1_1, A1_2, iV p1_3, A1_4]) H3 q q q q fun b5 w6 H7 => qa q <| B <| C <| C <| zk <| qf uf27 fi27_0 nz23 q <| ql u23 H7.p1 q <| qz H7.ctx (C0.c.c) u23 q <| qf uf27 fi27_0 nz23 q <| ql u23 H7.p0 q <| qz H7.ctx (hp1_0.c.c) u23 q <| qi (qt_neq q q) q <| qm q <| O h fun aU am h => ?_
 refine Go (res := aU) 6 (if_t · am) (fun ak bV aV => ?_) ?_
 ·exact have am := if_f ak am; jf uf27 fi27_1 nz24 ak q <| jl u24 H7.p1 ak q <| jf uf27 fi27_1 nz24 ak q <| jl u24 H7.p0 ak q <| O am fun bW aW am => jc ak q c34 H7 (fun _ => w_laws_sameInts aW (C1.c.c) (hp1_1.c.c)) <| ji (qt_not q) ak q <| aV 6 q q q am
 refine qm q <| O h fun aw ao h => ?_
 refine Go (res := aw) 6 (if_t · ao) (fun al bX aX => ?_) ?_
 ·exact have ao := if_f al ao; jf uf27 fi27_2 nz24 al q <| jl u24 H7.p1 al q <| jf uf27 fi27_2 nz24 al q <| jl u24 H7.p0 al q <| O ao fun bY aY ao => jc al q c34 H7 (fun _ => w_laws_sameInts aY (C2.c.c) (hp1_2.c.c)) <| ji (qt_not q) al q <| aX 6 q q q ao
 refine qm q ?_
 refine Go (res := (aw || (B3 != p1_3))) 5 os (fun ap bZ aZ => ?_) ?_
 ·exact jf uf27 fi27_3 nz3 ap q <| jl u3 H7.p1 ap q <| jf uf27 fi27_3 nz3 ap q <| jl u3 H7.p0 ap q <| ji (qt_neq q q) ap q <| aZ 5 q q q (oi ap)
 refine qm q ?_
 refine Go (res := ((aw || (B3 != p1_3)) || ((List.length B4 : Int) != (List.length p1_4 : Int)))) 7 os (fun aj b0 a0 => ?_) ?_
 ·exact jf uf27 fi27_4 nz25 aj q <| jl u25 H7.p1 aj q <| jz H7.ctx (C4.c.c) u25 aj q <| jf uf27 fi27_4 nz25 aj q <| jl u25 H7.p0 aj q <| jz H7.ctx (hp1_4.c.c) u25 aj q <| ji (qt_neq q q) aj q <| a0 7 q q q (oi aj)
 refine Qn H7 fun a ha b4 aD => X <| S1 ha ?_
 refine Yh q h (fun h => ?_) (fun h => ?_)
 ·cases h
  exact rR <| qa q <| B <| W fun a ha => m (ret1 q ha q ⟨q, aD.q0.q0⟩)
 refine y <| C <| rR <| qa q <| B <| g <| O h fun ax a2 h => ?_
 refine fun b6 a4 => zp (I := fun aE a w2 => (Fr a 117 [(2, pB b1), (3, pB b5), (5, iV aE)] ∧ Holds M0 w w2 [.bx b1 27 [A0, A1, A2, iV B3, A4], .bx b5 27 [A1_0, A1_1, A1_2, iV p1_3, A1_4]] G)) (O := fun o e a w2 => match o with | .inl _ => e = .exit 0 ∧ (Fr a 117 [(2, pB b1), (3, pB b5)] ∧ Holds M0 w w2 [.bx b1 27 [A0, A1, A2, iV B3, A4], .bx b5 27 [A1_0, A1_1, A1_2, iV p1_3, A1_4]] G) | .inr q0 => e = .ret ∧ (Fr a 117 [(4, .bool q0)] ∧ Holds M0 w w2 [] G)) a2 ?_ ?_ ?_
 ·exact ⟨a4.s, aD.p1⟩
 ·rintro aE _ a aF ad ⟨ha, aq⟩
  refine S1 ha <| C <| rR <| qm q <| qf uf27 fi27_0 nz23 q <| ql u23 aq.p0 q <| qz aq.ctx (C0.c.c) u23 q <| qi (qt_lss q q) q <| B ?_
  refine Yh q ad (fun ad => ?_) (fun ad => ?_)
  ·refine y <| C <| g <| C <| WP_quiet (by kernel_rfl) (by kernel_rfl) <| qf uf27 fi27_0 nz23 q <| ql u23 aq.p0 q <| qm q <| O ad fun ar aG ad => qb aq.ctx (C0.c.c) aG u23 i70 q fun b7 b8 b9 a5 => ?_
   obtain ⟨ca, a6, a7⟩ := aq.atN (C0.c.c) aG a5
   refine XL_load_agg (t := ty12) us70 uo70 i70 a6 q q q fun cb a8 => ?_
   obtain ⟨c68, c69, cc, cd, rfl, a9, ba, bb⟩ := a8
   obtain ⟨rfl, _⟩ := ba
   obtain ⟨ce, c76, cf, cg, rfl, bc, bd, be⟩ := bb
   obtain ⟨au, rfl, bf⟩ := Rep.sl_inv bd
   obtain ⟨rfl, _⟩ := be
   have ay : Holds _ w aF [.ro ty2 au ar.2.1, .bx b1 27 [A0, A1, A2, iV B3, A4], .bx b5 27 [A1_0, A1_1, A1_2, iV p1_3, A1_4]] G := a7 [.ro ty2 au ar.2.1] ⟨⟨_, _, _, _, q, bf, (fun k h => (fun k h => (fun _ h => h) k (by rw [a9]; exact zx _ h)) k (by rw [bc]; exact List.mem_append_left _ h))⟩, trivial⟩
   change XL _ _ _ _ _ ((57, .agg #[iV ar.1, au, iV ar.2.2]) :: _) _
   refine qf uf27 fi27_0 nz23 q <| ql u23 ay.p2 q <| qm q <| O ad fun av aH ad => qb ay.ctx (hp1_0.c.c.c) aH u23 i70 q fun ch ci cj bg => ?_
   obtain ⟨ck, bh, bi⟩ := ay.atN (hp1_0.c.c.c) aH bg
   refine XL_load_agg (t := ty12) us70 uo70 i70 bh q q q fun cl bj => ?_
   obtain ⟨c97, c98, cm, cn, rfl, bk, bl, bm⟩ := bj
   obtain ⟨rfl, _⟩ := bl
   obtain ⟨c104, c105, co, cp, rfl, bn, bo, bp⟩ := bm
   obtain ⟨az, rfl, bq⟩ := Rep.sl_inv bo
   obtain ⟨rfl, _⟩ := bp
   have aI : Holds _ w aF [.ro ty2 az av.2.1, .ro ty2 au ar.2.1, .bx b1 27 [A0, A1, A2, iV B3, A4], .bx b5 27 [A1_0, A1_1, A1_2, iV p1_3, A1_4]] G := bi [.ro ty2 az av.2.1] ⟨⟨_, _, _, _, q, bq, (fun k h => (fun k h => (fun _ h => h) k (by rw [bk]; exact zx _ h)) k (by rw [bn]; exact List.mem_append_left _ h))⟩, trivial⟩
   change XL _ _ _ _ _ ((62, .agg #[iV av.1, az, iV av.2.2]) :: _) _
   refine O ad fun cq br ad => qc q c35 aI (fun _ => w_laws_sameItem br hR1 hR0) <| qi (qt_not q) q <| Qn aI fun a ha cr aJ => X <| S1 ha ?_
   refine Yh q ad (fun ad => ?_) (fun ad => ?_)
   ·cases ad
    exact rR <| qa q <| B <| W fun a ha => zj (m (⟨ret_ne, q, ha.s, aJ.q0.q0.q0.q0⟩))
   cases ad
   exact WP_skip fun a ha => zi <| X <| S1 ha <| Z <| qm q <| qi (qt_add q q) q <| qa q <| WL_nil fun a ha => ⟨q, ha.s, aJ.q0.q0.p1.p1⟩
  cases ad
  exact WP_exit fun a ha => zo (⟨exit_ne, q, ha.s, aq.p1.p1⟩)
 intro e a ct aK
 rcases ax with ax | ax
 ·obtain ⟨rfl, ha, bv⟩ := aK
  refine zn <| X <| S1 ha <| C <| rR <| qa q <| B <| g <| O h fun aA bw h => ?_
  refine fun cu bA => zp (I := fun aL a w2 => (Fr a 117 [(2, pB b1), (3, pB b5), (6, iV aL)] ∧ Holds M0 w w2 [.bx b1 27 [A0, A1, A2, iV B3, A4], .bx b5 27 [A1_0, A1_1, A1_2, iV p1_3, A1_4]] G)) (O := fun o e a w2 => match o with | .inl _ => e = .exit 2 ∧ (Fr a 117 [] ∧ Holds M0 w w2 [] G) | .inr q0 => e = .ret ∧ (Fr a 117 [(4, .bool q0)] ∧ Holds M0 w w2 [] G)) bw ?_ ?_ ?_
  ·exact ⟨bA.s, bv.p1.p1⟩
  ·rintro aL _ a cv aa ⟨ha, ab⟩
   refine S1 ha <| C <| rR <| qm q <| qf uf27 fi27_4 nz25 q <| ql u25 ab.p0 q <| qz ab.ctx (C4.c.c) u25 q <| qi (qt_lss q q) q <| B ?_
   refine Yh q aa (fun aa => ?_) (fun aa => ?_)
   ·refine y <| C <| g <| C <| WP_quiet (by kernel_rfl) (by kernel_rfl) <| qf uf27 fi27_4 nz25 q <| ql u25 ab.p0 q <| qm q <| O aa fun cw aM aa => qe ab (C4.c.c) aM u25 i38 q fun _ _ bB => qf uf38 fi38_0 nz3 q <| eI u3 bB.f q <| qf uf27 fi27_4 nz25 q <| ql u25 ab.p1 q <| qm q <| O aa fun cA aN aa => qe ab (hp1_4.c.c) aN u25 i38 q fun _ _ bC => qf uf38 fi38_0 nz3 q <| eI u3 bC.f q <| qi (qt_neq q q) q <| qm q <| O aa fun bD ag aa => ?_
    refine Go (res := bD) 14 (if_t · ag) (fun ae cE bE => ?_) ?_
    ·exact have ag := if_f ae ag; jf uf27 fi27_4 nz25 ae q <| jl u25 ab.p0 ae q <| jm ae q <| O ag fun cF aO ag => je ab (C4.c.c) aO u25 i38 ae q fun _ _ bF => jf uf38 fi38_1 nz36 ae q <| jV u36 bF.s.f ae q fun cJ aB => jf uf27 fi27_4 nz25 ae q <| jl u25 aB.p2 ae q <| jm ae q <| O ag fun cK aP ag => je aB (hp1_4.c.c.c) aP u25 i38 ae q fun _ _ bG => jf uf38 fi38_1 nz36 ae q <| jV u36 bG.s.f ae q fun cO bH => O ag fun cP bI ag => jc ae q c36 bH (fun _ => w_laws_sameTicket bI hR1 hR0) <| ji (qt_not q) ae q <| bE 14 q q q ag
    refine qm q <| O aa fun bJ ah aa => ?_
    refine Go (res := bJ) 14 (if_t · ah) (fun af cQ bK => ?_) ?_
    ·exact have ah := if_f af ah; jf uf27 fi27_4 nz25 af q <| jl u25 ab.p0 af q <| jm af q <| O ah fun cR aQ ah => je ab (C4.c.c) aQ u25 i38 af q fun _ _ bL => jf uf38 fi38_2 nz24 af q <| jV u24 bL.s.s af q fun cV aC => jf uf27 fi27_4 nz25 af q <| jl u25 aC.p2 af q <| jm af q <| O ah fun cW aR ah => je aC (hp1_4.c.c.c) aR u25 i38 af q fun _ _ bM => jf uf38 fi38_2 nz24 af q <| jV u24 bM.s.s af q fun c0 bN => O ah fun c1 bO ah => jc af q c34 bN (fun _ => w_laws_sameInts bO hR1 hR0) <| ji (qt_not q) af q <| bK 14 q q q ah
    refine Qn ab fun a ha c2 aS => X <| S1 ha ?_
    refine Yh q aa (fun aa => ?_) (fun aa => ?_)
    ·cases aa
     exact rR <| qa q <| B <| W fun a ha => zj (m (⟨ret_ne, q, ha.s, aS.q0.q0⟩))
    cases aa
    exact WP_skip fun a ha => zi <| X <| S1 ha <| Z <| qm q <| qi (qt_add q q) q <| qa q <| WL_nil fun a ha => ⟨q, ha.s, aS.p1.p1⟩
   cases aa
   exact WP_exit fun a ha => zo (⟨exit_ne, q, ha.s, ab.q0.q0⟩)
  intro e a c3 aT
  rcases aA with aA | aA
  ·obtain ⟨rfl, ha, bS⟩ := aT
   cases h
   exact zn <| X <| S1 ha <| rR <| qa q <| B <| W fun a ha => ret1 q ha q ⟨q, bS⟩
  obtain ⟨rfl, ha, bT⟩ := aT
  obtain rfl := L h
  exact zj (m (ret1 q ha q ⟨q, bT⟩))
 obtain ⟨rfl, ha, bU⟩ := aK
 obtain rfl := L h
 exact zj (m (ret1 q ha q ⟨q, bU⟩))
theorem w_laws_sameTexts {w G vp0 p0 vp1 p1 r} (h : laws_sameTextsS p0 p1 = some r) (hp0 : Has G .str vp0 p0) (hp1 : Has G .str vp1 p1) (H : Ctx w G) : Calls Tryz.prog 10 #[vp0, vp1] w fun e w' => e = .returned (.bool r) ∧ Holds M0 w w' [] G := by
 refine F0 26 H Tryz.func10 q fun H => ?_
 refine rR <| qa q <| B <| C <| rR <| qm q <| qz H.ctx (hp0) u28 q <| qm q <| qz H.ctx (hp1) u28 q <| qi (qt_neq q q) q <| B ?_
 refine Yh q h (fun h => ?_) (fun h => ?_)
 ·cases h
  exact rR <| qa q <| B <| W fun a ha => m (ret1 q ha q ⟨q, H⟩)
 refine y <| C <| rR <| qa q <| B <| g <| O h fun o2 ah h => ?_
 refine fun a4 aj => zp (I := fun s1 a w2 => (Fr a 26 [(0, vp0), (1, vp1), (5, iV s1)] ∧ Holds M0 w w2 [] G)) (O := fun o e a w2 => match o with | .inl _ => e = .exit 0 ∧ (Fr a 26 [] ∧ Holds M0 w w2 [] G) | .inr q0 => e = .ret ∧ (Fr a 26 [(4, .bool q0)] ∧ Holds M0 w w2 [] G)) ah ?_ ?_ ?_
 ·exact ⟨aj.s, H⟩
 ·rintro s1 _ a w6 aa ⟨ha, ab⟩
  refine S1 ha <| C <| rR <| qm q <| qm q <| qz ab.ctx (hp0) u28 q <| qi (qt_lss q q) q <| B ?_
  refine Yh q aa (fun aa => ?_) (fun aa => ?_)
  ·refine y <| C <| g <| C <| WP_quiet (by kernel_rfl) (by kernel_rfl) <| qm q <| qm q <| O aa fun ap ad aa => qe ab (hp0) ad u28 i9 q fun _ _ ak => eS u9 ak q <| qm q <| qm q <| O aa fun av ae aa => qe ab (hp1) ae u28 i9 q fun _ _ al => eS u9 al q <| qi (qt_sneq q q) q <| Qn ab fun a ha az af => X <| S1 ha ?_
   refine Yh q aa (fun aa => ?_) (fun aa => ?_)
   ·cases aa
    exact rR <| qa q <| B <| W fun a ha => zj (m (⟨ret_ne, q, ha.s, af⟩))
   cases aa
   exact WP_skip fun a ha => zi <| X <| S1 ha <| Z <| qm q <| qi (qt_add q q) q <| qa q <| WL_nil fun a ha => ⟨q, ha.s, af⟩
  cases aa
  exact WP_exit fun a ha => zo (⟨exit_ne, q, ha.s, ab⟩)
 intro e a aA ag
 rcases o2 with o2 | o2
 ·obtain ⟨rfl, ha, am⟩ := ag
  cases h
  exact zn <| X <| S1 ha <| rR <| qa q <| B <| W fun a ha => ret1 q ha q ⟨q, am⟩
 obtain ⟨rfl, ha, ao⟩ := ag
 obtain rfl := L h
 exact zj (m (ret1 q ha q ⟨q, ao⟩))
theorem w_laws_noHouse {w G A0 B0 A1 B1 A2 B2 B3 A4 B4 r} (h : laws_noHouseS B0 B1 B2 B3 B4 = some r) (C0 : Has G ty12 A0 B0) (C1 : Has G tI A1 B1) (C2 : Has G tI A2 B2) (C4 : Has G ty14 A4 B4) (H : Ctx w G) : Calls Tryz.prog 12 #[.agg #[A0, A1, A2, iV B3, A4]] w fun e w' => e = .returned (.bool r) ∧ Holds M0 w w' [] G := by
 refine F0 6 H Tryz.func12 q fun H => ?_
 refine C <| Z <| WL_box (cs := [A0, A1, A2, iV B3, A4]) H q q q q fun b1 w2 H3 => qa q <| B <| C <| zk <| eA H3.p0 us27 uo27 il27 q <| qi (qt_build (args := []) (css := []) (cells := #[nS, nS, nS, iV 0, nS]) q trivial (by kernel_rfl)) q <| O h fun x6 aa h => qc q c9 H3 (fun _ => w_laws_sameHouse aa (C0.c) (C1.c) (C2.c) (C4.c) (HasRo.has HasRo.nil) (HasRo.has HasRo.nil) (HasRo.has HasRo.nil) (HasRo.has HasRo.nil)) <| qa q <| Qn H3 fun a ha w8 ab => X <| S1 ha <| W fun a ha => ?_
 obtain rfl := L h
 exact ret1 q ha q ⟨q, ab.q0⟩
end Go.Proofs.YtkhnponakhabdaaGreatDoor
