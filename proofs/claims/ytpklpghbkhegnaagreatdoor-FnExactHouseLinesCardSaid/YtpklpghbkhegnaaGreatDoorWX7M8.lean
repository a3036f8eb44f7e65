/- The walks: each Go function computes its shallow function. Printed by a program. -/
import Derived.Test.YtpklpghbkhegnaaGreatDoorWX7M7
set_option linter.unusedVariables false
set_option maxRecDepth 10000
set_option maxHeartbeats 8000000
namespace Go.Proofs.YtpklpghbkhegnaaGreatDoor
open Go Go.RowKit
theorem w_impl_HouseLine {w G A0 B0 A1 B1 A2 B2 B3 A4 B4 p1 r} (h : impl_HouseLineS B0 B1 B2 B3 B4 p1 = some r) (hGl : Glob G) (hGm : GlobM G) (hGp : GlobP G) (C0 : Has G ty12 A0 B0) (C1 : Has G tI A1 B1) (C2 : Has G tI A2 B2) (C4 : Has G ty14 A4 B4) (H : Ctx w G) : Calls Tryz.prog 8 #[.agg #[A0, A1, A2, iV B3, A4], strV p1] w fun e w' => ∃ (v1 : Value) (csv1 : List Value) (Fv1 : List Nat) (v4 : Value) (v5 : Value) (v6 : Value) (csv6 : List Value) (Fv6 : List Nat), e = .returned (.tuple #[.agg #[v1, v4, v5, iV r.1.2.2.2.1, v6], strV r.2]) ∧ Holds M0 w w' [dpR 95 dt15 v1 csv1 r.1.1 Fv1, .sl 3 tI v4 r.1.2.1, .sl 3 tI v5 r.1.2.2.1, dpR 89 dt16 v6 csv6 r.1.2.2.2.2 Fv6] G := by
 refine F0 47 H Tryz.func8 q fun H => ?_
 refine C <| Z <| WL_box (cs := [A0, A1, A2, iV B3, A4]) H q q q q fun b1 w2 H3 => zq (cs := [nS, nS, nS, iV 0, nS]) H3 z31 q q q fun b5 w6 H7 => qa q <| B <| C <| C <| zk <| eA H7.p1 us31 uo31 il31 q <| O h fun b7 bn h => qc q c39 H7 (fun _ => w_impl_HouseValid bn (C0.c.c) (C1.c.c) (C2.c.c) (C4.c.c)) <| qi (qt_not q) q <| Qn H7 fun a ha b8 aM => X <| S1 ha ?_
 refine Yh q h (fun h => ?_) (fun h => ?_)
 ·cases h
  exact rR <| qi (qt_build (args := []) (css := []) (cells := #[nS, nS, nS, iV 0, nS]) q trivial (by kernel_rfl)) q <| zl (cs' := [nS, nS, nS, iV 0, nS]) aM q il31 q q q q q fun b9 a2 => qa q <| B <| W fun a ha => have bo := R a2.p0; have bp := a2.nD 95 dt15; have bq := bp.nS 3 tI; have br := bq.nS 3 tI; have bs := br.nD 89 dt16; m (retct q ha q q (run_loadVar_bx (cs := [nS, nS, nS, iV 0, nS]) us31 uo31 il31 bo) ⟨(nS), [], [], (nS), (nS), (nS), [], [], q, bs.q4.q4.p1.p2.p3⟩)
 refine y <| C <| rR <| qm q <| O h fun aa bu h => U0 q c40 (w_impl_ReadDeed bu hGl.c.c hGm.c.c aM.ctx) fun ca bv => have bw := aM.cN0 [] bv; qm q <| qi (zv q q) q <| qi (zv q q) q <| zq (cs := [iV 0, iV 0, iV 0, iV 0]) bw z50 q q q fun aw cb bz => zl (cs' := [iV aa.1.1, iV aa.1.2.1, iV aa.1.2.2.1, iV aa.1.2.2.2]) bz q il50 q q q q q fun cc ap => qa q <| rN <| qm q <| B ?_
 refine Yh q h (fun h => ?_) (fun h => ?_)
 ·refine rR <| eA ap.p2 us31 uo31 il31 q <| eA ap.p0 us50 uo50 il50 q <| O h fun ax bA h => zd q q c41 (w_impl_HouseDo bA hGl.c.c.c (C0.c.c.c) (C1.c.c.c) (C2.c.c.c) (C4.c.c.c) ap.ctx) q ?_
  rintro _ cd ⟨aj, a3, a4, ak, al, am, a5, a6, rfl, bB⟩; refine ⟨_, q, ?_⟩
  refine have bC := ap.cN4 [] bB; qm q <| qi (zv q q) q <| qi (zv q q) q <| zq (cs := [nS, nS, nS, iV 0, nS]) bC z31 q q q fun ce cf a7 => have aC := a7.viewG (Vw.c (Vw.d (Vw.c (Vw.c (Vw.d (Vw.c (Vw.c (Vw.c Vw.refl)))))))); zl (cs' := [aj, ak, al, iV ax.1.2.2.2.1, am]) a7 q il31 q (T (aC.sliceOne hR1) (T (aC.sliceOne hS2) (T (aC.sliceOne hS3) (T q (T (aC.sliceOne hR4) q))))) q q q fun cg aD => qa q <| B <| C <| rR <| qm q <| qi (qt_not q) q <| B ?_
  refine Yh q h (fun h => ?_) (fun h => ?_)
  ·cases h
   exact rR <| eA aD.p0 us31 uo31 il31 q <| have a8 := aD.p6; have aE := a8.viewG (Vw.c (Vw.c (Vw.d (Vw.c (Vw.c (Vw.d (Vw.c (Vw.c Vw.refl)))))))); zl (cs' := [aj, ak, al, iV ax.1.2.2.2.1, am]) a8 q il31 q (T (aE.sliceOne hR2) (T (aE.sliceOne hS3) (T (aE.sliceOne hS4) (T q (T (aE.sliceOne hR5) q))))) q q q fun ch a9 => qa q <| B <| W fun a ha => have bD := R a9.p0; m (m (retct q ha q q (run_loadVar_bx (cs := [aj, ak, al, iV ax.1.2.2.2.1, am]) us31 uo31 il31 bD) ⟨aj, a3, a4, ak, al, am, a5, a6, q, a9.q0.q0.q4.q4.p3.p3.p3.p3⟩))
  cases h
  exact y <| rR <| eA aD.p0 us31 uo31 il31 q <| have ba := aD.p6; have aF := ba.viewG (Vw.c (Vw.c (Vw.d (Vw.c (Vw.c (Vw.d (Vw.c (Vw.c Vw.refl)))))))); zl (cs' := [aj, ak, al, iV ax.1.2.2.2.1, am]) ba q il31 q (T (aF.sliceOne hR2) (T (aF.sliceOne hS3) (T (aF.sliceOne hS4) (T q (T (aF.sliceOne hR5) q))))) q q q fun ci bb => qa q <| B <| W fun a ha => have bF := R bb.p0; m (retct q ha q q (run_loadVar_bx (cs := [aj, ak, al, iV ax.1.2.2.2.1, am]) us31 uo31 il31 bF) ⟨aj, a3, a4, ak, al, am, a5, a6, q, bb.q0.q0.q4.q4.p3.p3.p3.p3⟩)
 refine y <| C <| rR <| qm q <| qi (qt_seql q q) q <| B ?_
 refine Yh q h (fun h => ?_) (fun h => ?_)
 ·refine C <| O h fun bH bc h => O h fun ab aN h => ?_
  refine WP_join (M := fun a w2 => ∃ aO aq aP aQ ar au av aR aS, Fr a 47 [(4, pB b5), (10, pB aO)] ∧ Holds M0 w w2 [.bx b5 31 [nS, nS, nS, iV 0, nS], .bx aO 31 [aq, ar, au, iV ab.1.2.2.2.1, av], dpR 95 dt15 aq aP ab.1.1 aQ, .sl 3 tI ar ab.1.2.1, .sl 3 tI au ab.1.2.2.1, dpR 89 dt16 av aR ab.1.2.2.2.2 aS] G) ?_ ?_
  ·refine WP_ordersT (fun w1 w2 => Chg M0 w1 w2) 9 (by kernel_rfl) fun aT bI => have bd := ap.grow bI; ?_
   have aU : Ctx aT ([] ++ ([.bx aw 50 [iV aa.1.1, iV aa.1.2.1, iV aa.1.2.2.1, iV aa.1.2.2.2], .bx b5 31 [nS, nS, nS, iV 0, nS], .bx b1 31 [A0, A1, A2, iV B3, A4]] ++ G)) := bd.ctx
   have bJ : Holds _ aT aT [] ([.bx aw 50 [iV aa.1.1, iV aa.1.2.1, iV aa.1.2.2.1, iV aa.1.2.2.2], .bx b5 31 [nS, nS, nS, iV 0, nS], .bx b1 31 [A0, A1, A2, iV B3, A4]] ++ G) := zb (Rs := []) aU
   refine have Hc := bJ; have bK := HasB.bx (HasB.c (HasB.c (HasB.hd))) Hc.ctx; XT (i := 0) q (by kernel_rfl) q Hc.chg q (qs_agg (cs := [A0, A1, A2, iV B3, A4]) us31 uo31 il31 q (fun j z hj => by rw [Nat.zero_add]; exact bK.cell hj) Hc.chg (Ctx.outB aU (HasB.c (HasB.c (HasB.hd))))) q q ?_
   change XC _ _ _ _ _ _ _ _ ((35, .agg #[A0, A1, A2, iV B3, A4]) :: _) _
   refine have bL := HasB.bx (HasB.c (HasB.c (HasB.hd))) Hc.ctx; XT (i := 1) q (by kernel_rfl) q Hc.chg q (qs_agg (cs := [A0, A1, A2, iV B3, A4]) us31 uo31 il31 q (fun j z hj => by rw [Nat.zero_add]; exact bL.cell hj) Hc.chg (Ctx.outB aU (HasB.c (HasB.c (HasB.hd))))) q q ?_
   change XC _ _ _ _ _ _ _ _ ((36, .agg #[A0, A1, A2, iV B3, A4]) :: _) _
   repeat' first
    | refine XDo 2 q <| U1 q c43 (w_impl_EndDeeds bc (C0.c.c.c) (C1.c.c.c) (C2.c.c.c) (C4.c.c.c) Hc.ctx) fun be _ HK => ?_; have Hc := Hc.cN1 [] HK; refine XN Hc.chg ?_
    | refine XDo 2 q <| U1 q c43 (w_impl_EndDeeds bc (C0.c.c.c.c) (C1.c.c.c.c) (C2.c.c.c.c) (C4.c.c.c.c) Hc.ctx) fun be _ HK => ?_; have Hc := Hc.cN1 [] HK; refine XN Hc.chg ?_
    | refine XDo 3 q <| zd q q c42 (w_impl_HouseRun aN hGl.c.c.c.c (C0.c.c.c.c) (C1.c.c.c.c) (C2.c.c.c.c) (C4.c.c.c.c) hS0 Hc.ctx) q ?_; rintro _ _ ⟨ae, aG, aH, af, ag, ah, aI, aJ, rfl, HK⟩; refine ⟨_, q, ?_⟩; have Hc := Hc.cN4 [] HK; refine XN Hc.chg <| XQ (i := 4) q (by kernel_rfl) q Hc.chg q (fun _ => qt_move q) q q <| XQ (i := 5) q (by kernel_rfl) q Hc.chg q (fun _ => zv q q) q q <| XQ (i := 6) q (by kernel_rfl) q Hc.chg q (fun _ => zv q q) q q ?_
    | refine XDo 3 q <| zd q q c42 (w_impl_HouseRun aN hGl.c.c.c.c.c (C0.c.c.c.c.c) (C1.c.c.c.c.c) (C2.c.c.c.c.c) (C4.c.c.c.c.c) hS1 Hc.ctx) q ?_; rintro _ _ ⟨ae, aG, aH, af, ag, ah, aI, aJ, rfl, HK⟩; refine ⟨_, q, ?_⟩; have Hc := Hc.cN4 [] HK; refine XN Hc.chg <| XQ (i := 4) q (by kernel_rfl) q Hc.chg q (fun _ => qt_move q) q q <| XQ (i := 5) q (by kernel_rfl) q Hc.chg q (fun _ => zv q q) q q <| XQ (i := 6) q (by kernel_rfl) q Hc.chg q (fun _ => zv q q) q q ?_
    | refine XDo 3 q <| zd q q c42 (w_impl_HouseRun aN hGl.c.c.c.c.c (C0.c.c.c.c.c) (C1.c.c.c.c.c) (C2.c.c.c.c.c) (C4.c.c.c.c.c) hS0 Hc.ctx) q ?_; rintro _ _ ⟨ae, aG, aH, af, ag, ah, aI, aJ, rfl, HK⟩; refine ⟨_, q, ?_⟩; have Hc := Hc.cN4 [] HK; refine XN Hc.chg <| XQ (i := 4) q (by kernel_rfl) q Hc.chg q (fun _ => qt_move q) q q <| XQ (i := 5) q (by kernel_rfl) q Hc.chg q (fun _ => zv q q) q q <| XQ (i := 6) q (by kernel_rfl) q Hc.chg q (fun _ => zv q q) q q ?_
    | refine XDo 7 q ?_; refine zq (cs := [nS, nS, nS, iV 0, nS]) Hc z31 q q q (fun bf _ Hc => ?_); refine XN Hc.chg ?_
    | refine XDo 8 q ?_; have ad := Hc.viewG (Vw.c (Vw.d (Vw.c (Vw.c (Vw.d (Vw.c Vw.refl)))))); refine zl (cs' := [ae, af, ag, iV ab.1.2.2.2.1, ah]) Hc q il31 q (T (ad.sliceOne hR1) (T (ad.sliceOne hS2) (T (ad.sliceOne hS3) (T q (T (ad.sliceOne hR4) q))))) q q q (fun _ Hc => ?_); refine XN Hc.chg ?_
    | refine XDo 8 q ?_; have Hc := Hc.p4; have ad := Hc.viewG (Vw.c (Vw.d (Vw.c (Vw.c (Vw.d (Vw.c Vw.refl)))))); refine zl (cs' := [ae, af, ag, iV ab.1.2.2.2.1, ah]) Hc q il31 q (T (ad.sliceOne hR1) (T (ad.sliceOne hS2) (T (ad.sliceOne hS3) (T q (T (ad.sliceOne hR4) q))))) q q q (fun _ Hc => ?_); refine XN Hc.chg ?_
    | refine XDo 8 q ?_; have Hc := Hc.p5; have ad := Hc.viewG (Vw.c (Vw.d (Vw.c (Vw.c (Vw.d (Vw.c Vw.refl)))))); refine zl (cs' := [ae, af, ag, iV ab.1.2.2.2.1, ah]) Hc q il31 q (T (ad.sliceOne hR1) (T (ad.sliceOne hS2) (T (ad.sliceOne hS3) (T q (T (ad.sliceOne hR4) q))))) q q q (fun _ Hc => ?_); refine XN Hc.chg ?_
    | have Hc : Holds _ _ _ [.bx bf 31 [ae, af, ag, iV ab.1.2.2.2.1, ah], dpR 95 dt15 ae aG ab.1.1 aH, .sl 3 tI af ab.1.2.1, .sl 3 tI ag ab.1.2.2.1, dpR 89 dt16 ah aI ab.1.2.2.2.2 aJ, .sl 50 ty10 be bH, .bx aw 50 [iV aa.1.1, iV aa.1.2.1, iV aa.1.2.2.1, iV aa.1.2.2.2], .bx b5 31 [nS, nS, nS, iV 0, nS], .bx b1 31 [A0, A1, A2, iV B3, A4]] G := bd.calledN (Rs := []) Hc; refine XDo 9 q <| qa q <| XE q ?_
    | refine XV [2, 7] (by decide +kernel) q (allc ?_ (allc ?_ alln))
    | refine XV [3, 7] (by decide +kernel) q (allc ?_ (allc ?_ alln))
    | refine XV [7] (by decide +kernel) q (allc ?_ alln)
    | refine XV [8] (by decide +kernel) q (allc ?_ alln)
    | refine XV [9] (by decide +kernel) q (allc ?_ alln)
    | refine XV [3] (by decide +kernel) q (allc ?_ alln)
    | refine XV [2] (by decide +kernel) q (allc ?_ alln)
    | refine XC_done (by decide +kernel) (fun a ha => ?_); have Hc := (((((((((Hc.q5).q5).q6).p4).p4).p4).p4).p4).p5); exact ⟨bf, ae, aG, aH, af, ag, ah, aI, aJ, ha.s, Hc⟩
  rintro a cj ⟨aO, aq, aP, aQ, ar, au, av, aR, aS, ha, aV⟩
  cases h
  exact S1 ha <| rR <| eA aV.p1 us31 uo31 il31 q <| have aK := aV.viewG (Vw.c (Vw.c (Vw.d (Vw.c (Vw.c (Vw.d Vw.refl)))))); zl (cs' := [aq, ar, au, iV ab.1.2.2.2.1, av]) aV q il31 q (T (aK.sliceOne hR2) (T (aK.sliceOne hS3) (T (aK.sliceOne hS4) (T q (T (aK.sliceOne hR5) q))))) q q q fun ck bg => qa q <| B <| W fun a ha => have bM := R bg.p0; m (retct q ha q q (run_loadVar_bx (cs := [aq, ar, au, iV ab.1.2.2.2.1, av]) us31 uo31 il31 bM) ⟨aq, aP, aQ, ar, au, av, aR, aS, q, bg.q0.q0.p3.p3.p3.p3⟩)
 refine y <| C <| O h fun ao bO h => O h fun bP bQ h => ?_
 refine WP_join (M := fun a w2 => ∃ ay aW aX az aA aB aY aZ, Fr a 47 [(4, pB b5), (5, strV bP)] ∧ Holds M0 w w2 [.bx b5 31 [ay, az, aA, iV ao.2.2.2.1, aB], dpR 95 dt15 ay aW ao.1 aX, .sl 3 tI az ao.2.1, .sl 3 tI aA ao.2.2.1, dpR 89 dt16 aB aY ao.2.2.2.2 aZ] G) ?_ ?_
 ·refine WP_ordersT (fun w1 w2 => Chg (([.bx b5 31 [nS, nS, nS, iV 0, nS]] : List Res).flatMap Res.own) w1 w2) 6 (by kernel_rfl) fun a0 bR => have bS := ap.grow bR; have bh := bS.p1; ?_
  have a1 : Ctx a0 ([.bx b5 31 [nS, nS, nS, iV 0, nS]] ++ ([.bx aw 50 [iV aa.1.1, iV aa.1.2.1, iV aa.1.2.2.1, iV aa.1.2.2.2], .bx b1 31 [A0, A1, A2, iV B3, A4]] ++ G)) := bh.ctx
  have bT : Holds _ a0 a0 [.bx b5 31 [nS, nS, nS, iV 0, nS]] ([.bx aw 50 [iV aa.1.1, iV aa.1.2.1, iV aa.1.2.2.1, iV aa.1.2.2.2], .bx b1 31 [A0, A1, A2, iV B3, A4]] ++ G) := zb (Rs := [.bx b5 31 [nS, nS, nS, iV 0, nS]]) a1
  refine have Hc := bT; have bU := HasB.bx (HasB.c (HasB.c (HasB.hd))) Hc.ctx; XT (i := 0) q (by kernel_rfl) q Hc.chg q (qs_agg (cs := [A0, A1, A2, iV B3, A4]) us31 uo31 il31 q (fun j z hj => by rw [Nat.zero_add]; exact bU.cell hj) Hc.chg (Ctx.outB a1 (HasB.c (HasB.hd)))) q q ?_
  change XC _ _ _ _ _ _ _ _ ((42, .agg #[A0, A1, A2, iV B3, A4]) :: _) _
  refine have bV := HasB.bx (HasB.c (HasB.c (HasB.hd))) Hc.ctx; XT (i := 2) q (by kernel_rfl) q Hc.chg q (qs_agg (cs := [A0, A1, A2, iV B3, A4]) us31 uo31 il31 q (fun j z hj => by rw [Nat.zero_add]; exact bV.cell hj) Hc.chg (Ctx.outB a1 (HasB.c (HasB.hd)))) q q ?_
  change XC _ _ _ _ _ _ _ _ ((44, .agg #[A0, A1, A2, iV B3, A4]) :: _) _
  refine XQ (i := 3) q (by kernel_rfl) q Hc.chg q (fun _ => qt_move q) q q ?_
  repeat' first
   | refine XDo 1 q <| zd q q c44 (w_impl_copyHouse bO (C0.c.c.c) (C1.c.c.c) (C2.c.c.c) (C4.c.c.c) Hc.ctx) q ?_; rintro _ _ ⟨bi, bW, bX, bj, bk, bl, bY, bZ, rfl, HK⟩; refine ⟨_, q, ?_⟩; have Hc := Hc.cN4 [] HK; refine XN Hc.chg ?_
   | refine XDo 4 q ?_; have b0 := Hc.viewG (Vw.d (Vw.c (Vw.c (Vw.d (Vw.c Vw.refl))))); refine U0 q c45 (w_impl_answerTo bQ hGm.c.c.c.c.c.c.c hGp.c.c.c.c.c.c.c (C0.c.c.c.c.c.c.c) (C1.c.c.c.c.c.c.c) (C2.c.c.c.c.c.c.c) (C4.c.c.c.c.c.c.c) b0) fun _ HK => ?_; have Hc := Hc.cV0 [] HK all_nil; refine XN Hc.chg ?_
   | refine XDo 5 q ?_; have Hc := Hc.p4; have aL := Hc.viewG (Vw.c (Vw.d (Vw.c (Vw.c (Vw.d Vw.refl))))); refine zl (cs' := [bi, bj, bk, iV ao.2.2.2.1, bl]) Hc q il31 q (T (aL.sliceOne hR1) (T (aL.sliceOne hS2) (T (aL.sliceOne hS3) (T q (T (aL.sliceOne hR4) q))))) q q q (fun _ Hc => ?_); refine XN Hc.chg ?_
   | have Hc := bh.cN5 [_] Hc; refine XDo 6 q <| qa q <| XE q ?_
   | refine XV [1] (by decide +kernel) q (allc ?_ alln)
   | refine XV [4] (by decide +kernel) q (allc ?_ alln)
   | refine XV [5] (by decide +kernel) q (allc ?_ alln)
   | refine XV [6] (by decide +kernel) q (allc ?_ alln)
   | refine XC_done (by decide +kernel) (fun a ha => ?_); have Hc := (((((((Hc.q5).q5).p4).p4).p4).p4).p4); exact ⟨bi, bW, bX, bj, bk, bl, bY, bZ, ha.s, Hc⟩
 rintro a cl ⟨ay, aW, aX, az, aA, aB, aY, aZ, ha, bm⟩
 cases h
 exact S1 ha <| W fun a ha => have b4 := R bm.p0; retct q ha q q (run_loadVar_bx (cs := [ay, az, aA, iV ao.2.2.2.1, aB]) us31 uo31 il31 b4) ⟨ay, aW, aX, az, aA, aB, aY, aZ, q, bm.q0.p3.p3.p3.p3⟩
theorem w_impl_HouseLines {w G A0 B0 A1 B1 A2 B2 B3 A4 B4 vp1 p1 r} (h : impl_HouseLinesS B0 B1 B2 B3 B4 p1 = some r) (hGl : Glob G) (hGm : GlobM G) (hGp : GlobP G) (C0 : Has G ty12 A0 B0) (C1 : Has G tI A1 B1) (C2 : Has G tI A2 B2) (C4 : Has G ty14 A4 B4) (hp1 : Has G .str vp1 p1) (H : Ctx w G) : Calls Tryz.prog 15 #[.agg #[A0, A1, A2, iV B3, A4], vp1] w fun e w' => ∃ (v1 : Value) (csv1 : List Value) (Fv1 : List Nat) (v4 : Value) (v5 : Value) (v6 : Value) (csv6 : List Value) (Fv6 : List Nat) (v9 : Value), e = .returned (.tuple #[.agg #[v1, v4, v5, iV r.1.2.2.2.1, v6], v9]) ∧ Holds M0 w w' [dpR 95 dt15 v1 csv1 r.1.1 Fv1, .sl 3 tI v4 r.1.2.1, .sl 3 tI v5 r.1.2.2.1, dpR 89 dt16 v6 csv6 r.1.2.2.2.2 Fv6, .sl 9 .str v9 r.2] G := by
 refine F0 43 H Tryz.func15 q fun H => ?_
 refine C <| Z <| WL_box (cs := [A0, A1, A2, iV B3, A4]) H q q q q fun b1 w2 H3 => zq (cs := [nS, nS, nS, iV 0, nS]) H3 z31 q q q fun b5 w6 H7 => qa q <| B <| C <| C <| zk <| eA H7.p1 us31 uo31 il31 q <| O h fun a5 a6 h => qc q c39 H7 (fun _ => w_impl_HouseValid a6 (C0.c.c) (C1.c.c) (C2.c.c) (C4.c.c)) <| qi (qt_not q) q <| qm q ?_
 refine Go (res := ((!a5) || (decide ((List.length p1 : Int) > 40)))) 3 os (fun ae bW a7 => ?_) ?_
 ·exact jm ae q <| jz H7.ctx (hp1.c.c) u38 ae q <| ji (qt_gtr q q) ae q <| a7 3 q q q (oi ae)
 refine Qn H7 fun a ha bX af => X <| S1 ha ?_
 refine Yh q h (fun h => ?_) (fun h => ?_)
 ·cases h
  exact rR <| qi (qt_build (args := []) (css := []) (cells := #[nS, nS, nS, iV 0, nS]) q trivial (by kernel_rfl)) q <| zl (cs' := [nS, nS, nS, iV 0, nS]) af q il31 q q q q q fun bY aB => qa q <| B <| W fun a ha => have a8 := R aB.p0; have a9 := aB.nD 95 dt15; have ba := a9.nS 3 tI; have bb := ba.nS 3 tI; have bc := bb.nD 89 dt16; have bd := bc.nS 9 .str; m (retct q ha q q (run_loadVar_bx (cs := [nS, nS, nS, iV 0, nS]) us31 uo31 il31 a8) ⟨(nS), [], [], (nS), (nS), (nS), [], [], (nS), q, bd.q5.q5.p1.p2.p3.p4⟩)
 refine y <| rR <| eA af.p1 us31 uo31 il31 q <| O h fun bf bg h => zd q q c44 (w_impl_copyHouse bg (C0.c.c) (C1.c.c) (C2.c.c) (C4.c.c) af.ctx) q ?_
 rintro _ bZ ⟨aC, bh, bi, aD, aE, aF, bj, bk, rfl, bl⟩; refine ⟨_, q, ?_⟩
 refine have bm := af.cN4 [] bl; zq (cs := [nS, nS, nS, iV 0, nS]) bm z31 q q q fun ag b0 aG => have ah := aG.viewG (Vw.c (Vw.d (Vw.c (Vw.c (Vw.d (Vw.c (Vw.c Vw.refl))))))); zl (cs' := [aC, aD, aE, iV bf.2.2.2.1, aF]) aG q il31 q (T (ah.sliceOne hR1) (T (ah.sliceOne hS2) (T (ah.sliceOne hS3) (T q (T (ah.sliceOne hR4) q))))) q q q fun b4 aH => rN <| qm q <| have bn := aH.viewG (Vw.c (Vw.d (Vw.c (Vw.c (Vw.d (Vw.c (Vw.c Vw.refl))))))); qz bn (hp1.c.c.c.c.c.c.c) u38 q <| O h fun b6 bo h => WL_makeH aH bo u38 j9 q (fun _ => ⟨q, q⟩) q q q q q fun ad b7 aI => qa q <| B <| C <| rR <| qm q <| have bp := aI.viewG (Vw.c (Vw.c (Vw.d (Vw.c (Vw.c (Vw.d (Vw.c (Vw.c Vw.refl)))))))); qz bp (hp1.c.c.c.c.c.c.c.c) u38 q <| qm q <| B <| g <| O h fun bq br h => ?_
 refine fun b8 bt => zp (I := fun (aJ, aK, aL, aM, aN, aO, aP) a w2 => ∃ aj aq ar ak al am au av, Fr a 43 [(4, pB b5), (6, pB ag), (7, ad), (24, vp1), (25, iV (List.length p1 : Int)), (26, iV aJ)] ∧ Holds M0 w w2 [.bx b5 31 [nS, nS, nS, iV 0, nS], .bx ag 31 [aj, ak, al, iV aN, am], dpR 95 dt15 aj aq aK ar, .sl 3 tI ak aL, .sl 3 tI al aM, dpR 89 dt16 am au aO av, .sl 9 .str ad aP] G) (O := fun (q0, q1, q2, q3, q4, q5) e a w2 => e = .exit 0 ∧ ∃ aQ bu bv aR aS aT bw bz, Fr a 43 [(4, pB b5), (6, pB ag), (7, ad)] ∧ Holds M0 w w2 [.bx b5 31 [nS, nS, nS, iV 0, nS], .bx ag 31 [aQ, aR, aS, iV q3, aT], dpR 95 dt15 aQ bu q0 bv, .sl 3 tI aR q1, .sl 3 tI aS q2, dpR 89 dt16 aT bw q4 bz, .sl 9 .str ad q5] G) br ?_ ?_ ?_
 ·exact ⟨aC, bh, bi, aD, aE, aF, bj, bk, bt.s, aI.q7.p5.p5.p5.p5.p5.p6⟩
 ·rintro ⟨aJ, aK, aL, aM, aN, aO, aP⟩ _ a b9 aa ⟨aj, aq, ar, ak, al, am, au, av, ha, ab⟩
  refine S1 ha <| rR <| qi (qt_lss q q) q <| B <| C ?_
  refine Yh q aa (fun aa => ?_) (fun aa => ?_)
  ·refine y <| C <| g <| rR <| qm q <| O aa fun ca aU aa => have bA := ab.viewG (Vw.c (Vw.c (Vw.d (Vw.c (Vw.c (Vw.d (Vw.c Vw.refl))))))); qb bA (hp1.c.c.c.c.c.c.c) aU u38 i9 q fun cb cc cd bB => eS u9 (ab.el (hp1.c.c.c.c.c.c.c) aU bB) q <| qa q <| qa q <| B <| Z <| qm q <| qm q <| eA ab.p1 us31 uo31 il31 q <| qm q <| O aa fun aV bC aa => have bD := ab.viewG (Vw.c (Vw.c (Vw.d (Vw.c (Vw.c (Vw.d (Vw.c Vw.refl))))))); zd q q c8 (w_impl_HouseLine bC hGl.c.c.c.c.c.c.c hGm.c.c.c.c.c.c.c hGp.c.c.c.c.c.c.c hR2 hS3 hS4 hR5 bD) q ?_
   rintro _ ce ⟨aW, bE, bF, aX, aY, aZ, bG, bH, rfl, bI⟩; refine ⟨_, q, ?_⟩
   refine have bJ := ab.cV4 [] bI (zc Pure.dp (zc (Pure.sl q) (zc (Pure.sl q) (zc Pure.dp all_nil)))); qm q <| qi (zv q q) q <| qi (zv q q) q <| have a0 := bJ.p5; have ao := a0.viewG (Vw.c (Vw.d (Vw.c (Vw.c (Vw.d (Vw.c (Vw.d (Vw.c (Vw.c (Vw.d (Vw.c Vw.refl))))))))))); zl (cs' := [aW, aX, aY, iV aV.1.2.2.2.1, aZ]) a0 q il31 q (T (ao.sliceOne hR1) (T (ao.sliceOne hS2) (T (ao.sliceOne hS3) (T q (T (ao.sliceOne hR4) q))))) q q q fun cf a1 => O aa fun cg a2 aa => have bK := a1.viewG (Vw.c (Vw.d (Vw.c (Vw.c (Vw.d (Vw.c (Vw.d (Vw.c (Vw.c (Vw.d (Vw.c Vw.refl))))))))))); qb bK hS10 a2 u38 i9 q fun ch ci cj bL => WL_storeH (fo := 0) (cs' := [strV aV.2]) a1.p10 a2 bL (Upd.whole (Blt.str)) q il9 q q q q fun ck bN => WL_nil fun a ha => zi <| X <| S1 ha <| Z <| qi (qt_add q q) q <| qm q <| WL_nil fun a ha => ?_
   cases aa
   exact ⟨q, aW, bE, bF, aX, aY, aZ, bG, bH, ha.s, bN.q7.q7.q7.q7.p5.p5.p5.p5.p5.p6⟩
  cases aa
  exact WP_exit fun a ha => zo (⟨exit_ne, q, aj, aq, ar, ak, al, am, au, av, ha.s, ab.p6.p6.p6.p6.p6.p6.p6⟩)
 obtain ⟨cl, cm, cn, a3, co, cp⟩ := bq
 rintro _ a cq ⟨rfl, aw, bQ, bR, ax, ay, az, bS, bT, ha, aA⟩
 cases h
 exact zn <| X <| S1 ha <| rR <| eA aA.p1 us31 uo31 il31 q <| qm q <| have ap := aA.viewG (Vw.c (Vw.c (Vw.d (Vw.c (Vw.c (Vw.d (Vw.c Vw.refl))))))); zl (cs' := [aw, ax, ay, iV a3, az]) aA q il31 q (T (ap.sliceOne hR2) (T (ap.sliceOne hS3) (T (ap.sliceOne hS4) (T q (T (ap.sliceOne hR5) q))))) q q q fun cr a4 => qa q <| B <| W fun a ha => have bU := R a4.p0; retct q ha q q (run_loadVar_bx (cs := [aw, ax, ay, iV a3, az]) us31 uo31 il31 bU) ⟨aw, bQ, bR, ax, ay, az, bS, bT, ad, q, a4.q0.q0.p4.p4.p4.p4.p4⟩
theorem w_laws_eqPart {w G B0 B1 p1_0 p1_1 r} (h : laws_eqPartS B0 B1 p1_0 p1_1 = some r) (H : Ctx w G) : Calls Tryz.prog 155 #[.agg #[iV B0, iV B1], .agg #[iV p1_0, iV p1_1]] w fun e w' => e = .returned (.bool r) ∧ Holds M0 w w' [] G := by
 refine F0 15 H Tryz.func155 q fun H => ?_
 refine C <| Z <| WL_box (cs := [iV B0, iV B1]) H q q q q fun b1 w2 H3 => WL_box (cs := [iV p1_0, iV p1_1]) H3 q q q q fun b5 w6 H7 => qa q <| B <| C <| rR <| qf uf152 fi152_0 nz3 q <| ql u3 H7.p1 q <| qf uf152 fi152_0 nz3 q <| ql u3 H7.p0 q <| qi (qt_neq q q) q <| B ?_
 refine Yh q h (fun h => ?_) (fun h => ?_)
 ·cases h
  exact rR <| qa q <| B <| W fun a ha => m (ret1 q ha q ⟨q, H7.q0.q0⟩)
 refine y <| C <| rR <| qf uf152 fi152_1 nz3 q <| ql u3 H7.p1 q <| qf uf152 fi152_1 nz3 q <| ql u3 H7.p0 q <| qi (qt_neq q q) q <| B ?_
 refine Yh q h (fun h => ?_) (fun h => ?_)
 ·cases h
  exact rR <| qa q <| B <| W fun a ha => m (ret1 q ha q ⟨q, H7.q0.q0⟩)
 cases h
 exact y <| rR <| qa q <| B <| W fun a ha => ret1 q ha q ⟨q, H7.q0.q0⟩
theorem w_laws_eqPartS {w G vp0 p0 vp1 p1 r} (h : laws_eqPartSS p0 p1 = some r) (hp0 : Has G ty2 vp0 p0) (hp1 : Has G ty2 vp1 p1) (H : Ctx w G) : Calls Tryz.prog 130 #[vp0, vp1] w fun e w' => e = .returned (.bool r) ∧ Holds M0 w w' [] G := by
 refine F0 27 H Tryz.func130 q fun H => ?_
 refine rR <| qa q <| B <| C <| rR <| qm q <| qz H.ctx (hp0) u93 q <| qm q <| qz H.ctx (hp1) u93 q <| qi (qt_neq q q) q <| B ?_
 refine Yh q h (fun h => ?_) (fun h => ?_)
 ·cases h
  exact rR <| qa q <| B <| W fun a ha => m (ret1 q ha q ⟨q, H⟩)
 refine y <| C <| rR <| qa q <| B <| g <| O h fun o2 ak h => ?_
 refine fun a4 al => zp (I := fun s1 a w2 => (Fr a 27 [(0, vp0), (1, vp1), (5, iV s1)] ∧ Holds M0 w w2 [] G)) (O := fun o e a w2 => match o with | .inl _ => e = .exit 0 ∧ (Fr a 27 [] ∧ Holds M0 w w2 [] G) | .inr q0 => e = .ret ∧ (Fr a 27 [(4, .bool q0)] ∧ Holds M0 w w2 [] G)) ak ?_ ?_ ?_
 ·exact ⟨al.s, H⟩
 ·rintro s1 _ a w6 aa ⟨ha, ab⟩
  refine S1 ha <| C <| rR <| qm q <| qm q <| qz ab.ctx (hp0) u93 q <| qi (qt_lss q q) q <| B ?_
  refine Yh q aa (fun aa => ?_) (fun aa => ?_)
  ·refine y <| C <| g <| C <| WP_quiet (by kernel_rfl) (by kernel_rfl) <| qm q <| qm q <| O aa fun ad ae aa => qe ab (hp0) ae u93 i152 q fun _ _ am => lP [iV ad.1, iV ad.2] us152 uo152 i152 am q q q q <| qm q <| qm q <| O aa fun af ag aa => qe ab (hp1) ag u93 i152 q fun _ _ ao => lP [iV af.1, iV af.2] us152 uo152 i152 ao q q q q <| O aa fun aA ap aa => qc q c155 ab (fun _ => w_laws_eqPart ap) <| qi (qt_not q) q <| Qn ab fun a ha aB ah => X <| S1 ha ?_
   refine Yh q aa (fun aa => ?_) (fun aa => ?_)
   ·cases aa
    exact rR <| qa q <| B <| W fun a ha => zj (m (⟨ret_ne, q, ha.s, ah⟩))
   cases aa
   exact WP_skip fun a ha => zi <| X <| S1 ha <| Z <| qm q <| qi (qt_add q q) q <| qa q <| WL_nil fun a ha => ⟨q, ha.s, ah⟩
  cases aa
  exact WP_exit fun a ha => zo (⟨exit_ne, q, ha.s, ab⟩)
 intro e a aC aj
 rcases o2 with o2 | o2
 ·obtain ⟨rfl, ha, aq⟩ := aj
  cases h
  exact zn <| X <| S1 ha <| rR <| qa q <| B <| W fun a ha => ret1 q ha q ⟨q, aq⟩
 obtain ⟨rfl, ha, ar⟩ := aj
 obtain rfl := L h
 exact zj (m (ret1 q ha q ⟨q, ar⟩))
theorem w_laws_eqItem {w G B0 A1 B1 B2 p1_0 A1_1 p1_1 p1_2 r} (h : laws_eqItemS B0 B1 B2 p1_0 p1_1 p1_2 = some r) (C1 : Has G ty2 A1 B1) (hp1_1 : Has G ty2 A1_1 p1_1) (H : Ctx w G) : Calls Tryz.prog 97 #[.agg #[iV B0, A1, iV B2], .agg #[iV p1_0, A1_1, iV p1_2]] w fun e w' => e = .returned (.bool r) ∧ Holds M0 w w' [] G := by
 refine F0 21 H Tryz.func97 q fun H => ?_
 refine C <| Z <| WL_box (cs := [iV B0, A1, iV B2]) H q q q q fun b1 w2 H3 => WL_box (cs := [iV p1_0, A1_1, iV p1_2]) H3 q q q q fun b5 w6 H7 => qa q <| B <| C <| rR <| qf uf95 fi95_0 nz3 q <| ql u3 H7.p1 q <| qf uf95 fi95_0 nz3 q <| ql u3 H7.p0 q <| qi (qt_neq q q) q <| B ?_
 refine Yh q h (fun h => ?_) (fun h => ?_)
 ·cases h
  exact rR <| qa q <| B <| W fun a ha => m (ret1 q ha q ⟨q, H7.q0.q0⟩)
 refine y <| C <| C <| zk <| qf uf95 fi95_1 nz93 q <| ql u93 H7.p1 q <| qf uf95 fi95_1 nz93 q <| ql u93 H7.p0 q <| O h fun ah ad h => qc q c130 H7 (fun _ => w_laws_eqPartS ad (C1.c.c) (hp1_1.c.c)) <| qi (qt_not q) q <| Qn H7 fun a ha aj aa => X <| S1 ha ?_
 refine Yh q h (fun h => ?_) (fun h => ?_)
 ·cases h
  exact rR <| qa q <| B <| W fun a ha => m (ret1 q ha q ⟨q, aa.q0.q0⟩)
 refine y <| C <| rR <| qf uf95 fi95_2 nz3 q <| ql u3 aa.p1 q <| qf uf95 fi95_2 nz3 q <| ql u3 aa.p0 q <| qi (qt_neq q q) q <| B ?_
 refine Yh q h (fun h => ?_) (fun h => ?_)
 ·cases h
  exact rR <| qa q <| B <| W fun a ha => m (ret1 q ha q ⟨q, aa.q0.q0⟩)
 cases h
 exact y <| rR <| qa q <| B <| W fun a ha => ret1 q ha q ⟨q, aa.q0.q0⟩
theorem w_laws_eqItemS {w G vp0 p0 vp1 p1 r} (h : laws_eqItemSS p0 p1 = some r) (hp0 : Has G ty12 vp0 p0) (hp1 : Has G ty12 vp1 p1) (H : Ctx w G) : Calls Tryz.prog 46 #[vp0, vp1] w fun e w' => e = .returned (.bool r) ∧ Holds M0 w w' [] G := by
 refine F0 27 H Tryz.func46 q fun H => ?_
 refine rR <| qa q <| B <| C <| rR <| qm q <| qz H.ctx (hp0) u28 q <| qm q <| qz H.ctx (hp1) u28 q <| qi (qt_neq q q) q <| B ?_
 refine Yh q h (fun h => ?_) (fun h => ?_)
 ·cases h
  exact rR <| qa q <| B <| W fun a ha => m (ret1 q ha q ⟨q, H⟩)
 refine y <| C <| rR <| qa q <| B <| g <| O h fun o2 ap h => ?_
 refine fun a4 aq => zp (I := fun s1 a w2 => (Fr a 27 [(0, vp0), (1, vp1), (5, iV s1)] ∧ Holds M0 w w2 [] G)) (O := fun o e a w2 => match o with | .inl _ => e = .exit 0 ∧ (Fr a 27 [] ∧ Holds M0 w w2 [] G) | .inr q0 => e = .ret ∧ (Fr a 27 [(4, .bool q0)] ∧ Holds M0 w w2 [] G)) ap ?_ ?_ ?_
 ·exact ⟨aq.s, H⟩
 ·rintro s1 _ a w6 aa ⟨ha, ad⟩
  refine S1 ha <| C <| rR <| qm q <| qm q <| qz ad.ctx (hp0) u28 q <| qi (qt_lss q q) q <| B ?_
  refine Yh q aa (fun aa => ?_) (fun aa => ?_)
  ·refine y <| C <| g <| C <| WP_quiet (by kernel_rfl) (by kernel_rfl) <| qm q <| qm q <| O aa fun ab ah aa => qb ad.ctx (hp0) ah u28 i95 q fun aU aV aW ar => ?_
   obtain ⟨aX, au, av⟩ := ad.atN (hp0) ah ar
   refine XL_load_agg (t := ty12) us95 uo95 i95 au q q q fun aY aw => ?_
   obtain ⟨c22, c23, aZ, a0, rfl, ax, ay, az⟩ := aw
   obtain ⟨rfl, _⟩ := ay
   obtain ⟨c29, c30, a1, a2, rfl, aA, aB, aC⟩ := az
   obtain ⟨ae, rfl, aD⟩ := Rep.sl_inv aB
   obtain ⟨rfl, _⟩ := aC
   have aj : Holds _ w w6 [.ro ty2 ae ab.2.1] G := av [.ro ty2 ae ab.2.1] ⟨⟨_, _, _, _, q, aD, (fun k h => (fun k h => (fun _ h => h) k (by rw [ax]; exact zx _ h)) k (by rw [aA]; exact List.mem_append_left _ h))⟩, trivial⟩
   change XL _ _ _ _ _ ((20, .agg #[iV ab.1, ae, iV ab.2.2]) :: _) _
   refine qm q <| qm q <| O aa fun af ak aa => qb aj.ctx (hp1.c) ak u28 i95 q fun a3 a5 a6 aE => ?_
   obtain ⟨a7, aF, aG⟩ := aj.atN (hp1.c) ak aE
   refine XL_load_agg (t := ty12) us95 uo95 i95 aF q q q fun a8 aH => ?_
   obtain ⟨c50, c51, a9, ba, rfl, aI, aJ, aK⟩ := aH
   obtain ⟨rfl, _⟩ := aJ
   obtain ⟨c57, c58, bb, bc, rfl, aL, aM, aN⟩ := aK
   obtain ⟨ag, rfl, aO⟩ := Rep.sl_inv aM
   obtain ⟨rfl, _⟩ := aN
   have al : Holds _ w w6 [.ro ty2 ag af.2.1, .ro ty2 ae ab.2.1] G := aG [.ro ty2 ag af.2.1] ⟨⟨_, _, _, _, q, aO, (fun k h => (fun k h => (fun _ h => h) k (by rw [aI]; exact zx _ h)) k (by rw [aL]; exact List.mem_append_left _ h))⟩, trivial⟩
   change XL _ _ _ _ _ ((24, .agg #[iV af.1, ag, iV af.2.2]) :: _) _
   refine O aa fun bd aP aa => qc q c97 al (fun _ => w_laws_eqItem aP hR1 hR0) <| qi (qt_not q) q <| Qn al fun a ha be am => X <| S1 ha ?_
   refine Yh q aa (fun aa => ?_) (fun aa => ?_)
   ·cases aa
    exact rR <| qa q <| B <| W fun a ha => zj (m (⟨ret_ne, q, ha.s, am.q0.q0⟩))
   cases aa
   exact WP_skip fun a ha => zi <| X <| S1 ha <| Z <| qm q <| qi (qt_add q q) q <| qa q <| WL_nil fun a ha => ⟨q, ha.s, am.q0.q0⟩
  cases aa
  exact WP_exit fun a ha => zo (⟨exit_ne, q, ha.s, ad⟩)
 intro e a bf ao
 rcases o2 with o2 | o2
 ·obtain ⟨rfl, ha, aS⟩ := ao
  cases h
  exact zn <| X <| S1 ha <| rR <| qa q <| B <| W fun a ha => ret1 q ha q ⟨q, aS⟩
 obtain ⟨rfl, ha, aT⟩ := ao
 obtain rfl := L h
 exact zj (m (ret1 q ha q ⟨q, aT⟩))
theorem w_laws_eqIntS {w G vp0 p0 vp1 p1 r} (h : laws_eqIntSS p0 p1 = some r) (hp0 : Has G tI vp0 p0) (hp1 : Has G tI vp1 p1) (H : Ctx w G) : Calls Tryz.prog 47 #[vp0, vp1] w fun e w' => e = .returned (.bool r) ∧ Holds M0 w w' [] G := by
 refine F0 26 H Tryz.func47 q fun H => ?_
 refine rR <| qa q <| B <| C <| rR <| qm q <| qz H.ctx (hp0) u23 q <| qm q <| qz H.ctx (hp1) u23 q <| qi (qt_neq q q) q <| B ?_
 refine Yh q h (fun h => ?_) (fun h => ?_)
 ·cases h
  exact rR <| qa q <| B <| W fun a ha => m (ret1 q ha q ⟨q, H⟩)
 refine y <| C <| rR <| qa q <| B <| g <| O h fun o2 ah h => ?_
 refine fun a4 aj => zp (I := fun s1 a w2 => (Fr a 26 [(0, vp0), (1, vp1), (5, iV s1)] ∧ Holds M0 w w2 [] G)) (O := fun o e a w2 => match o with | .inl _ => e = .exit 0 ∧ (Fr a 26 [] ∧ Holds M0 w w2 [] G) | .inr q0 => e = .ret ∧ (Fr a 26 [(4, .bool q0)] ∧ Holds M0 w w2 [] G)) ah ?_ ?_ ?_
 ·exact ⟨aj.s, H⟩
 ·rintro s1 _ a w6 aa ⟨ha, ab⟩
  refine S1 ha <| C <| rR <| qm q <| qm q <| qz ab.ctx (hp0) u23 q <| qi (qt_lss q q) q <| B ?_
  refine Yh q aa (fun aa => ?_) (fun aa => ?_)
  ·refine y <| C <| g <| C <| WP_quiet (by kernel_rfl) (by kernel_rfl) <| qm q <| qm q <| O aa fun ap ad aa => qe ab (hp0) ad u23 i3 q fun _ _ ak => eI u3 ak q <| qm q <| qm q <| O aa fun av ae aa => qe ab (hp1) ae u23 i3 q fun _ _ al => eI u3 al q <| qi (qt_neq q q) q <| Qn ab fun a ha az af => X <| S1 ha ?_
   refine Yh q aa (fun aa => ?_) (fun aa => ?_)
   ·cases aa
    exact rR <| qa q <| B <| W fun a ha => zj (m (⟨ret_ne, q, ha.s, af⟩))
   cases aa
   exact WP_skip fun a ha => zi <| X <| S1 ha <| Z <| qm q <| qi (qt_add q q) q <| qa q <| WL_nil fun a ha => ⟨q, ha.s, af⟩
  cases aa
  exact WP_exit fun a ha => zo (⟨exit_ne, q, ha.s, ab⟩)
 intro e a aA ag
 rcases o2 with o2 | o2
 ·obtain ⟨rfl, ha, am⟩ := ag
  cases h
  exact zn <| X <| S1 ha <| rR <| qa q <| B <| W fun a ha => ret1 q ha q ⟨q, am⟩
 obtain ⟨rfl, ha, ao⟩ := ag
 obtain rfl := L h
 exact zj (m (ret1 q ha q ⟨q, ao⟩))
theorem w_laws_eqOrder {w G B0 B1 p1_0 p1_1 r} (h : laws_eqOrderS B0 B1 p1_0 p1_1 = some r) (H : Ctx w G) : Calls Tryz.prog 156 #[.agg #[iV B0, iV B1], .agg #[iV p1_0, iV p1_1]] w fun e w' => e = .returned (.bool r) ∧ Holds M0 w w' [] G := by
 refine F0 15 H Tryz.func156 q fun H => ?_
 refine C <| Z <| WL_box (cs := [iV B0, iV B1]) H q q q q fun b1 w2 H3 => WL_box (cs := [iV p1_0, iV p1_1]) H3 q q q q fun b5 w6 H7 => qa q <| B <| C <| rR <| qf uf103 fi103_0 nz3 q <| ql u3 H7.p1 q <| qf uf103 fi103_0 nz3 q <| ql u3 H7.p0 q <| qi (qt_neq q q) q <| B ?_
 refine Yh q h (fun h => ?_) (fun h => ?_)
 ·cases h
  exact rR <| qa q <| B <| W fun a ha => m (ret1 q ha q ⟨q, H7.q0.q0⟩)
 refine y <| C <| rR <| qf uf103 fi103_1 nz3 q <| ql u3 H7.p1 q <| qf uf103 fi103_1 nz3 q <| ql u3 H7.p0 q <| qi (qt_neq q q) q <| B ?_
 refine Yh q h (fun h => ?_) (fun h => ?_)
 ·cases h
  exact rR <| qa q <| B <| W fun a ha => m (ret1 q ha q ⟨q, H7.q0.q0⟩)
 cases h
 exact y <| rR <| qa q <| B <| W fun a ha => ret1 q ha q ⟨q, H7.q0.q0⟩
theorem w_laws_eqOrderS {w G vp0 p0 vp1 p1 r} (h : laws_eqOrderSS p0 p1 = some r) (hp0 : Has G ty2 vp0 p0) (hp1 : Has G ty2 vp1 p1) (H : Ctx w G) : Calls Tryz.prog 131 #[vp0, vp1] w fun e w' => e = .returned (.bool r) ∧ Holds M0 w w' [] G := by
 refine F0 27 H Tryz.func131 q fun H => ?_
 refine rR <| qa q <| B <| C <| rR <| qm q <| qz H.ctx (hp0) u87 q <| qm q <| qz H.ctx (hp1) u87 q <| qi (qt_neq q q) q <| B ?_
 refine Yh q h (fun h => ?_) (fun h => ?_)
 ·cases h
  exact rR <| qa q <| B <| W fun a ha => m (ret1 q ha q ⟨q, H⟩)
 refine y <| C <| rR <| qa q <| B <| g <| O h fun o2 ak h => ?_
 refine fun a4 al => zp (I := fun s1 a w2 => (Fr a 27 [(0, vp0), (1, vp1), (5, iV s1)] ∧ Holds M0 w w2 [] G)) (O := fun o e a w2 => match o with | .inl _ => e = .exit 0 ∧ (Fr a 27 [] ∧ Holds M0 w w2 [] G) | .inr q0 => e = .ret ∧ (Fr a 27 [(4, .bool q0)] ∧ Holds M0 w w2 [] G)) ak ?_ ?_ ?_
 ·exact ⟨al.s, H⟩
 ·rintro s1 _ a w6 aa ⟨ha, ab⟩
  refine S1 ha <| C <| rR <| qm q <| qm q <| qz ab.ctx (hp0) u87 q <| qi (qt_lss q q) q <| B ?_
  refine Yh q aa (fun aa => ?_) (fun aa => ?_)
  ·refine y <| C <| g <| C <| WP_quiet (by kernel_rfl) (by kernel_rfl) <| qm q <| qm q <| O aa fun ad ae aa => qe ab (hp0) ae u87 i103 q fun _ _ am => lP [iV ad.1, iV ad.2] us103 uo103 i103 am q q q q <| qm q <| qm q <| O aa fun af ag aa => qe ab (hp1) ag u87 i103 q fun _ _ ao => lP [iV af.1, iV af.2] us103 uo103 i103 ao q q q q <| O aa fun aA ap aa => qc q c156 ab (fun _ => w_laws_eqOrder ap) <| qi (qt_not q) q <| Qn ab fun a ha aB ah => X <| S1 ha ?_
   refine Yh q aa (fun aa => ?_) (fun aa => ?_)
   ·cases aa
    exact rR <| qa q <| B <| W fun a ha => zj (m (⟨ret_ne, q, ha.s, ah⟩))
   cases aa
   exact WP_skip fun a ha => zi <| X <| S1 ha <| Z <| qm q <| qi (qt_add q q) q <| qa q <| WL_nil fun a ha => ⟨q, ha.s, ah⟩
  cases aa
  exact WP_exit fun a ha => zo (⟨exit_ne, q, ha.s, ab⟩)
 intro e a aC aj
 rcases o2 with o2 | o2
 ·obtain ⟨rfl, ha, aq⟩ := aj
  cases h
  exact zn <| X <| S1 ha <| rR <| qa q <| B <| W fun a ha => ret1 q ha q ⟨q, aq⟩
 obtain ⟨rfl, ha, ar⟩ := aj
 obtain rfl := L h
 exact zj (m (ret1 q ha q ⟨q, ar⟩))
theorem w_laws_eqTable {w G B0 A1 B1 A2 B2 p1_0 A1_1 p1_1 A1_2 p1_2 r} (h : laws_eqTableS B0 B1 B2 p1_0 p1_1 p1_2 = some r) (C1 : Has G ty2 A1 B1) (C2 : Has G tI A2 B2) (hp1_1 : Has G ty2 A1_1 p1_1) (hp1_2 : Has G tI A1_2 p1_2) (H : Ctx w G) : Calls Tryz.prog 98 #[.agg #[iV B0, A1, A2], .agg #[iV p1_0, A1_1, A1_2]] w fun e w' => e = .returned (.bool r) ∧ Holds M0 w w' [] G := by
 refine F0 22 H Tryz.func98 q fun H => ?_
 refine C <| Z <| WL_box (cs := [iV B0, A1, A2]) H q q q q fun b1 w2 H3 => WL_box (cs := [iV p1_0, A1_1, A1_2]) H3 q q q q fun b5 w6 H7 => qa q <| B <| C <| rR <| qf uf89 fi89_0 nz3 q <| ql u3 H7.p1 q <| qf uf89 fi89_0 nz3 q <| ql u3 H7.p0 q <| qi (qt_neq q q) q <| B ?_
 refine Yh q h (fun h => ?_) (fun h => ?_)
 ·cases h
  exact rR <| qa q <| B <| W fun a ha => m (ret1 q ha q ⟨q, H7.q0.q0⟩)
 refine y <| C <| C <| zk <| qf uf89 fi89_1 nz87 q <| ql u87 H7.p1 q <| qf uf89 fi89_1 nz87 q <| ql u87 H7.p0 q <| O h fun ak ae h => qc q c131 H7 (fun _ => w_laws_eqOrderS ae (C1.c.c) (hp1_1.c.c)) <| qi (qt_not q) q <| Qn H7 fun a ha al aa => X <| S1 ha ?_
 refine Yh q h (fun h => ?_) (fun h => ?_)
 ·cases h
  exact rR <| qa q <| B <| W fun a ha => m (ret1 q ha q ⟨q, aa.q0.q0⟩)
 refine y <| C <| C <| zk <| qf uf89 fi89_2 nz23 q <| ql u23 aa.p1 q <| qf uf89 fi89_2 nz23 q <| ql u23 aa.p0 q <| O h fun am ag h => qc q c47 aa (fun _ => w_laws_eqIntS ag (C2.c.c) (hp1_2.c.c)) <| qi (qt_not q) q <| Qn aa fun a ha ao ab => X <| S1 ha ?_
 refine Yh q h (fun h => ?_) (fun h => ?_)
 ·cases h
  exact rR <| qa q <| B <| W fun a ha => m (ret1 q ha q ⟨q, ab.q0.q0⟩)
 cases h
 exact y <| rR <| qa q <| B <| W fun a ha => ret1 q ha q ⟨q, ab.q0.q0⟩
theorem w_laws_eqTableS {w G vp0 p0 vp1 p1 r} (h : laws_eqTableSS p0 p1 = some r) (hp0 : Has G ty14 vp0 p0) (hp1 : Has G ty14 vp1 p1) (H : Ctx w G) : Calls Tryz.prog 48 #[vp0, vp1] w fun e w' => e = .returned (.bool r) ∧ Holds M0 w w' [] G := by
 refine F0 27 H Tryz.func48 q fun H => ?_
 refine rR <| qa q <| B <| C <| rR <| qm q <| qz H.ctx (hp0) u29 q <| qm q <| qz H.ctx (hp1) u29 q <| qi (qt_neq q q) q <| B ?_
 refine Yh q h (fun h => ?_) (fun h => ?_)
 ·cases h
  exact rR <| qa q <| B <| W fun a ha => m (ret1 q ha q ⟨q, H⟩)
 refine y <| C <| rR <| qa q <| B <| g <| O h fun o2 ax h => ?_
 refine fun a4 ay => zp (I := fun s1 a w2 => (Fr a 27 [(0, vp0), (1, vp1), (5, iV s1)] ∧ Holds M0 w w2 [] G)) (O := fun o e a w2 => match o with | .inl _ => e = .exit 0 ∧ (Fr a 27 [] ∧ Holds M0 w w2 [] G) | .inr q0 => e = .ret ∧ (Fr a 27 [(4, .bool q0)] ∧ Holds M0 w w2 [] G)) ax ?_ ?_ ?_
 ·exact ⟨ay.s, H⟩
 ·rintro s1 _ a w6 aa ⟨ha, ae⟩
  refine S1 ha <| C <| rR <| qm q <| qm q <| qz ae.ctx (hp0) u29 q <| qi (qt_lss q q) q <| B ?_
  refine Yh q aa (fun aa => ?_) (fun aa => ?_)
  ·refine y <| C <| g <| C <| WP_quiet (by kernel_rfl) (by kernel_rfl) <| qm q <| qm q <| O aa fun ab ak aa => qb ae.ctx (hp0) ak u29 i89 q fun aY aZ a0 az => ?_
   obtain ⟨a1, aA, aB⟩ := ae.atN (hp0) ak az
   refine XL_load_agg (t := ty14) us89 uo89 i89 aA q q q fun a2 aC => ?_
   obtain ⟨c22, c23, a3, a5, rfl, al, aD, aE⟩ := aC
   obtain ⟨rfl, _⟩ := aD
   obtain ⟨c29, c30, a6, a7, rfl, am, aF, aG⟩ := aE
   obtain ⟨af, rfl, aH⟩ := Rep.sl_inv aF
   obtain ⟨ag, rfl, aI⟩ := Rep.sl_inv aG
   have ao : Holds _ w w6 [.ro ty2 af ab.2.1, .ro tI ag ab.2.2] G := aB [.ro ty2 af ab.2.1, .ro tI ag ab.2.2] ⟨⟨_, _, _, _, q, aH, (fun k h => (fun k h => (fun _ h => h) k (by rw [al]; exact zx _ h)) k (by rw [am]; exact List.mem_append_left _ h))⟩, ⟨_, _, _, _, q, aI, (fun k h => (fun k h => (fun _ h => h) k (by rw [al]; exact zx _ h)) k (by rw [am]; exact zx _ h))⟩, trivial⟩
   change XL _ _ _ _ _ ((20, .agg #[iV ab.1, af, ag]) :: _) _
   refine qm q <| qm q <| O aa fun ad ap aa => qb ao.ctx (hp1.c.c) ap u29 i89 q fun a8 a9 ba aJ => ?_
   obtain ⟨bb, aK, aL⟩ := ao.atN (hp1.c.c) ap aJ
   refine XL_load_agg (t := ty14) us89 uo89 i89 aK q q q fun bc aM => ?_
   obtain ⟨c52, c53, bd, be, rfl, aq, aN, aO⟩ := aM
   obtain ⟨rfl, _⟩ := aN
   obtain ⟨c59, c60, bf, bg, rfl, ar, aP, aQ⟩ := aO
   obtain ⟨ah, rfl, aR⟩ := Rep.sl_inv aP
   obtain ⟨aj, rfl, aS⟩ := Rep.sl_inv aQ
   have au : Holds _ w w6 [.ro ty2 ah ad.2.1, .ro tI aj ad.2.2, .ro ty2 af ab.2.1, .ro tI ag ab.2.2] G := aL [.ro ty2 ah ad.2.1, .ro tI aj ad.2.2] ⟨⟨_, _, _, _, q, aR, (fun k h => (fun k h => (fun _ h => h) k (by rw [aq]; exact zx _ h)) k (by rw [ar]; exact List.mem_append_left _ h))⟩, ⟨_, _, _, _, q, aS, (fun k h => (fun k h => (fun _ h => h) k (by rw [aq]; exact zx _ h)) k (by rw [ar]; exact zx _ h))⟩, trivial⟩
   change XL _ _ _ _ _ ((24, .agg #[iV ad.1, ah, aj]) :: _) _
   refine O aa fun bh aT aa => qc q c98 au (fun _ => w_laws_eqTable aT hR2 hR3 hR0 hR1) <| qi (qt_not q) q <| Qn au fun a ha bi av => X <| S1 ha ?_
   refine Yh q aa (fun aa => ?_) (fun aa => ?_)
   ·cases aa
    exact rR <| qa q <| B <| W fun a ha => zj (m (⟨ret_ne, q, ha.s, av.q0.q0.q0.q0⟩))
   cases aa
   exact WP_skip fun a ha => zi <| X <| S1 ha <| Z <| qm q <| qi (qt_add q q) q <| qa q <| WL_nil fun a ha => ⟨q, ha.s, av.q0.q0.q0.q0⟩
  cases aa
  exact WP_exit fun a ha => zo (⟨exit_ne, q, ha.s, ae⟩)
 intro e a bj aw
 rcases o2 with o2 | o2
 ·obtain ⟨rfl, ha, aW⟩ := aw
  cases h
  exact zn <| X <| S1 ha <| rR <| qa q <| B <| W fun a ha => ret1 q ha q ⟨q, aW⟩
 obtain ⟨rfl, ha, aX⟩ := aw
 obtain rfl := L h
 exact zj (m (ret1 q ha q ⟨q, aX⟩))
theorem w_laws_eqHouse {w G A0 B0 A1 B1 A2 B2 B3 A4 B4 A1_0 p1_0 A1_1 p1_1 A1_2 p1_2 p1_3 A1_4 p1_4 r} (h : laws_eqHouseS B0 B1 B2 B3 B4 p1_0 p1_1 p1_2 p1_3 p1_4 = some r) (C0 : Has G ty12 A0 B0) (C1 : Has G tI A1 B1) (C2 : Has G tI A2 B2) (C4 : Has G ty14 A4 B4) (hp1_0 : Has G ty12 A1_0 p1_0) (hp1_1 : Has G tI A1_1 p1_1) (hp1_2 : Has G tI A1_2 p1_2) (hp1_4 : Has G ty14 A1_4 p1_4) (H : Ctx w G) : Calls Tryz.prog 9 #[.agg #[A0, A1, A2, iV B3, A4], .agg #[A1_0, A1_1, A1_2, iV p1_3, A1_4]] w fun e w' => e = .returned (.bool r) ∧ Holds M0 w w' [] G := by
 refine F0 34 H Tryz.func9 q fun H => ?_
 refine C <| Z <| WL_box (cs := [A0, A1, A2, iV B3, A4]) H q q q q fun b1 w2 H3 => WL_box (cs := [A1_0, A1_1, A1_2, iV p1_3, A1_4]) H3 q q q q fun b5 w6 H7 => qa q <| B <| C <| C <| zk <| qf uf31 fi31_0 nz28 q <| ql u28 H7.p1 q <| qf uf31 fi31_0 nz28 q <| ql u28 H7.p0 q <| O h fun ar af h => qc q c46 H7 (fun _ => w_laws_eqItemS af (C0.c.c) (hp1_0.c.c)) <| qi (qt_not q) q <| Qn H7 fun a ha au ab => X <| S1 ha ?_
 refine Yh q h (fun h => ?_) (fun h => ?_)
 ·cases h
  exact rR <| qa q <| B <| W fun a ha => m (ret1 q ha q ⟨q, ab.q0.q0⟩)
 refine y <| C <| C <| zk <| qf uf31 fi31_1 nz23 q <| ql u23 ab.p1 q <| qf uf31 fi31_1 nz23 q <| ql u23 ab.p0 q <| O h fun av ah h => qc q c47 ab (fun _ => w_laws_eqIntS ah (C1.c.c) (hp1_1.c.c)) <| qi (qt_not q) q <| Qn ab fun a ha aw ad => X <| S1 ha ?_
 refine Yh q h (fun h => ?_) (fun h => ?_)
 ·cases h
  exact rR <| qa q <| B <| W fun a ha => m (ret1 q ha q ⟨q, ad.q0.q0⟩)
 refine y <| C <| C <| zk <| qf uf31 fi31_2 nz23 q <| ql u23 ad.p1 q <| qf uf31 fi31_2 nz23 q <| ql u23 ad.p0 q <| O h fun ax ak h => qc q c47 ad (fun _ => w_laws_eqIntS ak (C2.c.c) (hp1_2.c.c)) <| qi (qt_not q) q <| Qn ad fun a ha ay aa => X <| S1 ha ?_
 refine Yh q h (fun h => ?_) (fun h => ?_)
 ·cases h
  exact rR <| qa q <| B <| W fun a ha => m (ret1 q ha q ⟨q, aa.q0.q0⟩)
 refine y <| C <| rR <| qf uf31 fi31_3 nz3 q <| ql u3 aa.p1 q <| qf uf31 fi31_3 nz3 q <| ql u3 aa.p0 q <| qi (qt_neq q q) q <| B ?_
 refine Yh q h (fun h => ?_) (fun h => ?_)
 ·cases h
  exact rR <| qa q <| B <| W fun a ha => m (ret1 q ha q ⟨q, aa.q0.q0⟩)
 refine y <| C <| C <| zk <| qf uf31 fi31_4 nz29 q <| ql u29 aa.p1 q <| qf uf31 fi31_4 nz29 q <| ql u29 aa.p0 q <| O h fun az ao h => qc q c48 aa (fun _ => w_laws_eqTableS ao (C4.c.c) (hp1_4.c.c)) <| qi (qt_not q) q <| Qn aa fun a ha aA ae => X <| S1 ha ?_
 refine Yh q h (fun h => ?_) (fun h => ?_)
 ·cases h
  exact rR <| qa q <| B <| W fun a ha => m (ret1 q ha q ⟨q, ae.q0.q0⟩)
 cases h
 exact y <| rR <| qa q <| B <| W fun a ha => ret1 q ha q ⟨q, ae.q0.q0⟩
theorem w_laws_eqStringS {w G vp0 p0 vp1 p1 r} (h : laws_eqStringSS p0 p1 = some r) (hp0 : Has G .str vp0 p0) (hp1 : Has G .str vp1 p1) (H : Ctx w G) : Calls Tryz.prog 16 #[vp0, vp1] w fun e w' => e = .returned (.bool r) ∧ Holds M0 w w' [] G := by
 refine F0 26 H Tryz.func16 q fun H => ?_
 refine rR <| qa q <| B <| C <| rR <| qm q <| qz H.ctx (hp0) u38 q <| qm q <| qz H.ctx (hp1) u38 q <| qi (qt_neq q q) q <| B ?_
 refine Yh q h (fun h => ?_) (fun h => ?_)
 ·cases h
  exact rR <| qa q <| B <| W fun a ha => m (ret1 q ha q ⟨q, H⟩)
 refine y <| C <| rR <| qa q <| B <| g <| O h fun o2 ah h => ?_
 refine fun a4 aj => zp (I := fun s1 a w2 => (Fr a 26 [(0, vp0), (1, vp1), (5, iV s1)] ∧ Holds M0 w w2 [] G)) (O := fun o e a w2 => match o with | .inl _ => e = .exit 0 ∧ (Fr a 26 [] ∧ Holds M0 w w2 [] G) | .inr q0 => e = .ret ∧ (Fr a 26 [(4, .bool q0)] ∧ Holds M0 w w2 [] G)) ah ?_ ?_ ?_
 ·exact ⟨aj.s, H⟩
 ·rintro s1 _ a w6 aa ⟨ha, ab⟩
  refine S1 ha <| C <| rR <| qm q <| qm q <| qz ab.ctx (hp0) u38 q <| qi (qt_lss q q) q <| B ?_
  refine Yh q aa (fun aa => ?_) (fun aa => ?_)
  ·refine y <| C <| g <| C <| WP_quiet (by kernel_rfl) (by kernel_rfl) <| qm q <| qm q <| O aa fun ap ad aa => qe ab (hp0) ad u38 i9 q fun _ _ ak => eS u9 ak q <| qm q <| qm q <| O aa fun av ae aa => qe ab (hp1) ae u38 i9 q fun _ _ al => eS u9 al q <| qi (qt_sneq q q) q <| Qn ab fun a ha az af => X <| S1 ha ?_
   refine Yh q aa (fun aa => ?_) (fun aa => ?_)
   ·cases aa
    exact rR <| qa q <| B <| W fun a ha => zj (m (⟨ret_ne, q, ha.s, af⟩))
   cases aa
   exact WP_skip fun a ha => zi <| X <| S1 ha <| Z <| qm q <| qi (qt_add q q) q <| qa q <| WL_nil fun a ha => ⟨q, ha.s, af⟩
  cases aa
  exact WP_exit fun a ha => zo (⟨exit_ne, q, ha.s, ab⟩)
 intro e a aA ag
 rcases o2 with o2 | o2
 ·obtain ⟨rfl, ha, am⟩ := ag
  cases h
  exact zn <| X <| S1 ha <| rR <| qa q <| B <| W fun a ha => ret1 q ha q ⟨q, am⟩
 obtain ⟨rfl, ha, ao⟩ := ag
 obtain rfl := L h
 exact zj (m (ret1 q ha q ⟨q, ao⟩))
theorem w_laws_markPartS {w G vp0 p0 p1 r} (h : laws_markPartSS p0 p1 = some r) (H : Ctx w ([.sl 152 ty2 vp0 p0] ++ G)) : Calls Tryz.prog 99 #[vp0, iV p1] w fun e w' => e = .returned (iV r.2) ∧ Holds (([.sl 152 ty2 vp0 p0] : List Res).flatMap Res.own) w w' [.sl 152 ty2 vp0 r.1] G := by
 refine F1 27 H Tryz.func99 q fun H => ?_
 refine rR <| qa q <| B <| C <| rR <| qa q <| B <| g <| O h fun o4 ag h => ?_
 refine fun a6 ah => zp (I := fun (s1, s2, s3) a w2 => (Fr a 27 [(0, vp0), (1, iV s1), (5, iV s2)] ∧ Holds (([.sl 152 ty2 vp0 p0] : List Res).flatMap Res.own) w w2 [.sl 152 ty2 vp0 s3] G)) (O := fun (q0, q1) e a w2 => e = .exit 0 ∧ (Fr a 27 [(0, vp0), (1, iV q0)] ∧ Holds (([.sl 152 ty2 vp0 p0] : List Res).flatMap Res.own) w w2 [.sl 152 ty2 vp0 q1] G)) ag ?_ ?_ ?_
 ·exact ⟨ah.s, H⟩
 ·rintro ⟨s1, s2, s3⟩ _ a w8 aa ⟨ha, ab⟩
  refine S1 ha <| C <| rR <| qm q <| qm q <| qz ab.ctx hS0 u93 q <| qi (qt_lss q q) q <| B ?_
  refine Yh q aa (fun aa => ?_) (fun aa => ?_)
  ·refine y <| C <| g <| rR <| qm q <| qm q <| qm q <| O aa fun ao ad aa => qb ab.ctx hS0 ad u93 i152 q fun ap aq ar aj => qf uf152 fi152_0 nz3 q <| WL_storeH (fo := 0) (cs' := [iV s1]) ab ad aj (Upd.fst (Upd.whole (Blt.int)) q) q il3 q q q q fun au ae => rN <| qm q <| qi (qt_add q q) q <| qa q <| rN <| qm q <| qm q <| qm q <| O aa fun av af aa => qb ae.ctx hS0 af u93 i152 q fun aw ax ay ak => qf uf152 fi152_1 nz3 q <| WL_storeH (fo := 1) (cs' := [iV (IntKind.wrap .i64 (s1 + 1))]) ae af ak (Upd.snd (Upd.whole (Blt.int))) q il3 q q q q fun az al => B <| Z <| qm q <| qi (qt_add q q) q <| qa q <| WL_nil fun a ha => zi <| X <| S1 ha <| Z <| qm q <| qi (qt_add q q) q <| qa q <| WL_nil fun a ha => ?_
   cases aa
   exact ⟨q, ha.s, al⟩
  cases aa
  exact WP_exit fun a ha => zo (⟨exit_ne, q, ha.s, ab⟩)
 obtain ⟨p33, aA⟩ := o4
 rintro _ a aB ⟨rfl, ha, am⟩
 cases h
 exact zn <| X <| S1 ha <| rR <| qm q <| qa q <| B <| W fun a ha => ret1 q ha q ⟨q, am⟩
theorem w_laws_markItemS {w G vp0 p0 csp0 Fp0 p1 r} (h : laws_markItemSS p0 p1 = some r) (H : Ctx w ([dpR 95 dt15 vp0 csp0 p0 Fp0] ++ G)) : Calls Tryz.prog 49 #[vp0, iV p1] w fun e w' => ∃ (dsp0 : List Value) (Ep0 : List Nat), e = .returned (iV r.2) ∧ Holds (([dpR 95 dt15 vp0 csp0 p0 Fp0] : List Res).flatMap Res.own) w w' [dpR 95 dt15 vp0 dsp0 r.1 Ep0] G := by
 refine F1 34 H Tryz.func49 q fun H => ?_
 refine rR <| qa q <| B <| C <| rR <| qa q <| B <| g <| O h fun o4 aq h => ?_
 refine fun a6 ar => zp (I := fun (s1, s2, s3) a w2 => ∃ ab ad, Fr a 34 [(0, vp0), (1, iV s1), (5, iV s2)] ∧ Holds (([dpR 95 dt15 vp0 csp0 p0 Fp0] : List Res).flatMap Res.own) w w2 [dpR 95 dt15 vp0 ab s3 ad] G) (O := fun (q0, q1) e a w2 => e = .exit 0 ∧ ∃ au av, Fr a 34 [(0, vp0), (1, iV q0)] ∧ Holds (([dpR 95 dt15 vp0 csp0 p0 Fp0] : List Res).flatMap Res.own) w w2 [dpR 95 dt15 vp0 au q1 av] G) aq ?_ ?_ ?_
 ·exact ⟨csp0, Fp0, ar.s, H⟩
 ·rintro ⟨s1, s2, s3⟩ _ a w8 aa ⟨ab, ad, ha, ae⟩
  refine S1 ha <| C <| rR <| qm q <| qm q <| have ah := ae.viewG (Vw.d Vw.refl); qz ah hR0 u28 q <| qi (qt_lss q q) q <| B ?_
  refine Yh q aa (fun aa => ?_) (fun aa => ?_)
  ·refine y <| C <| g <| rR <| qm q <| qm q <| qm q <| O aa fun aN aj aa => qb ah hR0 aj u28 i95 q fun aO aP aQ aw => qf uf95 fi95_0 nz3 q <| WL_storeD (Rs := []) (fo := 0) (cs' := [iV s1]) ae aj aw ((Foc.fst Foc.refl)) (DBlt.cast (DBlt.int (k := .i64) (n := s1)) q q) q il3 q q q fun aR aS aT af => rN <| qm q <| qi (qt_add q q) q <| qa q <| rN <| qm q <| qm q <| O aa fun aU ag aa => have ax := af.viewG (Vw.d Vw.refl); qb ax hR0 ag u28 i95 q fun aV aW aX ay => qf uf95 fi95_1 nz93 q ?_
   obtain ⟨aY, ak, az, aZ, a0, a1⟩ := Holds.ns af ((Foc.snd (Foc.fst Foc.refl))) ag ay
   refine XL_load_cell u93 q az q q q <| qm q ?_
   obtain ⟨a2, al⟩ := Holds.borrow af ((Foc.snd (Foc.fst Foc.refl))) ag ak
   refine O aa fun am aA aa => U0 q c99 (w_laws_markPartS aA al.ctx) fun a3 aB => have aC := al.cN1 [_] aB; ?_
   obtain ⟨a4, ao⟩ := Holds.giveBack q aC.p1.p1 ak
   refine qa q <| rN <| qm q <| qm q <| qm q <| O aa fun a5 ap aa => have aF := ao.viewG (Vw.d Vw.refl); qb aF hR0 ap u28 i95 q fun a7 a8 a9 aG => qf uf95 fi95_2 nz3 q <| WL_storeD (Rs := []) (fo := 2) (cs' := [iV am.2]) ao ap aG ((Foc.snd (Foc.snd Foc.refl))) (DBlt.cast (DBlt.int (k := .i64) (n := am.2)) q q) q il3 q q q fun aH aI ba aJ => B <| Z <| qm q <| qi (qt_add q q) q <| qa q <| WL_nil fun a ha => zi <| X <| S1 ha <| Z <| qm q <| qi (qt_add q q) q <| qa q <| WL_nil fun a ha => ?_
   cases aa
   exact ⟨q, aH, aI, ha.s, aJ⟩
  cases aa
  exact WP_exit fun a ha => zo (⟨exit_ne, q, ab, ad, ha.s, ae⟩)
 obtain ⟨bb, bc⟩ := o4
 rintro _ a bd ⟨rfl, aK, aL, ha, aM⟩
 cases h
 exact zn <| X <| S1 ha <| rR <| qm q <| qa q <| B <| W fun a ha => ret1 q ha q ⟨aK, aL, q, aM⟩
theorem w_laws_markIntS {w G vp0 p0 p1 r} (h : laws_markIntSS p0 p1 = some r) (H : Ctx w ([.sl 3 tI vp0 p0] ++ G)) : Calls Tryz.prog 50 #[vp0, iV p1] w fun e w' => e = .returned (iV r.2) ∧ Holds (([.sl 3 tI vp0 p0] : List Res).flatMap Res.own) w w' [.sl 3 tI vp0 r.1] G := by
 refine F1 19 H Tryz.func50 q fun H => ?_
 refine rR <| qa q <| B <| C <| rR <| qa q <| B <| g <| O h fun o4 ae h => ?_
 refine fun a6 af => zp (I := fun (s1, s2, s3) a w2 => (Fr a 19 [(0, vp0), (1, iV s1), (5, iV s2)] ∧ Holds (([.sl 3 tI vp0 p0] : List Res).flatMap Res.own) w w2 [.sl 3 tI vp0 s3] G)) (O := fun (q0, q1) e a w2 => e = .exit 0 ∧ (Fr a 19 [(0, vp0), (1, iV q0)] ∧ Holds (([.sl 3 tI vp0 p0] : List Res).flatMap Res.own) w w2 [.sl 3 tI vp0 q1] G)) ae ?_ ?_ ?_
 ·exact ⟨af.s, H⟩
 ·rintro ⟨s1, s2, s3⟩ _ a w8 aa ⟨ha, ab⟩
  refine S1 ha <| C <| rR <| qm q <| qm q <| qz ab.ctx hS0 u23 q <| qi (qt_lss q q) q <| B ?_
  refine Yh q aa (fun aa => ?_) (fun aa => ?_)
  ·refine y <| C <| g <| rR <| qm q <| qm q <| qm q <| O aa fun ak ad aa => qb ab.ctx hS0 ad u23 i3 q fun al am ao ag => WL_storeH (fo := 0) (cs' := [iV s1]) ab ad ag (Upd.whole (Blt.int)) q il3 q q q q fun ap ah => B <| Z <| qm q <| qi (qt_add q q) q <| qa q <| WL_nil fun a ha => zi <| X <| S1 ha <| Z <| qm q <| qi (qt_add q q) q <| qa q <| WL_nil fun a ha => ?_
   cases aa
   exact ⟨q, ha.s, ah⟩
  cases aa
  exact WP_exit fun a ha => zo (⟨exit_ne, q, ha.s, ab⟩)
 obtain ⟨p24, p25⟩ := o4
 rintro _ a aq ⟨rfl, ha, aj⟩
 cases h
 exact zn <| X <| S1 ha <| rR <| qm q <| qa q <| B <| W fun a ha => ret1 q ha q ⟨q, aj⟩
theorem w_laws_markOrderS {w G vp0 p0 p1 r} (h : laws_markOrderSS p0 p1 = some r) (H : Ctx w ([.sl 103 ty2 vp0 p0] ++ G)) : Calls Tryz.prog 100 #[vp0, iV p1] w fun e w' => e = .returned (iV r.2) ∧ Holds (([.sl 103 ty2 vp0 p0] : List Res).flatMap Res.own) w w' [.sl 103 ty2 vp0 r.1] G := by
 refine F1 27 H Tryz.func100 q fun H => ?_
 refine rR <| qa q <| B <| C <| rR <| qa q <| B <| g <| O h fun o4 ag h => ?_
 refine fun a6 ah => zp (I := fun (s1, s2, s3) a w2 => (Fr a 27 [(0, vp0), (1, iV s1), (5, iV s2)] ∧ Holds (([.sl 103 ty2 vp0 p0] : List Res).flatMap Res.own) w w2 [.sl 103 ty2 vp0 s3] G)) (O := fun (q0, q1) e a w2 => e = .exit 0 ∧ (Fr a 27 [(0, vp0), (1, iV q0)] ∧ Holds (([.sl 103 ty2 vp0 p0] : List Res).flatMap Res.own) w w2 [.sl 103 ty2 vp0 q1] G)) ag ?_ ?_ ?_
 ·exact ⟨ah.s, H⟩
 ·rintro ⟨s1, s2, s3⟩ _ a w8 aa ⟨ha, ab⟩
  refine S1 ha <| C <| rR <| qm q <| qm q <| qz ab.ctx hS0 u87 q <| qi (qt_lss q q) q <| B ?_
  refine Yh q aa (fun aa => ?_) (fun aa => ?_)
  ·refine y <| C <| g <| rR <| qm q <| qm q <| qm q <| O aa fun ao ad aa => qb ab.ctx hS0 ad u87 i103 q fun ap aq ar aj => qf uf103 fi103_0 nz3 q <| WL_storeH (fo := 0) (cs' := [iV s1]) ab ad aj (Upd.fst (Upd.whole (Blt.int)) q) q il3 q q q q fun au ae => rN <| qm q <| qi (qt_add q q) q <| qa q <| rN <| qm q <| qm q <| qm q <| O aa fun av af aa => qb ae.ctx hS0 af u87 i103 q fun aw ax ay ak => qf uf103 fi103_1 nz3 q <| WL_storeH (fo := 1) (cs' := [iV (IntKind.wrap .i64 (s1 + 1))]) ae af ak (Upd.snd (Upd.whole (Blt.int))) q il3 q q q q fun az al => B <| Z <| qm q <| qi (qt_add q q) q <| qa q <| WL_nil fun a ha => zi <| X <| S1 ha <| Z <| qm q <| qi (qt_add q q) q <| qa q <| WL_nil fun a ha => ?_
   cases aa
   exact ⟨q, ha.s, al⟩
  cases aa
  exact WP_exit fun a ha => zo (⟨exit_ne, q, ha.s, ab⟩)
 obtain ⟨p33, aA⟩ := o4
 rintro _ a aB ⟨rfl, ha, am⟩
 cases h
 exact zn <| X <| S1 ha <| rR <| qm q <| qa q <| B <| W fun a ha => ret1 q ha q ⟨q, am⟩
theorem w_laws_markTableS {w G vp0 p0 csp0 Fp0 p1 r} (h : laws_markTableSS p0 p1 = some r) (H : Ctx w ([dpR 89 dt16 vp0 csp0 p0 Fp0] ++ G)) : Calls Tryz.prog 51 #[vp0, iV p1] w fun e w' => ∃ (dsp0 : List Value) (Ep0 : List Nat), e = .returned (iV r.2) ∧ Holds (([dpR 89 dt16 vp0 csp0 p0 Fp0] : List Res).flatMap Res.own) w w' [dpR 89 dt16 vp0 dsp0 r.1 Ep0] G := by
 refine F1 34 H Tryz.func51 q fun H => ?_
 refine rR <| qa q <| B <| C <| rR <| qa q <| B <| g <| O h fun o4 ar h => ?_
 refine fun a6 au => zp (I := fun (s1, s2, s3) a w2 => ∃ ab ad, Fr a 34 [(0, vp0), (1, iV s1), (5, iV s2)] ∧ Holds (([dpR 89 dt16 vp0 csp0 p0 Fp0] : List Res).flatMap Res.own) w w2 [dpR 89 dt16 vp0 ab s3 ad] G) (O := fun (q0, q1) e a w2 => e = .exit 0 ∧ ∃ av aw, Fr a 34 [(0, vp0), (1, iV q0)] ∧ Holds (([dpR 89 dt16 vp0 csp0 p0 Fp0] : List Res).flatMap Res.own) w w2 [dpR 89 dt16 vp0 av q1 aw] G) ar ?_ ?_ ?_
 ·exact ⟨csp0, Fp0, au.s, H⟩
 ·rintro ⟨s1, s2, s3⟩ _ a w8 aa ⟨ab, ad, ha, ae⟩
  refine S1 ha <| C <| rR <| qm q <| qm q <| have ak := ae.viewG (Vw.d Vw.refl); qz ak hR0 u29 q <| qi (qt_lss q q) q <| B ?_
  refine Yh q aa (fun aa => ?_) (fun aa => ?_)
  ·refine y <| C <| g <| rR <| qm q <| qm q <| qm q <| O aa fun aU al aa => qb ak hR0 al u29 i89 q fun aV aW aX ax => qf uf89 fi89_0 nz3 q <| WL_storeD (Rs := []) (fo := 0) (cs' := [iV s1]) ae al ax ((Foc.fst Foc.refl)) (DBlt.cast (DBlt.int (k := .i64) (n := s1)) q q) q il3 q q q fun ay aY aZ af => rN <| qm q <| qi (qt_add q q) q <| qa q <| rN <| qm q <| qm q <| O aa fun a0 ag aa => have az := af.viewG (Vw.d Vw.refl); qb az hR0 ag u29 i89 q fun a1 a2 a3 aA => qf uf89 fi89_1 nz87 q ?_
   obtain ⟨a4, am, aB, a5, a7, a8⟩ := Holds.ns af ((Foc.snd (Foc.fst Foc.refl))) ag aA
   refine XL_load_cell u87 q aB q q q <| qm q ?_
   obtain ⟨a9, ao⟩ := Holds.borrow af ((Foc.snd (Foc.fst Foc.refl))) ag am
   refine O aa fun ba aC aa => U0 q c100 (w_laws_markOrderS aC ao.ctx) fun bb aD => have aE := ao.cN1 [_] aD; ?_
   obtain ⟨bc, ah⟩ := Holds.giveBack q aE.p1.p1 am
   refine qa q <| B <| Z <| qm q <| qm q <| O aa fun bd aj aa => have aH := ah.viewG (Vw.d Vw.refl); qb aH hR0 aj u29 i89 q fun be bf bg aI => qf uf89 fi89_2 nz23 q ?_
   obtain ⟨bh, ap, aJ, bi, bj, bk⟩ := Holds.ns ah ((Foc.snd (Foc.snd Foc.refl))) aj aI
   refine XL_load_cell u23 q aJ q q q <| qm q ?_
   obtain ⟨bl, aq⟩ := Holds.borrow ah ((Foc.snd (Foc.snd Foc.refl))) aj ap
   refine O aa fun bm aK aa => U0 q c50 (w_laws_markIntS aK aq.ctx) fun bn aL => have aM := aq.cN1 [_] aL; ?_
   obtain ⟨aP, aQ⟩ := Holds.giveBack q aM.p1.p1 ap
   cases aa
   exact qa q <| WL_nil fun a ha => zi <| X <| S1 ha <| Z <| qm q <| qi (qt_add q q) q <| qa q <| WL_nil fun a ha => ⟨q, ay, aP, ha.s, aQ⟩
  cases aa
  exact WP_exit fun a ha => zo (⟨exit_ne, q, ab, ad, ha.s, ae⟩)
 obtain ⟨bo, bp⟩ := o4
 rintro _ a bq ⟨rfl, aR, aS, ha, aT⟩
 cases h
 exact zn <| X <| S1 ha <| rR <| qm q <| qa q <| B <| W fun a ha => ret1 q ha q ⟨aR, aS, q, aT⟩
theorem w_laws_markHouse {w G A0 B0 csp0_0 Fp0_0 A1 B1 A2 B2 B3 A4 B4 csp0_4 Fp0_4 p1 r} (h : laws_markHouseS B0 B1 B2 B3 B4 p1 = some r) (H : Ctx w ([dpR 95 dt15 A0 csp0_0 B0 Fp0_0, .sl 3 tI A1 B1, .sl 3 tI A2 B2, dpR 89 dt16 A4 csp0_4 B4 Fp0_4] ++ G)) : Calls Tryz.prog 10 #[.agg #[A0, A1, A2, iV B3, A4], iV p1] w fun e w' => ∃ (dsp0_0 : List Value) (Ep0_0 : List Nat) (dsp0_4 : List Value) (Ep0_4 : List Nat), e = .returned (iV r.2.2.2.2) ∧ Holds (([dpR 95 dt15 A0 csp0_0 B0 Fp0_0, .sl 3 tI A1 B1, .sl 3 tI A2 B2, dpR 89 dt16 A4 csp0_4 B4 Fp0_4] : List Res).flatMap Res.own) w w' [dpR 95 dt15 A0 dsp0_0 r.1 Ep0_0, .sl 3 tI A1 r.2.1, .sl 3 tI A2 r.2.2.1, dpR 89 dt16 A4 dsp0_4 r.2.2.2.1 Ep0_4] G := by
 refine F1 22 H Tryz.func10 q fun H => ?_
 refine C <| Z <| WL_box (cs := [A0, A1, A2, iV B3, A4]) H q q q q fun b1 w2 H3 => qa q <| rN <| qf uf31 fi31_0 nz28 q <| ql u28 H3.p0 q <| qm q <| have H8 := H3.p1; O h fun x6 ah h => have V9 := H8.viewG (Vw.c (Vw.c (Vw.c (Vw.c (Vw.d Vw.refl))))); U2 q c49 (w_laws_markItemS ah V9) fun aj ak aC al => have aa := H8.cV1 [_] al (zc Pure.dp all_nil); qa q <| rN <| qf uf31 fi31_1 nz23 q <| ql u23 aa.p1 q <| qm q <| have ab := aa.p2; O h fun aD am h => have ao := ab.viewG (Vw.c (Vw.d (Vw.c (Vw.c (Vw.d Vw.refl))))); U0 q c50 (w_laws_markIntS am ao) fun aE ap => have ad := ab.cV1 [_] ap (zc (Pure.sl q) all_nil); ?_
 refine qa q <| rN <| qf uf31 fi31_2 nz23 q <| ql u23 ad.p2 q <| qm q <| have ae := ad.p3; O h fun aF aq h => have ar := ae.viewG (Vw.c (Vw.c (Vw.d (Vw.c (Vw.d Vw.refl))))); U0 q c50 (w_laws_markIntS aq ar) fun aG au => have af := ae.cV1 [_] au (zc (Pure.sl q) all_nil); qa q <| rN <| qf uf31 fi31_4 nz29 q <| ql u29 af.p3 q <| qm q <| have ag := af.p4; O h fun aH av h => have aw := ag.viewG (Vw.c (Vw.c (Vw.c (Vw.d (Vw.c Vw.refl))))); U2 q c51 (w_laws_markTableS av aw) fun ax ay aI az => have aA := ag.cV1 [_] az (zc Pure.dp all_nil); qa q <| rN <| qm q <| qa q <| B <| W fun a ha => ?_
 cases h
 exact ret1 q ha q ⟨aj, ak, ax, ay, q, aA.q4.p1.p2.p3⟩
theorem w_laws_markText {w G p0 r} (h : laws_markTextS p0 = some r) (H : Ctx w G) : Calls Tryz.prog 55 #[iV p0] w fun e w' => e = .returned (strV r) ∧ Holds M0 w w' [] G := by
 refine F0 20 H Tryz.func55 q fun H => ?_
 refine rR <| qa q <| B <| C <| rR <| qm q <| qi (qt_leq q q) q <| B ?_
 refine Yh q h (fun h => ?_) (fun h => ?_)
 ·cases h
  exact rR <| qa q <| B <| W fun a ha => m (ret1 q ha q ⟨q, H⟩)
 refine y <| rR <| qa q <| B <| C <| g <| O h fun o3 ae h => ?_
 refine fun a5 af => zp (I := fun (s1, s2) a w2 => (Fr a 20 [(0, iV s1), (3, strV s2)] ∧ Holds M0 w w2 [] G)) (O := fun q0 e a w2 => e = .exit 0 ∧ (Fr a 20 [(3, strV q0)] ∧ Holds M0 w w2 [] G)) ae ?_ ?_ ?_
 ·exact ⟨af.s, H⟩
 ·rintro ⟨s1, s2⟩ _ a w7 aa ⟨ha, ab⟩
  refine S1 ha <| C <| rR <| qm q <| qi (qt_gtr q q) q <| B ?_
  refine Yh q aa (fun aa => ?_) (fun aa => ?_)
  ·refine y <| g <| rR <| qm q <| qi (qt_rem q q (by decide)) q <| qi (qt_add q q) q <| qi (qt_int u5 q u3) q <| zs (t := (.int .u8)) (args := [.tmp 11]) (xs := ([IntKind.wrap .u8 (IntKind.wrap .i64 (48 + (Int.tmod s1 10)))] : List Int)) ab (BltL.cons (Blt.int) q (BltL.nil)) u100 j5 q q q q q q fun al am ad => XL_bytesH ad.ctx hS0 u100 u5 u9 q q q <| qm q <| O aa fun ao ag aa => qi (qt_sadd q q ag) q <| qa q <| B <| Z <| qm q <| qi (qt_quo q q (by decide)) q <| qa q <| WL_nil fun a ha => ?_
   cases aa
   exact zi (⟨q, ha.s, ad.q0⟩)
  cases aa
  exact WP_exit fun a ha => zo (⟨exit_ne, q, ha.s, ab⟩)
 rintro _ a ap ⟨rfl, ha, aj⟩
 refine zn <| X <| S1 ha <| rR <| qm q <| O h fun aq ak h => qi (qt_sadd q q ak) q <| qa q <| B <| W fun a ha => ?_
 obtain rfl := L h
 exact ret1 q ha q ⟨q, aj⟩
theorem w_laws_markStringS {w G vp0 p0 p1 r} (h : laws_markStringSS p0 p1 = some r) (H : Ctx w ([.sl 9 .str vp0 p0] ++ G)) : Calls Tryz.prog 17 #[vp0, iV p1] w fun e w' => e = .returned (iV r.2) ∧ Holds (([.sl 9 .str vp0 p0] : List Res).flatMap Res.own) w w' [.sl 9 .str vp0 r.1] G := by
 refine F1 20 H Tryz.func17 q fun H => ?_
 refine rR <| qa q <| B <| C <| rR <| qa q <| B <| g <| O h fun o4 af h => ?_
 refine fun a6 ag => zp (I := fun (s1, s2, s3) a w2 => (Fr a 20 [(0, vp0), (1, iV s1), (5, iV s2)] ∧ Holds (([.sl 9 .str vp0 p0] : List Res).flatMap Res.own) w w2 [.sl 9 .str vp0 s3] G)) (O := fun (q0, q1) e a w2 => e = .exit 0 ∧ (Fr a 20 [(0, vp0), (1, iV q0)] ∧ Holds (([.sl 9 .str vp0 p0] : List Res).flatMap Res.own) w w2 [.sl 9 .str vp0 q1] G)) af ?_ ?_ ?_
 ·exact ⟨ag.s, H⟩
 ·rintro ⟨s1, s2, s3⟩ _ a w8 aa ⟨ha, ab⟩
  refine S1 ha <| C <| rR <| qm q <| qm q <| qz ab.ctx hS0 u38 q <| qi (qt_lss q q) q <| B ?_
  refine Yh q aa (fun aa => ?_) (fun aa => ?_)
  ·refine y <| C <| g <| rR <| qm q <| qm q <| qm q <| O aa fun ah aj aa => U0 q c55 (w_laws_markText aj ab.ctx) fun ap ak => have ad := ab.cN0 [] ak; O aa fun aq ae aa => qb ad.ctx hS0 ae u38 i9 q fun ar au av al => WL_storeH (fo := 0) (cs' := [strV ah]) ad ae al (Upd.whole (Blt.str)) q il9 q q q q fun aw am => B <| Z <| qm q <| qi (qt_add q q) q <| qa q <| WL_nil fun a ha => zi <| X <| S1 ha <| Z <| qm q <| qi (qt_add q q) q <| qa q <| WL_nil fun a ha => ?_
   cases aa
   exact ⟨q, ha.s, am⟩
  cases aa
  exact WP_exit fun a ha => zo (⟨exit_ne, q, ha.s, ab⟩)
 obtain ⟨p29, p30⟩ := o4
 rintro _ a ax ⟨rfl, ha, ao⟩
 cases h
 exact zn <| X <| S1 ha <| rR <| qm q <| qa q <| B <| W fun a ha => ret1 q ha q ⟨q, ao⟩
theorem w_laws_heldPartS {w G vp0 p0 p1 r} (h : laws_heldPartSS p0 p1 = some r) (hp0 : Has G ty2 vp0 p0) (H : Ctx w G) : Calls Tryz.prog 101 #[vp0, iV p1] w fun e w' => e = .returned (iV r) ∧ Holds M0 w w' [] G := by
 refine F0 31 H Tryz.func101 q fun H => ?_
 refine rR <| qa q <| B <| C <| rR <| qa q <| B <| g <| O h fun o3 ag h => ?_
 refine fun a5 ah => zp (I := fun (s1, s2) a w2 => (Fr a 31 [(0, vp0), (1, iV s1), (5, iV s2)] ∧ Holds M0 w w2 [] G)) (O := fun o e a w2 => match o with | .inl q0 => e = .exit 0 ∧ (Fr a 31 [(1, iV q0)] ∧ Holds M0 w w2 [] G) | .inr q0 => e = .ret ∧ (Fr a 31 [(4, iV q0)] ∧ Holds M0 w w2 [] G)) ag ?_ ?_ ?_
 ·exact ⟨ah.s, H⟩
 ·rintro ⟨s1, s2⟩ _ a w7 aa ⟨ha, ab⟩
  refine S1 ha <| C <| rR <| qm q <| qm q <| qz ab.ctx (hp0) u93 q <| qi (qt_lss q q) q <| B ?_
  refine Yh q aa (fun aa => ?_) (fun aa => ?_)
  ·refine y <| C <| g <| C <| rR <| qm q <| qm q <| O aa fun ao ad aa => qe ab (hp0) ad u93 i152 q fun _ _ aj => qf uf152 fi152_0 nz3 q <| eI u3 aj.f q <| qm q <| qi (qt_neq q q) q <| B ?_
   refine Yh q aa (fun aa => ?_) (fun aa => ?_)
   ·cases aa
    exact rR <| qa q <| B <| W fun a ha => m (zj (m (⟨ret_ne, q, ha.s, ab⟩)))
   refine y <| rR <| qm q <| qi (qt_add q q) q <| qa q <| B <| C <| C <| Z <| qm q <| qm q <| O aa fun au ae aa => qe ab (hp0) ae u93 i152 q fun _ _ ak => qf uf152 fi152_1 nz3 q <| eI u3 ak.s q <| qm q <| qi (qt_neq q q) q <| B ?_
   refine Yh q aa (fun aa => ?_) (fun aa => ?_)
   ·cases aa
    exact rR <| qa q <| B <| W fun a ha => m (zj (m (⟨ret_ne, q, ha.s, ab⟩)))
   cases aa
   exact y <| Z <| qm q <| qi (qt_add q q) q <| qa q <| WL_nil fun a ha => zi <| X <| S1 ha <| Z <| qm q <| qi (qt_add q q) q <| qa q <| WL_nil fun a ha => ⟨q, ha.s, ab⟩
  cases aa
  exact WP_exit fun a ha => zo (⟨exit_ne, q, ha.s, ab⟩)
 intro e a ay af
 rcases o3 with o3 | o3
 ·obtain ⟨rfl, ha, al⟩ := af
  refine zn <| X <| S1 ha <| rR <| qm q <| qa q <| B <| W fun a ha => ?_
  obtain rfl := L h
  exact ret1 q ha q ⟨q, al⟩
 obtain ⟨rfl, ha, am⟩ := af
 obtain rfl := L h
 exact zj (m (ret1 q ha q ⟨q, am⟩))
theorem w_laws_heldItemS {w G vp0 p0 p1 r} (h : laws_heldItemSS p0 p1 = some r) (hp0 : Has G ty12 vp0 p0) (H : Ctx w G) : Calls Tryz.prog 52 #[vp0, iV p1] w fun e w' => e = .returned (iV r) ∧ Holds M0 w w' [] G := by
 refine F0 40 H Tryz.func52 q fun H => ?_
 refine rR <| qa q <| B <| C <| rR <| qa q <| B <| g <| O h fun o3 ak h => ?_
 refine fun a5 al => zp (I := fun (s1, s2) a w2 => (Fr a 40 [(0, vp0), (1, iV s1), (5, iV s2)] ∧ Holds M0 w w2 [] G)) (O := fun o e a w2 => match o with | .inl q0 => e = .exit 0 ∧ (Fr a 40 [(1, iV q0)] ∧ Holds M0 w w2 [] G) | .inr q0 => e = .ret ∧ (Fr a 40 [(4, iV q0)] ∧ Holds M0 w w2 [] G)) ak ?_ ?_ ?_
 ·exact ⟨al.s, H⟩
 ·rintro ⟨s1, s2⟩ _ a w7 aa ⟨ha, ab⟩
  refine S1 ha <| C <| rR <| qm q <| qm q <| qz ab.ctx (hp0) u28 q <| qi (qt_lss q q) q <| B ?_
  refine Yh q aa (fun aa => ?_) (fun aa => ?_)
  ·refine y <| C <| g <| C <| rR <| qm q <| qm q <| O aa fun ay ae aa => qe ab (hp0) ae u28 i95 q fun _ _ am => qf uf95 fi95_0 nz3 q <| eI u3 am.f q <| qm q <| qi (qt_neq q q) q <| B ?_
   refine Yh q aa (fun aa => ?_) (fun aa => ?_)
   ·cases aa
    exact rR <| qa q <| B <| W fun a ha => m (zj (m (⟨ret_ne, q, ha.s, ab⟩)))
   refine y <| rR <| qm q <| qi (qt_add q q) q <| qa q <| B <| C <| zk <| qm q <| qm q <| O aa fun aC af aa => qe ab (hp0) af u28 i95 q fun _ _ ao => qf uf95 fi95_1 nz93 q <| eV u93 ao.s.f q fun aG ag => qm q <| O aa fun aH ap aa => qc q c101 ag (fun _ => w_laws_heldPartS ap hR0) <| qa q <| Qn ag fun a ha aI ad => X <| S1 ha <| C <| rR <| qm q <| qi (qt_lss q q) q <| B ?_
   refine Yh q aa (fun aa => ?_) (fun aa => ?_)
   ·cases aa
    exact rR <| qa q <| B <| W fun a ha => m (zj (m (⟨ret_ne, q, ha.s, ad.q0⟩)))
   refine y <| C <| rR <| qm q <| qm q <| O aa fun aJ ah aa => qe ad (hp0.c) ah u28 i95 q fun _ _ ar => qf uf95 fi95_2 nz3 q <| eI u3 ar.s.s q <| qm q <| qi (qt_neq q q) q <| B ?_
   refine Yh q aa (fun aa => ?_) (fun aa => ?_)
   ·cases aa
    exact rR <| qa q <| B <| W fun a ha => m (zj (m (⟨ret_ne, q, ha.s, ad.q0⟩)))
   cases aa
   exact y <| Z <| qm q <| qi (qt_add q q) q <| qa q <| WL_nil fun a ha => zi <| X <| S1 ha <| Z <| qm q <| qi (qt_add q q) q <| qa q <| WL_nil fun a ha => ⟨q, ha.s, ad.q0⟩
  cases aa
  exact WP_exit fun a ha => zo (⟨exit_ne, q, ha.s, ab⟩)
 intro e a aN aj
 rcases o3 with o3 | o3
 ·obtain ⟨rfl, ha, aw⟩ := aj
  refine zn <| X <| S1 ha <| rR <| qm q <| qa q <| B <| W fun a ha => ?_
  obtain rfl := L h
  exact ret1 q ha q ⟨q, aw⟩
 obtain ⟨rfl, ha, ax⟩ := aj
 obtain rfl := L h
 exact zj (m (ret1 q ha q ⟨q, ax⟩))
theorem w_laws_heldIntS {w G vp0 p0 p1 r} (h : laws_heldIntSS p0 p1 = some r) (hp0 : Has G tI vp0 p0) (H : Ctx w G) : Calls Tryz.prog 53 #[vp0, iV p1] w fun e w' => e = .returned (iV r) ∧ Holds M0 w w' [] G := by
 refine F0 21 H Tryz.func53 q fun H => ?_
 refine rR <| qa q <| B <| C <| rR <| qa q <| B <| g <| O h fun o3 ae h => ?_
 refine fun a5 af => zp (I := fun (s1, s2) a w2 => (Fr a 21 [(0, vp0), (1, iV s1), (5, iV s2)] ∧ Holds M0 w w2 [] G)) (O := fun o e a w2 => match o with | .inl q0 => e = .exit 0 ∧ (Fr a 21 [(1, iV q0)] ∧ Holds M0 w w2 [] G) | .inr q0 => e = .ret ∧ (Fr a 21 [(4, iV q0)] ∧ Holds M0 w w2 [] G)) ae ?_ ?_ ?_
 ·exact ⟨af.s, H⟩
 ·rintro ⟨s1, s2⟩ _ a w7 aa ⟨ha, ab⟩
  refine S1 ha <| C <| rR <| qm q <| qm q <| qz ab.ctx (hp0) u23 q <| qi (qt_lss q q) q <| B ?_
  refine Yh q aa (fun aa => ?_) (fun aa => ?_)
  ·refine y <| C <| g <| C <| rR <| qm q <| qm q <| O aa fun ak ad aa => qe ab (hp0) ad u23 i3 q fun _ _ ag => eI u3 ag q <| qm q <| qi (qt_neq q q) q <| B ?_
   refine Yh q aa (fun aa => ?_) (fun aa => ?_)
   ·cases aa
    exact rR <| qa q <| B <| W fun a ha => m (zj (m (⟨ret_ne, q, ha.s, ab⟩)))
   cases aa
   exact y <| Z <| qm q <| qi (qt_add q q) q <| qa q <| WL_nil fun a ha => zi <| X <| S1 ha <| Z <| qm q <| qi (qt_add q q) q <| qa q <| WL_nil fun a ha => ⟨q, ha.s, ab⟩
  cases aa
  exact WP_exit fun a ha => zo (⟨exit_ne, q, ha.s, ab⟩)
 intro e a ap hO19
 rcases o3 with o3 | o3
 ·obtain ⟨rfl, ha, ah⟩ := hO19
  refine zn <| X <| S1 ha <| rR <| qm q <| qa q <| B <| W fun a ha => ?_
  obtain rfl := L h
  exact ret1 q ha q ⟨q, ah⟩
 obtain ⟨rfl, ha, aj⟩ := hO19
 obtain rfl := L h
 exact zj (m (ret1 q ha q ⟨q, aj⟩))
theorem w_laws_heldOrderS {w G vp0 p0 p1 r} (h : laws_heldOrderSS p0 p1 = some r) (hp0 : Has G ty2 vp0 p0) (H : Ctx w G) : Calls Tryz.prog 102 #[vp0, iV p1] w fun e w' => e = .returned (iV r) ∧ Holds M0 w w' [] G := by
 refine F0 31 H Tryz.func102 q fun H => ?_
 refine rR <| qa q <| B <| C <| rR <| qa q <| B <| g <| O h fun o3 ag h => ?_
 refine fun a5 ah => zp (I := fun (s1, s2) a w2 => (Fr a 31 [(0, vp0), (1, iV s1), (5, iV s2)] ∧ Holds M0 w w2 [] G)) (O := fun o e a w2 => match o with | .inl q0 => e = .exit 0 ∧ (Fr a 31 [(1, iV q0)] ∧ Holds M0 w w2 [] G) | .inr q0 => e = .ret ∧ (Fr a 31 [(4, iV q0)] ∧ Holds M0 w w2 [] G)) ag ?_ ?_ ?_
 ·exact ⟨ah.s, H⟩
 ·rintro ⟨s1, s2⟩ _ a w7 aa ⟨ha, ab⟩
  refine S1 ha <| C <| rR <| qm q <| qm q <| qz ab.ctx (hp0) u87 q <| qi (qt_lss q q) q <| B ?_
  refine Yh q aa (fun aa => ?_) (fun aa => ?_)
  ·refine y <| C <| g <| C <| rR <| qm q <| qm q <| O aa fun ao ad aa => qe ab (hp0) ad u87 i103 q fun _ _ aj => qf uf103 fi103_0 nz3 q <| eI u3 aj.f q <| qm q <| qi (qt_neq q q) q <| B ?_
   refine Yh q aa (fun aa => ?_) (fun aa => ?_)
   ·cases aa
    exact rR <| qa q <| B <| W fun a ha => m (zj (m (⟨ret_ne, q, ha.s, ab⟩)))
   refine y <| rR <| qm q <| qi (qt_add q q) q <| qa q <| B <| C <| C <| Z <| qm q <| qm q <| O aa fun au ae aa => qe ab (hp0) ae u87 i103 q fun _ _ ak => qf uf103 fi103_1 nz3 q <| eI u3 ak.s q <| qm q <| qi (qt_neq q q) q <| B ?_
   refine Yh q aa (fun aa => ?_) (fun aa => ?_)
   ·cases aa
    exact rR <| qa q <| B <| W fun a ha => m (zj (m (⟨ret_ne, q, ha.s, ab⟩)))
   cases aa
   exact y <| Z <| qm q <| qi (qt_add q q) q <| qa q <| WL_nil fun a ha => zi <| X <| S1 ha <| Z <| qm q <| qi (qt_add q q) q <| qa q <| WL_nil fun a ha => ⟨q, ha.s, ab⟩
  cases aa
  exact WP_exit fun a ha => zo (⟨exit_ne, q, ha.s, ab⟩)
 intro e a ay af
 rcases o3 with o3 | o3
 ·obtain ⟨rfl, ha, al⟩ := af
  refine zn <| X <| S1 ha <| rR <| qm q <| qa q <| B <| W fun a ha => ?_
  obtain rfl := L h
  exact ret1 q ha q ⟨q, al⟩
 obtain ⟨rfl, ha, am⟩ := af
 obtain rfl := L h
 exact zj (m (ret1 q ha q ⟨q, am⟩))
theorem w_laws_heldTableS {w G vp0 p0 p1 r} (h : laws_heldTableSS p0 p1 = some r) (hp0 : Has G ty14 vp0 p0) (H : Ctx w G) : Calls Tryz.prog 54 #[vp0, iV p1] w fun e w' => e = .returned (iV r) ∧ Holds M0 w w' [] G := by
 refine F0 40 H Tryz.func54 q fun H => ?_
 refine rR <| qa q <| B <| C <| rR <| qa q <| B <| g <| O h fun o3 am h => ?_
 refine fun a5 ao => zp (I := fun (s1, s2) a w2 => (Fr a 40 [(0, vp0), (1, iV s1), (5, iV s2)] ∧ Holds M0 w w2 [] G)) (O := fun o e a w2 => match o with | .inl q0 => e = .exit 0 ∧ (Fr a 40 [(1, iV q0)] ∧ Holds M0 w w2 [] G) | .inr q0 => e = .ret ∧ (Fr a 40 [(4, iV q0)] ∧ Holds M0 w w2 [] G)) am ?_ ?_ ?_
 ·exact ⟨ao.s, H⟩
 ·rintro ⟨s1, s2⟩ _ a w7 aa ⟨ha, ab⟩
  refine S1 ha <| C <| rR <| qm q <| qm q <| qz ab.ctx (hp0) u29 q <| qi (qt_lss q q) q <| B ?_
  refine Yh q aa (fun aa => ?_) (fun aa => ?_)
  ·refine y <| C <| g <| C <| rR <| qm q <| qm q <| O aa fun aB ae aa => qe ab (hp0) ae u29 i89 q fun _ _ ap => qf uf89 fi89_0 nz3 q <| eI u3 ap.f q <| qm q <| qi (qt_neq q q) q <| B ?_
   refine Yh q aa (fun aa => ?_) (fun aa => ?_)
   ·cases aa
    exact rR <| qa q <| B <| W fun a ha => m (zj (m (⟨ret_ne, q, ha.s, ab⟩)))
   refine y <| rR <| qm q <| qi (qt_add q q) q <| qa q <| B <| C <| zk <| qm q <| qm q <| O aa fun aF af aa => qe ab (hp0) af u29 i89 q fun _ _ aq => qf uf89 fi89_1 nz87 q <| eV u87 aq.s.f q fun aJ ag => qm q <| O aa fun aK ar aa => qc q c102 ag (fun _ => w_laws_heldOrderS ar hR0) <| qa q <| Qn ag fun a ha aL ad => X <| S1 ha <| C <| rR <| qm q <| qi (qt_lss q q) q <| B ?_
   refine Yh q aa (fun aa => ?_) (fun aa => ?_)
   ·cases aa
    exact rR <| qa q <| B <| W fun a ha => m (zj (m (⟨ret_ne, q, ha.s, ad.q0⟩)))
   refine y <| C <| zk <| qm q <| qm q <| O aa fun aM ah aa => qe ad (hp0.c) ah u29 i89 q fun _ _ av => qf uf89 fi89_2 nz23 q <| eV u23 av.s.s q fun aQ aj => qm q <| O aa fun aR aw aa => qc q c53 aj (fun _ => w_laws_heldIntS aw hR0) <| qa q <| Qn aj fun a ha aS ak => X <| S1 ha <| rR <| qm q <| qi (qt_lss q q) q <| B ?_
   refine Yh q aa (fun aa => ?_) (fun aa => ?_)
   ·cases aa
    exact rR <| qa q <| B <| W fun a ha => zj (m (⟨ret_ne, q, ha.s, ak.q0.q0⟩))
   cases aa
   exact WP_skip fun a ha => zi <| X <| S1 ha <| Z <| qm q <| qi (qt_add q q) q <| qa q <| WL_nil fun a ha => ⟨q, ha.s, ak.q0.q0⟩
  cases aa
  exact WP_exit fun a ha => zo (⟨exit_ne, q, ha.s, ab⟩)
 intro e a aT al
 rcases o3 with o3 | o3
 ·obtain ⟨rfl, ha, az⟩ := al
  refine zn <| X <| S1 ha <| rR <| qm q <| qa q <| B <| W fun a ha => ?_
  obtain rfl := L h
  exact ret1 q ha q ⟨q, az⟩
 obtain ⟨rfl, ha, aA⟩ := al
 obtain rfl := L h
 exact zj (m (ret1 q ha q ⟨q, aA⟩))
theorem w_laws_heldHouse {w G A0 B0 A1 B1 A2 B2 B3 A4 B4 p1 r} (h : laws_heldHouseS B0 B1 B2 B3 B4 p1 = some r) (C0 : Has G ty12 A0 B0) (C1 : Has G tI A1 B1) (C2 : Has G tI A2 B2) (C4 : Has G ty14 A4 B4) (H : Ctx w G) : Calls Tryz.prog 11 #[.agg #[A0, A1, A2, iV B3, A4], iV p1] w fun e w' => e = .returned (iV r) ∧ Holds M0 w w' [] G := by
 refine F0 30 H Tryz.func11 q fun H => ?_
 refine C <| Z <| WL_box (cs := [A0, A1, A2, iV B3, A4]) H q q q q fun b1 w2 H3 => qa q <| B <| C <| zk <| qf uf31 fi31_0 nz28 q <| ql u28 H3.p0 q <| qm q <| O h fun x6 af h => qc q c52 H3 (fun _ => w_laws_heldItemS af (C0.c)) <| qa q <| Qn H3 fun a ha w8 aa => X <| S1 ha <| C <| rR <| qm q <| qi (qt_lss q q) q <| B ?_
 refine Yh q h (fun h => ?_) (fun h => ?_)
 ·cases h
  exact rR <| qa q <| B <| W fun a ha => m (ret1 q ha q ⟨q, aa.q0⟩)
 refine y <| C <| zk <| qf uf31 fi31_1 nz23 q <| ql u23 aa.p0 q <| qm q <| O h fun aq ah h => qc q c53 aa (fun _ => w_laws_heldIntS ah (C1.c)) <| qa q <| Qn aa fun a ha ar ab => X <| S1 ha <| C <| rR <| qm q <| qi (qt_lss q q) q <| B ?_
 refine Yh q h (fun h => ?_) (fun h => ?_)
 ·cases h
  exact rR <| qa q <| B <| W fun a ha => m (ret1 q ha q ⟨q, ab.q0⟩)
 refine y <| C <| zk <| qf uf31 fi31_2 nz23 q <| ql u23 ab.p0 q <| qm q <| O h fun au ak h => qc q c53 ab (fun _ => w_laws_heldIntS ak (C2.c)) <| qa q <| Qn ab fun a ha av ad => X <| S1 ha <| C <| rR <| qm q <| qi (qt_lss q q) q <| B ?_
 refine Yh q h (fun h => ?_) (fun h => ?_)
 ·cases h
  exact rR <| qa q <| B <| W fun a ha => m (ret1 q ha q ⟨q, ad.q0⟩)
 refine y <| C <| zk <| qf uf31 fi31_4 nz29 q <| ql u29 ad.p0 q <| qm q <| O h fun aw am h => qc q c54 ad (fun _ => w_laws_heldTableS am (C4.c)) <| qa q <| Qn ad fun a ha ax ae => X <| S1 ha <| C <| rR <| qm q <| qi (qt_lss q q) q <| B ?_
 refine Yh q h (fun h => ?_) (fun h => ?_)
 ·cases h
  exact rR <| qa q <| B <| W fun a ha => m (ret1 q ha q ⟨q, ae.q0⟩)
 refine y <| rR <| qm q <| qa q <| B <| W fun a ha => ?_
 obtain rfl := L h
 exact ret1 q ha q ⟨q, ae.q0⟩
theorem w_laws_heldStringS {w G vp0 p0 p1 r} (h : laws_heldStringSS p0 p1 = some r) (hp0 : Has G .str vp0 p0) (H : Ctx w G) : Calls Tryz.prog 18 #[vp0, iV p1] w fun e w' => e = .returned (iV r) ∧ Holds M0 w w' [] G := by
 refine F0 22 H Tryz.func18 q fun H => ?_
 refine rR <| qa q <| B <| C <| rR <| qa q <| B <| g <| O h fun o3 ag h => ?_
 refine fun a5 ah => zp (I := fun (s1, s2) a w2 => (Fr a 22 [(0, vp0), (1, iV s1), (5, iV s2)] ∧ Holds M0 w w2 [] G)) (O := fun o e a w2 => match o with | .inl q0 => e = .exit 0 ∧ (Fr a 22 [(1, iV q0)] ∧ Holds M0 w w2 [] G) | .inr q0 => e = .ret ∧ (Fr a 22 [(4, iV q0)] ∧ Holds M0 w w2 [] G)) ag ?_ ?_ ?_
 ·exact ⟨ah.s, H⟩
 ·rintro ⟨s1, s2⟩ _ a w7 aa ⟨ha, ab⟩
  refine S1 ha <| C <| rR <| qm q <| qm q <| qz ab.ctx (hp0) u38 q <| qi (qt_lss q q) q <| B ?_
  refine Yh q aa (fun aa => ?_) (fun aa => ?_)
  ·refine y <| C <| g <| C <| C <| WP_quiet (by kernel_rfl) (by kernel_rfl) <| qm q <| qm q <| O aa fun ao ad aa => qe ab (hp0) ad u38 i9 q fun _ _ aj => eS u9 aj q <| qm q <| O aa fun au ak aa => qc q c55 ab (fun _ => w_laws_markText ak) <| qi (qt_sneq q q) q <| Qn ab fun a ha av ae => X <| S1 ha ?_
   refine Yh q aa (fun aa => ?_) (fun aa => ?_)
   ·cases aa
    exact rR <| qa q <| B <| W fun a ha => m (zj (m (⟨ret_ne, q, ha.s, ae⟩)))
   cases aa
   exact y <| Z <| qm q <| qi (qt_add q q) q <| qa q <| WL_nil fun a ha => zi <| X <| S1 ha <| Z <| qm q <| qi (qt_add q q) q <| qa q <| WL_nil fun a ha => ⟨q, ha.s, ae⟩
  cases aa
  exact WP_exit fun a ha => zo (⟨exit_ne, q, ha.s, ab⟩)
 intro e a aw af
 rcases o3 with o3 | o3
 ·obtain ⟨rfl, ha, al⟩ := af
  refine zn <| X <| S1 ha <| rR <| qm q <| qa q <| B <| W fun a ha => ?_
  obtain rfl := L h
  exact ret1 q ha q ⟨q, al⟩
 obtain ⟨rfl, ha, am⟩ := af
 obtain rfl := L h
 exact zj (m (ret1 q ha q ⟨q, am⟩))
end Go.Proofs.YtpklpghbkhegnaaGreatDoor
