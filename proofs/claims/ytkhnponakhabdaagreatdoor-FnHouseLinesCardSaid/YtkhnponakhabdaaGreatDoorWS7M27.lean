/- The walks: each Go function computes its shallow function. Printed by a program. -/
import Derived.Test.YtkhnponakhabdaaGreatDoorWS7M26
set_option linter.unusedVariables false
set_option maxRecDepth 10000
set_option maxHeartbeats 8000000
namespace Go.Proofs.YtkhnponakhabdaaGreatDoor
open Go Go.RowKit
theorem w_impl_HouseLine {w G A0 B0 A1 B1 A2 B2 B3 A4 B4 p1 r} (h : impl_HouseLineS B0 B1 B2 B3 B4 p1 = some r) (hGl : Glob G) (hGm : GlobM G) (hGp : GlobP G) (C0 : Has G ty12 A0 B0) (C1 : Has G tI A1 B1) (C2 : Has G tI A2 B2) (C4 : Has G ty14 A4 B4) (H : Ctx w G) : Calls Tryz.prog 14 #[.agg #[A0, A1, A2, iV B3, A4], strV p1] w fun e w' => ∃ (v1 : Value) (csv1 : List Value) (Fv1 : List Nat) (v4 : Value) (v5 : Value) (v6 : Value) (csv6 : List Value) (Fv6 : List Nat), e = .returned (.tuple #[.agg #[v1, v4, v5, iV r.1.2.2.2.1, v6], strV r.2]) ∧ Holds M0 w w' [dpR 70 dt15 v1 csv1 r.1.1 Fv1, .sl 3 tI v4 r.1.2.1, .sl 3 tI v5 r.1.2.2.1, dpR 38 dt16 v6 csv6 r.1.2.2.2.2 Fv6] G := by
 refine F0 47 H Tryz.func14 q fun H => ?_
 refine C <| Z <| WL_box (cs := [A0, A1, A2, iV B3, A4]) H q q q q fun b1 w2 H3 => zq (cs := [nS, nS, nS, iV 0, nS]) H3 z27 q q q fun b5 w6 H7 => qa q <| B <| C <| C <| zk <| eA H7.p1 us27 uo27 il27 q <| O h fun b7 bn h => qc q c17 H7 (fun _ => w_impl_HouseValid bn (C0.c.c) (C1.c.c) (C2.c.c) (C4.c.c)) <| qi (qt_not q) q <| Qn H7 fun a ha b8 aM => X <| S1 ha ?_
 refine Yh q h (fun h => ?_) (fun h => ?_)
 ·cases h
  exact rR <| qi (qt_build (args := []) (css := []) (cells := #[nS, nS, nS, iV 0, nS]) q trivial (by kernel_rfl)) q <| zl (cs' := [nS, nS, nS, iV 0, nS]) aM q il27 q q q q q fun b9 a2 => qa q <| B <| W fun a ha => have bo := R a2.p0; have bp := a2.nD 70 dt15; have bq := bp.nS 3 tI; have br := bq.nS 3 tI; have bs := br.nD 38 dt16; m (retct q ha q q (run_loadVar_bx (cs := [nS, nS, nS, iV 0, nS]) us27 uo27 il27 bo) ⟨(nS), [], [], (nS), (nS), (nS), [], [], q, bs.q4.q4.p1.p2.p3⟩)
 refine y <| C <| rR <| qm q <| O h fun aa bu h => U0 q c44 (w_impl_ReadDeed bu hGl.c.c hGm.c.c aM.ctx) fun ca bv => have bw := aM.cN0 [] bv; qm q <| qi (zv q q) q <| qi (zv q q) q <| zq (cs := [iV 0, iV 0, iV 0, iV 0]) bw z52 q q q fun aw cb bz => zl (cs' := [iV aa.1.1, iV aa.1.2.1, iV aa.1.2.2.1, iV aa.1.2.2.2]) bz q il52 q q q q q fun cc ap => qa q <| rN <| qm q <| B ?_
 refine Yh q h (fun h => ?_) (fun h => ?_)
 ·refine rR <| eA ap.p2 us27 uo27 il27 q <| eA ap.p0 us52 uo52 il52 q <| O h fun ax bA h => zd q q c24 (w_impl_HouseDo bA hGl.c.c.c (C0.c.c.c) (C1.c.c.c) (C2.c.c.c) (C4.c.c.c) ap.ctx) q ?_
  rintro _ cd ⟨aj, a3, a4, ak, al, am, a5, a6, rfl, bB⟩; refine ⟨_, q, ?_⟩
  refine have bC := ap.cN4 [] bB; qm q <| qi (zv q q) q <| qi (zv q q) q <| zq (cs := [nS, nS, nS, iV 0, nS]) bC z27 q q q fun ce cf a7 => have aC := a7.viewG (Vw.c (Vw.d (Vw.c (Vw.c (Vw.d (Vw.c (Vw.c (Vw.c Vw.refl)))))))); zl (cs' := [aj, ak, al, iV ax.1.2.2.2.1, am]) a7 q il27 q (T (aC.sliceOne hR1) (T (aC.sliceOne hS2) (T (aC.sliceOne hS3) (T q (T (aC.sliceOne hR4) q))))) q q q fun cg aD => qa q <| B <| C <| rR <| qm q <| qi (qt_not q) q <| B ?_
  refine Yh q h (fun h => ?_) (fun h => ?_)
  ·cases h
   exact rR <| eA aD.p0 us27 uo27 il27 q <| have a8 := aD.p6; have aE := a8.viewG (Vw.c (Vw.c (Vw.d (Vw.c (Vw.c (Vw.d (Vw.c (Vw.c Vw.refl)))))))); zl (cs' := [aj, ak, al, iV ax.1.2.2.2.1, am]) a8 q il27 q (T (aE.sliceOne hR2) (T (aE.sliceOne hS3) (T (aE.sliceOne hS4) (T q (T (aE.sliceOne hR5) q))))) q q q fun ch a9 => qa q <| B <| W fun a ha => have bD := R a9.p0; m (m (retct q ha q q (run_loadVar_bx (cs := [aj, ak, al, iV ax.1.2.2.2.1, am]) us27 uo27 il27 bD) ⟨aj, a3, a4, ak, al, am, a5, a6, q, a9.q0.q0.q4.q4.p3.p3.p3.p3⟩))
  cases h
  exact y <| rR <| eA aD.p0 us27 uo27 il27 q <| have ba := aD.p6; have aF := ba.viewG (Vw.c (Vw.c (Vw.d (Vw.c (Vw.c (Vw.d (Vw.c (Vw.c Vw.refl)))))))); zl (cs' := [aj, ak, al, iV ax.1.2.2.2.1, am]) ba q il27 q (T (aF.sliceOne hR2) (T (aF.sliceOne hS3) (T (aF.sliceOne hS4) (T q (T (aF.sliceOne hR5) q))))) q q q fun ci bb => qa q <| B <| W fun a ha => have bF := R bb.p0; m (retct q ha q q (run_loadVar_bx (cs := [aj, ak, al, iV ax.1.2.2.2.1, am]) us27 uo27 il27 bF) ⟨aj, a3, a4, ak, al, am, a5, a6, q, bb.q0.q0.q4.q4.p3.p3.p3.p3⟩)
 refine y <| C <| rR <| qm q <| qi (qt_seql q q) q <| B ?_
 refine Yh q h (fun h => ?_) (fun h => ?_)
 ·refine C <| O h fun bH bc h => O h fun ab aN h => ?_
  refine WP_join (M := fun a w2 => ∃ aO aq aP aQ ar au av aR aS, Fr a 47 [(4, pB b5), (10, pB aO)] ∧ Holds M0 w w2 [.bx b5 27 [nS, nS, nS, iV 0, nS], .bx aO 27 [aq, ar, au, iV ab.1.2.2.2.1, av], dpR 70 dt15 aq aP ab.1.1 aQ, .sl 3 tI ar ab.1.2.1, .sl 3 tI au ab.1.2.2.1, dpR 38 dt16 av aR ab.1.2.2.2.2 aS] G) ?_ ?_
  ·refine WP_ordersT (fun w1 w2 => Chg M0 w1 w2) 9 (by kernel_rfl) fun aT bI => have bd := ap.grow bI; ?_
   have aU : Ctx aT ([] ++ ([.bx aw 52 [iV aa.1.1, iV aa.1.2.1, iV aa.1.2.2.1, iV aa.1.2.2.2], .bx b5 27 [nS, nS, nS, iV 0, nS], .bx b1 27 [A0, A1, A2, iV B3, A4]] ++ G)) := bd.ctx
   have bJ : Holds _ aT aT [] ([.bx aw 52 [iV aa.1.1, iV aa.1.2.1, iV aa.1.2.2.1, iV aa.1.2.2.2], .bx b5 27 [nS, nS, nS, iV 0, nS], .bx b1 27 [A0, A1, A2, iV B3, A4]] ++ G) := zb (Rs := []) aU
   refine have Hc := bJ; have bK := HasB.bx (HasB.c (HasB.c (HasB.hd))) Hc.ctx; XT (i := 0) q (by kernel_rfl) q Hc.chg q (qs_agg (cs := [A0, A1, A2, iV B3, A4]) us27 uo27 il27 q (fun j z hj => by rw [Nat.zero_add]; exact bK.cell hj) Hc.chg (Ctx.outB aU (HasB.c (HasB.c (HasB.hd))))) q q ?_
   change XC _ _ _ _ _ _ _ _ ((35, .agg #[A0, A1, A2, iV B3, A4]) :: _) _
   refine have bL := HasB.bx (HasB.c (HasB.c (HasB.hd))) Hc.ctx; XT (i := 1) q (by kernel_rfl) q Hc.chg q (qs_agg (cs := [A0, A1, A2, iV B3, A4]) us27 uo27 il27 q (fun j z hj => by rw [Nat.zero_add]; exact bL.cell hj) Hc.chg (Ctx.outB aU (HasB.c (HasB.c (HasB.hd))))) q q ?_
   change XC _ _ _ _ _ _ _ _ ((36, .agg #[A0, A1, A2, iV B3, A4]) :: _) _
   repeat' first
    | refine XDo 2 q <| U1 q c45 (w_impl_EndDeeds bc (C0.c.c.c) (C1.c.c.c) (C2.c.c.c) (C4.c.c.c) Hc.ctx) fun be _ HK => ?_; have Hc := Hc.cN1 [] HK; refine XN Hc.chg ?_
    | refine XDo 2 q <| U1 q c45 (w_impl_EndDeeds bc (C0.c.c.c.c) (C1.c.c.c.c) (C2.c.c.c.c) (C4.c.c.c.c) Hc.ctx) fun be _ HK => ?_; have Hc := Hc.cN1 [] HK; refine XN Hc.chg ?_
    | refine XDo 3 q <| zd q q c25 (w_impl_HouseRun aN hGl.c.c.c.c (C0.c.c.c.c) (C1.c.c.c.c) (C2.c.c.c.c) (C4.c.c.c.c) hS0 Hc.ctx) q ?_; rintro _ _ ⟨ae, aG, aH, af, ag, ah, aI, aJ, rfl, HK⟩; refine ⟨_, q, ?_⟩; have Hc := Hc.cN4 [] HK; refine XN Hc.chg <| XQ (i := 4) q (by kernel_rfl) q Hc.chg q (fun _ => qt_move q) q q <| XQ (i := 5) q (by kernel_rfl) q Hc.chg q (fun _ => zv q q) q q <| XQ (i := 6) q (by kernel_rfl) q Hc.chg q (fun _ => zv q q) q q ?_
    | refine XDo 3 q <| zd q q c25 (w_impl_HouseRun aN hGl.c.c.c.c.c (C0.c.c.c.c.c) (C1.c.c.c.c.c) (C2.c.c.c.c.c) (C4.c.c.c.c.c) hS1 Hc.ctx) q ?_; rintro _ _ ⟨ae, aG, aH, af, ag, ah, aI, aJ, rfl, HK⟩; refine ⟨_, q, ?_⟩; have Hc := Hc.cN4 [] HK; refine XN Hc.chg <| XQ (i := 4) q (by kernel_rfl) q Hc.chg q (fun _ => qt_move q) q q <| XQ (i := 5) q (by kernel_rfl) q Hc.chg q (fun _ => zv q q) q q <| XQ (i := 6) q (by kernel_rfl) q Hc.chg q (fun _ => zv q q) q q ?_
    | refine XDo 3 q <| zd q q c25 (w_impl_HouseRun aN hGl.c.c.c.c.c (C0.c.c.c.c.c) (C1.c.c.c.c.c) (C2.c.c.c.c.c) (C4.c.c.c.c.c) hS0 Hc.ctx) q ?_; rintro _ _ ⟨ae, aG, aH, af, ag, ah, aI, aJ, rfl, HK⟩; refine ⟨_, q, ?_⟩; have Hc := Hc.cN4 [] HK; refine XN Hc.chg <| XQ (i := 4) q (by kernel_rfl) q Hc.chg q (fun _ => qt_move q) q q <| XQ (i := 5) q (by kernel_rfl) q Hc.chg q (fun _ => zv q q) q q <| XQ (i := 6) q (by kernel_rfl) q Hc.chg q (fun _ => zv q q) q q ?_
    | refine XDo 7 q ?_; refine zq (cs := [nS, nS, nS, iV 0, nS]) Hc z27 q q q (fun bf _ Hc => ?_); refine XN Hc.chg ?_
    | refine XDo 8 q ?_; have ad := Hc.viewG (Vw.c (Vw.d (Vw.c (Vw.c (Vw.d (Vw.c Vw.refl)))))); refine zl (cs' := [ae, af, ag, iV ab.1.2.2.2.1, ah]) Hc q il27 q (T (ad.sliceOne hR1) (T (ad.sliceOne hS2) (T (ad.sliceOne hS3) (T q (T (ad.sliceOne hR4) q))))) q q q (fun _ Hc => ?_); refine XN Hc.chg ?_
    | refine XDo 8 q ?_; have Hc := Hc.p4; have ad := Hc.viewG (Vw.c (Vw.d (Vw.c (Vw.c (Vw.d (Vw.c Vw.refl)))))); refine zl (cs' := [ae, af, ag, iV ab.1.2.2.2.1, ah]) Hc q il27 q (T (ad.sliceOne hR1) (T (ad.sliceOne hS2) (T (ad.sliceOne hS3) (T q (T (ad.sliceOne hR4) q))))) q q q (fun _ Hc => ?_); refine XN Hc.chg ?_
    | refine XDo 8 q ?_; have Hc := Hc.p5; have ad := Hc.viewG (Vw.c (Vw.d (Vw.c (Vw.c (Vw.d (Vw.c Vw.refl)))))); refine zl (cs' := [ae, af, ag, iV ab.1.2.2.2.1, ah]) Hc q il27 q (T (ad.sliceOne hR1) (T (ad.sliceOne hS2) (T (ad.sliceOne hS3) (T q (T (ad.sliceOne hR4) q))))) q q q (fun _ Hc => ?_); refine XN Hc.chg ?_
    | have Hc : Holds _ _ _ [.bx bf 27 [ae, af, ag, iV ab.1.2.2.2.1, ah], dpR 70 dt15 ae aG ab.1.1 aH, .sl 3 tI af ab.1.2.1, .sl 3 tI ag ab.1.2.2.1, dpR 38 dt16 ah aI ab.1.2.2.2.2 aJ, .sl 52 ty10 be bH, .bx aw 52 [iV aa.1.1, iV aa.1.2.1, iV aa.1.2.2.1, iV aa.1.2.2.2], .bx b5 27 [nS, nS, nS, iV 0, nS], .bx b1 27 [A0, A1, A2, iV B3, A4]] G := bd.calledN (Rs := []) Hc; refine XDo 9 q <| qa q <| XE q ?_
    | refine XV [2, 7] (by decide +kernel) q (allc ?_ (allc ?_ alln))
    | refine XV [3, 7] (by decide +kernel) q (allc ?_ (allc ?_ alln))
    | refine XV [7] (by decide +kernel) q (allc ?_ alln)
    | refine XV [8] (by decide +kernel) q (allc ?_ alln)
    | refine XV [9] (by decide +kernel) q (allc ?_ alln)
    | refine XV [3] (by decide +kernel) q (allc ?_ alln)
    | refine XV [2] (by decide +kernel) q (allc ?_ alln)
    | refine XC_done (by decide +kernel) (fun a ha => ?_); have Hc := (((((((((Hc.q5).q5).q6).p4).p4).p4).p4).p4).p5); exact ⟨bf, ae, aG, aH, af, ag, ah, aI, aJ, ha.s, Hc⟩
  rintro a cj ⟨aO, aq, aP, aQ, ar, au, av, aR, aS, ha, aV⟩
  cases h
  exact S1 ha <| rR <| eA aV.p1 us27 uo27 il27 q <| have aK := aV.viewG (Vw.c (Vw.c (Vw.d (Vw.c (Vw.c (Vw.d Vw.refl)))))); zl (cs' := [aq, ar, au, iV ab.1.2.2.2.1, av]) aV q il27 q (T (aK.sliceOne hR2) (T (aK.sliceOne hS3) (T (aK.sliceOne hS4) (T q (T (aK.sliceOne hR5) q))))) q q q fun ck bg => qa q <| B <| W fun a ha => have bM := R bg.p0; m (retct q ha q q (run_loadVar_bx (cs := [aq, ar, au, iV ab.1.2.2.2.1, av]) us27 uo27 il27 bM) ⟨aq, aP, aQ, ar, au, av, aR, aS, q, bg.q0.q0.p3.p3.p3.p3⟩)
 refine y <| C <| O h fun ao bO h => O h fun bP bQ h => ?_
 refine WP_join (M := fun a w2 => ∃ ay aW aX az aA aB aY aZ, Fr a 47 [(4, pB b5), (5, strV bP)] ∧ Holds M0 w w2 [.bx b5 27 [ay, az, aA, iV ao.2.2.2.1, aB], dpR 70 dt15 ay aW ao.1 aX, .sl 3 tI az ao.2.1, .sl 3 tI aA ao.2.2.1, dpR 38 dt16 aB aY ao.2.2.2.2 aZ] G) ?_ ?_
 ·refine WP_ordersT (fun w1 w2 => Chg (([.bx b5 27 [nS, nS, nS, iV 0, nS]] : List Res).flatMap Res.own) w1 w2) 6 (by kernel_rfl) fun a0 bR => have bS := ap.grow bR; have bh := bS.p1; ?_
  have a1 : Ctx a0 ([.bx b5 27 [nS, nS, nS, iV 0, nS]] ++ ([.bx aw 52 [iV aa.1.1, iV aa.1.2.1, iV aa.1.2.2.1, iV aa.1.2.2.2], .bx b1 27 [A0, A1, A2, iV B3, A4]] ++ G)) := bh.ctx
  have bT : Holds _ a0 a0 [.bx b5 27 [nS, nS, nS, iV 0, nS]] ([.bx aw 52 [iV aa.1.1, iV aa.1.2.1, iV aa.1.2.2.1, iV aa.1.2.2.2], .bx b1 27 [A0, A1, A2, iV B3, A4]] ++ G) := zb (Rs := [.bx b5 27 [nS, nS, nS, iV 0, nS]]) a1
  refine have Hc := bT; have bU := HasB.bx (HasB.c (HasB.c (HasB.hd))) Hc.ctx; XT (i := 0) q (by kernel_rfl) q Hc.chg q (qs_agg (cs := [A0, A1, A2, iV B3, A4]) us27 uo27 il27 q (fun j z hj => by rw [Nat.zero_add]; exact bU.cell hj) Hc.chg (Ctx.outB a1 (HasB.c (HasB.hd)))) q q ?_
  change XC _ _ _ _ _ _ _ _ ((42, .agg #[A0, A1, A2, iV B3, A4]) :: _) _
  refine have bV := HasB.bx (HasB.c (HasB.c (HasB.hd))) Hc.ctx; XT (i := 2) q (by kernel_rfl) q Hc.chg q (qs_agg (cs := [A0, A1, A2, iV B3, A4]) us27 uo27 il27 q (fun j z hj => by rw [Nat.zero_add]; exact bV.cell hj) Hc.chg (Ctx.outB a1 (HasB.c (HasB.hd)))) q q ?_
  change XC _ _ _ _ _ _ _ _ ((44, .agg #[A0, A1, A2, iV B3, A4]) :: _) _
  refine XQ (i := 3) q (by kernel_rfl) q Hc.chg q (fun _ => qt_move q) q q ?_
  repeat' first
   | refine XDo 1 q <| zd q q c32 (w_impl_copyHouse bO (C0.c.c.c) (C1.c.c.c) (C2.c.c.c) (C4.c.c.c) Hc.ctx) q ?_; rintro _ _ ⟨bi, bW, bX, bj, bk, bl, bY, bZ, rfl, HK⟩; refine ⟨_, q, ?_⟩; have Hc := Hc.cN4 [] HK; refine XN Hc.chg ?_
   | refine XDo 4 q ?_; have b0 := Hc.viewG (Vw.d (Vw.c (Vw.c (Vw.d (Vw.c Vw.refl))))); refine U0 q c46 (w_impl_answerTo bQ hGm.c.c.c.c.c.c.c hGp.c.c.c.c.c.c.c (C0.c.c.c.c.c.c.c) (C1.c.c.c.c.c.c.c) (C2.c.c.c.c.c.c.c) (C4.c.c.c.c.c.c.c) b0) fun _ HK => ?_; have Hc := Hc.cV0 [] HK all_nil; refine XN Hc.chg ?_
   | refine XDo 5 q ?_; have Hc := Hc.p4; have aL := Hc.viewG (Vw.c (Vw.d (Vw.c (Vw.c (Vw.d Vw.refl))))); refine zl (cs' := [bi, bj, bk, iV ao.2.2.2.1, bl]) Hc q il27 q (T (aL.sliceOne hR1) (T (aL.sliceOne hS2) (T (aL.sliceOne hS3) (T q (T (aL.sliceOne hR4) q))))) q q q (fun _ Hc => ?_); refine XN Hc.chg ?_
   | have Hc := bh.cN5 [_] Hc; refine XDo 6 q <| qa q <| XE q ?_
   | refine XV [1] (by decide +kernel) q (allc ?_ alln)
   | refine XV [4] (by decide +kernel) q (allc ?_ alln)
   | refine XV [5] (by decide +kernel) q (allc ?_ alln)
   | refine XV [6] (by decide +kernel) q (allc ?_ alln)
   | refine XC_done (by decide +kernel) (fun a ha => ?_); have Hc := (((((((Hc.q5).q5).p4).p4).p4).p4).p4); exact ⟨bi, bW, bX, bj, bk, bl, bY, bZ, ha.s, Hc⟩
 rintro a cl ⟨ay, aW, aX, az, aA, aB, aY, aZ, ha, bm⟩
 cases h
 exact S1 ha <| W fun a ha => have b4 := R bm.p0; retct q ha q q (run_loadVar_bx (cs := [ay, az, aA, iV ao.2.2.2.1, aB]) us27 uo27 il27 b4) ⟨ay, aW, aX, az, aA, aB, aY, aZ, q, bm.q0.p3.p3.p3.p3⟩
theorem w_impl_HouseLines {w G A0 B0 A1 B1 A2 B2 B3 A4 B4 vp1 p1 r} (h : impl_HouseLinesS B0 B1 B2 B3 B4 p1 = some r) (hGl : Glob G) (hGm : GlobM G) (hGp : GlobP G) (C0 : Has G ty12 A0 B0) (C1 : Has G tI A1 B1) (C2 : Has G tI A2 B2) (C4 : Has G ty14 A4 B4) (hp1 : Has G .str vp1 p1) (H : Ctx w G) : Calls Tryz.prog 7 #[.agg #[A0, A1, A2, iV B3, A4], vp1] w fun e w' => ∃ (v1 : Value) (csv1 : List Value) (Fv1 : List Nat) (v4 : Value) (v5 : Value) (v6 : Value) (csv6 : List Value) (Fv6 : List Nat) (v9 : Value), e = .returned (.tuple #[.agg #[v1, v4, v5, iV r.1.2.2.2.1, v6], v9]) ∧ Holds M0 w w' [dpR 70 dt15 v1 csv1 r.1.1 Fv1, .sl 3 tI v4 r.1.2.1, .sl 3 tI v5 r.1.2.2.1, dpR 38 dt16 v6 csv6 r.1.2.2.2.2 Fv6, .sl 9 .str v9 r.2] G := by
 refine F0 43 H Tryz.func7 q fun H => ?_
 refine C <| Z <| WL_box (cs := [A0, A1, A2, iV B3, A4]) H q q q q fun b1 w2 H3 => zq (cs := [nS, nS, nS, iV 0, nS]) H3 z27 q q q fun b5 w6 H7 => qa q <| B <| C <| C <| zk <| eA H7.p1 us27 uo27 il27 q <| O h fun a5 a6 h => qc q c17 H7 (fun _ => w_impl_HouseValid a6 (C0.c.c) (C1.c.c) (C2.c.c) (C4.c.c)) <| qi (qt_not q) q <| qm q ?_
 refine Go (res := ((!a5) || (decide ((List.length p1 : Int) > 40)))) 3 os (fun ae bW a7 => ?_) ?_
 ·exact jm ae q <| jz H7.ctx (hp1.c.c) u28 ae q <| ji (qt_gtr q q) ae q <| a7 3 q q q (oi ae)
 refine Qn H7 fun a ha bX af => X <| S1 ha ?_
 refine Yh q h (fun h => ?_) (fun h => ?_)
 ·cases h
  exact rR <| qi (qt_build (args := []) (css := []) (cells := #[nS, nS, nS, iV 0, nS]) q trivial (by kernel_rfl)) q <| zl (cs' := [nS, nS, nS, iV 0, nS]) af q il27 q q q q q fun bY aB => qa q <| B <| W fun a ha => have a8 := R aB.p0; have a9 := aB.nD 70 dt15; have ba := a9.nS 3 tI; have bb := ba.nS 3 tI; have bc := bb.nD 38 dt16; have bd := bc.nS 9 .str; m (retct q ha q q (run_loadVar_bx (cs := [nS, nS, nS, iV 0, nS]) us27 uo27 il27 a8) ⟨(nS), [], [], (nS), (nS), (nS), [], [], (nS), q, bd.q5.q5.p1.p2.p3.p4⟩)
 refine y <| rR <| eA af.p1 us27 uo27 il27 q <| O h fun bf bg h => zd q q c32 (w_impl_copyHouse bg (C0.c.c) (C1.c.c) (C2.c.c) (C4.c.c) af.ctx) q ?_
 rintro _ bZ ⟨aC, bh, bi, aD, aE, aF, bj, bk, rfl, bl⟩; refine ⟨_, q, ?_⟩
 refine have bm := af.cN4 [] bl; zq (cs := [nS, nS, nS, iV 0, nS]) bm z27 q q q fun ag b0 aG => have ah := aG.viewG (Vw.c (Vw.d (Vw.c (Vw.c (Vw.d (Vw.c (Vw.c Vw.refl))))))); zl (cs' := [aC, aD, aE, iV bf.2.2.2.1, aF]) aG q il27 q (T (ah.sliceOne hR1) (T (ah.sliceOne hS2) (T (ah.sliceOne hS3) (T q (T (ah.sliceOne hR4) q))))) q q q fun b4 aH => rN <| qm q <| have bn := aH.viewG (Vw.c (Vw.d (Vw.c (Vw.c (Vw.d (Vw.c (Vw.c Vw.refl))))))); qz bn (hp1.c.c.c.c.c.c.c) u28 q <| O h fun b6 bo h => WL_makeH aH bo u28 j9 q (fun _ => ⟨q, q⟩) q q q q q fun ad b7 aI => qa q <| B <| C <| rR <| qm q <| have bp := aI.viewG (Vw.c (Vw.c (Vw.d (Vw.c (Vw.c (Vw.d (Vw.c (Vw.c Vw.refl)))))))); qz bp (hp1.c.c.c.c.c.c.c.c) u28 q <| qm q <| B <| g <| O h fun bq br h => ?_
 refine fun b8 bt => zp (I := fun (aJ, aK, aL, aM, aN, aO, aP) a w2 => ∃ aj aq ar ak al am au av, Fr a 43 [(4, pB b5), (6, pB ag), (7, ad), (24, vp1), (25, iV (List.length p1 : Int)), (26, iV aJ)] ∧ Holds M0 w w2 [.bx b5 27 [nS, nS, nS, iV 0, nS], .bx ag 27 [aj, ak, al, iV aN, am], dpR 70 dt15 aj aq aK ar, .sl 3 tI ak aL, .sl 3 tI al aM, dpR 38 dt16 am au aO av, .sl 9 .str ad aP] G) (O := fun (q0, q1, q2, q3, q4, q5) e a w2 => e = .exit 0 ∧ ∃ aQ bu bv aR aS aT bw bz, Fr a 43 [(4, pB b5), (6, pB ag), (7, ad)] ∧ Holds M0 w w2 [.bx b5 27 [nS, nS, nS, iV 0, nS], .bx ag 27 [aQ, aR, aS, iV q3, aT], dpR 70 dt15 aQ bu q0 bv, .sl 3 tI aR q1, .sl 3 tI aS q2, dpR 38 dt16 aT bw q4 bz, .sl 9 .str ad q5] G) br ?_ ?_ ?_
 ·exact ⟨aC, bh, bi, aD, aE, aF, bj, bk, bt.s, aI.q7.p5.p5.p5.p5.p5.p6⟩
 ·rintro ⟨aJ, aK, aL, aM, aN, aO, aP⟩ _ a b9 aa ⟨aj, aq, ar, ak, al, am, au, av, ha, ab⟩
  refine S1 ha <| rR <| qi (qt_lss q q) q <| B <| C ?_
  refine Yh q aa (fun aa => ?_) (fun aa => ?_)
  ·refine y <| C <| g <| rR <| qm q <| O aa fun ca aU aa => have bA := ab.viewG (Vw.c (Vw.c (Vw.d (Vw.c (Vw.c (Vw.d (Vw.c Vw.refl))))))); qb bA (hp1.c.c.c.c.c.c.c) aU u28 i9 q fun cb cc cd bB => eS u9 (ab.el (hp1.c.c.c.c.c.c.c) aU bB) q <| qa q <| qa q <| B <| Z <| qm q <| qm q <| eA ab.p1 us27 uo27 il27 q <| qm q <| O aa fun aV bC aa => have bD := ab.viewG (Vw.c (Vw.c (Vw.d (Vw.c (Vw.c (Vw.d (Vw.c Vw.refl))))))); zd q q c14 (w_impl_HouseLine bC hGl.c.c.c.c.c.c.c hGm.c.c.c.c.c.c.c hGp.c.c.c.c.c.c.c hR2 hS3 hS4 hR5 bD) q ?_
   rintro _ ce ⟨aW, bE, bF, aX, aY, aZ, bG, bH, rfl, bI⟩; refine ⟨_, q, ?_⟩
   refine have bJ := ab.cV4 [] bI (zc Pure.dp (zc (Pure.sl q) (zc (Pure.sl q) (zc Pure.dp all_nil)))); qm q <| qi (zv q q) q <| qi (zv q q) q <| have a0 := bJ.p5; have ao := a0.viewG (Vw.c (Vw.d (Vw.c (Vw.c (Vw.d (Vw.c (Vw.d (Vw.c (Vw.c (Vw.d (Vw.c Vw.refl))))))))))); zl (cs' := [aW, aX, aY, iV aV.1.2.2.2.1, aZ]) a0 q il27 q (T (ao.sliceOne hR1) (T (ao.sliceOne hS2) (T (ao.sliceOne hS3) (T q (T (ao.sliceOne hR4) q))))) q q q fun cf a1 => O aa fun cg a2 aa => have bK := a1.viewG (Vw.c (Vw.d (Vw.c (Vw.c (Vw.d (Vw.c (Vw.d (Vw.c (Vw.c (Vw.d (Vw.c Vw.refl))))))))))); qb bK hS10 a2 u28 i9 q fun ch ci cj bL => WL_storeH (fo := 0) (cs' := [strV aV.2]) a1.p10 a2 bL (Upd.whole (Blt.str)) q il9 q q q q fun ck bN => WL_nil fun a ha => zi <| X <| S1 ha <| Z <| qi (qt_add q q) q <| qm q <| WL_nil fun a ha => ?_
   cases aa
   exact ⟨q, aW, bE, bF, aX, aY, aZ, bG, bH, ha.s, bN.q7.q7.q7.q7.p5.p5.p5.p5.p5.p6⟩
  cases aa
  exact WP_exit fun a ha => zo (⟨exit_ne, q, aj, aq, ar, ak, al, am, au, av, ha.s, ab.p6.p6.p6.p6.p6.p6.p6⟩)
 obtain ⟨cl, cm, cn, a3, co, cp⟩ := bq
 rintro _ a cq ⟨rfl, aw, bQ, bR, ax, ay, az, bS, bT, ha, aA⟩
 cases h
 exact zn <| X <| S1 ha <| rR <| eA aA.p1 us27 uo27 il27 q <| qm q <| have ap := aA.viewG (Vw.c (Vw.c (Vw.d (Vw.c (Vw.c (Vw.d (Vw.c Vw.refl))))))); zl (cs' := [aw, ax, ay, iV a3, az]) aA q il27 q (T (ap.sliceOne hR2) (T (ap.sliceOne hS3) (T (ap.sliceOne hS4) (T q (T (ap.sliceOne hR5) q))))) q q q fun cr a4 => qa q <| B <| W fun a ha => have bU := R a4.p0; retct q ha q q (run_loadVar_bx (cs := [aw, ax, ay, iV a3, az]) us27 uo27 il27 bU) ⟨aw, bQ, bR, ax, ay, az, bS, bT, ad, q, a4.q0.q0.p4.p4.p4.p4.p4⟩
theorem w_spec_l1Cut {w G p0 p1 r} (h : spec_l1CutS p0 p1 = some r) (H : Ctx w G) : Calls Tryz.prog 48 #[strV p0, .int .u8 p1] w fun e w' => ∃ (v1 : Value), e = .returned (v1) ∧ Holds M0 w w' [.sl 9 .str v1 r] G := by
 refine F0 35 H Tryz.func48 q fun H => ?_
 refine rR <| qa q <| B <| C <| Z <| zs (t := .str) (args := []) (xs := ([] : List (List UInt8))) H (BltL.nil) u28 j9 q q q q q q fun v1 w2 H3 => qa q <| rN <| qa q <| B <| C <| rR <| qa q <| B <| g <| O h fun o8 af h => ?_
 refine fun aD ag => zp (I := fun (s5, s6, s7) a w2 => ∃ ab, Fr a 35 [(0, strV p0), (1, .int .u8 p1), (5, ab), (6, iV s6), (7, iV s7)] ∧ Holds M0 w w2 [.sl 9 .str ab s5] G) (O := fun (q0, q1) e a w2 => e = .exit 0 ∧ ∃ ae, Fr a 35 [(0, strV p0), (5, ae), (6, iV q1)] ∧ Holds M0 w w2 [.sl 9 .str ae q0] G) af ?_ ?_ ?_
 ·exact ⟨v1, ag.s, H3⟩
 ·rintro ⟨s5, s6, s7⟩ _ a aE aa ⟨ab, ha, ad⟩
  refine S1 ha <| C <| rR <| qm q <| qm q <| qi (qt_slen u9 q) q <| qi (qt_lss q q) q <| B ?_
  refine Yh q aa (fun aa => ?_) (fun aa => ?_)
  ·refine y <| C <| g <| rR <| qm q <| qm q <| O aa fun aF ah aa => qi (qt_sidx u9 q q ah) q <| qm q <| qi (qt_eql q q) q <| B ?_
   refine Yh q aa (fun aa => ?_) (fun aa => ?_)
   ·refine rR <| qm q <| qm q <| qm q <| qm q <| O aa fun aj ak aa => qi (qt_ssub u9 ⟨_, q⟩ ⟨_, q⟩ q ak) q <| zs (t := .str) (args := [.tmp 24]) (xs := ([aj] : List (List UInt8))) ad (BltL.cons (Blt.str) q (BltL.nil)) u28 j9 q q q q q q fun aG aH al => O aa fun aI ao aa => zw al.p1 hS1 ao u28 j9 q q q q q q fun ap aJ aq => qa q <| B <| Z <| qm q <| qi (qt_add q q) q <| qa q <| WL_nil fun a ha => zi <| X <| S1 ha <| Z <| qm q <| qi (qt_add q q) q <| qa q <| WL_nil fun a ha => ?_
    cases aa
    exact ⟨q, ap, ha.s, aq.q1⟩
   cases aa
   exact WP_skip fun a ha => zi <| X <| S1 ha <| Z <| qm q <| qi (qt_add q q) q <| qa q <| WL_nil fun a ha => ⟨q, ab, ha.s, ad⟩
  cases aa
  exact WP_exit fun a ha => zo (⟨exit_ne, q, ab, ha.s, ad⟩)
 obtain ⟨aK, aL⟩ := o8
 rintro _ a aM ⟨rfl, aN, ha, au⟩
 refine zn <| X <| S1 ha <| rR <| qm q <| qm q <| qm q <| O h fun av aw h => qi (qt_ssub u9 ⟨_, q⟩ q q aw) q <| zs (t := .str) (args := [.tmp 32]) (xs := ([av] : List (List UInt8))) au (BltL.cons (Blt.str) q (BltL.nil)) u28 j9 q q q q q q fun aO aP ax => O h fun aQ az h => zw ax.p1 hS1 az u28 j9 q q q q q q fun aA aR aB => qa q <| B <| W fun a ha => ?_
 obtain rfl := L h
 exact ret1 q ha q ⟨aA, q, aB.q1⟩
theorem w_spec_l1Read {w G p0 r} (h : spec_l1ReadS p0 = some r) (H : Ctx w G) : Calls Tryz.prog 49 #[strV p0] w fun e w' => e = .returned (iV r) ∧ Holds M0 w w' [] G := by
 refine F0 44 H Tryz.func49 q fun H => ?_
 refine rR <| qa q <| B <| C <| C <| zk <| qm q <| qi (qt_slen u9 q) q <| O h fun x1 aq h => qc q c39 H (fun _ => w_spec_l1In aq) <| qi (qt_not q) q <| qm q <| O h fun b3 ab h => ?_
 refine Go (res := b3) 8 (if_t · ab) (fun ad K6 ar => ?_) ?_
 ·refine have ab := if_f ad ab; jm ad q <| ji (qt_slen u9 q) ad q <| ji (qt_gtr q q) ad q <| jm ad q <| O ab fun b8 ae ab => ?_
  refine Ga (res := b8) (hw := (J q ad)) 3 (if_f · ae) (fun ah aF au => ?_) ?_
  ·exact have ae := if_t ah ae; jm ah q <| O ae fun aG av ae => ji (qt_sidx u9 q q av) ah q <| ji (qt_eql q q) ah q <| au 3 q q q ae
  exact ar 5 q q q ab
 refine Qn H fun a ha aH al => X <| S1 ha ?_
 refine Yh q h (fun h => ?_) (fun h => ?_)
 ·cases h
  exact rR <| qa q <| B <| W fun a ha => m (ret1 q ha q ⟨q, al⟩)
 refine y <| rR <| qa q <| B <| C <| rR <| qa q <| B <| g <| O h fun aj aw h => ?_
 refine fun aI ax => zp (I := fun (am, ao) a w2 => (Fr a 44 [(0, strV p0), (3, iV am), (4, iV ao)] ∧ Holds M0 w w2 [] G)) (O := fun o e a w2 => match o with | .inl q0 => e = .exit 0 ∧ (Fr a 44 [(3, iV q0)] ∧ Holds M0 w w2 [] G) | .inr q0 => e = .ret ∧ (Fr a 44 [(2, iV q0)] ∧ Holds M0 w w2 [] G)) aw ?_ ?_ ?_
 ·exact ⟨ax.s, al⟩
 ·rintro ⟨am, ao⟩ _ a aJ aa ⟨ha, ak⟩
  refine S1 ha <| C <| rR <| qm q <| qm q <| qi (qt_slen u9 q) q <| qi (qt_lss q q) q <| B ?_
  refine Yh q aa (fun aa => ?_) (fun aa => ?_)
  ·refine y <| C <| g <| C <| rR <| qm q <| qm q <| O aa fun aK ay aa => qi (qt_sidx u9 q q ay) q <| qi (qt_lss q q) q <| qm q <| O aa fun az af aa => ?_
   refine Ho (res := az) 4 (if_t · af) (fun ag aL aA => ?_) ?_
   ·exact have af := if_f ag af; jm ag q <| jm ag q <| O af fun aM aB af => ji (qt_sidx u9 q q aB) ag q <| ji (qt_gtr q q) ag q <| aA 4 q q q af
   refine B ?_
   refine Yh q aa (fun aa => ?_) (fun aa => ?_)
   ·cases aa
    exact rR <| qa q <| B <| W fun a ha => m (zj (m (⟨ret_ne, q, ha.s, ak⟩)))
   refine y <| Z <| qm q <| qi (qt_mul q q) q <| qm q <| qm q <| O aa fun aN aC aa => qi (qt_sidx u9 q q aC) q <| qi (qt_sub q q) q <| qi (qt_int u3 q u5) q <| qi (qt_add q q) q <| qa q <| WL_nil fun a ha => zi <| X <| S1 ha <| Z <| qm q <| qi (qt_add q q) q <| qa q <| WL_nil fun a ha => ?_
   cases aa
   exact ⟨q, ha.s, ak⟩
  cases aa
  exact WP_exit fun a ha => zo (⟨exit_ne, q, ha.s, ak⟩)
 intro e a aO ap
 rcases aj with aj | aj
 ·obtain ⟨rfl, ha, aD⟩ := ap
  refine zn <| X <| S1 ha <| rR <| qm q <| qa q <| B <| W fun a ha => ?_
  obtain rfl := L h
  exact ret1 q ha q ⟨q, aD⟩
 obtain ⟨rfl, ha, aE⟩ := ap
 obtain rfl := L h
 exact zj (m (ret1 q ha q ⟨q, aE⟩))
theorem w_spec_ReadDeed {w G p0 r} (h : spec_ReadDeedS p0 = some r) (H : Ctx w G) : Calls Tryz.prog 47 #[strV p0] w fun e w' => e = .returned (.tuple #[.agg #[iV r.1.1, iV r.1.2.1, iV r.1.2.2.1, iV r.1.2.2.2], .bool r.2]) ∧ Holds M0 w w' [] G := by
 refine F0 66 H Tryz.func47 q fun H => ?_
 refine C <| Z <| zq (cs := [iV 0, iV 0, iV 0, iV 0]) H z52 q q q fun b1 w2 H3 => qa q <| rN <| qm q <| O h fun x5 aL h => U1 q c48 (w_spec_l1Cut aL H3.ctx) fun v9 w7 H8 => have aM := H3.cN1 [] H8; qa q <| B <| C <| Z <| zs (t := tI) (args := [.const (iV 0), .const (iV 0), .const (iV 0)]) (xs := ([0, 0, 0] : List Int)) aM (BltL.cons (Blt.int) q (BltL.cons (Blt.int) q (BltL.cons (Blt.int) q (BltL.nil)))) u24 j3 q q q q q q fun ad br aN => qa q <| rN <| qi (qt_build (args := [(0, .const (iV (-1)))]) (css := [#[iV (-1)]]) (cells := #[iV (-1), iV 0, iV 0, iV 0]) q ⟨q, trivial⟩ (by kernel_rfl)) q <| zq (cs := [iV 0, iV 0, iV 0, iV 0]) aN z52 q q q fun ae bs aO => zl (cs' := [iV (-1), iV 0, iV 0, iV 0]) aO q il52 q q q q q fun bt aP => B <| C <| rR <| qa q <| B <| g <| O h fun ak aQ h => ?_
 refine fun bu aS => zp (I := fun (av, aw) a w2 => (Fr a 66 [(0, strV p0), (2, pB b1), (4, v9), (5, ad), (6, pB ae), (7, iV av)] ∧ Holds M0 w w2 [.bx b1 52 [iV 0, iV 0, iV 0, iV 0], .sl 9 .str v9 x5, .sl 3 tI ad ([0, 0, 0]), .bx ae 52 [iV aw, iV 0, iV 0, iV 0]] G)) (O := fun q0 e a w2 => e = .exit 0 ∧ (Fr a 66 [(0, strV p0), (2, pB b1), (4, v9), (5, ad), (6, pB ae)] ∧ Holds M0 w w2 [.bx b1 52 [iV 0, iV 0, iV 0, iV 0], .sl 9 .str v9 x5, .sl 3 tI ad ([0, 0, 0]), .bx ae 52 [iV q0, iV 0, iV 0, iV 0]] G)) aQ ?_ ?_ ?_
 ·exact ⟨aS.s, aP.p1.p2.p3⟩
 ·rintro ⟨av, aw⟩ _ a bv aa ⟨ha, ah⟩
  refine S1 ha <| C <| rR <| qm q <| qi (qt_leq q q) q <| B ?_
  refine Yh q aa (fun aa => ?_) (fun aa => ?_)
  ·refine y <| C <| g <| C <| WP_quiet (by kernel_rfl) (by kernel_rfl) <| qm q <| O aa fun bw ax aa => qe ah hS1 ax u28 i9 q fun _ _ aT => eS u9 aT q <| qm q <| O aa fun bC aU aa => qc q c96 ah (fun _ => w_spec_l7Name aU) <| qi (qt_seql q q) q <| Qn ah fun a ha bD ay => X <| S1 ha ?_
   refine Yh q aa (fun aa => ?_) (fun aa => ?_)
   ·cases aa
    exact Z <| qm q <| qf uf52 fi52_0 nz3 q <| WL_store_bx ay.p3 q il3 q q q q q fun bE aW => WL_nil fun a ha => zi <| X <| S1 ha <| Z <| qm q <| qi (qt_add q q) q <| qa q <| WL_nil fun a ha => ⟨q, ha.s, aW.p3.p3.p3⟩
   cases aa
   exact WP_skip fun a ha => zi <| X <| S1 ha <| Z <| qm q <| qi (qt_add q q) q <| qa q <| WL_nil fun a ha => ⟨q, ha.s, ay.p3.p3.p3.p3⟩
  cases aa
  exact WP_exit fun a ha => zo (⟨exit_ne, q, ha.s, ah.p3.p3.p3.p3⟩)
 rintro _ a bF ⟨rfl, ha, a0⟩
 refine zn <| X <| S1 ha <| C <| rR <| qa q <| B <| g <| O h fun bG a1 h => ?_
 refine fun bH a3 => zp (I := fun (al, az) a w2 => (Fr a 66 [(0, strV p0), (2, pB b1), (4, v9), (5, ad), (6, pB ae), (8, iV al)] ∧ Holds M0 w w2 [.bx b1 52 [iV 0, iV 0, iV 0, iV 0], .sl 9 .str v9 x5, .sl 3 tI ad az, .bx ae 52 [iV ak, iV 0, iV 0, iV 0]] G)) (O := fun q0 e a w2 => e = .exit 2 ∧ (Fr a 66 [(0, strV p0), (2, pB b1), (5, ad), (6, pB ae)] ∧ Holds M0 w w2 [.bx b1 52 [iV 0, iV 0, iV 0, iV 0], .sl 3 tI ad q0, .bx ae 52 [iV ak, iV 0, iV 0, iV 0]] G)) a1 ?_ ?_ ?_
 ·exact ⟨a3.s, a0.p3.p3.p3.p3⟩
 ·rintro ⟨al, az⟩ _ a bI ab ⟨ha, af⟩
  refine S1 ha <| C <| rR <| qm q <| qm q <| qz af.ctx hS1 u28 q <| qi (qt_lss q q) q <| qm q ?_
  refine Ha (res := ((decide (al < (List.length x5 : Int))) && (decide (al ≤ 3)))) 2 an (fun am bJ a4 => ?_) ?_
  ·exact jm am q <| ji (qt_leq q q) am q <| a4 2 q q q (ai am)
  refine B ?_
  refine Yh q ab (fun ab => ?_) (fun ab => ?_)
  ·refine y <| C <| g <| Z <| qm q <| qm q <| qi (qt_sub q q) q <| qm q <| qm q <| O ab fun bK aA ab => qe af hS1 aA u28 i9 q fun _ _ a5 => eS u9 a5 q <| O ab fun a6 a7 ab => U0 q c49 (w_spec_l1Read a7 af.ctx) fun bO a8 => have aB := af.cN0 [] a8; O ab fun bP aC ab => qb aB.ctx hS2 aC u24 i3 q fun bQ bR bS a9 => WL_storeH (fo := 0) (cs' := [iV a6]) aB.p2 aC a9 (Upd.whole (Blt.int)) q il3 q q q q fun bT bb => WL_nil fun a ha => zi <| X <| S1 ha <| Z <| qm q <| qi (qt_add q q) q <| qa q <| WL_nil fun a ha => ?_
   cases ab
   exact ⟨q, ha.s, bb.p3.p1.p3.p3⟩
  cases ab
  exact WP_exit fun a ha => zo (⟨exit_ne, q, ha.s, af.q1.p2.p2.p2⟩)
 rintro _ a bU ⟨rfl, ha, ao⟩
 refine zn <| X <| S1 ha <| rR <| qm q <| O h fun aD aE h => qe ao hS1 aE u24 i3 q fun _ _ be => eI u3 be q <| qf uf52 fi52_1 nz3 q <| WL_store_bx ao.p2 q il3 q q q q q fun bY ap => rN <| qm q <| O h fun aF aG h => qe ap hS2 aG u24 i3 q fun _ _ bg => eI u3 bg q <| qf uf52 fi52_2 nz3 q <| WL_store_bx ap q il3 q q q q q fun b5 aq => rN <| qm q <| O h fun aH aI h => qe aq hS2 aI u24 i3 q fun _ _ bh => eI u3 bh q <| qf uf52 fi52_3 nz3 q <| WL_store_bx aq q il3 q q q q q fun b9 ar => ?_
 refine B <| C <| C <| zk <| qm q <| qi (qt_seql q q) q <| qm q <| O h fun bi ag h => ?_
 refine Go (res := bi) 4 (if_t · ag) (fun aj ca bj => ?_) ?_
 ·exact have ag := if_f aj ag; jA ar.p0 us52 uo52 il52 aj q <| O ag fun cb bk ag => jc aj q c80 ar (fun _ => w_spec_DeedText bk) <| jm aj q <| ji (qt_sneq q q) aj q <| bj 4 q q q ag
 refine Qn ar fun a ha cc au => X <| S1 ha ?_
 refine Yh q h (fun h => ?_) (fun h => ?_)
 ·cases h
  exact rR <| qi (qt_build (args := []) (css := []) (cells := #[iV 0, iV 0, iV 0, iV 0]) q trivial (by kernel_rfl)) q <| zl (cs' := [iV 0, iV 0, iV 0, iV 0]) au.p1 q il52 q q q q q fun cd aJ => qa q <| B <| W fun a ha => have bm := R aJ.p0; m (retct q ha q q (run_loadVar_bx (cs := [iV 0, iV 0, iV 0, iV 0]) us52 uo52 il52 bm) ⟨q, aJ.q0.q0.q0⟩)
 cases h
 exact y <| rR <| eA au.p0 us52 uo52 il52 q <| zl (cs' := [iV ak, iV aD, iV aF, iV aH]) au.p1 q il52 q q q q q fun ce aK => qa q <| B <| W fun a ha => have bp := R aK.p0; retct q ha q q (run_loadVar_bx (cs := [iV ak, iV aD, iV aF, iV aH]) us52 uo52 il52 bp) ⟨q, aK.q0.q0.q0⟩
theorem w_spec_WorkLeft {w G vp0 p0 r} (h : spec_WorkLeftS p0 = some r) (hp0 : Has G ty4 vp0 p0) (H : Ctx w G) : Calls Tryz.prog 55 #[vp0] w fun e w' => e = .returned (iV r) ∧ Holds M0 w w' [] G := by
 refine F0 37 H Tryz.func55 q fun H => ?_
 refine rR <| qa q <| B <| C <| C <| zk <| qm q <| O h fun x1 ao h => qc q c102 H (fun _ => w_spec_KitchenValid ao (hp0)) <| qi (qt_not q) q <| Qn H fun a ha w3 H5 => X <| S1 ha ?_
 refine Yh q h (fun h => ?_) (fun h => ?_)
 ·cases h
  exact rR <| qa q <| B <| W fun a ha => m (ret1 q ha q ⟨q, H5⟩)
 refine y <| rR <| qa q <| B <| C <| rR <| qa q <| B <| g <| O h fun o9 ap h => ?_
 refine fun aC aq => zp (I := fun (s7, s8) a w2 => (Fr a 37 [(0, vp0), (3, iV s7), (4, iV s8)] ∧ Holds M0 w w2 [] G)) (O := fun q0 e a w2 => e = .exit 0 ∧ (Fr a 37 [(3, iV q0)] ∧ Holds M0 w w2 [] G)) ap ?_ ?_ ?_
 ·exact ⟨aq.s, H5⟩
 ·rintro ⟨s7, s8⟩ _ a aD ab ⟨ha, ae⟩
  refine S1 ha <| C <| rR <| qm q <| qm q <| qz ae.ctx (hp0) u89 q <| qi (qt_lss q q) q <| B ?_
  refine Yh q ab (fun ab => ?_) (fun ab => ?_)
  ·refine y <| C <| g <| rR <| qa q <| B <| g <| O ab fun aE ar ab => ?_
   refine fun aF au => zp (I := fun (ag, ah) a w2 => (Fr a 37 [(0, vp0), (3, iV ag), (4, iV s8), (5, iV ah)] ∧ Holds M0 w w2 [] G)) (O := fun q0 e a w2 => e = .exit 2 ∧ (Fr a 37 [(0, vp0), (3, iV q0), (4, iV s8)] ∧ Holds M0 w w2 [] G)) ar ?_ ?_ ?_
   ·exact ⟨au.s, ae⟩
   ·rintro ⟨ag, ah⟩ _ a aG aa ⟨ha, aj⟩
    refine S1 ha <| C <| rR <| qm q <| qm q <| qm q <| O aa fun aH ak aa => qe aj (hp0) ak u89 i36 q fun _ _ av => eV u36 av q fun aL ad => qz ad.ctx hR0 u36 q <| qi (qt_lss q q) q <| B ?_
    refine Yh q aa (fun aa => ?_) (fun aa => ?_)
    ·refine y <| C <| g <| Z <| qm q <| qm q <| qm q <| O aa fun aM al aa => qe ad (hp0.c) al u89 i36 q fun _ _ aw => eV u36 aw q fun aQ af => qm q <| O aa fun aR am aa => qe af hR0 am u36 i123 q fun _ _ ax => qf uf123 fi123_1 nz3 q <| eI u3 ax.s q <| qi (qt_sub q q) q <| qi (qt_max q q) q <| qi (qt_add q q) q <| qa q <| WL_nil fun a ha => zi <| X <| S1 ha <| Z <| qm q <| qi (qt_add q q) q <| qa q <| WL_nil fun a ha => ?_
     cases aa
     exact ⟨q, ha.s, af.q0.q0⟩
    cases aa
    exact WP_exit fun a ha => zo (⟨exit_ne, q, ha.s, ad.q0⟩)
   rintro _ a aV ⟨rfl, ha, aA⟩
   cases ab
   exact zn <| zi <| X <| S1 ha <| Z <| qm q <| qi (qt_add q q) q <| qa q <| WL_nil fun a ha => ⟨q, ha.s, aA⟩
  cases ab
  exact WP_exit fun a ha => zo (⟨exit_ne, q, ha.s, ae⟩)
 rintro _ a aW ⟨rfl, ha, aB⟩
 refine zn <| X <| S1 ha <| rR <| qm q <| qa q <| B <| W fun a ha => ?_
 obtain rfl := L h
 exact ret1 q ha q ⟨q, aB⟩
theorem w_spec_EndDeeds {w G A0 B0 A1 B1 A2 B2 B3 A4 B4 r} (h : spec_EndDeedsS B0 B1 B2 B3 B4 = some r) (C0 : Has G ty12 A0 B0) (C1 : Has G tI A1 B1) (C2 : Has G tI A2 B2) (C4 : Has G ty14 A4 B4) (H : Ctx w G) : Calls Tryz.prog 52 #[.agg #[A0, A1, A2, iV B3, A4]] w fun e w' => ∃ (v1 : Value), e = .returned (v1) ∧ Holds M0 w w' [.sl 52 ty10 v1 r] G := by
 refine F0 34 H Tryz.func52 q fun H => ?_
 refine C <| Z <| WL_box (cs := [A0, A1, A2, iV B3, A4]) H q q q q fun b1 w2 H3 => qa q <| B <| C <| Z <| zs (t := ty10) (args := []) (xs := ([] : List (Int × Int × Int × Int))) H3 (BltL.nil) u44 j52 q q q q q q fun v5 w6 H7 => qa q <| B <| C <| C <| zk <| eA H7.p1 us27 uo27 il27 q <| O h fun aX aq h => qc q c11 H7 (fun _ => w_spec_HouseValid aq (C0.c.c) (C1.c.c) (C2.c.c) (C4.c.c)) <| qi (qt_not q) q <| Qn H7 fun a ha aY ae => X <| S1 ha ?_
 refine Yh q h (fun h => ?_) (fun h => ?_)
 ·cases h
  exact rR <| qm q <| qa q <| B <| W fun a ha => m (ret1 q ha q ⟨v5, q, ae.q1⟩)
 refine y <| C <| rR <| eA ae.p1 us27 uo27 il27 q <| O h fun aZ au h => U1 q c56 (w_spec_l7Tickets au (C0.c.c) (C1.c.c) (C2.c.c) (C4.c.c) ae.ctx) fun a0 a1 av => have aj := ae.cN1 [] av; O h fun a2 aw h => U0 q c55 (w_spec_WorkLeft aw hS0 aj.ctx) fun a3 ax => have ay := aj.cN0 [] ax; qa q <| B <| g <| O h fun a4 az h => ?_
 refine fun a5 aB => zp (I := fun (ak, al) a w2 => ∃ af, Fr a 34 [(1, pB b1), (3, af), (4, iV al)] ∧ Holds M0 w w2 [.bx b1 27 [A0, A1, A2, iV B3, A4], .sl 52 ty10 af ak] G) (O := fun q0 e a w2 => e = .exit 0 ∧ ∃ ad, Fr a 34 [(1, pB b1), (3, ad)] ∧ Holds M0 w w2 [.bx b1 27 [A0, A1, A2, iV B3, A4], .sl 52 ty10 ad q0] G) az ?_ ?_ ?_
 ·exact ⟨v5, aB.s, ay.q0.p1⟩
 ·rintro ⟨ak, al⟩ _ a a6 aa ⟨af, ha, am⟩
  refine S1 ha <| C <| rR <| qm q <| qi (qt_gtr q q) q <| B ?_
  refine Yh q aa (fun aa => ?_) (fun aa => ?_)
  ·refine y <| C <| g <| Z <| qm q <| qi (qt_build (args := [(0, .const (iV 4))]) (css := [#[iV 4]]) (cells := #[iV 4, iV 0, iV 0, iV 0]) q ⟨q, trivial⟩ (by kernel_rfl)) q <| zs (t := ty10) (args := [.tmp 19]) (xs := ([(4, 0, 0, 0)] : List (Int × Int × Int × Int))) am (BltL.cons (Blt.pair (Blt.int) (Blt.pair (Blt.int) (Blt.pair (Blt.int) (Blt.int)))) q (BltL.nil)) u44 j52 q q q q q q fun a7 a8 aC => O aa fun a9 aE aa => zw aC.p2 hS1 aE u44 j52 q q q q q q fun aF ba aG => qa q <| WL_nil fun a ha => zi <| X <| S1 ha <| Z <| qm q <| qi (qt_sub q q) q <| qa q <| WL_nil fun a ha => ?_
   cases aa
   exact ⟨q, aF, ha.s, aG.q1.p1⟩
  cases aa
  exact WP_exit fun a ha => zo (⟨exit_ne, q, af, ha.s, am.p1.p1⟩)
 rintro _ a bb ⟨rfl, aJ, ha, aK⟩
 refine zn <| X <| S1 ha <| C <| rR <| qa q <| B <| g <| O h fun bc aL h => ?_
 refine fun bd aN => zp (I := fun (ao, ap) a w2 => ∃ ag, Fr a 34 [(1, pB b1), (3, ag), (5, iV ap)] ∧ Holds M0 w w2 [.bx b1 27 [A0, A1, A2, iV B3, A4], .sl 52 ty10 ag ao] G) (O := fun q0 e a w2 => e = .exit 2 ∧ ∃ ad, Fr a 34 [(3, ad)] ∧ Holds M0 w w2 [.sl 52 ty10 ad q0] G) aL ?_ ?_ ?_
 ·exact ⟨aJ, aN.s, aK.p1.p1⟩
 ·rintro ⟨ao, ap⟩ _ a be ab ⟨ag, ha, ah⟩
  refine S1 ha <| C <| rR <| qm q <| qf uf27 fi27_4 nz25 q <| ql u25 ah.p0 q <| qz ah.ctx (C4.c.c) u25 q <| qi (qt_lss q q) q <| B ?_
  refine Yh q ab (fun ab => ?_) (fun ab => ?_)
  ·refine y <| C <| g <| Z <| qm q <| qi (qt_build (args := [(0, .const (iV 5))]) (css := [#[iV 5]]) (cells := #[iV 5, iV 0, iV 0, iV 0]) q ⟨q, trivial⟩ (by kernel_rfl)) q <| zs (t := ty10) (args := [.tmp 30]) (xs := ([(5, 0, 0, 0)] : List (Int × Int × Int × Int))) ah (BltL.cons (Blt.pair (Blt.int) (Blt.pair (Blt.int) (Blt.pair (Blt.int) (Blt.int)))) q (BltL.nil)) u44 j52 q q q q q q fun bf bg aO => O ab fun bh aQ ab => zw aO.p2 hS1 aQ u44 j52 q q q q q q fun aR bi aS => qa q <| WL_nil fun a ha => zi <| X <| S1 ha <| Z <| qm q <| qi (qt_add q q) q <| qa q <| WL_nil fun a ha => ?_
   cases ab
   exact ⟨q, aR, ha.s, aS.q1.p1⟩
  cases ab
  exact WP_exit fun a ha => zo (⟨exit_ne, q, ag, ha.s, ah.q0⟩)
 rintro _ a bj ⟨rfl, aV, ha, aW⟩
 refine zn <| X <| S1 ha <| rR <| qm q <| qa q <| B <| W fun a ha => ?_
 obtain rfl := L h
 exact ret1 q ha q ⟨aV, q, aW⟩
theorem w_spec_HouseRun {w G A0 B0 A1 B1 A2 B2 B3 A4 B4 vp1 p1 r} (h : spec_HouseRunS B0 B1 B2 B3 B4 p1 = some r) (C0 : Has G ty12 A0 B0) (C1 : Has G tI A1 B1) (C2 : Has G tI A2 B2) (C4 : Has G ty14 A4 B4) (hp1 : Has G ty10 vp1 p1) (H : Ctx w G) : Calls Tryz.prog 51 #[.agg #[A0, A1, A2, iV B3, A4], vp1] w fun e w' => ∃ (v1 : Value) (v2 : Value) (v3 : Value) (v4 : Value), e = .returned (.tuple #[.agg #[v1, v2, v3, iV r.1.2.2.2.1, v4], iV r.2]) ∧ Holds M0 w w' [.sl 70 ty12 v1 r.1.1, .sl 3 tI v2 r.1.2.1, .sl 3 tI v3 r.1.2.2.1, .sl 38 ty14 v4 r.1.2.2.2.2] G := by
 refine F0 38 H Tryz.func51 q fun H => ?_
 refine C <| Z <| WL_box (cs := [A0, A1, A2, iV B3, A4]) H q q q q fun b1 w2 H3 => zq (cs := [nS, nS, nS, iV 0, nS]) H3 z27 q q q fun b5 w6 H7 => qa q <| B <| C <| C <| zk <| eA H7.p1 us27 uo27 il27 q <| O h fun bF a5 h => qc q c11 H7 (fun _ => w_spec_HouseValid a5 (C0.c.c) (C1.c.c) (C2.c.c) (C4.c.c)) <| qi (qt_not q) q <| Qn H7 fun a ha bG ay => X <| S1 ha ?_
 refine Yh q h (fun h => ?_) (fun h => ?_)
 ·cases h
  exact rR <| qi (qt_build (args := []) (css := []) (cells := #[nS, nS, nS, iV 0, nS]) q trivial (by kernel_rfl)) q <| zl (cs' := [nS, nS, nS, iV 0, nS]) ay q il27 q q q q q fun bH aR => qa q <| B <| W fun a ha => have a6 := R aR.p0; have a7 := aR.nS 70 ty12; have a8 := a7.nS 3 tI; have a9 := a8.nS 3 tI; have ba := a9.nS 38 ty14; m (retct q ha q q (run_loadVar_bx (cs := [nS, nS, nS, iV 0, nS]) us27 uo27 il27 a6) ⟨(nS), (nS), (nS), (nS), q, ba.q4.q4.p1.p2.p3⟩)
 refine y <| rR <| eA ay.p1 us27 uo27 il27 q <| O h fun bc bd h => U4 q c33 (w_spec_l7Copy bd (C0.c.c) (C1.c.c) (C2.c.c) (C4.c.c) ay.ctx) fun aS aT aU aV bI be => have bf := ay.cN4 [] be; zq (cs := [nS, nS, nS, iV 0, nS]) bf z27 q q q fun ah bJ al => zl (cs' := [aS, aT, aU, iV bc.2.2.2.1, aV]) al q il27 q (T (al.ctx.sliceOne hS1) (T (al.ctx.sliceOne hS2) (T (al.ctx.sliceOne hS3) (T q (T (al.ctx.sliceOne hS4) q))))) q q q fun bK bg => rN <| qa q <| B <| C <| rR <| qa q <| B <| g <| O h fun bh bi h => ?_
 refine fun bL bk => zp (I := fun (aF, aG, am, ao, ap, aj, aq) a w2 => ∃ aa ab ad ae, Fr a 38 [(1, vp1), (4, pB b5), (6, pB ah), (7, iV aF), (8, iV aG)] ∧ Holds M0 w w2 [.bx b5 27 [nS, nS, nS, iV 0, nS], .bx ah 27 [aa, ab, ad, iV aj, ae], .sl 70 ty12 aa am, .sl 3 tI ab ao, .sl 3 tI ad ap, .sl 38 ty14 ae aq] G) (O := fun (q0, q1, q2, q3, q4, q5) e a w2 => e = .exit 0 ∧ ∃ aW aX aY aZ, Fr a 38 [(4, pB b5), (6, pB ah), (7, iV q0)] ∧ Holds M0 w w2 [.bx b5 27 [nS, nS, nS, iV 0, nS], .bx ah 27 [aW, aX, aY, iV q4, aZ], .sl 70 ty12 aW q1, .sl 3 tI aX q2, .sl 3 tI aY q3, .sl 38 ty14 aZ q5] G) bi ?_ ?_ ?_
 ·exact ⟨aS, aT, aU, aV, bk.s, bg.q6.p4.p4.p4.p4.p4.p5⟩
 ·rintro ⟨aF, aG, am, ao, ap, aj, aq⟩ _ a bM af ⟨aa, ab, ad, ae, ha, aH⟩
  refine S1 ha <| C <| rR <| qm q <| qm q <| qz aH.ctx (hp1.c.c.c.c.c.c) u44 q <| qi (qt_lss q q) q <| B ?_
  refine Yh q af (fun af => ?_) (fun af => ?_)
  ·refine y <| C <| g <| C <| O af fun az aA af => O af fun ag a0 af => ?_
   refine WP_join (M := fun a w2 => ∃ aI ar au av aw, Fr a 38 [(1, vp1), (4, pB b5), (6, pB ah), (7, iV aF), (8, iV aG), (9, pB aI), (10, .bool ag.2)] ∧ Holds M0 w w2 [.bx b5 27 [nS, nS, nS, iV 0, nS], .bx ah 27 [aa, ab, ad, iV aj, ae], .sl 70 ty12 aa am, .sl 3 tI ab ao, .sl 3 tI ad ap, .sl 38 ty14 ae aq, .bx aI 27 [ar, au, av, iV ag.1.2.2.2.1, aw], .sl 70 ty12 ar ag.1.1, .sl 3 tI au ag.1.2.1, .sl 3 tI av ag.1.2.2.1, .sl 38 ty14 aw ag.1.2.2.2.2] G) ?_ ?_
   ·refine WP_ordersT (fun w1 w2 => Chg M0 w1 w2) 11 (by kernel_rfl) fun aJ bl => have a1 := aH.grow bl; ?_
    have aK : Ctx aJ ([] ++ ([.bx b5 27 [nS, nS, nS, iV 0, nS], .bx ah 27 [aa, ab, ad, iV aj, ae], .sl 70 ty12 aa am, .sl 3 tI ab ao, .sl 3 tI ad ap, .sl 38 ty14 ae aq] ++ G)) := a1.ctx
    have bm : Holds _ aJ aJ [] ([.bx b5 27 [nS, nS, nS, iV 0, nS], .bx ah 27 [aa, ab, ad, iV aj, ae], .sl 70 ty12 aa am, .sl 3 tI ab ao, .sl 3 tI ad ap, .sl 38 ty14 ae aq] ++ G) := zb (Rs := []) aK
    refine have Hc := bm; have bn := HasB.bx (HasB.c (HasB.hd)) Hc.ctx; XT (i := 0) q (by kernel_rfl) q Hc.chg q (qs_agg (cs := [aa, ab, ad, iV aj, ae]) us27 uo27 il27 q (fun j z hj => by rw [Nat.zero_add]; exact bn.cell hj) Hc.chg (Ctx.outB aK (HasB.c (HasB.hd)))) q q ?_
    change XC _ _ _ _ _ _ _ _ ((24, .agg #[aa, ab, ad, iV aj, ae]) :: _) _
    refine XQ (i := 1) q (by kernel_rfl) q Hc.chg q (fun _ => qt_move q) q q <| XQ (i := 2) q (by kernel_rfl) q Hc.chg q (fun _ => qt_move q) q q ?_
    obtain ⟨bN, bO, bP, aL⟩ := Ctx.isAt Hc.ctx (hp1.c.c.c.c.c.c) aA
    refine XT (i := 3) q (by kernel_rfl) q Hc.chg q (qs_index aA aL u44 i52 q q) q q ?_
    obtain ⟨bQ, bo, bR⟩ := Hc.atN (hp1.c.c.c.c.c.c) aA aL
    obtain ⟨bS, a2, bp⟩ := bo
    refine XT (i := 4) q (by kernel_rfl) q Hc.chg q (qs_agg us52 uo52 (i52.trans (congrArg some (Rep.length (t := ty10) a2).symm)) q bp Hc.chg (Ctx.outHas aK (hp1.c.c.c.c.c.c) aA aL)) q q ?_
    obtain ⟨bT, bU, bV, bW, rfl, bX, bq, br⟩ := a2
    obtain ⟨rfl, _⟩ := bq
    obtain ⟨bY, bZ, b0, b4, rfl, b6, bs, bt⟩ := br
    obtain ⟨rfl, _⟩ := bs
    obtain ⟨b7, b8, b9, ca, rfl, cb, bu, bv⟩ := bt
    obtain ⟨rfl, _⟩ := bu
    obtain ⟨rfl, _⟩ := bv
    change XC _ _ _ _ _ _ _ _ ((28, .agg #[iV az.1, iV az.2.1, iV az.2.2.1, iV az.2.2.2]) :: _) _
    repeat' first
     | refine XDo 5 q <| U4 q c50 (w_spec_HouseDo a0 hS2 hS3 hS4 hS5 Hc.ctx) fun aB aC aD aE _ HK => ?_; have Hc := Hc.cN4 [] HK; refine XN Hc.chg <| XQ (i := 6) q (by kernel_rfl) q Hc.chg q (fun _ => qt_move q) q q <| XQ (i := 7) q (by kernel_rfl) q Hc.chg q (fun _ => zv q q) q q <| XQ (i := 8) q (by kernel_rfl) q Hc.chg q (fun _ => zv q q) q q ?_
     | refine XDo 5 q <| U4 q c50 (w_spec_HouseDo a0 hS3 hS4 hS5 hS6 Hc.ctx) fun aB aC aD aE _ HK => ?_; have Hc := Hc.cN4 [] HK; refine XN Hc.chg <| XQ (i := 6) q (by kernel_rfl) q Hc.chg q (fun _ => qt_move q) q q <| XQ (i := 7) q (by kernel_rfl) q Hc.chg q (fun _ => zv q q) q q <| XQ (i := 8) q (by kernel_rfl) q Hc.chg q (fun _ => zv q q) q q ?_
     | refine XDo 9 q ?_; refine zq (cs := [nS, nS, nS, iV 0, nS]) Hc z27 q q q (fun bw _ Hc => ?_); refine XN Hc.chg ?_
     | refine XDo 10 q ?_; refine zl (cs' := [aB, aC, aD, iV ag.1.2.2.2.1, aE]) Hc q il27 q (T (Hc.ctx.sliceOne hS1) (T (Hc.ctx.sliceOne hS2) (T (Hc.ctx.sliceOne hS3) (T q (T (Hc.ctx.sliceOne hS4) q))))) q q q (fun _ Hc => ?_); refine XN Hc.chg ?_
     | refine XDo 10 q ?_; have Hc := Hc.p4; refine zl (cs' := [aB, aC, aD, iV ag.1.2.2.2.1, aE]) Hc q il27 q (T (Hc.ctx.sliceOne hS1) (T (Hc.ctx.sliceOne hS2) (T (Hc.ctx.sliceOne hS3) (T q (T (Hc.ctx.sliceOne hS4) q))))) q q q (fun _ Hc => ?_); refine XN Hc.chg ?_
     | have Hc := a1.cN5 [] Hc; refine XDo 11 q <| qa q <| XE q ?_
     | refine XV [5, 9] (by decide +kernel) q (allc ?_ (allc ?_ alln))
     | refine XV [9] (by decide +kernel) q (allc ?_ alln)
     | refine XV [10] (by decide +kernel) q (allc ?_ alln)
     | refine XV [11] (by decide +kernel) q (allc ?_ alln)
     | refine XV [5] (by decide +kernel) q (allc ?_ alln)
     | refine XC_done (by decide +kernel) (fun a ha => ?_); have Hc := (((((((((((Hc.p4).p4).p4).p4).p4).p10).p10).p10).p10).p10).p10); exact ⟨bw, aB, aC, aD, aE, ha.s, Hc⟩
   rintro a cc ⟨aI, ar, au, av, aw, ha, aM⟩
   refine S1 ha <| rR <| qm q <| B ?_
   refine Yh q af (fun af => ?_) (fun af => ?_)
   ·cases af
    exact rR <| eA aM.p6 us27 uo27 il27 q <| have ax := aM.p1; zl (cs' := [ar, au, av, iV ag.1.2.2.2.1, aw]) ax q il27 q (T (ax.ctx.sliceOne hS7) (T (ax.ctx.sliceOne hS8) (T (ax.ctx.sliceOne hS9) (T q (T (ax.ctx.sliceOne hS10) q))))) q q q fun cd bz => B <| Z <| qm q <| qi (qt_add q q) q <| qa q <| WL_nil fun a ha => zi <| X <| S1 ha <| Z <| qm q <| qi (qt_add q q) q <| qa q <| WL_nil fun a ha => ⟨q, ar, au, av, aw, ha.s, bz.q2.q2.q2.q2.q2.p5.p5.p5.p5.p4.p5⟩
   cases af
   exact WP_skip fun a ha => zi <| X <| S1 ha <| Z <| qm q <| qi (qt_add q q) q <| qa q <| WL_nil fun a ha => ⟨q, aa, ab, ad, ae, ha.s, aM.q6.q6.q6.q6.q6.p5.p5.p5.p5.p5.p5⟩
  cases af
  exact WP_exit fun a ha => zo (⟨exit_ne, q, aa, ab, ad, ae, ha.s, aH.p5.p5.p5.p5.p5.p5⟩)
 obtain ⟨ce, cf, cg, ch, a3, ci⟩ := bh
 rintro _ a cj ⟨rfl, aN, aO, aP, aQ, ha, ak⟩
 cases h
 exact zn <| X <| S1 ha <| rR <| eA ak.p1 us27 uo27 il27 q <| qm q <| zl (cs' := [aN, aO, aP, iV a3, aQ]) ak q il27 q (T (ak.ctx.sliceOne hS2) (T (ak.ctx.sliceOne hS3) (T (ak.ctx.sliceOne hS4) (T q (T (ak.ctx.sliceOne hS5) q))))) q q q fun ck a4 => qa q <| B <| W fun a ha => have bD := R a4.p0; retct q ha q q (run_loadVar_bx (cs := [aN, aO, aP, iV a3, aQ]) us27 uo27 il27 bD) ⟨aN, aO, aP, aQ, q, a4.q0.q0.p3.p3.p3.p3⟩
theorem w_spec_l7List {w G vp0 p0 r} (h : spec_l7ListS p0 = some r) (hp0 : Has G tI vp0 p0) (H : Ctx w G) : Calls Tryz.prog 53 #[vp0] w fun e w' => e = .returned (strV r) ∧ Holds M0 w w' [] G := by
 refine F0 27 H Tryz.func53 q fun H => ?_
 refine rR <| qa q <| B <| C <| rR <| qm q <| qz H.ctx (hp0) u24 q <| qi (qt_eql q q) q <| B ?_
 refine Yh q h (fun h => ?_) (fun h => ?_)
 ·cases h
  exact rR <| qa q <| B <| W fun a ha => m (ret1 q ha q ⟨q, H⟩)
 refine y <| C <| zk <| qm q <| O h fun x1 ad h => qe H (hp0) ad u24 i3 q fun _ _ ah => eI u3 ah q <| O h fun x7 aj h => QC q q c54 (fun w' hb => w_spec_l1Number w' G x1 x7 aj (H.grow hb).ctx) (by rfl) <| qa q <| Qn H fun a ha w9 ak => X <| S1 ha <| C <| rR <| qa q <| B <| g <| O h fun aA al h => ?_
 refine fun aB am => zp (I := fun (ae, af) a w2 => (Fr a 27 [(0, vp0), (3, strV ae), (4, iV af)] ∧ Holds M0 w w2 [] G)) (O := fun q0 e a w2 => e = .exit 0 ∧ (Fr a 27 [(3, strV q0)] ∧ Holds M0 w w2 [] G)) al ?_ ?_ ?_
 ·exact ⟨am.s, ak⟩
 ·rintro ⟨ae, af⟩ _ a aC aa ⟨ha, ab⟩
  refine S1 ha <| C <| rR <| qm q <| qm q <| qz ab.ctx (hp0) u24 q <| qi (qt_lss q q) q <| B ?_
  refine Yh q aa (fun aa => ?_) (fun aa => ?_)
  ·refine y <| C <| g <| zk <| qm q <| O aa fun aD ao aa => qi (qt_sadd q q ao) q <| qm q <| qm q <| O aa fun ap ag aa => qe ab (hp0) ag u24 i3 q fun _ _ aq => eI u3 aq q <| O aa fun ar au aa => QC q q c54 (fun w' hb => w_spec_l1Number w' G ap ar au (ab.grow hb).ctx) (by rfl) <| O aa fun aH av aa => qi (qt_sadd q q av) q <| qa q <| Qn ab fun a ha aI aw => zi <| X <| S1 ha <| Z <| qm q <| qi (qt_add q q) q <| qa q <| WL_nil fun a ha => ?_
   cases aa
   exact ⟨q, ha.s, aw⟩
  cases aa
  exact WP_exit fun a ha => zo (⟨exit_ne, q, ha.s, ab⟩)
 rintro _ a aJ ⟨rfl, ha, ax⟩
 refine zn <| X <| S1 ha <| rR <| qm q <| qa q <| B <| W fun a ha => ?_
 obtain rfl := L h
 exact ret1 q ha q ⟨q, ax⟩
end Go.Proofs.YtkhnponakhabdaaGreatDoor
