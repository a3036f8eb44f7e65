/- The walks: each Go function computes its shallow function. Printed by a program. -/
import Derived.Test.YtpklpghbkhegnaaGreatDoorWX7L7
set_option linter.unusedVariables false
set_option maxRecDepth 10000
set_option maxHeartbeats 8000000
namespace Go.Proofs.YtpklpghbkhegnaaGreatDoor
open Go Go.RowKit
theorem w_laws_FnExactHouseLine (w : World) (G : List Res) (hGl : Glob G) (hGm : GlobM G) (hGp : GlobP G) (A0 : Value) (B0 : LI) (C0 : Has G ty12 A0 B0) (A1 : Value) (B1 : List Int) (C1 : Has G tI A1 B1) (A2 : Value) (B2 : List Int) (C2 : Has G tI A2 B2) (B3 : Int) (A4 : Value) (B4 : LT) (C4 : Has G ty14 A4 B4) (p1 : List UInt8) (r : Bool) (h : laws_FnExactHouseLineS B0 B1 B2 B3 B4 p1 = some r) (H : Ctx w G) : Calls Tryz.prog 3 #[.agg #[A0, A1, A2, iV B3, A4], strV p1] w fun e w' => e = .returned (.bool r) ∧ Holds M0 w w' [] G := by
 refine F0 104 H Tryz.func3 q fun H => ?_
 refine C <| Z <| WL_box (cs := [A0, A1, A2, iV B3, A4]) H q q q q fun b1 w2 H3 => qa q <| B <| C <| rR <| qm q <| qi (qt_slen u9 q) q <| qi (qt_gtr q q) q <| B ?_
 refine Yh q h (fun h => ?_) (fun h => ?_)
 ·cases h
  exact rR <| qa q <| B <| W fun a ha => m (ret1 q ha q ⟨q, H3.q0⟩)
 refine y <| rR <| qa q <| B <| C <| zk <| eA H3.p0 us26 uo26 il26 q <| qm q <| O h fun x7 be h => qc q c5 H3 (fun _ => w_laws_szHouse be (C0.c) (C1.c) (C2.c) (C4.c)) <| qa q <| Qn H3 fun a ha w9 aA => X <| S1 ha <| C <| rR <| qm q <| qi (qt_lss q q) q <| B ?_
 refine Yh q h (fun h => ?_) (fun h => ?_)
 ·cases h
  exact rR <| qa q <| B <| W fun a ha => m (ret1 q ha q ⟨q, aA.q0⟩)
 refine y <| rR <| eA aA.p0 us26 uo26 il26 q <| O h fun ae bg h => zd q q c7 (w_laws_toHouse bg (C0.c) (C1.c) (C2.c) (C4.c) aA.ctx) q ?_
 rintro _ a2 ⟨aB, cD, cE, aC, aD, aE, bh, bi, rfl, bj⟩; refine ⟨_, q, ?_⟩
 refine have bk := aA.cN4 [] bj; qm q ?_
 have bl : Holds _ w a2 [.ro ty12 aB ae.1, .sl 3 tI aC ae.2.1, .sl 3 tI aD ae.2.2.1, dpR 89 dt16 aE bh ae.2.2.2.2 bi, .bx b1 26 [A0, A1, A2, iV B3, A4]] G := bk.freezeD
 have a3 : Holds _ w a2 [.ro ty14 aE ae.2.2.2.2, .ro ty12 aB ae.1, .sl 3 tI aC ae.2.1, .sl 3 tI aD ae.2.2.1, .bx b1 26 [A0, A1, A2, iV B3, A4]] G := bl.p3.freezeD
 refine O h fun aa bn h => U4 q c6 (w_spec_HouseLine bn hR1 hS2 hS3 hR0 a3.ctx) fun al am ao ap cF bo => have bp := a3.cN4 [] bo; qm q <| qi (zv q q) q <| qi (zv q q) q <| zq (cs := [nS, nS, nS, iV 0, nS]) bp z31 q q q fun aF cG ax => zl (cs' := [al, am, ao, iV aa.1.2.2.2.1, ap]) ax q il31 q (T (ax.ctx.sliceOne hS1) (T (ax.ctx.sliceOne hS2) (T (ax.ctx.sliceOne hS3) (T q (T (ax.ctx.sliceOne hS4) q))))) q q q fun cH aS => qa q <| rN <| eA aS.p9 us26 uo26 il26 q <| O h fun ad bq h => zd q q c7 (w_laws_toHouse bq (C0.c.c.c.c.c.c.c.c.c.c) (C1.c.c.c.c.c.c.c.c.c.c) (C2.c.c.c.c.c.c.c.c.c.c) (C4.c.c.c.c.c.c.c.c.c.c) aS.ctx) q ?_
 rintro _ cI ⟨af, br, bs, ag, ah, aj, bt, bu, rfl, bv⟩; refine ⟨_, q, ?_⟩
 refine have bw := aS.cN4 [] bv; zq (cs := [nS, nS, nS, iV 0, nS]) bw z31 q q q fun aG cJ a4 => have aH := a4.viewG (Vw.c (Vw.d (Vw.c (Vw.c (Vw.d (Vw.c (Vw.c (Vw.c (Vw.c (Vw.c (Vw.c (Vw.c (Vw.c (Vw.c (Vw.c Vw.refl))))))))))))))); zl (cs' := [af, ag, ah, iV ad.2.2.2.1, aj]) a4 q il31 q (T (aH.sliceOne hR1) (T (aH.sliceOne hS2) (T (aH.sliceOne hS3) (T q (T (aH.sliceOne hR4) q))))) q q q fun cK aT => rN <| eA aT.p0 us31 uo31 il31 q <| qm q <| O h fun ab bz h => have bA := aT.viewG (Vw.c (Vw.d (Vw.c (Vw.c (Vw.d (Vw.c (Vw.c (Vw.c (Vw.c (Vw.c (Vw.c (Vw.c (Vw.c (Vw.c (Vw.c Vw.refl))))))))))))))); zd q q c8 (w_impl_HouseLine bz hGl.c.c.c.c.c.c.c.c.c.c.c.c.c.c.c hGm.c.c.c.c.c.c.c.c.c.c.c.c.c.c.c hGp.c.c.c.c.c.c.c.c.c.c.c.c.c.c.c hR1 hS2 hS3 hR4 bA) q ?_
 rintro _ cL ⟨aq, bB, bC, ar, au, av, bD, bE, rfl, bF⟩; refine ⟨_, q, ?_⟩
 refine have bG := aT.cV4 [] bF (zc Pure.dp (zc (Pure.sl q) (zc (Pure.sl q) (zc Pure.dp all_nil)))); qm q <| qi (zv q q) q <| qi (zv q q) q <| zq (cs := [nS, nS, nS, iV 0, nS]) bG z31 q q q fun aI cM a5 => have aJ := a5.viewG (Vw.c (Vw.d (Vw.c (Vw.c (Vw.d (Vw.c (Vw.d (Vw.c (Vw.c (Vw.d (Vw.c (Vw.c (Vw.c (Vw.c (Vw.c (Vw.c (Vw.c (Vw.c (Vw.c (Vw.c Vw.refl)))))))))))))))))))); zl (cs' := [aq, ar, au, iV ab.1.2.2.2.1, av]) a5 q il31 q (T (aJ.sliceOne hR1) (T (aJ.sliceOne hS2) (T (aJ.sliceOne hS3) (T q (T (aJ.sliceOne hR4) q))))) q q q fun cN aK => qa q <| B <| C <| C <| zk <| eA aK.p0 us31 uo31 il31 q <| eA aK.p10 us31 uo31 il31 q <| O h fun bH bI h => QC q q c9 (fun w' hb => w_laws_eqHouse bI hR1 hS2 hS3 hR4 hS11 hS12 hS13 hS14 ((aK.grow hb).viewG (Vw.c (Vw.d (Vw.c (Vw.c (Vw.d (Vw.c (Vw.d (Vw.c (Vw.c (Vw.d (Vw.c (Vw.c (Vw.c (Vw.c (Vw.c (Vw.c (Vw.c (Vw.c (Vw.c (Vw.c Vw.refl)))))))))))))))))))))) (by rfl) <| qi (qt_not q) q ?_
 refine qm q ?_
 refine Go (res := ((!bH) || (ab.2 != aa.2))) 3 os (fun aL cO bJ => ?_) ?_
 ·exact jm aL q <| jm aL q <| ji (qt_sneq q q) aL q <| bJ 3 q q q (oi aL)
 refine Qn aK fun a ha cP a6 => X <| S1 ha ?_
 refine Yh q h (fun h => ?_) (fun h => ?_)
 ·cases h
  exact rR <| qa q <| B <| W fun a ha => m (ret1 q ha q ⟨q, a6.q0.q0.q0.q0.q0.q0.q0.q0.q0.q0.q0.q0.q0.q0.q0.q0.q0.q0.q0.q0⟩)
 refine y <| C <| C <| O h fun cQ bL h => O h fun bM bN h => ?_
 refine WP_join (M := fun a w2 => (Fr a 104 [(1, strV p1), (2, pB b1), (6, pB aF), (7, strV aa.2), (8, pB aG), (9, pB aI), (10, strV ab.2), (52, .bool (!bM))] ∧ Holds M0 w w2 [.bx b1 26 [A0, A1, A2, iV B3, A4], .bx aF 31 [al, am, ao, iV aa.1.2.2.2.1, ap], .sl 95 ty12 al aa.1.1, .sl 3 tI am aa.1.2.1, .sl 3 tI ao aa.1.2.2.1, .sl 89 ty14 ap aa.1.2.2.2.2, .bx aG 31 [af, ag, ah, iV ad.2.2.2.1, aj], dpR 95 dt15 af br ad.1 bs, .sl 3 tI ag ad.2.1, .sl 3 tI ah ad.2.2.1, dpR 89 dt16 aj bt ad.2.2.2.2 bu, .bx aI 31 [aq, ar, au, iV ab.1.2.2.2.1, av], dpR 95 dt15 aq bB ab.1.1 bC, .sl 3 tI ar ab.1.2.1, .sl 3 tI au ab.1.2.2.1, dpR 89 dt16 av bD ab.1.2.2.2.2 bE] G)) ?_ ?_
 ·refine WP_ordersT (fun w1 w2 => Chg M0 w1 w2) 5 (by kernel_rfl) fun aU bO => have a7 := a6.grow bO; ?_
  have aV : Ctx aU ([] ++ ([.bx aI 31 [aq, ar, au, iV ab.1.2.2.2.1, av], .ro ty12 aq ab.1.1, .sl 3 tI ar ab.1.2.1, .sl 3 tI au ab.1.2.2.1, .ro ty14 av ab.1.2.2.2.2, .bx aG 31 [af, ag, ah, iV ad.2.2.2.1, aj], .ro ty12 af ad.1, .sl 3 tI ag ad.2.1, .sl 3 tI ah ad.2.2.1, .ro ty14 aj ad.2.2.2.2, .bx aF 31 [al, am, ao, iV aa.1.2.2.2.1, ap], .sl 95 ty12 al aa.1.1, .sl 3 tI am aa.1.2.1, .sl 3 tI ao aa.1.2.2.1, .sl 89 ty14 ap aa.1.2.2.2.2, .ro ty14 aE ae.2.2.2.2, .ro ty12 aB ae.1, .sl 3 tI aC ae.2.1, .sl 3 tI aD ae.2.2.1, .bx b1 26 [A0, A1, A2, iV B3, A4]] ++ G)) := a7.viewG (Vw.c (Vw.d (Vw.c (Vw.c (Vw.d (Vw.c (Vw.d (Vw.c (Vw.c (Vw.d (Vw.c (Vw.c (Vw.c (Vw.c (Vw.c (Vw.c (Vw.c (Vw.c (Vw.c (Vw.c Vw.refl))))))))))))))))))))
  have ak : Holds _ aU aU [] ([.bx aI 31 [aq, ar, au, iV ab.1.2.2.2.1, av], .ro ty12 aq ab.1.1, .sl 3 tI ar ab.1.2.1, .sl 3 tI au ab.1.2.2.1, .ro ty14 av ab.1.2.2.2.2, .bx aG 31 [af, ag, ah, iV ad.2.2.2.1, aj], .ro ty12 af ad.1, .sl 3 tI ag ad.2.1, .sl 3 tI ah ad.2.2.1, .ro ty14 aj ad.2.2.2.2, .bx aF 31 [al, am, ao, iV aa.1.2.2.2.1, ap], .sl 95 ty12 al aa.1.1, .sl 3 tI am aa.1.2.1, .sl 3 tI ao aa.1.2.2.1, .sl 89 ty14 ap aa.1.2.2.2.2, .ro ty14 aE ae.2.2.2.2, .ro ty12 aB ae.1, .sl 3 tI aC ae.2.1, .sl 3 tI aD ae.2.2.1, .bx b1 26 [A0, A1, A2, iV B3, A4]] ++ G) := zb (Rs := []) aV
  refine have bP := HasB.bx (HasB.c (HasB.c (HasB.c (HasB.c (HasB.c (HasB.hd)))))) ak.ctx; XT (i := 0) q (by kernel_rfl) q ak.chg q (qs_agg (cs := [af, ag, ah, iV ad.2.2.2.1, aj]) us31 uo31 il31 q (fun j z hj => by rw [Nat.zero_add]; exact bP.cell hj) ak.chg (Ctx.outB aV (HasB.c (HasB.c (HasB.c (HasB.c (HasB.c (HasB.hd)))))))) q q ?_
  change XC _ _ _ _ _ _ _ _ ((48, .agg #[af, ag, ah, iV ad.2.2.2.1, aj]) :: _) _
  refine have bQ := HasB.bx (HasB.c (HasB.c (HasB.c (HasB.c (HasB.c (HasB.c (HasB.c (HasB.c (HasB.c (HasB.c (HasB.c (HasB.c (HasB.c (HasB.c (HasB.c (HasB.c (HasB.c (HasB.c (HasB.c (HasB.hd)))))))))))))))))))) ak.ctx; XT (i := 1) q (by kernel_rfl) q ak.chg q (qs_agg (cs := [A0, A1, A2, iV B3, A4]) us26 uo26 il26 q (fun j z hj => by rw [Nat.zero_add]; exact bQ.cell hj) ak.chg (Ctx.outB aV (HasB.c (HasB.c (HasB.c (HasB.c (HasB.c (HasB.c (HasB.c (HasB.c (HasB.c (HasB.c (HasB.c (HasB.c (HasB.c (HasB.c (HasB.c (HasB.c (HasB.c (HasB.c (HasB.c (HasB.hd)))))))))))))))))))))) q q ?_
  change XC _ _ _ _ _ _ _ _ ((49, .agg #[A0, A1, A2, iV B3, A4]) :: _) _
  refine X1 2 (by kernel_rfl) q <| zd q q c7 (w_laws_toHouse bL (C0.c.c.c.c.c.c.c.c.c.c.c.c.c.c.c.c.c.c.c.c) (C1.c.c.c.c.c.c.c.c.c.c.c.c.c.c.c.c.c.c.c.c) (C2.c.c.c.c.c.c.c.c.c.c.c.c.c.c.c.c.c.c.c.c) (C4.c.c.c.c.c.c.c.c.c.c.c.c.c.c.c.c.c.c.c.c) ak.ctx) q ?_
  rintro _ cR ⟨cS, cT, cU, cV, cW, cX, cY, cZ, rfl, bR⟩; refine ⟨_, q, ?_⟩
  exact have aW := ak.cN4 [] bR; XN aW.chg <| X1 3 (by kernel_rfl) q <| have bS := aW.viewG (Vw.d (Vw.c (Vw.c (Vw.d Vw.refl)))); U0 q c9 (w_laws_eqHouse bN hR10 hS11 hS12 hR13 hR0 hS1 hS2 hR3 bS) fun c0 bT => have aX := aW.cV0 [] bT all_nil; XN aX.chg <| XQ (i := 4) q (by kernel_rfl) q aX.chg q (fun _ => qt_not q) q q <| have bU := a7.cV4 [] aX (zc Pure.dp (zc (Pure.sl q) (zc (Pure.sl q) (zc Pure.dp all_nil)))); XC_done (by kernel_rfl) fun a ha => ⟨ha.s, bU.q0.q0.q0.q0.q15.q15.q15.q15.p4.p4.p4.p4.p4.p9.p9.p9.p9.p9.p14.p14.p14.p14.p14.p15⟩
 rintro a c1 ⟨ha, aY⟩
 refine S1 ha ?_
 refine Yh q h (fun h => ?_) (fun h => ?_)
 ·cases h
  exact rR <| qa q <| B <| W fun a ha => m (ret1 q ha q ⟨q, aY.q0.q0.q0.q0.q0.q0.q0.q0.q0.q0.q0.q0.q0.q0.q0.q0⟩)
 refine y <| rR <| qa q <| rN <| eA aY.p6 us31 uo31 il31 q <| qm q <| have a8 := aY.p10.p10.p10.p10; O h fun c2 b0 h => have b4 := a8.viewG (Vw.c (Vw.c (Vw.c (Vw.c (Vw.c (Vw.c (Vw.c (Vw.c (Vw.c (Vw.c (Vw.c (Vw.c (Vw.d (Vw.c (Vw.c (Vw.d Vw.refl)))))))))))))))); U4 q c10 (w_laws_markHouse b0 b4) fun c3 c4 da db dc b5 => have aM := a8.cV4 [_, _, _, _] b5 (zc Pure.dp (zc (Pure.sl q) (zc (Pure.sl q) (zc Pure.dp all_nil)))); qa q <| B <| C <| C <| zk <| qm q <| qi (qt_lss q q) q <| qm q <| O h fun a9 aw h => ?_
 refine Go (res := a9) 4 (if_t · aw) (fun ay dd b6 => ?_) ?_
 ·exact have aw := if_f ay aw; jA aM.p11 us31 uo31 il31 ay q <| jA aM.p5 us31 uo31 il31 ay q <| O aw fun de b7 aw => QC (J q ay) q c9 (fun w' hb => w_laws_eqHouse b7 hR12 hS13 hS14 hR15 hS6 hS7 hS8 hS9 ((aM.grow hb).viewG (Vw.d (Vw.c (Vw.c (Vw.d (Vw.c (Vw.c (Vw.c (Vw.c (Vw.c (Vw.c (Vw.c (Vw.c (Vw.d (Vw.c (Vw.c (Vw.d Vw.refl)))))))))))))))))) (by rfl) <| ji (qt_not q) ay q <| b6 4 q q q aw
 refine qm q ?_
 refine Go (res := (a9 || (ab.2 != aa.2))) 3 os (fun aN df b8 => ?_) ?_
 ·exact jm aN q <| jm aN q <| ji (qt_sneq q q) aN q <| b8 3 q q q (oi aN)
 refine Qn aM fun a ha dg aZ => X <| S1 ha ?_
 refine Yh q h (fun h => ?_) (fun h => ?_)
 ·cases h
  exact rR <| qa q <| B <| W fun a ha => m (ret1 q ha q ⟨q, aZ.q0.q0.q0.q0.q0.q0.q0.q0.q0.q0.q0.q0.q0.q0.q0.q0⟩)
 refine y <| rR <| qa q <| rN <| eA aZ.p11 us31 uo31 il31 q <| qm q <| have ba := aZ.p15.p15.p15.p15; O h fun dh cd h => have ce := ba.viewG (Vw.c (Vw.c (Vw.c (Vw.c (Vw.d (Vw.c (Vw.c (Vw.d (Vw.c (Vw.c (Vw.c (Vw.c (Vw.c (Vw.c (Vw.c (Vw.c Vw.refl)))))))))))))))); U4 q c10 (w_laws_markHouse cd ce) fun di dj dk dl dm cf => have a0 := ba.cV4 [_, _, _, _] cf (zc Pure.dp (zc (Pure.sl q) (zc (Pure.sl q) (zc Pure.dp all_nil)))); qa q <| rN <| qa q <| B <| C <| zk <| eA a0.p15 us31 uo31 il31 q <| qm q <| O h fun dn cg h => QC q q c11 (fun w' hb => w_laws_heldHouse cg hR0 hS1 hS2 hR3 ((a0.grow hb).viewG (Vw.d (Vw.c (Vw.c (Vw.d (Vw.d (Vw.c (Vw.c (Vw.d (Vw.c (Vw.c (Vw.c (Vw.c (Vw.c (Vw.c (Vw.c (Vw.c Vw.refl)))))))))))))))))) (by rfl) <| qa q <| Qn a0 fun a ha dq az => X <| S1 ha <| C <| rR <| qm q <| qi (qt_lss q q) q <| B ?_
 refine Yh q h (fun h => ?_) (fun h => ?_)
 ·cases h
  exact rR <| qa q <| B <| W fun a ha => m (ret1 q ha q ⟨q, az.q0.q0.q0.q0.q0.q0.q0.q0.q0.q0.q0.q0.q0.q0.q0.q0⟩)
 refine y <| C <| rR <| qm q <| qm q <| qi (qt_neq q q) q <| B ?_
 refine Yh q h (fun h => ?_) (fun h => ?_)
 ·cases h
  exact rR <| qa q <| B <| W fun a ha => m (ret1 q ha q ⟨q, az.q0.q0.q0.q0.q0.q0.q0.q0.q0.q0.q0.q0.q0.q0.q0.q0⟩)
 refine y <| rR <| eA az.p8 us26 uo26 il26 q <| O h fun dr cj h => have ck := az.viewG (Vw.d (Vw.c (Vw.c (Vw.d (Vw.d (Vw.c (Vw.c (Vw.d (Vw.c (Vw.c (Vw.c (Vw.c (Vw.c (Vw.c (Vw.c (Vw.c Vw.refl)))))))))))))))); zd q q c7 (w_laws_toHouse cj (C0.c.c.c.c.c.c.c.c.c.c.c.c.c.c.c.c) (C1.c.c.c.c.c.c.c.c.c.c.c.c.c.c.c.c) (C2.c.c.c.c.c.c.c.c.c.c.c.c.c.c.c.c) (C4.c.c.c.c.c.c.c.c.c.c.c.c.c.c.c.c) ck) q ?_
 rintro _ ds ⟨dt, du, dv, dw, dx, dy, dz, dA, rfl, cl⟩; refine ⟨_, q, ?_⟩
 refine have bb := az.cV4 [] cl (zc Pure.dp (zc (Pure.sl q) (zc (Pure.sl q) (zc Pure.dp all_nil)))); qm q <| O h fun bc cm h => have cn := bb.viewG (Vw.d (Vw.c (Vw.c (Vw.d (Vw.d (Vw.c (Vw.c (Vw.d (Vw.d (Vw.c (Vw.c (Vw.d (Vw.c (Vw.c (Vw.c (Vw.c (Vw.c (Vw.c (Vw.c (Vw.c Vw.refl)))))))))))))))))))); zd q q c8 (w_impl_HouseLine cm hGl.c.c.c.c.c.c.c.c.c.c.c.c.c.c.c.c.c.c.c.c hGm.c.c.c.c.c.c.c.c.c.c.c.c.c.c.c.c.c.c.c.c hGp.c.c.c.c.c.c.c.c.c.c.c.c.c.c.c.c.c.c.c.c hR0 hS1 hS2 hR3 cn) q ?_
 rintro _ dB ⟨co, dC, dD, cp, cq, cr, dE, dF, rfl, ct⟩; refine ⟨_, q, ?_⟩
 refine have cu := bb.cV4 [] ct (zc Pure.dp (zc (Pure.sl q) (zc (Pure.sl q) (zc Pure.dp all_nil)))); qm q <| qi (zv q q) q <| qi (zv q q) q <| zq (cs := [nS, nS, nS, iV 0, nS]) cu z31 q q q fun dG dH bd => have aO := bd.viewG (Vw.c (Vw.d (Vw.c (Vw.c (Vw.d (Vw.d (Vw.c (Vw.c (Vw.d (Vw.d (Vw.c (Vw.c (Vw.d (Vw.d (Vw.c (Vw.c (Vw.d (Vw.c (Vw.c (Vw.c (Vw.c (Vw.c (Vw.c (Vw.c (Vw.c Vw.refl))))))))))))))))))))))))); zl (cs' := [co, cp, cq, iV bc.1.2.2.2.1, cr]) bd q il31 q (T (aO.sliceOne hR1) (T (aO.sliceOne hS2) (T (aO.sliceOne hS3) (T q (T (aO.sliceOne hR4) q))))) q q q fun dI aP => qa q <| B <| C <| C <| zk <| eA aP.p0 us31 uo31 il31 q <| eA aP.p18 us31 uo31 il31 q <| O h fun cv cw h => QC q q c9 (fun w' hb => w_laws_eqHouse cw hR1 hS2 hS3 hR4 hS19 (Has.c hS19) (Has.c (Has.c hS19)) (Has.c (Has.c (Has.c hS19))) ((aP.grow hb).viewG (Vw.c (Vw.d (Vw.c (Vw.c (Vw.d (Vw.d (Vw.c (Vw.c (Vw.d (Vw.d (Vw.c (Vw.c (Vw.d (Vw.d (Vw.c (Vw.c (Vw.d (Vw.c (Vw.c (Vw.c (Vw.c (Vw.c (Vw.c (Vw.c (Vw.c Vw.refl))))))))))))))))))))))))))) (by rfl) <| qi (qt_not q) q ?_
 refine qm q ?_
 refine Go (res := ((!cv) || (bc.2 != aa.2))) 3 os (fun aQ dJ cx => ?_) ?_
 ·exact jm aQ q <| jm aQ q <| ji (qt_sneq q q) aQ q <| cx 3 q q q (oi aQ)
 refine Qn aP fun a ha dK aR => X <| S1 ha ?_
 refine Yh q h (fun h => ?_) (fun h => ?_)
 ·cases h
  exact rR <| qa q <| B <| W fun a ha => m (ret1 q ha q ⟨q, aR.q0.q0.q0.q0.q0.q0.q0.q0.q0.q0.q0.q0.q0.q0.q0.q0.q0.q0.q0.q0.q0.q0.q0.q0.q0⟩)
 refine y <| rR <| qa q <| B <| C <| zk <| eA aR.p24 us31 uo31 il31 q <| qm q <| O h fun dL cz h => QC q q c11 (fun w' hb => w_laws_heldHouse cz hR9 hS10 hS11 hR12 ((aR.grow hb).viewG (Vw.c (Vw.d (Vw.c (Vw.c (Vw.d (Vw.d (Vw.c (Vw.c (Vw.d (Vw.d (Vw.c (Vw.c (Vw.d (Vw.d (Vw.c (Vw.c (Vw.d (Vw.c (Vw.c (Vw.c (Vw.c (Vw.c (Vw.c (Vw.c (Vw.c Vw.refl))))))))))))))))))))))))))) (by rfl) <| qa q <| Qn aR fun a ha dM a1 => X <| S1 ha <| C <| rR <| qm q <| qi (qt_lss q q) q <| B ?_
 refine Yh q h (fun h => ?_) (fun h => ?_)
 ·cases h
  exact rR <| qa q <| B <| W fun a ha => m (ret1 q ha q ⟨q, a1.q0.q0.q0.q0.q0.q0.q0.q0.q0.q0.q0.q0.q0.q0.q0.q0.q0.q0.q0.q0.q0.q0.q0.q0.q0⟩)
 refine y <| C <| rR <| qm q <| qm q <| qi (qt_neq q q) q <| B ?_
 refine Yh q h (fun h => ?_) (fun h => ?_)
 ·cases h
  exact rR <| qa q <| B <| W fun a ha => m (ret1 q ha q ⟨q, a1.q0.q0.q0.q0.q0.q0.q0.q0.q0.q0.q0.q0.q0.q0.q0.q0.q0.q0.q0.q0.q0.q0.q0.q0.q0⟩)
 cases h
 exact y <| rR <| qa q <| B <| W fun a ha => ret1 q ha q ⟨q, a1.q0.q0.q0.q0.q0.q0.q0.q0.q0.q0.q0.q0.q0.q0.q0.q0.q0.q0.q0.q0.q0.q0.q0.q0.q0⟩
end Go.Proofs.YtpklpghbkhegnaaGreatDoor
