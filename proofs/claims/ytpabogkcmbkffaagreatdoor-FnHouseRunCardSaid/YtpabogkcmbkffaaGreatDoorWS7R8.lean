/- The walks: each Go function computes its shallow function. Printed by a program. -/
import Derived.Test.YtpabogkcmbkffaaGreatDoorWS7R7
set_option linter.unusedVariables false
set_option maxRecDepth 10000
set_option maxHeartbeats 8000000
namespace Go.Proofs.YtpabogkcmbkffaaGreatDoor
open Go Go.RowKit
theorem w_laws_FnHouseRun (w : World) (G : List Res) (hGl : Glob G) (vp0 : Value) (p0 : List Int) (hp0 : HasRo G (.int .u8) vp0 p0) (r : Bool) (h : laws_FnHouseRunS p0 = some r) (H : Ctx w G) : Calls Tryz.prog 5 #[vp0] w fun e w' => e = .returned (.bool r) ∧ Holds M0 w w' [] G := by
 refine E0 (n := 314) H Tryz.func5 q q q fun H => ?_
 unfold laws_FnHouseRunS at h
 refine rR <| qA q q q <| B <| C <| rR <| qM q q q <| za H.ctx (t := (.int .u8)) (hp0.has) u22 q q q <| A q (qt_gtr q q) q q <| B ?_
 refine Yh q h (fun h => ?_) (fun h => ?_)
 ·refine rR <| qA q q q <| B <| W fun a ha => ?_
  cases h
  exact m (ret1 q ha q ⟨q, H⟩)
 refine y <| rR <| qM q q q <| O h fun x1 dE h => V5 q q c20 (w_spec_DrawHouseRun (hp0) dE H.ctx) q fun v5 v6 v7 v8 v9 w3 H4 => have dF := H.cN5 [] H4; have dG := dF.p4; have dH := dG.freeze; qM q q q <| A q (zv q q) q q <| A q (zv q q) q q <| zq (cs := [nS, nS, nS, iV 0, nS]) dH z27 q q q fun al g0 bz => zl (cs' := [v5, v6, v7, iV x1.1.2.2.2.1, v8]) bz q il27 q (T (bz.ctx.sliceOne hR2) (T (bz.ctx.sliceOne hR3) (T (bz.ctx.sliceOne hR4) (T q (T (bz.ctx.sliceOne hR5) q))))) q q q fun g1 cf => qA q q q <| rN <| lA (R cf.p0) us27 uo27 il27 q q q <| qM q q q <| O h fun aa dI h => zd q q c18 (w_impl_HouseRun hGl.c.c.c.c.c.c hR2 hR3 hR4 hR5 hR1 dI cf.ctx) q ?_
 rintro _ cI ⟨ad, g2, g3, ae, af, ag, dJ, dK, rfl, dL⟩; refine ⟨_, q, ?_⟩
 have dM := cf.cN4 [] dL
 have dN : Holds _ w cI [.ro ty12 ad aa.1.1, .sl 3 tI ae aa.1.2.1, .sl 3 tI af aa.1.2.2.1, dpR 47 dt16 ag dJ aa.1.2.2.2.2 dK, .bx al 27 [v5, v6, v7, iV x1.1.2.2.2.1, v8], .ro ty10 v9 x1.2, .ro ty12 v5 x1.1.1, .ro tI v6 x1.1.2.1, .ro tI v7 x1.1.2.2.1, .ro ty14 v8 x1.1.2.2.2.2] G := dM.freezeD
 refine have dO := dN.p1; have dP := dO.freeze; have dQ := dP.p2; have dR := dQ.freeze; have dS := dR.p3; ?_
 have dT : Holds _ w cI [.ro ty14 ag aa.1.2.2.2.2, .ro tI af aa.1.2.2.1, .ro tI ae aa.1.2.1, .ro ty12 ad aa.1.1, .bx al 27 [v5, v6, v7, iV x1.1.2.2.2.1, v8], .ro ty10 v9 x1.2, .ro ty12 v5 x1.1.1, .ro tI v6 x1.1.2.1, .ro tI v7 x1.1.2.2.1, .ro ty14 v8 x1.1.2.2.2.2] G := dS.freezeD
 refine qM q q q <| A q (zv q q) q q <| A q (zv q q) q q <| zq (cs := [nS, nS, nS, iV 0, nS]) dT z27 q q q fun ah g4 bA => zl (cs' := [ad, ae, af, iV aa.1.2.2.2.1, ag]) bA q il27 q (T (bA.ctx.sliceOne hR4) (T (bA.ctx.sliceOne hR3) (T (bA.ctx.sliceOne hR2) (T q (T (bA.ctx.sliceOne hR1) q))))) q q q fun g5 cg => qA q q q <| rN <| lA (R cg.p5) us27 uo27 il27 q q q <| qM q q q <| O h fun ay dU h => V4 q q c21 (w_spec_HouseRun hR7 hR8 hR9 hR10 hR6 dU cg.ctx) q fun aT aU aV aW g6 dV => have dW := cg.cN4 [] dV; have dX := dW.freeze; have dY := dX.p1; have dZ := dY.freeze; have d0 := dZ.p2; have d1 := d0.freeze; have d2 := d1.p3; have d3 := d2.freeze; qM q q q <| A q (zv q q) q q <| A q (zv q q) q q <| zq (cs := [nS, nS, nS, iV 0, nS]) d3 z27 q q q fun bK g7 bB => ?_
 refine zl (cs' := [aT, aU, aV, iV ay.1.2.2.2.1, aW]) bB q il27 q (T (bB.ctx.sliceOne hR4) (T (bB.ctx.sliceOne hR3) (T (bB.ctx.sliceOne hR2) (T q (T (bB.ctx.sliceOne hR1) q))))) q q q fun g8 bL => qA q q q <| B <| C <| C <| zk <| lA (R bL.p5) us27 uo27 il27 q q q <| lA (R bL.p0) us27 uo27 il27 q q q <| O h fun d4 d5 h => Qc q q c9 bL (fun _ => w_laws_sameHouse hR9 hR8 hR7 hR6 hR4 hR3 hR2 hR1 d5) q <| A q (qt_not q) q q <| qM q q q ?_
 refine Go (res := ((!d4) || (aa.2 != ay.2))) 3 os (fun bM g9 d6 => ?_) ?_
 ·exact qM (J q bM) q q <| qM (J q bM) q q <| A (J q bM) (qt_neq q q) q q <| d6 3 q q q (oi bM)
 refine Qn bL fun a ha hc bN => X <| S1 ha ?_
 refine Yh q h (fun h => ?_) (fun h => ?_)
 ·refine rR <| qA q q q <| B <| W fun a ha => ?_
  cases h
  have d7 := bN.q0.q0.q0.q0.q0.q0.q0.q0.q0.q0.q0.q0.q0.q0.q0.q0
  exact m (ret1 q ha q ⟨q, d7⟩)
 refine y <| C <| C <| zk <| lA (R bN.p10) us27 uo27 il27 q q q <| O h fun he d8 h => Qc q q c17 bN (fun _ => w_spec_HouseValid hR12 hR13 hR14 hR15 d8) q <| A q (qt_not q) q q <| Qn bN fun a ha hf bd => X <| S1 ha ?_
 refine Yh q h (fun h => ?_) (fun h => ?_)
 ·refine C <| zk <| qM q q q <| A q (qt_eql q q) q q <| qM q q q <| O h fun d9 be h => ?_
  refine Ga (res := d9) 2 (if_f · be) (fun ch hg ea => ?_) ?_
  ·exact have be := if_t ch be; lA (R bd.p5) us27 uo27 il27 (J q ch) q q <| O be fun hh eb be => Qc (J q ch) q c22 bd (fun _ => w_laws_noHouse hR9 hR8 hR7 hR6 eb) q <| ea 2 q q q be
  refine qM q q q <| O h fun ec bf h => ?_
  refine Ga (res := ec) 1 (if_f · bf) (fun cJ hi ed => ?_) ?_
  ·exact have bf := if_t cJ bf; O bf fun ee ef bf => QC (J q cJ) q c11 (fun w' hb => w_laws_alive w' _  ee ef (bd.grow hb).ctx) (by rfl) <| ed 1 q q q bf
  refine qA q q q <| Qn bd fun a ha hk eg => X <| S1 ha <| W fun a ha => ?_
  obtain rfl := L h
  have eh := eg.q0.q0.q0.q0.q0.q0.q0.q0.q0.q0.q0.q0.q0.q0.q0.q0
  exact m (ret1 q ha q ⟨q, eh⟩)
 refine y <| rR <| lA (R bd.p10) us27 uo27 il27 q q q <| zq (cs := [nS, nS, nS, iV 0, nS]) bd z27 q q q fun aj hl bC => zl (cs' := [v5, v6, v7, iV x1.1.2.2.2.1, v8]) bC q il27 q (T (bC.ctx.sliceOne hR13) (T (bC.ctx.sliceOne hR14) (T (bC.ctx.sliceOne hR15) (T q (T (bC.ctx.sliceOne hR16) q))))) q q q fun hm ei => B <| C <| Z <| zs (t := tI) (args := []) (xs := ([] : List Int)) ei (BltL.nil) u24 j3 q q q q q q fun hn ho cK => qF uf27 fi27_2 nz24 q q q <| l u24 q (R cK.p12) q q q q <| O h fun bO ej h => zw cK hR16 ej u24 j3 q q q q q q fun ak bP ek => qA q q q <| B <| C <| rR <| qA q q q <| B <| g <| O h fun bD em h => ?_
 have en : Holds _ w bP [.ro ty12 v5 x1.1.1, .sl 3 tI ak bO, .bx aj 27 [v5, v6, v7, iV x1.1.2.2.2.1, v8], .bx bK 27 [aT, aU, aV, iV ay.1.2.2.2.1, aW], .ro ty14 aW ay.1.2.2.2.2, .ro tI aV ay.1.2.2.1, .ro tI aU ay.1.2.1, .ro ty12 aT ay.1.1, .bx ah 27 [ad, ae, af, iV aa.1.2.2.2.1, ag], .ro ty14 ag aa.1.2.2.2.2, .ro tI af aa.1.2.2.1, .ro tI ae aa.1.2.1, .ro ty12 ad aa.1.1, .bx al 27 [v5, v6, v7, iV x1.1.2.2.2.1, v8], .ro ty10 v9 x1.2, .ro ty12 v5 x1.1.1, .ro tI v6 x1.1.2.1, .ro tI v7 x1.1.2.2.1, .ro ty14 v8 x1.1.2.2.2.2] G := ek.dup hO14
 have eo : Holds _ w bP [.ro tI v6 x1.1.2.1, .ro ty12 v5 x1.1.1, .sl 3 tI ak bO, .bx aj 27 [v5, v6, v7, iV x1.1.2.2.2.1, v8], .bx bK 27 [aT, aU, aV, iV ay.1.2.2.2.1, aW], .ro ty14 aW ay.1.2.2.2.2, .ro tI aV ay.1.2.2.1, .ro tI aU ay.1.2.1, .ro ty12 aT ay.1.1, .bx ah 27 [ad, ae, af, iV aa.1.2.2.2.1, ag], .ro ty14 ag aa.1.2.2.2.2, .ro tI af aa.1.2.2.1, .ro tI ae aa.1.2.1, .ro ty12 ad aa.1.1, .bx al 27 [v5, v6, v7, iV x1.1.2.2.2.1, v8], .ro ty10 v9 x1.2, .ro ty12 v5 x1.1.1, .ro tI v6 x1.1.2.1, .ro tI v7 x1.1.2.2.1, .ro ty14 v8 x1.1.2.2.2.2] G := en.dup hO16
 have ep : Holds _ w bP [.ro tI v7 x1.1.2.2.1, .ro tI v6 x1.1.2.1, .ro ty12 v5 x1.1.1, .sl 3 tI ak bO, .bx aj 27 [v5, v6, v7, iV x1.1.2.2.2.1, v8], .bx bK 27 [aT, aU, aV, iV ay.1.2.2.2.1, aW], .ro ty14 aW ay.1.2.2.2.2, .ro tI aV ay.1.2.2.1, .ro tI aU ay.1.2.1, .ro ty12 aT ay.1.1, .bx ah 27 [ad, ae, af, iV aa.1.2.2.2.1, ag], .ro ty14 ag aa.1.2.2.2.2, .ro tI af aa.1.2.2.1, .ro tI ae aa.1.2.1, .ro ty12 ad aa.1.1, .bx al 27 [v5, v6, v7, iV x1.1.2.2.2.1, v8], .ro ty10 v9 x1.2, .ro ty12 v5 x1.1.1, .ro tI v6 x1.1.2.1, .ro tI v7 x1.1.2.2.1, .ro ty14 v8 x1.1.2.2.2.2] G := eo.dup hO18
 have er : Holds _ w bP [.ro ty14 v8 x1.1.2.2.2.2, .ro tI v7 x1.1.2.2.1, .ro tI v6 x1.1.2.1, .ro ty12 v5 x1.1.1, .sl 3 tI ak bO, .bx aj 27 [v5, v6, v7, iV x1.1.2.2.2.1, v8], .bx bK 27 [aT, aU, aV, iV ay.1.2.2.2.1, aW], .ro ty14 aW ay.1.2.2.2.2, .ro tI aV ay.1.2.2.1, .ro tI aU ay.1.2.1, .ro ty12 aT ay.1.1, .bx ah 27 [ad, ae, af, iV aa.1.2.2.2.1, ag], .ro ty14 ag aa.1.2.2.2.2, .ro tI af aa.1.2.2.1, .ro tI ae aa.1.2.1, .ro ty12 ad aa.1.1, .bx al 27 [v5, v6, v7, iV x1.1.2.2.2.1, v8], .ro ty10 v9 x1.2, .ro ty12 v5 x1.1.1, .ro tI v6 x1.1.2.1, .ro tI v7 x1.1.2.2.1, .ro ty14 v8 x1.1.2.2.2.2] G := ep.dup (HasRo.c hO19)
 have es := er.q6.q6.q6.q6.q6.p4.p1.p2.p3.p4.p5.p7.p8.p9.p10.p10.p12.p16.p16.p16.p16.p16
 refine fun hp et => zp (I := fun s a w2 => match s with | (aR, aE, aF, aG, aD, aH, bg) => ∃ ao ap aq ar, Fr a 314 [(3, pB al), (4, v9), (5, pB ah), (6, iV aa.2), (9, pB aj), (10, ak), (11, iV aR)] ∧ Holds M0 w w2 [.bx al 27 [v5, v6, v7, iV x1.1.2.2.2.1, v8], .ro ty12 v5 x1.1.1, .ro tI v6 x1.1.2.1, .ro tI v7 x1.1.2.2.1, .ro ty14 v8 x1.1.2.2.2.2, .ro ty10 v9 x1.2, .bx ah 27 [ad, ae, af, iV aa.1.2.2.2.1, ag], .ro ty12 ad aa.1.1, .ro tI ae aa.1.2.1, .ro tI af aa.1.2.2.1, .ro ty14 ag aa.1.2.2.2.2, .bx aj 27 [ao, ap, aq, iV aD, ar], .ro ty12 ao aE, .ro tI ap aF, .ro tI aq aG, .ro ty14 ar aH, .sl 3 tI ak bg] G) (O := fun o e a w2 => match o with | .inl (q0, q1, q2, q3, q4, q5) => e = .exit 0 ∧ ∃ cL cM cN cO, Fr a 314 [(3, pB al), (4, v9), (5, pB ah), (6, iV aa.2), (9, pB aj), (10, ak)] ∧ Holds M0 w w2 [.bx al 27 [v5, v6, v7, iV x1.1.2.2.2.1, v8], .ro ty12 v5 x1.1.1, .ro tI v6 x1.1.2.1, .ro tI v7 x1.1.2.2.1, .ro ty14 v8 x1.1.2.2.2.2, .ro ty10 v9 x1.2, .bx ah 27 [ad, ae, af, iV aa.1.2.2.2.1, ag], .ro ty12 ad aa.1.1, .ro tI ae aa.1.2.1, .ro tI af aa.1.2.2.1, .ro ty14 ag aa.1.2.2.2.2, .bx aj 27 [cL, cM, cN, iV q3, cO], .ro ty12 cL q0, .ro tI cM q1, .ro tI cN q2, .ro ty14 cO q4, .sl 3 tI ak q5] G | .inr (q0, q1, q2, q3, q4, q5, q6) => e = .ret ∧ (Fr a 314 [(2, .bool q0)] ∧ Holds M0 w w2 [] G)) em ?_ ?_ ?_
 ·exact ⟨v5, v6, v7, v8, et.s, es⟩
 ·rintro ⟨aR, aE, aF, aG, aD, aH, bg⟩ _ a hq am ⟨ao, ap, aq, ar, ha, ci⟩
  refine S1 ha <| C <| rR <| qM q q q <| qM q q q <| za ci.ctx (t := ty10) hR5 u40 q q q <| A q (qt_lss q q) q q <| B ?_
  refine Yh q am (fun am => ?_) (fun am => ?_)
  ·refine y <| C <| g <| C <| O am fun bQ bR am => O am fun ab cP am => ?_
   refine WP_join (M := fun a w2 => ∃ aC au av aw ax, Fr a 314 [(3, pB al), (4, v9), (5, pB ah), (6, iV aa.2), (9, pB aj), (10, ak), (11, iV aR), (12, pB aC), (13, .bool ab.2)] ∧ Holds M0 w w2 [.bx al 27 [v5, v6, v7, iV x1.1.2.2.2.1, v8], .ro ty12 v5 x1.1.1, .ro tI v6 x1.1.2.1, .ro tI v7 x1.1.2.2.1, .ro ty14 v8 x1.1.2.2.2.2, .ro ty10 v9 x1.2, .bx ah 27 [ad, ae, af, iV aa.1.2.2.2.1, ag], .ro ty12 ad aa.1.1, .ro tI ae aa.1.2.1, .ro tI af aa.1.2.2.1, .ro ty14 ag aa.1.2.2.2.2, .bx aj 27 [ao, ap, aq, iV aD, ar], .ro ty12 ao aE, .ro tI ap aF, .ro tI aq aG, .ro ty14 ar aH, .sl 3 tI ak bg, .bx aC 27 [au, av, aw, iV ab.1.2.2.2.1, ax], .ro ty12 au ab.1.1, .ro tI av ab.1.2.1, .ro tI aw ab.1.2.2.1, .ro ty14 ax ab.1.2.2.2.2] G) ?_ ?_
   ·refine WP_ordersT (fun w1 w2 => Chg M0 w1 w2) 11 (by kernel_rfl) fun cj eu => have cQ := ci.grow eu; ?_
    have ck : Ctx cj ([] ++ ([.bx al 27 [v5, v6, v7, iV x1.1.2.2.2.1, v8], .ro ty12 v5 x1.1.1, .ro tI v6 x1.1.2.1, .ro tI v7 x1.1.2.2.1, .ro ty14 v8 x1.1.2.2.2.2, .ro ty10 v9 x1.2, .bx ah 27 [ad, ae, af, iV aa.1.2.2.2.1, ag], .ro ty12 ad aa.1.1, .ro tI ae aa.1.2.1, .ro tI af aa.1.2.2.1, .ro ty14 ag aa.1.2.2.2.2, .bx aj 27 [ao, ap, aq, iV aD, ar], .ro ty12 ao aE, .ro tI ap aF, .ro tI aq aG, .ro ty14 ar aH, .sl 3 tI ak bg] ++ G)) := cQ.ctx
    have ew : Holds _ cj cj [] ([.bx al 27 [v5, v6, v7, iV x1.1.2.2.2.1, v8], .ro ty12 v5 x1.1.1, .ro tI v6 x1.1.2.1, .ro tI v7 x1.1.2.2.1, .ro ty14 v8 x1.1.2.2.2.2, .ro ty10 v9 x1.2, .bx ah 27 [ad, ae, af, iV aa.1.2.2.2.1, ag], .ro ty12 ad aa.1.1, .ro tI ae aa.1.2.1, .ro tI af aa.1.2.2.1, .ro ty14 ag aa.1.2.2.2.2, .bx aj 27 [ao, ap, aq, iV aD, ar], .ro ty12 ao aE, .ro tI ap aF, .ro tI aq aG, .ro ty14 ar aH, .sl 3 tI ak bg] ++ G) := zb (Rs := []) ck
    refine have Hc := ew; have ey := HasB.bx (HasB.c (HasB.c (HasB.c (HasB.c (HasB.c (HasB.c (HasB.c (HasB.c (HasB.c (HasB.c (HasB.c (HasB.hd)))))))))))) Hc.ctx; XT (i := 0) q (by kernel_rfl) q Hc.chg q (qs_agg (cs := [ao, ap, aq, iV aD, ar]) us27 uo27 il27 q (fun j z hj => by rw [Nat.zero_add]; exact ey.cell hj) Hc.chg (Ctx.outB ck (HasB.c (HasB.c (HasB.c (HasB.c (HasB.c (HasB.c (HasB.c (HasB.c (HasB.c (HasB.c (HasB.c (HasB.hd)))))))))))))) q q ?_
    change XC _ _ _ _ _ _ _ _ ((75, .agg #[ao, ap, aq, iV aD, ar]) :: _) _
    refine XQ (i := 1) q (by kernel_rfl) q Hc.chg q (fun _ => qt_move q) q q <| XQ (i := 2) q (by kernel_rfl) q Hc.chg q (fun _ => qt_move q) q q ?_
    obtain ⟨hr, hs, ht, cl⟩ := Ctx.isAt Hc.ctx hR5 bR
    refine XT (i := 3) q (by kernel_rfl) q Hc.chg q (qs_index bR cl u40 i29 q q) q q ?_
    obtain ⟨hu, ez, hv⟩ := Hc.atN hR5 bR cl
    obtain ⟨hx, cR, eA⟩ := ez
    refine XT (i := 4) q (by kernel_rfl) q Hc.chg q (qs_agg us29 uo29 (i29.trans (congrArg some (Rep.length (t := ty10) cR).symm)) q eA Hc.chg (Ctx.outHas ck hR5 bR cl)) q q ?_
    obtain ⟨hy, hz, hA, hC, rfl, hD, eB, eC⟩ := cR
    obtain ⟨rfl, _⟩ := eB
    obtain ⟨hE, hF, hG, hH, rfl, hI, eD, eE⟩ := eC
    obtain ⟨rfl, _⟩ := eD
    obtain ⟨hJ, hK, hL, hM, rfl, hN, eF, eG⟩ := eE
    obtain ⟨rfl, _⟩ := eF
    obtain ⟨rfl, _⟩ := eG
    change XC _ _ _ _ _ _ _ _ ((79, .agg #[iV bQ.1, iV bQ.2.1, iV bQ.2.2.1, iV bQ.2.2.2]) :: _) _
    repeat' first
     | refine XDo 5 q <| zd q q c7 (w_impl_HouseDo hGl.c.c.c.c.c.c.c.c.c.c.c.c.c.c.c.c.c hR12 hR13 hR14 hR15 cP Hc.ctx) q ?_; rintro _ _ ⟨bS, eH, eI, bT, bU, bV, eJ, eK, rfl, HK⟩; refine ⟨_, q, ?_⟩; have Hc := Hc.cN4 [] HK; have Hc := Hc.freezeD; have Hc := Hc.p1; have Hc := Hc.freeze; have Hc := Hc.p2; have Hc := Hc.freeze; have Hc := Hc.p3; have Hc := Hc.freezeD; refine XN Hc.chg <| XQ (i := 6) q (by kernel_rfl) q Hc.chg q (fun _ => qt_move q) q q <| XQ (i := 7) q (by kernel_rfl) q Hc.chg q (fun _ => zv q q) q q <| XQ (i := 8) q (by kernel_rfl) q Hc.chg q (fun _ => zv q q) q q ?_
     | refine XDo 5 q <| zd q q c7 (w_impl_HouseDo hGl.c.c.c.c.c.c.c.c.c.c.c.c.c.c.c.c.c.c hR13 hR14 hR15 hR16 cP Hc.ctx) q ?_; rintro _ _ ⟨bS, eH, eI, bT, bU, bV, eJ, eK, rfl, HK⟩; refine ⟨_, q, ?_⟩; have Hc := Hc.cN4 [] HK; have Hc := Hc.freezeD; have Hc := Hc.p1; have Hc := Hc.freeze; have Hc := Hc.p2; have Hc := Hc.freeze; have Hc := Hc.p3; have Hc := Hc.freezeD; refine XN Hc.chg <| XQ (i := 6) q (by kernel_rfl) q Hc.chg q (fun _ => qt_move q) q q <| XQ (i := 7) q (by kernel_rfl) q Hc.chg q (fun _ => zv q q) q q <| XQ (i := 8) q (by kernel_rfl) q Hc.chg q (fun _ => zv q q) q q ?_
     | refine XDo 9 q ?_; refine zq (cs := [nS, nS, nS, iV 0, nS]) Hc z27 q q q (fun eL _ Hc => ?_); refine XN Hc.chg ?_
     | refine XDo 10 q ?_; refine zl (cs' := [bS, bT, bU, iV ab.1.2.2.2.1, bV]) Hc q il27 q (T (Hc.ctx.sliceOne hR4) (T (Hc.ctx.sliceOne hR3) (T (Hc.ctx.sliceOne hR2) (T q (T (Hc.ctx.sliceOne hR1) q))))) q q q (fun _ Hc => ?_); refine XN Hc.chg ?_
     | refine XDo 10 q ?_; have Hc := Hc.p4; refine zl (cs' := [bS, bT, bU, iV ab.1.2.2.2.1, bV]) Hc q il27 q (T (Hc.ctx.sliceOne hR4) (T (Hc.ctx.sliceOne hR3) (T (Hc.ctx.sliceOne hR2) (T q (T (Hc.ctx.sliceOne hR1) q))))) q q q (fun _ Hc => ?_); refine XN Hc.chg ?_
     | have Hc := cQ.cN5 [] Hc; refine XDo 11 q <| qA q q q <| XE q ?_
     | refine XV [5, 9] (by decide +kernel) q (allc ?_ (allc ?_ alln))
     | refine XV [9] (by decide +kernel) q (allc ?_ alln)
     | refine XV [10] (by decide +kernel) q (allc ?_ alln)
     | refine XV [11] (by decide +kernel) q (allc ?_ alln)
     | refine XV [5] (by decide +kernel) q (allc ?_ alln)
     | refine XC_done (by decide +kernel) (fun a ha => ?_); have Hc := ((((((((((((((((((((((Hc.p1).p2).p3).p4).p4).p21).p21).p21).p21).p21).p21).p21).p21).p21).p21).p21).p21).p21).p21).p21).p21).p21); exact ⟨eL, bS, bT, bU, bV, ha.s, Hc⟩
   rintro a hO ⟨aC, au, av, aw, ax, ha, a5⟩
   refine S1 ha <| rR <| qM q q q <| qM q q q <| O am fun hP cS am => b a5.ctx hR5 cS u40 i29 q q q q fun hQ hR hS eM => qF uf29 fi29_1 nz3 q q q <| lI u3 q (a5.el hR5 cS eM).s.f q q q <| qA q q q <| B <| C <| rR <| qM q q q <| qM q q q <| O am fun hT cT am => b a5.ctx hR5 cT u40 i29 q q q q fun hU hV hW eN => qF uf29 fi29_0 nz3 q q q <| lI u3 q (a5.el hR5 cT eN).f q q q <| A q (qt_eql q q) q q <| B <| O am fun bE a8 am => ?_
   refine WP_join (M := fun a w2 => (Fr a 314 [(3, pB al), (4, v9), (5, pB ah), (6, iV aa.2), (9, pB aj), (10, ak), (11, iV aR), (12, pB aC), (13, .bool ab.2), (14, iV bE)] ∧ Holds M0 w w2 [.bx al 27 [v5, v6, v7, iV x1.1.2.2.2.1, v8], .ro ty12 v5 x1.1.1, .ro tI v6 x1.1.2.1, .ro tI v7 x1.1.2.2.1, .ro ty14 v8 x1.1.2.2.2.2, .ro ty10 v9 x1.2, .bx ah 27 [ad, ae, af, iV aa.1.2.2.2.1, ag], .ro ty12 ad aa.1.1, .ro tI ae aa.1.2.1, .ro tI af aa.1.2.2.1, .ro ty14 ag aa.1.2.2.2.2, .bx aj 27 [ao, ap, aq, iV aD, ar], .ro ty12 ao aE, .ro tI ap aF, .ro tI aq aG, .ro ty14 ar aH, .sl 3 tI ak bg, .bx aC 27 [au, av, aw, iV ab.1.2.2.2.1, ax], .ro ty12 au ab.1.1, .ro tI av ab.1.2.1, .ro tI aw ab.1.2.2.1, .ro ty14 ax ab.1.2.2.2.2] G)) ?_ ?_
   ·refine Yh q a8 (fun a8 => ?_) (fun a8 => ?_)
    ·refine Z <| qM q q q <| qM q q q <| O a8 fun hX cU a8 => b a5.ctx hR5 cU u40 i29 q q q q fun hY hZ h0 eO => qF uf29 fi29_2 nz3 q q q <| lI u3 q (a5.el hR5 cU eO).s.s.f q q q <| qA q q q <| WL_nil fun a ha => ?_
     cases a8
     have eP := a5.p21.p21.p21.p21.p21.p21.p21.p21.p21.p21.p21.p21.p21.p21.p21.p21.p21.p21.p21.p21.p21.p21
     exact X (⟨ha.s, eP⟩)
    refine WP_skip fun a ha => ?_
    cases a8
    have eQ := a5.p21.p21.p21.p21.p21.p21.p21.p21.p21.p21.p21.p21.p21.p21.p21.p21.p21.p21.p21.p21.p21.p21
    exact X (⟨ha.s, eQ⟩)
   rintro a h1 ⟨ha, aP⟩
   refine S1 ha <| C <| rR <| qM q q q <| qM q q q <| O am fun cV a6 am => ?_
   refine Ha (res := cV) 14 (if_f · a6) (fun aX h2 eR => ?_) ?_
   ·refine have a6 := if_t aX a6; qM (J q aX) q q <| qM (J q aX) q q <| O a6 fun h3 cW a6 => b aP.ctx hR5 cW u40 i29 (J q aX) q q q fun h4 h5 h6 eS => qF uf29 fi29_0 nz3 (J q aX) q q <| lI u3 q (aP.el hR5 cW eS).f (J q aX) q q <| A (J q aX) (qt_leq q q) q q <| qM (J q aX) q q <| O a6 fun eT bh a6 => ?_
    refine Ho (res := eT) (hw := (J q aX)) 6 (if_t · bh) (fun a9 h7 eU => ?_) ?_
    ·exact have bh := if_f a9 bh; qM (J q a9) q q <| qM (J q a9) q q <| O bh fun h8 cX bh => b aP.ctx hR5 cX u40 i29 (J q a9) q q q fun h9 ia ib eV => qF uf29 fi29_0 nz3 (J q a9) q q <| lI u3 q (aP.el hR5 cX eV).f (J q a9) q q <| A (J q a9) (qt_eql q q) q q <| eU 6 q q q bh
    exact eR 8 q q q a6
   refine qM q q q ?_
   refine Ha (res := (cV && ((decide (bE < 0)) || (decide (bE ≥ (List.length x1.1.1 : Int)))))) 9 an (fun bF ic eW => ?_) ?_
   ·refine qM (J q bF) q q <| A (J q bF) (qt_lss q q) q q <| qM (J q bF) q q ?_
    refine Ho (res := ((decide (bE < 0)) || (decide (bE ≥ (List.length x1.1.1 : Int))))) (hw := (J q bF)) 5 os (fun bi ie eX => ?_) ?_
    ·exact qM (J q bi) q q <| qF uf27 fi27_0 nz23 (J q bi) q q <| l u23 q (R aP.p0) q (J q bi) q q <| za aP.ctx (t := ty12) hR1 u23 (J q bi) q q <| A (J q bi) (qt_geq q q) q q <| eX 5 q q q (oi bi)
    exact eW 4 q q q (ai bF)
   refine B ?_
   refine Yh q am (fun am => ?_) (fun am => ?_)
   ·refine rR <| qA q q q <| B <| W fun a ha => ?_
    cases am
    have eY := aP.q0.q0.q0.q0.q0.q0.q0.q0.q0.q0.q0.q0.q0.q0.q0.q0.q0.q0.q0.q0.q0.q0
    exact m (zj (m (⟨ret_ne, q, ha.s, eY⟩)))
   refine y <| C <| rR <| qM q q q <| qM q q q <| O am fun eZ bj am => ?_
   refine Ha (res := eZ) 6 (if_f · bj) (fun ba ig e0 => ?_) ?_
   ·exact have bj := if_t ba bj; qM (J q ba) q q <| qM (J q ba) q q <| O bj fun ih cY bj => b aP.ctx hR5 cY u40 i29 (J q ba) q q q fun ii ij ik e1 => qF uf29 fi29_0 nz3 (J q ba) q q <| lI u3 q (aP.el hR5 cY e1).f (J q ba) q q <| A (J q ba) (qt_eql q q) q q <| e0 6 q q q bj
   refine B <| O am fun e2 aA am => ?_
   refine WP_join (M := fun a w2 => (Fr a 314 [(3, pB al), (4, v9), (5, pB ah), (6, iV aa.2), (9, pB aj), (10, ak), (11, iV aR), (12, pB aC), (13, .bool ab.2)] ∧ Holds M0 w w2 [.bx al 27 [v5, v6, v7, iV x1.1.2.2.2.1, v8], .ro ty12 v5 x1.1.1, .ro tI v6 x1.1.2.1, .ro tI v7 x1.1.2.2.1, .ro ty14 v8 x1.1.2.2.2.2, .ro ty10 v9 x1.2, .bx ah 27 [ad, ae, af, iV aa.1.2.2.2.1, ag], .ro ty12 ad aa.1.1, .ro tI ae aa.1.2.1, .ro tI af aa.1.2.2.1, .ro ty14 ag aa.1.2.2.2.2, .bx aj 27 [ao, ap, aq, iV aD, ar], .ro ty12 ao aE, .ro tI ap aF, .ro tI aq aG, .ro ty14 ar aH, .sl 3 tI ak e2, .bx aC 27 [au, av, aw, iV ab.1.2.2.2.1, ax], .ro ty12 au ab.1.1, .ro tI av ab.1.2.1, .ro tI aw ab.1.2.2.1, .ro ty14 ax ab.1.2.2.2.2] G)) ?_ ?_
   ·refine Yh q aA (fun aA => ?_) (fun aA => ?_)
    ·refine C <| WP_tail 31 (by kernel_rfl) (by kernel_rfl) fun il e3 => have aI := aP.grow e3; qM q q q <| qM q q q <| qM q q q <| O aA fun im cZ aA => b aI.ctx hR5 cZ u40 i29 q q q q fun io ip iq e4 => qF uf29 fi29_1 nz3 q q q <| lI u3 q (aI.el hR5 cZ e4).s.f q q q <| qM q q q <| qM q q q <| qM q q q <| O aA fun ir c0 aA => b aI.ctx hR5 c0 u40 i29 q q q q fun it iu iv e5 => qF uf29 fi29_1 nz3 q q q <| lI u3 q (aI.el hR5 c0 e5).s.f q q q <| O aA fun e6 c1 aA => b aI.ctx hS16 c1 u24 i3 q q q q fun iw ix iy e7 => lI u3 q (aI.el hS16 c1 e7) q q q <| qM q q q <| qM q q q <| O aA fun e8 c2 aA => b aI.ctx hR5 c2 u40 i29 q q q q fun iz iA iB e9 => qF uf29 fi29_2 nz3 q q q <| lI u3 q (aI.el hR5 c2 e9).s.s.f q q q <| qF uf27 fi27_0 nz23 q q q <| l u23 q (R aI.p0) q q q q <| qM q q q <| qM q q q <| O aA fun iC c3 aA => b aI.ctx hR5 c3 u40 i29 q q q q fun iD iE iF fa => qF uf29 fi29_1 nz3 q q q <| lI u3 q (aI.el hR5 c3 fa).s.f q q q <| O aA fun fb c4 aA => ?_
     refine b aI.ctx hR1 c4 u23 i55 q q q q fun iG iH iI fc => qF uf55 fi55_0 nz3 q q q <| lI u3 q (aI.el hR1 c4 fc).f q q q <| A q (qt_mul q q) q q <| A q (qt_add q q) q q <| SL_nil <| O aA fun iJ c5 aA => b aI.ctx hS16 c5 u24 i3 q q q q fun iK iL iM fd => have fe := aI.p16; WL_storeH (fo := 0) (cs' := [iV (IntKind.wrap .i64 (e6 + (IntKind.wrap .i64 (e8.2.2.1 * fb.1))))]) fe c5 fd (Upd.whole (Blt.int)) q il3 q q q q fun iN ff => rN <| qA q q q <| B <| g <| O aA fun iO fg aA => have fh := ff.p21.p21.p21.p21.p21.p5.p21.p21.p21.p21.p21.p21.p21.p21.p21.p21.p21.p21.p21.p21.p21.p21; ?_
     refine fun iP fi => zp (I := fun s a w2 => match s with | (cm, bk) => (Fr a 314 [(3, pB al), (4, v9), (5, pB ah), (6, iV aa.2), (9, pB aj), (10, ak), (11, iV aR), (12, pB aC), (13, .bool ab.2), (15, iV cm)] ∧ Holds M0 w w2 [.bx al 27 [v5, v6, v7, iV x1.1.2.2.2.1, v8], .ro ty12 v5 x1.1.1, .ro tI v6 x1.1.2.1, .ro tI v7 x1.1.2.2.1, .ro ty14 v8 x1.1.2.2.2.2, .ro ty10 v9 x1.2, .bx ah 27 [ad, ae, af, iV aa.1.2.2.2.1, ag], .ro ty12 ad aa.1.1, .ro tI ae aa.1.2.1, .ro tI af aa.1.2.2.1, .ro ty14 ag aa.1.2.2.2.2, .bx aj 27 [ao, ap, aq, iV aD, ar], .ro ty12 ao aE, .ro tI ap aF, .ro tI aq aG, .ro ty14 ar aH, .sl 3 tI ak bk, .bx aC 27 [au, av, aw, iV ab.1.2.2.2.1, ax], .ro ty12 au ab.1.1, .ro tI av ab.1.2.1, .ro tI aw ab.1.2.2.1, .ro ty14 ax ab.1.2.2.2.2] G)) (O := fun o e a w2 => match o with | q0 => e = .exit 2 ∧ (Fr a 314 [(3, pB al), (4, v9), (5, pB ah), (6, iV aa.2), (9, pB aj), (10, ak), (11, iV aR), (12, pB aC), (13, .bool ab.2)] ∧ Holds M0 w w2 [.bx al 27 [v5, v6, v7, iV x1.1.2.2.2.1, v8], .ro ty12 v5 x1.1.1, .ro tI v6 x1.1.2.1, .ro tI v7 x1.1.2.2.1, .ro ty14 v8 x1.1.2.2.2.2, .ro ty10 v9 x1.2, .bx ah 27 [ad, ae, af, iV aa.1.2.2.2.1, ag], .ro ty12 ad aa.1.1, .ro tI ae aa.1.2.1, .ro tI af aa.1.2.2.1, .ro ty14 ag aa.1.2.2.2.2, .bx aj 27 [ao, ap, aq, iV aD, ar], .ro ty12 ao aE, .ro tI ap aF, .ro tI aq aG, .ro ty14 ar aH, .sl 3 tI ak q0, .bx aC 27 [au, av, aw, iV ab.1.2.2.2.1, ax], .ro ty12 au ab.1.1, .ro tI av ab.1.2.1, .ro tI aw ab.1.2.2.1, .ro ty14 ax ab.1.2.2.2.2] G)) fg ?_ ?_ ?_
     ·exact ⟨fi.s, fh⟩
     ·rintro ⟨cm, bk⟩ _ a iQ aB ⟨ha, bG⟩
      refine S1 ha <| C <| C <| WP_quiet (by kernel_rfl) (by kernel_rfl) <| qM q q q <| qF uf27 fi27_0 nz23 q q q <| l u23 q (R bG.p0) q q q q <| qM q q q <| qM q q q <| O aB fun iR c6 aB => b bG.ctx hR5 c6 u40 i29 q q q q fun iS iT iU fj => qF uf29 fi29_1 nz3 q q q <| lI u3 q (bG.el hR5 c6 fj).s.f q q q <| O aB fun cn da aB => b bG.ctx hR1 da u23 i55 q q q q fun iW iX iY fk => qF uf55 fi55_1 nz53 q q q <| lV u53 q (bG.el hR1 da fk).s.f q q q fun co db => za db.ctx (t := ty2) hR0 u53 q q q <| A q (qt_lss q q) q q <| Qn db fun a ha iZ dc => X <| S1 ha ?_
      refine Yh q aB (fun aB => ?_) (fun aB => ?_)
      ·refine y <| C <| g <| C <| O aB fun i0 bW aB => O aB fun fl bX aB => O aB fun aY bY aB => ?_
       refine WP_join (M := fun a w2 => ∃ cp, Fr a 314 [(3, pB al), (4, v9), (5, pB ah), (6, iV aa.2), (9, pB aj), (10, ak), (11, iV aR), (12, pB aC), (13, .bool ab.2), (15, iV cm), (16, pB cp)] ∧ Holds M0 w w2 [.bx al 27 [v5, v6, v7, iV x1.1.2.2.2.1, v8], .ro ty12 v5 x1.1.1, .ro tI v6 x1.1.2.1, .ro tI v7 x1.1.2.2.1, .ro ty14 v8 x1.1.2.2.2.2, .ro ty10 v9 x1.2, .bx ah 27 [ad, ae, af, iV aa.1.2.2.2.1, ag], .ro ty12 ad aa.1.1, .ro tI ae aa.1.2.1, .ro tI af aa.1.2.2.1, .ro ty14 ag aa.1.2.2.2.2, .bx aj 27 [ao, ap, aq, iV aD, ar], .ro ty12 ao aE, .ro tI ap aF, .ro tI aq aG, .ro ty14 ar aH, .sl 3 tI ak bk, .bx aC 27 [au, av, aw, iV ab.1.2.2.2.1, ax], .ro ty12 au ab.1.1, .ro tI av ab.1.2.1, .ro tI aw ab.1.2.2.1, .ro ty14 ax ab.1.2.2.2.2, .bx cp 57 [iV aY.1, iV aY.2]] G) ?_ ?_
       ·refine WP_ordersT (fun w1 w2 => Chg M0 w1 w2) 14 (by kernel_rfl) fun cq fm => have dd := dc.grow fm; ?_
        have bZ : Ctx cq ([] ++ ([.ro ty2 co cn.2.1, .bx al 27 [v5, v6, v7, iV x1.1.2.2.2.1, v8], .ro ty12 v5 x1.1.1, .ro tI v6 x1.1.2.1, .ro tI v7 x1.1.2.2.1, .ro ty14 v8 x1.1.2.2.2.2, .ro ty10 v9 x1.2, .bx ah 27 [ad, ae, af, iV aa.1.2.2.2.1, ag], .ro ty12 ad aa.1.1, .ro tI ae aa.1.2.1, .ro tI af aa.1.2.2.1, .ro ty14 ag aa.1.2.2.2.2, .bx aj 27 [ao, ap, aq, iV aD, ar], .ro ty12 ao aE, .ro tI ap aF, .ro tI aq aG, .ro ty14 ar aH, .sl 3 tI ak bk, .bx aC 27 [au, av, aw, iV ab.1.2.2.2.1, ax], .ro ty12 au ab.1.1, .ro tI av ab.1.2.1, .ro tI aw ab.1.2.2.1, .ro ty14 ax ab.1.2.2.2.2] ++ G)) := dd.ctx
        have fn : Holds _ cq cq [] ([.ro ty2 co cn.2.1, .bx al 27 [v5, v6, v7, iV x1.1.2.2.2.1, v8], .ro ty12 v5 x1.1.1, .ro tI v6 x1.1.2.1, .ro tI v7 x1.1.2.2.1, .ro ty14 v8 x1.1.2.2.2.2, .ro ty10 v9 x1.2, .bx ah 27 [ad, ae, af, iV aa.1.2.2.2.1, ag], .ro ty12 ad aa.1.1, .ro tI ae aa.1.2.1, .ro tI af aa.1.2.2.1, .ro ty14 ag aa.1.2.2.2.2, .bx aj 27 [ao, ap, aq, iV aD, ar], .ro ty12 ao aE, .ro tI ap aF, .ro tI aq aG, .ro ty14 ar aH, .sl 3 tI ak bk, .bx aC 27 [au, av, aw, iV ab.1.2.2.2.1, ax], .ro ty12 au ab.1.1, .ro tI av ab.1.2.1, .ro tI aw ab.1.2.2.1, .ro ty14 ax ab.1.2.2.2.2] ++ G) := zb (Rs := []) bZ
        refine have Hc := fn; XQ (i := 0) q (by kernel_rfl) q Hc.chg q (fun _ => qt_fieldAddr uf27 fi27_0 nz23 q) q q <| have fp := HasB.bx (HasB.c (HasB.hd)) Hc.ctx; XT (i := 1) q (by kernel_rfl) q Hc.chg q (qs_cell u23 q q (fp.cell (i := 0) q) Hc.chg (Ctx.outB bZ (HasB.c (HasB.hd)))) q q <| XQ (i := 2) q (by kernel_rfl) q Hc.chg q (fun _ => qt_move q) q q <| XQ (i := 3) q (by kernel_rfl) q Hc.chg q (fun _ => qt_move q) q q ?_
        obtain ⟨i1, i2, i4, cr⟩ := Ctx.isAt Hc.ctx hR6 bW
        refine XT (i := 4) q (by kernel_rfl) q Hc.chg q (qs_index bW cr u40 i29 q q) q q <| XQ (i := 5) q (by kernel_rfl) q Hc.chg q (fun _ => qt_fieldAddr uf29 fi29_1 nz3 q) q q ?_
        obtain ⟨i6, fq, i7⟩ := Hc.at hR6 bW cr
        obtain ⟨i8, fr, i9⟩ := AtP.snd fq
        obtain ⟨ja, fs, jb⟩ := AtP.fst fr
        refine XT (i := 6) q (by kernel_rfl) q Hc.chg q (qs_cell u3 q q (AtP.cInt fs) Hc.chg (Ctx.outHas bZ hR6 bW cr)) q q ?_
        obtain ⟨jc, jd, je, ct⟩ := Ctx.isAt Hc.ctx hR2 bX
        refine XT (i := 7) q (by kernel_rfl) q Hc.chg q (qs_index bX ct u23 i55 q q) q q <| XQ (i := 8) q (by kernel_rfl) q Hc.chg q (fun _ => qt_fieldAddr uf55 fi55_1 nz53 q) q q ?_
        obtain ⟨jf, ft, fu⟩ := Hc.at hR2 bX ct
        obtain ⟨jg, fv, fw⟩ := AtP.snd ft
        obtain ⟨jh, fx, fy⟩ := AtP.fst fv
        obtain ⟨fz, fA, fB⟩ := AtP.one (t := ty4) fx q
        refine XT (i := 9) q (by kernel_rfl) q Hc.chg q (qs_cell u53 q q fA Hc.chg (Ctx.outHas bZ hR2 bX ct)) q q ?_
        have Hc : Holds _ _ _ [.ro ty2 fz fl.2.1] ([.ro ty2 co cn.2.1, .bx al 27 [v5, v6, v7, iV x1.1.2.2.2.1, v8], .ro ty12 v5 x1.1.1, .ro tI v6 x1.1.2.1, .ro tI v7 x1.1.2.2.1, .ro ty14 v8 x1.1.2.2.2.2, .ro ty10 v9 x1.2, .bx ah 27 [ad, ae, af, iV aa.1.2.2.2.1, ag], .ro ty12 ad aa.1.1, .ro tI ae aa.1.2.1, .ro tI af aa.1.2.2.1, .ro ty14 ag aa.1.2.2.2.2, .bx aj 27 [ao, ap, aq, iV aD, ar], .ro ty12 ao aE, .ro tI ap aF, .ro tI aq aG, .ro ty14 ar aH, .sl 3 tI ak bk, .bx aC 27 [au, av, aw, iV ab.1.2.2.2.1, ax], .ro ty12 au ab.1.1, .ro tI av ab.1.2.1, .ro tI aw ab.1.2.2.1, .ro ty14 ax ab.1.2.2.2.2] ++ G) := fu _ _ _ _ fB (fun k h => (fun k h => (fun _ h => h) k (fw k h)) k (fy k h))
        refine XQ (i := 10) q (by kernel_rfl) q Hc.chg q (fun _ => qt_move q) q q ?_
        obtain ⟨ji, jj, jk, cu⟩ := Ctx.isAt Hc.ctx hR0 bY
        refine XT (i := 11) q (by kernel_rfl) q Hc.chg q (qs_index bY cu u53 i57 q q) q q ?_
        repeat' first
         | refine XDo 12 q ?_; obtain ⟨fC, cv, fD⟩ := Hc.atN hR0 bY cu; refine XL_load_agg (t := ty2) us57 uo57 i57 cv q q q (fun fE cw => ?_); obtain ⟨fF, fG, fH, fI, rfl, fJ, cx, cy⟩ := cw; obtain ⟨rfl, _⟩ := cx; obtain ⟨rfl, _⟩ := cy; change XL _ _ _ _ _ ((195, .agg #[iV aY.1, iV aY.2]) :: _) _; refine XN Hc.chg ?_
         | refine XDo 12 q ?_; obtain ⟨fC, cv, fD⟩ := Hc.atN hR1 bY cu; refine XL_load_agg (t := ty2) us57 uo57 i57 cv q q q (fun fE cw => ?_); obtain ⟨fF, fG, fH, fI, rfl, fJ, cx, cy⟩ := cw; obtain ⟨rfl, _⟩ := cx; obtain ⟨rfl, _⟩ := cy; change XL _ _ _ _ _ ((195, .agg #[iV aY.1, iV aY.2]) :: _) _; refine XN Hc.chg ?_
         | refine XDo 13 q ?_; refine zq (cs := [iV 0, iV 0]) Hc z57 q q q (fun fK _ Hc => ?_); refine XN Hc.chg ?_
         | have Hc := dd.cN2 [] Hc; refine XDo 14 q ?_; refine zl (cs' := [iV aY.1, iV aY.2]) Hc q il57 q q q q q (fun _ Hc => ?_); refine XE q ?_
         | refine XV [12, 13] (by decide +kernel) q (allc ?_ (allc ?_ alln))
         | refine XV [13] (by decide +kernel) q (allc ?_ alln)
         | refine XV [14] (by decide +kernel) q (allc ?_ alln)
         | refine XV [12] (by decide +kernel) q (allc ?_ alln)
         | refine XC_done (by decide +kernel) (fun a ha => ?_); have Hc := ((((((((((((((((((((((((Hc.q1).q1).p22).p22).p22).p22).p22).p22).p22).p22).p22).p22).p22).p22).p22).p22).p22).p22).p22).p22).p22).p22).p22).p22); exact ⟨fK, ha.s, Hc⟩
       rintro a jl ⟨cp, ha, fL⟩
       refine S1 ha <| WP_tail 17 (by kernel_rfl) (by kernel_rfl) fun jm fM => have aZ := fL.grow fM; qM q q q <| qF uf57 fi57_0 nz3 q q q <| l u3 q (R aZ.p22) q q q q <| qM q q q <| qF uf57 fi57_0 nz3 q q q <| l u3 q (R aZ.p22) q q q q <| O aB fun fN de aB => b aZ.ctx hS16 de u24 i3 q q q q fun jn jo jp fO => lI u3 q (aZ.el hS16 de fO) q q q <| qM q q q <| qM q q q <| O aB fun fP df aB => b aZ.ctx hR5 df u40 i29 q q q q fun jq jr js fQ => qF uf29 fi29_2 nz3 q q q <| lI u3 q (aZ.el hR5 df fQ).s.s.f q q q <| qF uf57 fi57_1 nz3 q q q <| l u3 q (R aZ.p22) q q q q <| A q (qt_mul q q) q q <| A q (qt_sub q q) q q <| SL_nil <| O aB fun jt dg aB => b aZ.ctx hS16 dg u24 i3 q q q q fun ju jv jw fR => have fS := aZ.p16; WL_storeH (fo := 0) (cs' := [iV (IntKind.wrap .i64 (fN - (IntKind.wrap .i64 (fP.2.2.1 * aY.2))))]) fS dg fR (Upd.whole (Blt.int)) q il3 q q q q fun jx fT => WL_nil fun a ha => zi <| X <| S1 ha <| Z <| qM q q q <| A q (qt_add q q) q q <| qA q q q <| WL_nil fun a ha => ?_
       cases aB
       have fU := fT.q22.p21.p21.p21.p21.p21.p5.p21.p21.p21.p21.p21.p21.p21.p21.p21.p21.p21.p21.p21.p21.p21.p21
       exact ⟨q, ha.s, fU⟩
      refine WP_exit fun a ha => ?_
      cases aB
      have fV := dc.q0.p21.p21.p21.p21.p21.p21.p21.p21.p21.p21.p21.p21.p21.p21.p21.p21.p21.p21.p21.p21.p21.p21
      exact zo (⟨exit_ne, q, ha.s, fV⟩)
     rintro _ a jy ⟨rfl, ha, fW⟩
     obtain rfl := L aA
     have fX := fW.p21.p21.p21.p21.p21.p21.p21.p21.p21.p21.p21.p21.p21.p21.p21.p21.p21.p21.p21.p21.p21.p21
     exact zn (X (⟨ha.s, fX⟩))
    refine WP_skip fun a ha => ?_
    obtain rfl := L aA
    have fY := aP.p21.p21.p21.p21.p21.p21.p21.p21.p21.p21.p21.p21.p21.p21.p21.p21.p21.p21.p21.p21.p21.p21
    exact X (⟨ha.s, fY⟩)
   rintro a jz ⟨ha, b0⟩
   refine S1 ha <| C <| rR <| qM q q q <| qM q q q <| O am fun fZ bl am => ?_
   refine Ha (res := fZ) 6 (if_f · bl) (fun bb jA f0 => ?_) ?_
   ·exact have bl := if_t bb bl; qM (J q bb) q q <| qM (J q bb) q q <| O bl fun jB dh bl => b b0.ctx hR5 dh u40 i29 (J q bb) q q q fun jC jD jE f1 => qF uf29 fi29_0 nz3 (J q bb) q q <| lI u3 q (b0.el hR5 dh f1).f (J q bb) q q <| A (J q bb) (qt_eql q q) q q <| f0 6 q q q bl
   refine B <| O am fun f2 aJ am => ?_
   refine WP_join (M := fun a w2 => (Fr a 314 [(3, pB al), (4, v9), (5, pB ah), (6, iV aa.2), (9, pB aj), (10, ak), (11, iV aR), (12, pB aC), (13, .bool ab.2)] ∧ Holds M0 w w2 [.bx al 27 [v5, v6, v7, iV x1.1.2.2.2.1, v8], .ro ty12 v5 x1.1.1, .ro tI v6 x1.1.2.1, .ro tI v7 x1.1.2.2.1, .ro ty14 v8 x1.1.2.2.2.2, .ro ty10 v9 x1.2, .bx ah 27 [ad, ae, af, iV aa.1.2.2.2.1, ag], .ro ty12 ad aa.1.1, .ro tI ae aa.1.2.1, .ro tI af aa.1.2.2.1, .ro ty14 ag aa.1.2.2.2.2, .bx aj 27 [ao, ap, aq, iV aD, ar], .ro ty12 ao aE, .ro tI ap aF, .ro tI aq aG, .ro ty14 ar aH, .sl 3 tI ak f2, .bx aC 27 [au, av, aw, iV ab.1.2.2.2.1, ax], .ro ty12 au ab.1.1, .ro tI av ab.1.2.1, .ro tI aw ab.1.2.2.1, .ro ty14 ax ab.1.2.2.2.2] G)) ?_ ?_
   ·refine Yh q aJ (fun aJ => ?_) (fun aJ => ?_)
    ·refine WP_tail 20 (by kernel_rfl) (by kernel_rfl) fun jF f3 => have aS := b0.grow f3; qM q q q <| qM q q q <| qM q q q <| O aJ fun jG di aJ => b aS.ctx hR5 di u40 i29 q q q q fun jH jI jJ f4 => qF uf29 fi29_1 nz3 q q q <| lI u3 q (aS.el hR5 di f4).s.f q q q <| qM q q q <| qM q q q <| qM q q q <| O aJ fun jK dj aJ => b aS.ctx hR5 dj u40 i29 q q q q fun jL jM jN f5 => qF uf29 fi29_1 nz3 q q q <| lI u3 q (aS.el hR5 dj f5).s.f q q q <| O aJ fun f6 dk aJ => b aS.ctx hS16 dk u24 i3 q q q q fun jO jP jQ f7 => lI u3 q (aS.el hS16 dk f7) q q q <| qM q q q <| qM q q q <| O aJ fun f8 dl aJ => b aS.ctx hR5 dl u40 i29 q q q q fun jR jS jT f9 => qF uf29 fi29_2 nz3 q q q <| lI u3 q (aS.el hR5 dl f9).s.s.f q q q <| A q (qt_add q q) q q <| SL_nil <| O aJ fun jU dm aJ => b aS.ctx hS16 dm u24 i3 q q q q fun jV jW jX ga => have gb := aS.p16; WL_storeH (fo := 0) (cs' := [iV (IntKind.wrap .i64 (f6 + f8.2.2.1))]) gb dm ga (Upd.whole (Blt.int)) q il3 q q q q fun jY gc => ?_
     refine WL_nil fun a ha => ?_
     cases aJ
     have gd := gc.p21.p21.p21.p21.p21.p5.p21.p21.p21.p21.p21.p21.p21.p21.p21.p21.p21.p21.p21.p21.p21.p21
     exact X (⟨ha.s, gd⟩)
    refine WP_skip fun a ha => ?_
    obtain rfl := L aJ
    have ge := b0.p21.p21.p21.p21.p21.p21.p21.p21.p21.p21.p21.p21.p21.p21.p21.p21.p21.p21.p21.p21.p21.p21
    exact X (⟨ha.s, ge⟩)
   rintro a jZ ⟨ha, b4⟩
   refine S1 ha <| C <| rR <| qM q q q <| qM q q q <| O am fun gf bm am => ?_
   refine Ha (res := gf) 6 (if_f · bm) (fun bc j0 gg => ?_) ?_
   ·exact have bm := if_t bc bm; qM (J q bc) q q <| qM (J q bc) q q <| O bm fun j1 dn bm => b b4.ctx hR5 dn u40 i29 (J q bc) q q q fun j2 j4 j5 gh => qF uf29 fi29_0 nz3 (J q bc) q q <| lI u3 q (b4.el hR5 dn gh).f (J q bc) q q <| A (J q bc) (qt_eql q q) q q <| gg 6 q q q bm
   refine B <| O am fun gi aK am => ?_
   refine WP_join (M := fun a w2 => (Fr a 314 [(3, pB al), (4, v9), (5, pB ah), (6, iV aa.2), (9, pB aj), (10, ak), (11, iV aR), (12, pB aC)] ∧ Holds M0 w w2 [.bx al 27 [v5, v6, v7, iV x1.1.2.2.2.1, v8], .ro ty12 v5 x1.1.1, .ro tI v6 x1.1.2.1, .ro tI v7 x1.1.2.2.1, .ro ty14 v8 x1.1.2.2.2.2, .ro ty10 v9 x1.2, .bx ah 27 [ad, ae, af, iV aa.1.2.2.2.1, ag], .ro ty12 ad aa.1.1, .ro tI ae aa.1.2.1, .ro tI af aa.1.2.2.1, .ro ty14 ag aa.1.2.2.2.2, .bx aj 27 [ao, ap, aq, iV aD, ar], .ro ty12 ao aE, .ro tI ap aF, .ro tI aq aG, .ro ty14 ar aH, .sl 3 tI ak gi, .bx aC 27 [au, av, aw, iV ab.1.2.2.2.1, ax], .ro ty12 au ab.1.1, .ro tI av ab.1.2.1, .ro tI aw ab.1.2.2.1, .ro ty14 ax ab.1.2.2.2.2] G)) ?_ ?_
   ·refine Yh q aK (fun aK => ?_) (fun aK => ?_)
    ·refine WP_tail 15 (by kernel_rfl) (by kernel_rfl) fun j6 gj => have a7 := b4.grow gj; qM q q q <| qM q q q <| qM q q q <| O aK fun j7 dq aK => b a7.ctx hR5 dq u40 i29 q q q q fun j8 j9 ka gk => qF uf29 fi29_2 nz3 q q q <| lI u3 q (a7.el hR5 dq gk).s.s.f q q q <| qM q q q <| qM q q q <| qM q q q <| O aK fun kb dr aK => b a7.ctx hR5 dr u40 i29 q q q q fun kc kd ke gl => qF uf29 fi29_2 nz3 q q q <| lI u3 q (a7.el hR5 dr gl).s.s.f q q q <| O aK fun gm ds aK => b a7.ctx hS16 ds u24 i3 q q q q fun kf kg kh gn => lI u3 q (a7.el hS16 ds gn) q q q <| A q (qt_sub q q) q q <| SL_nil <| O aK fun ki dt aK => b a7.ctx hS16 dt u24 i3 q q q q fun kj kk kl go => have gp := a7.p16; WL_storeH (fo := 0) (cs' := [iV (IntKind.wrap .i64 (gm - 1))]) gp dt go (Upd.whole (Blt.int)) q il3 q q q q fun km gq => WL_nil fun a ha => ?_
     cases aK
     have gr := gq.p21.p21.p21.p21.p21.p5.p21.p21.p21.p21.p21.p21.p21.p21.p21.p21.p21.p21.p21.p21.p21.p21
     exact X (⟨ha.s, gr⟩)
    refine WP_skip fun a ha => ?_
    obtain rfl := L aK
    have gs := b4.p21.p21.p21.p21.p21.p21.p21.p21.p21.p21.p21.p21.p21.p21.p21.p21.p21.p21.p21.p21.p21.p21
    exact X (⟨ha.s, gs⟩)
   rintro a kn ⟨ha, du⟩
   refine S1 ha <| Z <| lA (R du.p17) us27 uo27 il27 q q q <| have bH := du.p11; zl (cs' := [au, av, aw, iV ab.1.2.2.2.1, ax]) bH q il27 q (T (bH.ctx.sliceOne hR18) (T (bH.ctx.sliceOne hR19) (T (bH.ctx.sliceOne (HasRo.has (HasRo.c hO19))) (T q (T (bH.ctx.sliceOne (HasRo.has (HasRo.c (HasRo.c hO19)))) q))))) q q q fun ko gt => WL_nil fun a ha => zi <| X <| S1 ha <| Z <| qM q q q <| A q (qt_add q q) q q <| qA q q q <| WL_nil fun a ha => ?_
   cases am
   have gu := gt.q12.q12.q12.q12.q13.p12.p16.p16.p16.p16.p5.p16.p16.p16.p16.p16.p16.p16.p16.p16.p16.p16
   exact ⟨q, au, av, aw, ax, ha.s, gu⟩
  refine WP_exit fun a ha => ?_
  cases am
  have gv := ci.p16.p16.p16.p16.p16.p16.p16.p16.p16.p16.p16.p16.p16.p16.p16.p16.p16
  exact zo (⟨exit_ne, q, ao, ap, aq, ar, ha.s, gv⟩)
 intro e a kp dv
 rcases bD with bD | bD
 ·obtain ⟨bn, bo, bp, bq, br, bs⟩ := bD
  obtain ⟨rfl, aL, aM, aN, aO, ha, dw⟩ := dv
  refine zn <| X <| S1 ha <| rR <| qM q q q <| za dw.ctx (t := ty10) hR5 u40 q q q <| A q (qt_quo q q (by decide)) q q <| qA q q q <| B <| C <| O h fun kq cz h => O h fun az dx h => ?_
  refine WP_join (M := fun a w2 => ∃ bI a0 a1 a2 a3, Fr a 314 [(4, v9), (5, pB ah), (6, iV aa.2), (9, pB aj), (10, ak), (17, iV (IntKind.wrap .i64 (Int.tdiv (List.length x1.2 : Int) 2))), (18, pB bI), (19, iV az.2)] ∧ Holds M0 w w2 [.ro ty10 v9 x1.2, .bx ah 27 [ad, ae, af, iV aa.1.2.2.2.1, ag], .ro ty12 ad aa.1.1, .ro tI ae aa.1.2.1, .ro tI af aa.1.2.2.1, .ro ty14 ag aa.1.2.2.2.2, .bx aj 27 [aL, aM, aN, iV bq, aO], .ro ty12 aL bn, .ro tI aM bo, .ro tI aN bp, .ro ty14 aO br, .sl 3 tI ak bs, .bx bI 27 [a0, a1, a2, iV az.1.2.2.2.1, a3], .ro ty12 a0 az.1.1, .ro tI a1 az.1.2.1, .ro tI a2 az.1.2.2.1, .ro ty14 a3 az.1.2.2.2.2] G) ?_ ?_
  ·refine WP_ordersT (fun w1 w2 => Chg M0 w1 w2) 10 (by kernel_rfl) fun cA gw => have dy := dw.grow gw; ?_
   have dz : Ctx cA ([] ++ ([.bx al 27 [v5, v6, v7, iV x1.1.2.2.2.1, v8], .ro ty12 v5 x1.1.1, .ro tI v6 x1.1.2.1, .ro tI v7 x1.1.2.2.1, .ro ty14 v8 x1.1.2.2.2.2, .ro ty10 v9 x1.2, .bx ah 27 [ad, ae, af, iV aa.1.2.2.2.1, ag], .ro ty12 ad aa.1.1, .ro tI ae aa.1.2.1, .ro tI af aa.1.2.2.1, .ro ty14 ag aa.1.2.2.2.2, .bx aj 27 [aL, aM, aN, iV bq, aO], .ro ty12 aL bn, .ro tI aM bo, .ro tI aN bp, .ro ty14 aO br, .sl 3 tI ak bs] ++ G)) := dy.ctx
   have gx : Holds _ cA cA [] ([.bx al 27 [v5, v6, v7, iV x1.1.2.2.2.1, v8], .ro ty12 v5 x1.1.1, .ro tI v6 x1.1.2.1, .ro tI v7 x1.1.2.2.1, .ro ty14 v8 x1.1.2.2.2.2, .ro ty10 v9 x1.2, .bx ah 27 [ad, ae, af, iV aa.1.2.2.2.1, ag], .ro ty12 ad aa.1.1, .ro tI ae aa.1.2.1, .ro tI af aa.1.2.2.1, .ro ty14 ag aa.1.2.2.2.2, .bx aj 27 [aL, aM, aN, iV bq, aO], .ro ty12 aL bn, .ro tI aM bo, .ro tI aN bp, .ro ty14 aO br, .sl 3 tI ak bs] ++ G) := zb (Rs := []) dz
   refine have Hc := gx; have gy := HasB.bx (HasB.hd) Hc.ctx; XT (i := 0) q (by kernel_rfl) q Hc.chg q (qs_agg (cs := [v5, v6, v7, iV x1.1.2.2.2.1, v8]) us27 uo27 il27 q (fun j z hj => by rw [Nat.zero_add]; exact gy.cell hj) Hc.chg (Ctx.outB dz (HasB.hd))) q q ?_
   change XC _ _ _ _ _ _ _ _ ((274, .agg #[v5, v6, v7, iV x1.1.2.2.2.1, v8]) :: _) _
   refine XQ (i := 1) q (by kernel_rfl) q Hc.chg q (fun _ => qt_move q) q q <| XQ (i := 2) q (by kernel_rfl) q Hc.chg q (fun _ => qt_move q) q q <| XT (i := 3) q (by kernel_rfl) q Hc.chg q (qs_slice Hc.ctx hR5 cz u40 i29 q ⟨_, q⟩ q) q q ?_
   repeat' first
    | refine XDo 4 q <| zd q q c18 (w_impl_HouseRun hGl.c.c.c.c.c.c.c.c.c.c.c.c.c.c.c.c.c hR1 hR2 hR3 hR4 (Has.sub hR5 cz) dx Hc.ctx) q ?_; rintro _ _ ⟨b5, gz, gA, b6, b7, b8, gB, gC, rfl, HK⟩; refine ⟨_, q, ?_⟩; have Hc := Hc.cN4 [] HK; have Hc := Hc.freezeD; have Hc := Hc.p1; have Hc := Hc.freeze; have Hc := Hc.p2; have Hc := Hc.freeze; have Hc := Hc.p3; have Hc := Hc.freezeD; refine XN Hc.chg <| XQ (i := 5) q (by kernel_rfl) q Hc.chg q (fun _ => qt_move q) q q <| XQ (i := 6) q (by kernel_rfl) q Hc.chg q (fun _ => zv q q) q q <| XQ (i := 7) q (by kernel_rfl) q Hc.chg q (fun _ => zv q q) q q ?_
    | refine XDo 4 q <| zd q q c18 (w_impl_HouseRun hGl.c.c.c.c.c.c.c.c.c.c.c.c.c.c.c.c.c.c hR2 hR3 hR4 hR5 (Has.sub hR6 cz) dx Hc.ctx) q ?_; rintro _ _ ⟨b5, gz, gA, b6, b7, b8, gB, gC, rfl, HK⟩; refine ⟨_, q, ?_⟩; have Hc := Hc.cN4 [] HK; have Hc := Hc.freezeD; have Hc := Hc.p1; have Hc := Hc.freeze; have Hc := Hc.p2; have Hc := Hc.freeze; have Hc := Hc.p3; have Hc := Hc.freezeD; refine XN Hc.chg <| XQ (i := 5) q (by kernel_rfl) q Hc.chg q (fun _ => qt_move q) q q <| XQ (i := 6) q (by kernel_rfl) q Hc.chg q (fun _ => zv q q) q q <| XQ (i := 7) q (by kernel_rfl) q Hc.chg q (fun _ => zv q q) q q ?_
    | refine XDo 8 q ?_; refine zq (cs := [nS, nS, nS, iV 0, nS]) Hc z27 q q q (fun gD _ Hc => ?_); refine XN Hc.chg ?_
    | refine XDo 9 q ?_; refine zl (cs' := [b5, b6, b7, iV az.1.2.2.2.1, b8]) Hc q il27 q (T (Hc.ctx.sliceOne hR4) (T (Hc.ctx.sliceOne hR3) (T (Hc.ctx.sliceOne hR2) (T q (T (Hc.ctx.sliceOne hR1) q))))) q q q (fun _ Hc => ?_); refine XN Hc.chg ?_
    | refine XDo 9 q ?_; have Hc := Hc.p4; refine zl (cs' := [b5, b6, b7, iV az.1.2.2.2.1, b8]) Hc q il27 q (T (Hc.ctx.sliceOne hR4) (T (Hc.ctx.sliceOne hR3) (T (Hc.ctx.sliceOne hR2) (T q (T (Hc.ctx.sliceOne hR1) q))))) q q q (fun _ Hc => ?_); refine XN Hc.chg ?_
    | have Hc := dy.cN5 [] Hc; refine XDo 10 q <| qA q q q <| XE q ?_
    | refine XV [4, 8] (by decide +kernel) q (allc ?_ (allc ?_ alln))
    | refine XV [8] (by decide +kernel) q (allc ?_ alln)
    | refine XV [9] (by decide +kernel) q (allc ?_ alln)
    | refine XV [10] (by decide +kernel) q (allc ?_ alln)
    | refine XV [4] (by decide +kernel) q (allc ?_ alln)
    | refine XC_done (by decide +kernel) (fun a ha => ?_); have Hc := ((((((((((((((((((((((Hc.q5).q5).q5).q5).q5).p1).p2).p3).p4).p4).p16).p16).p16).p16).p16).p16).p16).p16).p16).p16).p16).p16); exact ⟨gD, b5, b6, b7, b8, ha.s, Hc⟩
  rintro a kr ⟨bI, a0, a1, a2, a3, ha, gE⟩
  refine S1 ha <| C <| O h fun ks cB h => O h fun a4 dA h => ?_
  refine WP_join (M := fun a w2 => ∃ cC cD cE cF cG, Fr a 314 [(5, pB ah), (6, iV aa.2), (9, pB aj), (10, ak), (19, iV az.2), (20, pB cC), (21, iV a4.2)] ∧ Holds M0 w w2 [.bx ah 27 [ad, ae, af, iV aa.1.2.2.2.1, ag], .ro ty12 ad aa.1.1, .ro tI ae aa.1.2.1, .ro tI af aa.1.2.2.1, .ro ty14 ag aa.1.2.2.2.2, .bx aj 27 [aL, aM, aN, iV bq, aO], .ro ty12 aL bn, .ro tI aM bo, .ro tI aN bp, .ro ty14 aO br, .sl 3 tI ak bs, .bx cC 27 [cD, cE, cF, iV a4.1.2.2.2.1, cG], .ro ty12 cD a4.1.1, .ro tI cE a4.1.2.1, .ro tI cF a4.1.2.2.1, .ro ty14 cG a4.1.2.2.2.2] G) ?_ ?_
  ·refine WP_ordersT (fun w1 w2 => Chg M0 w1 w2) 10 (by kernel_rfl) fun cH gF => have dB := gE.grow gF; ?_
   have dC : Ctx cH ([] ++ ([.ro ty10 v9 x1.2, .bx ah 27 [ad, ae, af, iV aa.1.2.2.2.1, ag], .ro ty12 ad aa.1.1, .ro tI ae aa.1.2.1, .ro tI af aa.1.2.2.1, .ro ty14 ag aa.1.2.2.2.2, .bx aj 27 [aL, aM, aN, iV bq, aO], .ro ty12 aL bn, .ro tI aM bo, .ro tI aN bp, .ro ty14 aO br, .sl 3 tI ak bs, .bx bI 27 [a0, a1, a2, iV az.1.2.2.2.1, a3], .ro ty12 a0 az.1.1, .ro tI a1 az.1.2.1, .ro tI a2 az.1.2.2.1, .ro ty14 a3 az.1.2.2.2.2] ++ G)) := dB.ctx
   have gG : Holds _ cH cH [] ([.ro ty10 v9 x1.2, .bx ah 27 [ad, ae, af, iV aa.1.2.2.2.1, ag], .ro ty12 ad aa.1.1, .ro tI ae aa.1.2.1, .ro tI af aa.1.2.2.1, .ro ty14 ag aa.1.2.2.2.2, .bx aj 27 [aL, aM, aN, iV bq, aO], .ro ty12 aL bn, .ro tI aM bo, .ro tI aN bp, .ro ty14 aO br, .sl 3 tI ak bs, .bx bI 27 [a0, a1, a2, iV az.1.2.2.2.1, a3], .ro ty12 a0 az.1.1, .ro tI a1 az.1.2.1, .ro tI a2 az.1.2.2.1, .ro ty14 a3 az.1.2.2.2.2] ++ G) := zb (Rs := []) dC
   refine have Hc := gG; have gH := HasB.bx (HasB.c (HasB.c (HasB.c (HasB.c (HasB.c (HasB.c (HasB.c (HasB.c (HasB.c (HasB.c (HasB.c (HasB.c (HasB.hd))))))))))))) Hc.ctx; XT (i := 0) q (by kernel_rfl) q Hc.chg q (qs_agg (cs := [a0, a1, a2, iV az.1.2.2.2.1, a3]) us27 uo27 il27 q (fun j z hj => by rw [Nat.zero_add]; exact gH.cell hj) Hc.chg (Ctx.outB dC (HasB.c (HasB.c (HasB.c (HasB.c (HasB.c (HasB.c (HasB.c (HasB.c (HasB.c (HasB.c (HasB.c (HasB.c (HasB.hd))))))))))))))) q q ?_
   change XC _ _ _ _ _ _ _ _ ((282, .agg #[a0, a1, a2, iV az.1.2.2.2.1, a3]) :: _) _
   refine XQ (i := 1) q (by kernel_rfl) q Hc.chg q (fun _ => qt_move q) q q <| XQ (i := 2) q (by kernel_rfl) q Hc.chg q (fun _ => qt_move q) q q <| XT (i := 3) q (by kernel_rfl) q Hc.chg q (qs_slice Hc.ctx hR0 cB u40 i29 ⟨_, q⟩ q q) q q ?_
   repeat' first
    | refine XDo 4 q <| zd q q c18 (w_impl_HouseRun hGl.c.c.c.c.c.c.c.c.c.c.c.c.c.c.c.c.c hR13 hR14 hR15 hR16 (Has.sub hR0 cB) dA Hc.ctx) q ?_; rintro _ _ ⟨b9, gI, gJ, ca, cb, cc, gK, gL, rfl, HK⟩; refine ⟨_, q, ?_⟩; have Hc := Hc.cN4 [] HK; have Hc := Hc.freezeD; have Hc := Hc.p1; have Hc := Hc.freeze; have Hc := Hc.p2; have Hc := Hc.freeze; have Hc := Hc.p3; have Hc := Hc.freezeD; refine XN Hc.chg <| XQ (i := 5) q (by kernel_rfl) q Hc.chg q (fun _ => qt_move q) q q <| XQ (i := 6) q (by kernel_rfl) q Hc.chg q (fun _ => zv q q) q q <| XQ (i := 7) q (by kernel_rfl) q Hc.chg q (fun _ => zv q q) q q ?_
    | refine XDo 4 q <| zd q q c18 (w_impl_HouseRun hGl.c.c.c.c.c.c.c.c.c.c.c.c.c.c.c.c.c.c hR14 hR15 hR16 hR17 (Has.sub hR1 cB) dA Hc.ctx) q ?_; rintro _ _ ⟨b9, gI, gJ, ca, cb, cc, gK, gL, rfl, HK⟩; refine ⟨_, q, ?_⟩; have Hc := Hc.cN4 [] HK; have Hc := Hc.freezeD; have Hc := Hc.p1; have Hc := Hc.freeze; have Hc := Hc.p2; have Hc := Hc.freeze; have Hc := Hc.p3; have Hc := Hc.freezeD; refine XN Hc.chg <| XQ (i := 5) q (by kernel_rfl) q Hc.chg q (fun _ => qt_move q) q q <| XQ (i := 6) q (by kernel_rfl) q Hc.chg q (fun _ => zv q q) q q <| XQ (i := 7) q (by kernel_rfl) q Hc.chg q (fun _ => zv q q) q q ?_
    | refine XDo 8 q ?_; refine zq (cs := [nS, nS, nS, iV 0, nS]) Hc z27 q q q (fun gM _ Hc => ?_); refine XN Hc.chg ?_
    | refine XDo 9 q ?_; refine zl (cs' := [b9, ca, cb, iV a4.1.2.2.2.1, cc]) Hc q il27 q (T (Hc.ctx.sliceOne hR4) (T (Hc.ctx.sliceOne hR3) (T (Hc.ctx.sliceOne hR2) (T q (T (Hc.ctx.sliceOne hR1) q))))) q q q (fun _ Hc => ?_); refine XN Hc.chg ?_
    | refine XDo 9 q ?_; have Hc := Hc.p4; refine zl (cs' := [b9, ca, cb, iV a4.1.2.2.2.1, cc]) Hc q il27 q (T (Hc.ctx.sliceOne hR4) (T (Hc.ctx.sliceOne hR3) (T (Hc.ctx.sliceOne hR2) (T q (T (Hc.ctx.sliceOne hR1) q))))) q q q (fun _ Hc => ?_); refine XN Hc.chg ?_
    | have Hc := dB.cN5 [] Hc; refine XDo 10 q <| qA q q q <| XE q ?_
    | refine XV [4, 8] (by decide +kernel) q (allc ?_ (allc ?_ alln))
    | refine XV [8] (by decide +kernel) q (allc ?_ alln)
    | refine XV [9] (by decide +kernel) q (allc ?_ alln)
    | refine XV [10] (by decide +kernel) q (allc ?_ alln)
    | refine XV [4] (by decide +kernel) q (allc ?_ alln)
    | refine XC_done (by decide +kernel) (fun a ha => ?_); have Hc := ((((((((((((((((((((((Hc.q5).q16).q16).q16).q16).q16).p1).p2).p3).p4).p4).p15).p15).p15).p15).p15).p15).p15).p15).p15).p15).p15); exact ⟨gM, b9, ca, cb, cc, ha.s, Hc⟩
  rintro a kt ⟨cC, cD, cE, cF, cG, ha, aQ⟩
  refine S1 ha <| C <| zk <| lA (R aQ.p0) us27 uo27 il27 q q q <| O h fun ku gN h => Qc q q c10 aQ (fun _ => w_impl_HouseValid hR1 hR2 hR3 hR4 gN) q <| qM q q q <| O h fun gO bt h => ?_
  refine Ga (res := gO) 3 (if_f · bt) (fun cd kv gP => ?_) ?_
  ·exact have bt := if_t cd bt; lA (R aQ.p5) us27 uo27 il27 (J q cd) q q <| lA (R aQ.p0) us27 uo27 il27 (J q cd) q q <| O bt fun kw gQ bt => Qc (J q cd) q c9 aQ (fun _ => w_laws_sameHouse hR6 hR7 hR8 hR9 hR1 hR2 hR3 hR4 gQ) q <| gP 3 q q q bt
  refine qM q q q <| O h fun dD bu h => ?_
  refine Ga (res := dD) 3 (if_f · bu) (fun ce kx gR => ?_) ?_
  ·exact have bu := if_t ce bu; lA (R aQ.p11) us27 uo27 il27 (J q ce) q q <| lA (R aQ.p0) us27 uo27 il27 (J q ce) q q <| O bu fun ky gS bu => Qc (J q ce) q c9 aQ (fun _ => w_laws_sameHouse hR12 hR13 hR14 hR15 hR1 hR2 hR3 hR4 gS) q <| gR 3 q q q bu
  refine qM q q q ?_
  refine Ga (res := (dD && ((IntKind.wrap .i64 (az.2 + a4.2)) == aa.2))) 5 an (fun bv kz gT => ?_) ?_
  ·exact qM (J q bv) q q <| qM (J q bv) q q <| A (J q bv) (qt_add q q) q q <| qM (J q bv) q q <| A (J q bv) (qt_eql q q) q q <| gT 5 q q q (ai bv)
  refine qM q q q <| O h fun gU bw h => ?_
  refine Ga (res := gU) 4 (if_f · bw) (fun bJ kA gV => ?_) ?_
  ·exact have bw := if_t bJ bw; qM (J q bJ) q q <| qF uf27 fi27_2 nz24 (J q bJ) q q <| l u24 q (R aQ.p0) q (J q bJ) q q <| O bw fun kB gW bw => Qc (J q bJ) q c19 aQ (fun _ => w_laws_sameInts hS10 hR3 gW) q <| gV 4 q q q bw
  refine qA q q q <| Qn aQ fun a ha kC gX => X <| S1 ha <| W fun a ha => ?_
  obtain rfl := L h
  have gY := gX.q0.q0.q0.q0.q0.q0.q0.q0.q0.q0.q0.q0.q0.q0.q0.q0
  exact ret1 q ha q ⟨q, gY⟩
 obtain ⟨kD, kE, kF, kG, kH, kI, kJ⟩ := bD
 obtain ⟨rfl, ha, gZ⟩ := dv
 obtain rfl := L h
 exact zj (m (ret1 q ha q ⟨q, gZ⟩))
end Go.Proofs.YtpabogkcmbkffaaGreatDoor
