/- The walks: each Go function computes its shallow function. Printed by a program. -/
import Derived.Test.YtkhnponakhabdaaGreatDoorShX7Db
import Derived.Test.YtkhnponakhabdaaGreatDoorJText
set_option linter.unusedVariables false
set_option maxRecDepth 10000
set_option maxHeartbeats 8000000
namespace Go.Proofs.YtkhnponakhabdaaGreatDoor
open Go Go.RowKit
theorem w_laws_FnReadJournal (w : World) (G : List Res) (hGl : Glob G) (hGm : GlobM G) (hGp : GlobP G) (vp0 : Value) (p0 : List Int) (hp0 : HasRo G (.int .u8) vp0 p0) (vp1 : Value) (p1 : List Int) (hp1 : HasRo G (.int .u8) vp1 p1) (r : Bool) (h : laws_FnReadJournalS p0 p1 = some r) (H : Ctx w G) : Calls Tryz.prog 5 #[vp0, vp1] w fun e w' => e = .returned (.bool r) ∧ Holds M0 w w' [] G := by
 refine F0 169 H Tryz.func5 q fun H => ?_
 refine rR <| qa q <| B <| C <| rR <| qm q <| qz H.ctx (hp0.has) u22 q <| qi (qt_gtr q q) q <| qm q ?_
 refine Ho (res := ((decide ((List.length p0 : Int) > 1048576)) || (decide ((List.length p1 : Int) > 1048576)))) 3 os (fun a8 K2 ca => ?_) ?_
 ·exact jm a8 q <| jz H.ctx (hp1.has) u22 a8 q <| ji (qt_gtr q q) a8 q <| ca 3 q q q (oi a8)
 refine B ?_
 refine Yh q h (fun h => ?_) (fun h => ?_)
 ·cases h
  exact rR <| qa q <| B <| W fun a ha => m (ret1 q ha q ⟨q, H⟩)
 refine y <| C <| zk <| qm q <| O h fun x4 cb h => qc q c18 H (fun _ => w_spec_DrawReadJournal cb (hp0)) <| qa q <| Qn H fun a ha w6 H8 => X <| S1 ha <| rR <| qm q <| O h fun ah cc h => U1 q c19 (w_impl_ReadJournal cc hGl hGm H8.ctx) fun aj d7 cd => have ce := H8.cN1 [] cd; have bJ := ce.freeze; qm q <| qi (zv q q) q <| qi (zv q q) q <| qa q <| qa q <| rN <| qm q <| O h fun cf cg h => U1 q c20 (w_spec_ReadJournal cg bJ.ctx) fun d8 d9 ch => have ci := bJ.cN1 [] ch; have bK := ci.freeze; qm q <| qi (zv q q) q <| qi (zv q q) q <| qa q <| qa q <| B <| C <| C <| zk <| qm q <| qm q <| O h fun cj ck h => qc q c21 bK (fun _ => w_laws_sameDeeds ck hR1 hR0) <| qi (qt_not q) q <| qm q ?_
 refine Go (res := ((!cj) || (ah.2 != cf.2))) 3 os (fun a9 ea cl => ?_) ?_
 ·exact jm a9 q <| jm a9 q <| ji (qt_neq q q) a9 q <| cl 3 q q q (oi a9)
 refine Qn bK fun a ha eb bL => X <| S1 ha ?_
 refine Yh q h (fun h => ?_) (fun h => ?_)
 ·cases h
  exact rR <| qa q <| B <| W fun a ha => m (ret1 q ha q ⟨q, bL.q0.q0⟩)
 refine y <| C <| rR <| qa q <| B <| g <| O h fun bm cn h => ?_
 refine fun ec cp => zp (I := fun bn a w2 => (Fr a 169 [(1, vp1), (5, strV x4), (6, aj), (7, iV ah.2), (10, iV bn)] ∧ Holds M0 w w2 [.ro ty10 aj ah.1] G)) (O := fun o e a w2 => match o with | .inl _ => e = .exit 0 ∧ (Fr a 169 [(1, vp1), (5, strV x4), (6, aj), (7, iV ah.2)] ∧ Holds M0 w w2 [.ro ty10 aj ah.1] G) | .inr q0 => e = .ret ∧ (Fr a 169 [(4, .bool q0)] ∧ Holds M0 w w2 [] G)) cn ?_ ?_ ?_
 ·exact ⟨cp.s, bL.q0⟩
 ·rintro bn _ a ed au ⟨ha, bo⟩
  refine S1 ha <| C <| rR <| qm q <| qm q <| qi (qt_slen u9 q) q <| qi (qt_leq q q) q <| B ?_
  refine Yh q au (fun au => ?_) (fun au => ?_)
  ·refine y <| C <| g <| rR <| qm q <| qm q <| O au fun ee cq au => qi (qt_ssub u9 q ⟨_, q⟩ q cq) q <| O au fun cr ct au => U1 q c19 (w_impl_ReadJournal ct hGl.c hGm.c bo.ctx) fun ef eg cu => have cv := bo.cN1 [] cu; have aE := cv.freeze; qm q <| qi (zv q q) q <| qi (zv q q) q <| qa q <| qa q <| B <| C <| zk <| qm q <| qz aE.ctx hR0 u44 q <| qm q <| qz aE.ctx hR1 u44 q <| qi (qt_gtr q q) q <| qm q <| O au fun bM az au => ?_
   refine Go (res := bM) 10 (if_t · az) (fun av eh cw => ?_) ?_
   ·exact have az := if_f av az; jm av q <| jm av q <| jm av q <| jz aE.ctx hR0 u44 av q <| jm av q <| jz aE.ctx hR1 u44 av q <| ji (qt_min q q) av q <| O az fun ei bN az => XL_sliceH aE.ctx hR1 bN u44 i52 q ⟨_, q⟩ (J q av) q q <| O az fun ej cx az => jc av q c21 aE (fun _ => w_laws_sameDeeds cx hR0 (Has.sub hR1 bN)) <| ji (qt_not q) av q <| cw 10 q q q az
   refine qm q ?_
   refine Go (res := (bM || (decide (cr.2 > bn)))) 3 os (fun ba ek cy => ?_) ?_
   ·exact jm ba q <| jm ba q <| ji (qt_gtr q q) ba q <| cy 3 q q q (oi ba)
   refine Qn aE fun a ha em bO => X <| S1 ha ?_
   refine Yh q au (fun au => ?_) (fun au => ?_)
   ·cases au
    exact rR <| qa q <| B <| W fun a ha => zj (m (⟨ret_ne, q, ha.s, bO.q0.q0⟩))
   cases au
   exact WP_skip fun a ha => zi <| X <| S1 ha <| Z <| qm q <| qi (qt_add q q) q <| qa q <| WL_nil fun a ha => ⟨q, ha.s, bO.q0⟩
  cases au
  exact WP_exit fun a ha => zo (⟨exit_ne, q, ha.s, bo⟩)
 intro e a en bP
 rcases bm with bm | bm
 ·obtain ⟨rfl, ha, bQ⟩ := bP
  refine zn <| X <| S1 ha <| rR <| qm q <| O h fun aa cB h => U5 q c22 (w_spec_DrawHouseRun cB (hp1.c) bQ.ctx) fun ab ad ae af ak eo cC => have cD := bQ.cN5 [] cC; qm q <| qi (zv q q) q <| qi (zv q q) q <| zq (cs := [nS, nS, nS, iV 0, nS]) cD.p4.freeze z27 q q q fun al ep aX => zl (cs' := [ab, ad, ae, iV aa.1.2.2.2.1, af]) aX q il27 q (T (aX.ctx.sliceOne hR2) (T (aX.ctx.sliceOne hR3) (T (aX.ctx.sliceOne hR4) (T q (T (aX.ctx.sliceOne hR5) q))))) q q q fun er bR => qa q <| rN <| eA bR.p0 us27 uo27 il27 q <| zq (cs := [nS, nS, nS, iV 0, nS]) bR z27 q q q fun am es aY => zl (cs' := [ab, ad, ae, iV aa.1.2.2.2.1, af]) aY q il27 q (T (aY.ctx.sliceOne hR3) (T (aY.ctx.sliceOne hR4) (T (aY.ctx.sliceOne hR5) (T q (T (aY.ctx.sliceOne hR6) q))))) q q q fun bb cG => rN <| qa q <| B <| C <| rR <| qa q <| B <| O h fun cH bp h => ?_
  obtain ⟨bS, bq, br, bs, bt, bu⟩ := cH
  refine WP_join (M := fun a w2 => ∃ aF aG aH aI, Fr a 169 [(5, strV x4), (6, aj), (7, iV ah.2), (13, pB al), (14, ak), (15, pB am), (16, iV bS)] ∧ Holds M0 w w2 [.ro ty10 aj ah.1, .bx al 27 [ab, ad, ae, iV aa.1.2.2.2.1, af], .ro ty12 ab aa.1.1, .ro tI ad aa.1.2.1, .ro tI ae aa.1.2.2.1, .ro ty14 af aa.1.2.2.2.2, .ro ty10 ak aa.2, .bx am 27 [aF, aG, aH, iV bt, aI], .ro ty12 aF bq, .ro tI aG br, .ro tI aH bs, .ro ty14 aI bu] G) ?_ ?_
  ·refine g <| O bp fun cI cJ bp => ?_
   have cK : Holds _ w bb [.ro ty12 ab aa.1.1, .bx am 27 [ab, ad, ae, iV aa.1.2.2.2.1, af], .bx al 27 [ab, ad, ae, iV aa.1.2.2.2.1, af], .ro ty10 ak aa.2, .ro ty12 ab aa.1.1, .ro tI ad aa.1.2.1, .ro tI ae aa.1.2.2.1, .ro ty14 af aa.1.2.2.2.2, .ro ty10 aj ah.1] G := cG.dup hO3
   have cL : Holds _ w bb [.ro tI ad aa.1.2.1, .ro ty12 ab aa.1.1, .bx am 27 [ab, ad, ae, iV aa.1.2.2.2.1, af], .bx al 27 [ab, ad, ae, iV aa.1.2.2.2.1, af], .ro ty10 ak aa.2, .ro ty12 ab aa.1.1, .ro tI ad aa.1.2.1, .ro tI ae aa.1.2.2.1, .ro ty14 af aa.1.2.2.2.2, .ro ty10 aj ah.1] G := cK.dup hO5
   have cM : Holds _ w bb [.ro tI ae aa.1.2.2.1, .ro tI ad aa.1.2.1, .ro ty12 ab aa.1.1, .bx am 27 [ab, ad, ae, iV aa.1.2.2.2.1, af], .bx al 27 [ab, ad, ae, iV aa.1.2.2.2.1, af], .ro ty10 ak aa.2, .ro ty12 ab aa.1.1, .ro tI ad aa.1.2.1, .ro tI ae aa.1.2.2.1, .ro ty14 af aa.1.2.2.2.2, .ro ty10 aj ah.1] G := cL.dup hO7
   have cN : Holds _ w bb [.ro ty14 af aa.1.2.2.2.2, .ro tI ae aa.1.2.2.1, .ro tI ad aa.1.2.1, .ro ty12 ab aa.1.1, .bx am 27 [ab, ad, ae, iV aa.1.2.2.2.1, af], .bx al 27 [ab, ad, ae, iV aa.1.2.2.2.1, af], .ro ty10 ak aa.2, .ro ty12 ab aa.1.1, .ro tI ad aa.1.2.1, .ro tI ae aa.1.2.2.1, .ro ty14 af aa.1.2.2.2.2, .ro ty10 aj ah.1] G := cM.dup hO9
   refine fun et cP => zp (I := fun (bv, bw, aJ, aK, aL, ay, aM) a w2 => ∃ ao ap aq ar, Fr a 169 [(5, strV x4), (6, aj), (7, iV ah.2), (13, pB al), (14, ak), (15, pB am), (16, iV bv), (17, iV bw)] ∧ Holds M0 w w2 [.ro ty10 aj ah.1, .bx al 27 [ab, ad, ae, iV aa.1.2.2.2.1, af], .ro ty12 ab aa.1.1, .ro tI ad aa.1.2.1, .ro tI ae aa.1.2.2.1, .ro ty14 af aa.1.2.2.2.2, .ro ty10 ak aa.2, .bx am 27 [ao, ap, aq, iV ay, ar], .ro ty12 ao aJ, .ro tI ap aK, .ro tI aq aL, .ro ty14 ar aM] G) (O := fun (q0, q1, q2, q3, q4, q5) e a w2 => e = .exit 2 ∧ ∃ bT bU bV bW, Fr a 169 [(5, strV x4), (6, aj), (7, iV ah.2), (13, pB al), (14, ak), (15, pB am), (16, iV q0)] ∧ Holds M0 w w2 [.ro ty10 aj ah.1, .bx al 27 [ab, ad, ae, iV aa.1.2.2.2.1, af], .ro ty12 ab aa.1.1, .ro tI ad aa.1.2.1, .ro tI ae aa.1.2.2.1, .ro ty14 af aa.1.2.2.2.2, .ro ty10 ak aa.2, .bx am 27 [bT, bU, bV, iV q4, bW], .ro ty12 bT q1, .ro tI bU q2, .ro tI bV q3, .ro ty14 bW q5] G) cJ ?_ ?_ ?_
   ·exact ⟨ab, ad, ae, af, cP.s, cN.p1.p2.p3.p4.p6.p10.p10.p10.p10.p10.p11⟩
   ·rintro ⟨bv, bw, aJ, aK, aL, ay, aM⟩ _ a eu ag ⟨ao, ap, aq, ar, ha, bc⟩
    refine S1 ha <| C <| C <| zk <| qm q <| qm q <| qz bc.ctx hR6 u44 q <| qi (qt_lss q q) q <| qm q <| O ag fun cQ aO ag => ?_
    refine Ga (res := cQ) 2 (if_f · aO) (fun bz ew cR => ?_) ?_
    ·exact have aO := if_t bz aO; jA bc.p1 us27 uo27 il27 bz q <| O aO fun ey cS aO => jc bz q c11 bc (fun _ => w_spec_HouseValid cS hR2 hR3 hR4 hR5) <| cR 2 q q q aO
    refine Qn bc fun a ha ez aZ => X <| S1 ha ?_
    refine Yh q ag (fun ag => ?_) (fun ag => ?_)
    ·refine y <| C <| g <| C <| zk <| qm q <| qm q <| O ag fun bd bX ag => qe aZ hR6 bX u44 i52 q fun _ _ cT => lP [iV bd.1, iV bd.2.1, iV bd.2.2.1, iV bd.2.2.2] us52 uo52 i52 cT q q q q <| O ag fun eF cU ag => qc q c23 aZ (fun _ => w_impl_DeedText cU hGl.c.c.c.c.c.c.c.c.c.c.c.c hGp.c.c.c.c.c.c.c.c.c.c.c.c) <| qa q <| Qn aZ fun a ha eG be => X <| S1 ha <| rR <| qm q <| qi (qt_seql q q) q <| B ?_
     refine Yh q ag (fun ag => ?_) (fun ag => ?_)
     ·refine C <| O ag fun bf bg ag => O ag fun aA bY ag => ?_
      refine WP_join (M := fun a w2 => ∃ bA a0 a1 a2 a3, Fr a 169 [(5, strV x4), (6, aj), (7, iV ah.2), (13, pB al), (14, ak), (15, pB am), (16, iV bv), (17, iV bw), (19, pB bA)] ∧ Holds M0 w w2 [.ro ty10 aj ah.1, .bx al 27 [ab, ad, ae, iV aa.1.2.2.2.1, af], .ro ty12 ab aa.1.1, .ro tI ad aa.1.2.1, .ro tI ae aa.1.2.2.1, .ro ty14 af aa.1.2.2.2.2, .ro ty10 ak aa.2, .bx am 27 [ao, ap, aq, iV ay, ar], .ro ty12 ao aJ, .ro tI ap aK, .ro tI aq aL, .ro ty14 ar aM, .bx bA 27 [a0, a1, a2, iV aA.1.2.2.2.1, a3], .ro ty12 a0 aA.1.1, .ro tI a1 aA.1.2.1, .ro tI a2 aA.1.2.2.1, .ro ty14 a3 aA.1.2.2.2.2] G) ?_ ?_
      ·refine WP_ordersT (fun w1 w2 => Chg M0 w1 w2) 11 (by kernel_rfl) fun bB cV => have bZ := be.grow cV; ?_
       have bC : Ctx bB ([] ++ ([.ro ty10 aj ah.1, .bx al 27 [ab, ad, ae, iV aa.1.2.2.2.1, af], .ro ty12 ab aa.1.1, .ro tI ad aa.1.2.1, .ro tI ae aa.1.2.2.1, .ro ty14 af aa.1.2.2.2.2, .ro ty10 ak aa.2, .bx am 27 [ao, ap, aq, iV ay, ar], .ro ty12 ao aJ, .ro tI ap aK, .ro tI aq aL, .ro ty14 ar aM] ++ G)) := bZ.ctx
       have cW : Holds _ bB bB [] ([.ro ty10 aj ah.1, .bx al 27 [ab, ad, ae, iV aa.1.2.2.2.1, af], .ro ty12 ab aa.1.1, .ro tI ad aa.1.2.1, .ro tI ae aa.1.2.2.1, .ro ty14 af aa.1.2.2.2.2, .ro ty10 ak aa.2, .bx am 27 [ao, ap, aq, iV ay, ar], .ro ty12 ao aJ, .ro tI ap aK, .ro tI aq aL, .ro ty14 ar aM] ++ G) := zb (Rs := []) bC
       refine have Hc := cW; have cX := HasB.bx (HasB.c (HasB.c (HasB.c (HasB.c (HasB.c (HasB.c (HasB.c (HasB.hd)))))))) Hc.ctx; XT (i := 0) q (by kernel_rfl) q Hc.chg q (qs_agg (cs := [ao, ap, aq, iV ay, ar]) us27 uo27 il27 q (fun j z hj => by rw [Nat.zero_add]; exact cX.cell hj) Hc.chg (Ctx.outB bC (HasB.c (HasB.c (HasB.c (HasB.c (HasB.c (HasB.c (HasB.c (HasB.hd)))))))))) q q ?_
       change XC _ _ _ _ _ _ _ _ ((113, .agg #[ao, ap, aq, iV ay, ar]) :: _) _
       refine XQ (i := 1) q (by kernel_rfl) q Hc.chg q (fun _ => qt_move q) q q <| XQ (i := 2) q (by kernel_rfl) q Hc.chg q (fun _ => qt_move q) q q ?_
       obtain ⟨eH, eJ, eK, bD⟩ := Ctx.isAt Hc.ctx hR6 bg
       refine XT (i := 3) q (by kernel_rfl) q Hc.chg q (qs_index bg bD u44 i52 q q) q q ?_
       obtain ⟨eL, cY, eM⟩ := Hc.atN hR6 bg bD
       obtain ⟨eN, b0, cZ⟩ := cY
       refine XT (i := 4) q (by kernel_rfl) q Hc.chg q (qs_agg us52 uo52 (i52.trans (congrArg some (Rep.length (t := ty10) b0).symm)) q cZ Hc.chg (Ctx.outHas bC hR6 bg bD)) q q ?_
       obtain ⟨eO, eP, eQ, eR, rfl, eT, c0, c1⟩ := b0
       obtain ⟨rfl, _⟩ := c0
       obtain ⟨eU, eW, eX, eY, rfl, eZ, c2, c3⟩ := c1
       obtain ⟨rfl, _⟩ := c2
       obtain ⟨e0, e1, e2, e3, rfl, e4, c4, c5⟩ := c3
       obtain ⟨rfl, _⟩ := c4
       obtain ⟨rfl, _⟩ := c5
       change XC _ _ _ _ _ _ _ _ ((117, .agg #[iV bf.1, iV bf.2.1, iV bf.2.2.1, iV bf.2.2.2]) :: _) _
       repeat' first
        | refine XDo 5 q <| zd q q c24 (w_impl_HouseDo bY hGl.c.c.c.c.c.c.c.c.c.c.c.c hR8 hR9 hR10 hR11 Hc.ctx) q ?_; rintro _ _ ⟨bh, c6, c7, bi, bj, bk, c8, da, rfl, HK⟩; refine ⟨_, q, ?_⟩; have Hc := Hc.cN4 [] HK; have Hc := Hc.freezeD; have Hc := Hc.p1; have Hc := Hc.freeze; have Hc := Hc.p2; have Hc := Hc.freeze; have Hc := Hc.p3; have Hc := Hc.freezeD; refine XN Hc.chg <| XQ (i := 6) q (by kernel_rfl) q Hc.chg q (fun _ => qt_move q) q q <| XQ (i := 7) q (by kernel_rfl) q Hc.chg q (fun _ => zv q q) q q <| XQ (i := 8) q (by kernel_rfl) q Hc.chg q (fun _ => zv q q) q q ?_
        | refine XDo 5 q <| zd q q c24 (w_impl_HouseDo bY hGl.c.c.c.c.c.c.c.c.c.c.c.c.c hR9 hR10 hR11 hR12 Hc.ctx) q ?_; rintro _ _ ⟨bh, c6, c7, bi, bj, bk, c8, da, rfl, HK⟩; refine ⟨_, q, ?_⟩; have Hc := Hc.cN4 [] HK; have Hc := Hc.freezeD; have Hc := Hc.p1; have Hc := Hc.freeze; have Hc := Hc.p2; have Hc := Hc.freeze; have Hc := Hc.p3; have Hc := Hc.freezeD; refine XN Hc.chg <| XQ (i := 6) q (by kernel_rfl) q Hc.chg q (fun _ => qt_move q) q q <| XQ (i := 7) q (by kernel_rfl) q Hc.chg q (fun _ => zv q q) q q <| XQ (i := 8) q (by kernel_rfl) q Hc.chg q (fun _ => zv q q) q q ?_
        | refine XDo 9 q ?_; refine zq (cs := [nS, nS, nS, iV 0, nS]) Hc z27 q q q (fun db _ Hc => ?_); refine XN Hc.chg ?_
        | refine XDo 10 q ?_; refine zl (cs' := [bh, bi, bj, iV aA.1.2.2.2.1, bk]) Hc q il27 q (T (Hc.ctx.sliceOne hR4) (T (Hc.ctx.sliceOne hR3) (T (Hc.ctx.sliceOne hR2) (T q (T (Hc.ctx.sliceOne hR1) q))))) q q q (fun _ Hc => ?_); refine XN Hc.chg ?_
        | refine XDo 10 q ?_; have Hc := Hc.p4; refine zl (cs' := [bh, bi, bj, iV aA.1.2.2.2.1, bk]) Hc q il27 q (T (Hc.ctx.sliceOne hR4) (T (Hc.ctx.sliceOne hR3) (T (Hc.ctx.sliceOne hR2) (T q (T (Hc.ctx.sliceOne hR1) q))))) q q q (fun _ Hc => ?_); refine XN Hc.chg ?_
        | have Hc := bZ.cN5 [] Hc; refine XDo 11 q <| qa q <| XE q ?_
        | refine XV [5, 9] (by decide +kernel) q (allc ?_ (allc ?_ alln))
        | refine XV [9] (by decide +kernel) q (allc ?_ alln)
        | refine XV [10] (by decide +kernel) q (allc ?_ alln)
        | refine XV [11] (by decide +kernel) q (allc ?_ alln)
        | refine XV [5] (by decide +kernel) q (allc ?_ alln)
        | refine XC_done (by decide +kernel) (fun a ha => ?_); have Hc := (((((((((((((((((Hc.p1).p2).p3).p4).p4).p16).p16).p16).p16).p16).p16).p16).p16).p16).p16).p16).p16); exact ⟨db, bh, bi, bj, bk, ha.s, Hc⟩
      rintro a e5 ⟨bA, a0, a1, a2, a3, ha, b4⟩
      cases ag
      exact S1 ha <| Z <| eA b4.p12 us27 uo27 il27 q <| have a4 := b4.p7; zl (cs' := [a0, a1, a2, iV aA.1.2.2.2.1, a3]) a4 q il27 q (T (a4.ctx.sliceOne hR13) (T (a4.ctx.sliceOne hR14) (T (a4.ctx.sliceOne hR15) (T q (T (a4.ctx.sliceOne hR16) q))))) q q q fun e6 dc => WL_nil fun a ha => zi <| X <| S1 ha <| Z <| qm q <| qi (qt_add q q) q <| qa q <| WL_nil fun a ha => ⟨q, a0, a1, a2, a3, ha.s, dc.q8.q8.q8.q8.q8.p11.p11.p11.p11.p4.p11.p11.p11.p11.p11.p11.p11⟩
     refine rR <| eA be.p7 us27 uo27 il27 q <| qm q <| O ag fun aw de ag => zd q q c14 (w_impl_HouseLine de hGl.c.c.c.c.c.c.c.c.c.c.c.c hGm.c.c.c.c.c.c.c.c.c.c.c.c hGp.c.c.c.c.c.c.c.c.c.c.c.c hR8 hR9 hR10 hR11 be.ctx) q ?_
     rintro _ b5 ⟨aP, e7, e8, aQ, aR, aS, df, dg, rfl, dh⟩; refine ⟨_, q, ?_⟩
     have di := be.cN4 [] dh
     have dj : Holds _ w b5 [.ro ty12 aP aw.1.1, .sl 3 tI aQ aw.1.2.1, .sl 3 tI aR aw.1.2.2.1, dpR 38 dt16 aS df aw.1.2.2.2.2 dg, .ro ty10 aj ah.1, .bx al 27 [ab, ad, ae, iV aa.1.2.2.2.1, af], .ro ty12 ab aa.1.1, .ro tI ad aa.1.2.1, .ro tI ae aa.1.2.2.1, .ro ty14 af aa.1.2.2.2.2, .ro ty10 ak aa.2, .bx am 27 [ao, ap, aq, iV ay, ar], .ro ty12 ao aJ, .ro tI ap aK, .ro tI aq aL, .ro ty14 ar aM] G := di.freezeD
     refine ?_
     have dr : Holds _ w b5 [.ro ty14 aS aw.1.2.2.2.2, .ro tI aR aw.1.2.2.1, .ro tI aQ aw.1.2.1, .ro ty12 aP aw.1.1, .ro ty10 aj ah.1, .bx al 27 [ab, ad, ae, iV aa.1.2.2.2.1, af], .ro ty12 ab aa.1.1, .ro tI ad aa.1.2.1, .ro tI ae aa.1.2.2.1, .ro ty14 af aa.1.2.2.2.2, .ro ty10 ak aa.2, .bx am 27 [ao, ap, aq, iV ay, ar], .ro ty12 ao aJ, .ro tI ap aK, .ro tI aq aL, .ro ty14 ar aM] G := dj.p1.freeze.p2.freeze.p3.freezeD
     refine qm q <| qi (zv q q) q <| qi (zv q q) q <| zq (cs := [nS, nS, nS, iV 0, nS]) dr z27 q q q fun e9 fa a5 => zl (cs' := [aP, aQ, aR, iV aw.1.2.2.2.1, aS]) a5 q il27 q (T (a5.ctx.sliceOne hR4) (T (a5.ctx.sliceOne hR3) (T (a5.ctx.sliceOne hR2) (T q (T (a5.ctx.sliceOne hR1) q))))) q q q fun fb b6 => qa q <| rN <| eA b6.p0 us27 uo27 il27 q <| have a6 := b6.p12; zl (cs' := [aP, aQ, aR, iV aw.1.2.2.2.1, aS]) a6 q il27 q (T (a6.ctx.sliceOne hR5) (T (a6.ctx.sliceOne hR4) (T (a6.ctx.sliceOne hR3) (T q (T (a6.ctx.sliceOne hR2) q))))) q q q fun fc b7 => rN <| qm q <| qi (qt_seql q q) q <| B ?_
     refine Yh q ag (fun ag => ?_) (fun ag => ?_)
     ·cases ag
      exact Z <| qm q <| qi (qt_add q q) q <| qa q <| WL_nil fun a ha => zi <| X <| S1 ha <| Z <| qm q <| qi (qt_add q q) q <| qa q <| WL_nil fun a ha => ⟨q, aP, aQ, aR, aS, ha.s, b7.q1.q12.q12.q12.q12.p1.p2.p3.p4.p4.p11.p11.p11.p11.p11.p11.p11⟩
     cases ag
     exact WP_skip fun a ha => zi <| X <| S1 ha <| Z <| qm q <| qi (qt_add q q) q <| qa q <| WL_nil fun a ha => ⟨q, aP, aQ, aR, aS, ha.s, b7.q1.q12.q12.q12.q12.p1.p2.p3.p4.p4.p11.p11.p11.p11.p11.p11.p11⟩
    cases ag
    exact WP_exit fun a ha => zo (⟨exit_ne, q, ao, ap, aq, ar, ha.s, aZ.p11.p11.p11.p11.p11.p11.p11.p11.p11.p11.p11.p11⟩)
   obtain ⟨fd, fe, ff, fg, fh, fi⟩ := cI
   rintro _ a fj ⟨rfl, dv, dw, dx, dy, ha, dz⟩
   obtain ⟨rfl, rfl, rfl, rfl, rfl, rfl⟩ := (by simpa only [Option.some.injEq, Prod.mk.injEq] using bp : _)
   exact zn (X (⟨dv, dw, dx, dy, ha.s, dz.p11.p11.p11.p11.p11.p11.p11.p11.p11.p11.p11.p11⟩))
  rintro a fk ⟨aF, aG, aH, aI, ha, bE⟩
  refine S1 ha <| rR <| eA bE.p1 us27 uo27 il27 q <| qm q <| O h fun ax dB h => zd q q c25 (w_impl_HouseRun dB hGl.c.c.c.c.c.c.c.c.c.c.c.c hR2 hR3 hR4 hR5 hR6 bE.ctx) q ?_
  rintro _ b8 ⟨bF, fl, fm, bG, bH, bI, dC, dD, rfl, dE⟩; refine ⟨_, q, ?_⟩
  have dF := bE.cN4 [] dE
  have dG : Holds _ w b8 [.ro ty12 bF ax.1.1, .sl 3 tI bG ax.1.2.1, .sl 3 tI bH ax.1.2.2.1, dpR 38 dt16 bI dC ax.1.2.2.2.2 dD, .ro ty10 aj ah.1, .bx al 27 [ab, ad, ae, iV aa.1.2.2.2.1, af], .ro ty12 ab aa.1.1, .ro tI ad aa.1.2.1, .ro tI ae aa.1.2.2.1, .ro ty14 af aa.1.2.2.2.2, .ro ty10 ak aa.2, .bx am 27 [aF, aG, aH, iV bt, aI], .ro ty12 aF bq, .ro tI aG br, .ro tI aH bs, .ro ty14 aI bu] G := dF.freezeD
  refine ?_
  have dM : Holds _ w b8 [.ro ty14 bI ax.1.2.2.2.2, .ro tI bH ax.1.2.2.1, .ro tI bG ax.1.2.1, .ro ty12 bF ax.1.1, .ro ty10 aj ah.1, .bx al 27 [ab, ad, ae, iV aa.1.2.2.2.1, af], .ro ty12 ab aa.1.1, .ro tI ad aa.1.2.1, .ro tI ae aa.1.2.2.1, .ro ty14 af aa.1.2.2.2.2, .ro ty10 ak aa.2, .bx am 27 [aF, aG, aH, iV bt, aI], .ro ty12 aF bq, .ro tI aG br, .ro tI aH bs, .ro ty14 aI bu] G := dG.p1.freeze.p2.freeze.p3.freezeD
  refine qm q <| qi (zv q q) q <| qi (zv q q) q <| zq (cs := [nS, nS, nS, iV 0, nS]) dM z27 q q q fun fn fo a7 => zl (cs' := [bF, bG, bH, iV ax.1.2.2.2.1, bI]) a7 q il27 q (T (a7.ctx.sliceOne hR4) (T (a7.ctx.sliceOne hR3) (T (a7.ctx.sliceOne hR2) (T q (T (a7.ctx.sliceOne hR1) q))))) q q q fun fp aB => qa q <| B <| C <| WP_quiet (by kernel_rfl) (by kernel_rfl) <| qm q <| qm q <| qi (qt_slen u9 q) q <| qi (qt_leq q q) q <| qm q <| O h fun dN aC h => ?_
  refine Ga (res := dN) 6 (if_f · aC) (fun aN fq dO => ?_) ?_
  ·exact have aC := if_t aN aC; jm aN q <| O aC fun dP dQ aC => QC (J q aN) q c26 (fun w' hb => w_impl_JournalText w' _ hGl.c.c.c.c.c.c.c.c.c.c.c.c.c.c.c.c.c hGp.c.c.c.c.c.c.c.c.c.c.c.c.c.c.c.c.c aj ah.1 hR5 dP dQ (aB.grow hb).ctx) (by rfl) <| jm aN q <| jm aN q <| O aC fun fr dR aC => ji (qt_ssub u9 q ⟨_, q⟩ q dR) aN q <| ji (qt_seql q q) aN q <| dO 6 q q q aC
  refine qm q <| O h fun dS aD h => ?_
  refine Ga (res := dS) 13 (if_f · aD) (fun aT fs dT => ?_) ?_
  ·refine have aD := if_t aT aD; jA aB.p6 us27 uo27 il27 aT q <| O aD fun ft dU aD => jc aT q c11 aB (fun _ => w_spec_HouseValid dU hR7 hR8 hR9 hR10) <| ji (qt_not q) aT q <| jm aT q <| O aD fun dV aU aD => ?_
   refine Go (res := dV) (hw := (J q aT)) 8 (if_t · aU) (fun aV fu dW => ?_) ?_
   ·refine have aU := if_f aV aU; jA aB.p12 us27 uo27 il27 aV q <| jA aB.p0 us27 uo27 il27 aV q <| O aU fun dX dY aU => jc aV q c9 aB (fun _ => w_laws_sameHouse dY hR13 hR14 hR15 hR16 hR4 hR3 hR2 hR1) <| jm aV q ?_
    refine Ga (res := (dX && (decide (bS ≤ ax.2)))) (hw := (J q aV)) 3 an (fun bl fv dZ => ?_) ?_
    ·exact jm bl q <| jm bl q <| ji (qt_leq q q) bl q <| dZ 3 q q q (ai bl)
    exact dW 5 q q q aU
   exact dT 5 q q q aD
  refine qm q <| O h fun d0 aW h => ?_
  refine Ga (res := d0) 1 (if_f · aW) (fun b9 fw d1 => ?_) ?_
  ·exact have aW := if_t b9 aW; O aW fun d2 d3 aW => QC (J q b9) q c13 (fun w' hb => w_laws_alive w' _  d2 d3 (aB.grow hb).ctx) (by rfl) <| d1 1 q q q aW
  refine qa q <| Qn aB fun a ha fx d4 => X <| S1 ha <| W fun a ha => ?_
  obtain rfl := L h
  exact ret1 q ha q ⟨q, d4.q0.q0.q0.q0.q0.q0.q0.q0.q0.q0.q0.q0.q0.q0.q0.q0.q0⟩
 obtain ⟨rfl, ha, d6⟩ := bP
 obtain rfl := L h
 exact zj (m (ret1 q ha q ⟨q, d6⟩))
end Go.Proofs.YtkhnponakhabdaaGreatDoor
