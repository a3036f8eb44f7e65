/- The walks: each Go function computes its shallow function. Printed by a program. -/
import Derived.Test.YtkhnponakhabdaaGreatDoorWS7J6
set_option linter.unusedVariables false
set_option maxRecDepth 10000
set_option maxHeartbeats 8000000
namespace Go.Proofs.YtkhnponakhabdaaGreatDoor
open Go Go.RowKit
theorem w_impl_HouseDo {w G A0 B0 A1 B1 A2 B2 B3 A4 B4 p1_0 p1_1 p1_2 p1_3 r} (h : impl_HouseDoS B0 B1 B2 B3 B4 p1_0 p1_1 p1_2 p1_3 = some r) (hGl : Glob G) (C0 : Has G ty12 A0 B0) (C1 : Has G tI A1 B1) (C2 : Has G tI A2 B2) (C4 : Has G ty14 A4 B4) (H : Ctx w G) : Calls Tryz.prog 24 #[.agg #[A0, A1, A2, iV B3, A4], .agg #[iV p1_0, iV p1_1, iV p1_2, iV p1_3]] w fun e w' => ∃ (v1 : Value) (csv1 : List Value) (Fv1 : List Nat) (v4 : Value) (v5 : Value) (v6 : Value) (csv6 : List Value) (Fv6 : List Nat), e = .returned (.tuple #[.agg #[v1, v4, v5, iV r.1.2.2.2.1, v6], .bool r.2]) ∧ Holds M0 w w' [dpR 70 dt15 v1 csv1 r.1.1 Fv1, .sl 3 tI v4 r.1.2.1, .sl 3 tI v5 r.1.2.2.1, dpR 38 dt16 v6 csv6 r.1.2.2.2.2 Fv6] G := by
 refine F0 72 H Tryz.func24 q fun H => ?_
 refine C <| Z <| WL_box (cs := [A0, A1, A2, iV B3, A4]) H q q q q fun b1 w2 H3 => WL_box (cs := [iV p1_0, iV p1_1, iV p1_2, iV p1_3]) H3 q q q q fun b5 w6 H7 => zq (cs := [nS, nS, nS, iV 0, nS]) H7 z27 q q q fun b9 cP az => qa q <| B <| C <| C <| zk <| eA az.p2 us27 uo27 il27 q <| O h fun cQ a6 h => qc q c17 az (fun _ => w_impl_HouseValid a6 (C0.c.c.c) (C1.c.c.c) (C2.c.c.c) (C4.c.c.c)) <| qi (qt_not q) q <| Qn az fun a ha cR ap => X <| S1 ha ?_
 refine Yh q h (fun h => ?_) (fun h => ?_)
 ·cases h
  exact rR <| qi (qt_build (args := []) (css := []) (cells := #[nS, nS, nS, iV 0, nS]) q trivial (by kernel_rfl)) q <| zl (cs' := [nS, nS, nS, iV 0, nS]) ap q il27 q q q q q fun cS aP => qa q <| B <| W fun a ha => have a7 := R aP.p0; have a8 := aP.nD 70 dt15; have a9 := a8.nS 3 tI; have ba := a9.nS 3 tI; have bb := ba.nD 38 dt16; m (retct q ha q q (run_loadVar_bx (cs := [nS, nS, nS, iV 0, nS]) us27 uo27 il27 a7) ⟨(nS), [], [], (nS), (nS), (nS), [], [], q, bb.q4.q4.q4.p1.p2.p3⟩)
 refine y <| C <| C <| zk <| eA ap.p1 us52 uo52 il52 q <| O h fun cT bd h => qc q c66 ap (fun _ => w_impl_onlyNamed bd hGl.c.c.c) <| qi (qt_not q) q <| Qn ap fun a ha cU aj => X <| S1 ha ?_
 refine Yh q h (fun h => ?_) (fun h => ?_)
 ·refine rR <| eA aj.p2 us27 uo27 il27 q <| O h fun aQ be h => zd q q c32 (w_impl_copyHouse be (C0.c.c.c) (C1.c.c.c) (C2.c.c.c) (C4.c.c.c) aj.ctx) q ?_
  rintro _ cV ⟨aA, bf, bg, aB, aC, aD, bh, bi, rfl, bj⟩; refine ⟨_, q, ?_⟩
  cases h
  exact have bk := aj.cN4 [] bj; have aR := bk.p4; have aq := aR.viewG (Vw.c (Vw.d (Vw.c (Vw.c (Vw.d (Vw.c (Vw.c Vw.refl))))))); zl (cs' := [aA, aB, aC, iV aQ.2.2.2.1, aD]) aR q il27 q (T (aq.sliceOne hR1) (T (aq.sliceOne hS2) (T (aq.sliceOne hS3) (T q (T (aq.sliceOne hR4) q))))) q q q fun cW aS => qa q <| B <| W fun a ha => have bl := R aS.p0; m (retct q ha q q (run_loadVar_bx (cs := [aA, aB, aC, iV aQ.2.2.2.1, aD]) us27 uo27 il27 bl) ⟨aA, bf, bg, aB, aC, aD, bh, bi, q, aS.q0.q4.q4.p3.p3.p3.p3⟩)
 refine y <| rR <| eA aj.p2 us27 uo27 il27 q <| O h fun ad bn h => zd q q c32 (w_impl_copyHouse bn (C0.c.c.c) (C1.c.c.c) (C2.c.c.c) (C4.c.c.c) aj.ctx) q ?_
 rintro _ cX ⟨af, aE, aF, ag, ae, ah, ar, au, rfl, bo⟩; refine ⟨_, q, ?_⟩
 refine have bp := aj.cN4 [] bo; zq (cs := [nS, nS, nS, iV 0, nS]) bp z27 q q q fun aG cY aT => have av := aT.viewG (Vw.c (Vw.d (Vw.c (Vw.c (Vw.d (Vw.c (Vw.c (Vw.c Vw.refl)))))))); zl (cs' := [af, ag, ae, iV ad.2.2.2.1, ah]) aT q il27 q (T (av.sliceOne hR1) (T (av.sliceOne hS2) (T (av.sliceOne hS3) (T q (T (av.sliceOne hR4) q))))) q q q fun bq ab => rN <| qa q <| B <| C <| rR <| qf uf52 fi52_0 nz3 q <| ql u3 ab.p6 q <| B <| O h fun br aa h => ?_
 obtain ⟨bs, bt, aH, bu⟩ := br
 refine WP_join (M := fun a w2 => ∃ ak al aI aJ, Fr a 72 [(2, pB b1), (4, pB b9), (6, pB aG), (7, .bool bs)] ∧ Holds M0 w w2 [.bx b1 27 [A0, A1, A2, iV B3, A4], .bx b9 27 [nS, nS, nS, iV 0, nS], .bx aG 27 [af, ag, ak, iV aH, al], dpR 70 dt15 af aE ad.1 aF, .sl 3 tI ag ad.2.1, .sl 3 tI ak bt, dpR 38 dt16 al aI bu aJ] G) ?_ ?_
 ·refine g <| rR <| qi (qt_eql q q) q <| qa q <| B ?_
  refine Yh q aa (fun aa => ?_) (fun aa => ?_)
  ·refine Z <| qf uf52 fi52_1 nz3 q <| ql u3 ab.p6 q <| qf uf52 fi52_2 nz3 q <| ql u3 ab.p6 q <| have aU := ab.p4.p4.p4.p4.p4; O aa fun cZ bB aa => U0 q c68 (w_impl_doBuy bB aU.ctx) fun c0 bC => have bD := aU.cN5 [_, _, _, _, _] bC; qa q <| WL_nil fun a ha => ?_
   cases aa
   exact zi (X (⟨ae, ah, ar, au, ha.s, bD.q6.p4.p4.p4.p4.p4.p5.p6⟩))
  refine rR <| qi (qt_eql q q) q <| qa q <| B ?_
  refine Yh q aa (fun aa => ?_) (fun aa => ?_)
  ·refine Z <| qf uf52 fi52_1 nz3 q <| ql u3 ab.p6 q <| qf uf52 fi52_2 nz3 q <| ql u3 ab.p6 q <| have aV := ab.p4.p4.p4.p4.p4; O aa fun c1 bJ aa => U1 q c69 (w_impl_doMake bJ aV.ctx) fun bK c2 bL => have bM := aV.cN5 [_, _, _, _, _] bL; qa q <| WL_nil fun a ha => ?_
   cases aa
   exact zi (X (⟨bK, ah, ar, au, ha.s, bM.q6.p4.p4.p4.p4.p4.p5.p6⟩))
  refine rR <| qi (qt_eql q q) q <| qa q <| B ?_
  refine Yh q aa (fun aa => ?_) (fun aa => ?_)
  ·refine rR <| qf uf27 fi27_4 nz25 q <| ql u25 ab.p0 q <| qf uf52 fi52_1 nz3 q <| ql u3 ab.p6 q <| qi (qt_build (args := [(0, .tmp 40)]) (css := [#[iV p1_1]]) (cells := #[iV p1_1, nS, nS]) q ⟨q, trivial⟩ (by kernel_rfl)) q <| WL_buildD (Rs := []) (d := dt16) (args := [.tmp 41]) (xs := ([(p1_1, [], [])] : LT)) ab (DBltL.one (cs' := [iV p1_1, nS, nS]) (DBlt.cast (DBlt.pair (DBlt.int (k := .i64) (n := p1_1)) (DBlt.pair (DBlt.nil (e := 123) (d := dt3)) (DBlt.nil (e := 3) (d := (.leaf tI))))) q q) q) u25 j38 q q q q q q fun c3 c4 c5 c6 bO => O aa fun c7 bQ aa => WL_appendD bO.p5 bQ u25 j38 q q q q q q fun bR bS bT c8 bU => qf uf27 fi27_4 nz25 q <| have aW := bU.p1; have aX := aW.viewG (Vw.c (Vw.d (Vw.d (Vw.c (Vw.c (Vw.c (Vw.c (Vw.c Vw.refl)))))))); WL_store_bx aW q il25 (aX.sliceCells hR1) (aX.sliceOne hR1) q q q fun da bV => B <| Z <| qa q <| WL_nil fun a ha => ?_
   obtain ⟨rfl, rfl, rfl, rfl⟩ := (by simpa only [Option.some.injEq, Prod.mk.injEq] using aa : _)
   exact zi (X (⟨ae, bR, bS, bT, ha.s, bV.q6.p1.p4.p4.p4.p4.p5.p6⟩))
  refine rR <| qi (qt_eql q q) q <| qa q <| B ?_
  refine Yh q aa (fun aa => ?_) (fun aa => ?_)
  ·refine Z <| qf uf52 fi52_1 nz3 q <| ql u3 ab.p6 q <| qf uf52 fi52_2 nz3 q <| ql u3 ab.p6 q <| qf uf52 fi52_3 nz3 q <| ql u3 ab.p6 q <| have aY := ab.p4.p4.p4.p4.p4; O aa fun db b4 aa => U2 q c70 (w_impl_doOrder b4 aY.ctx) fun b6 b7 dc b8 => have ca := aY.cN5 [_, _, _, _, _] b8; qa q <| WL_nil fun a ha => ?_
   cases aa
   exact zi (X (⟨ae, ah, b6, b7, ha.s, ca.q6.p4.p4.p4.p4.p4.p5.p6⟩))
  refine rR <| qi (qt_eql q q) q <| qa q <| B ?_
  refine Yh q aa (fun aa => ?_) (fun aa => ?_)
  ·refine Z <| have aZ := ab.p4.p4.p4.p4.p4; O aa fun cg ch aa => zd q q c71 (w_impl_doWork bq _ aG af ad.1 aE aF ag ad.2.1 ae ad.2.2.1 ad.2.2.2.1 ah ad.2.2.2.2 ar au cg ch aZ.ctx) (by rfl) ?_
   rintro _ dd ⟨ci, cj, rfl, ck⟩; refine ⟨_, q, ?_⟩
   cases aa
   exact have cl := aZ.cN5 [_, _, _, _, _] ck; qa q <| WL_nil fun a ha => zi (X (⟨ae, ah, ci, cj, ha.s, cl.q6.p4.p4.p4.p4.p4.p5.p6⟩))
  refine rR <| qi (qt_eql q q) q <| qa q <| B ?_
  refine Yh q aa (fun aa => ?_) (fun aa => ?_)
  ·refine Z <| qf uf52 fi52_1 nz3 q <| ql u3 ab.p6 q <| have a0 := ab.p4.p4.p4.p4.p4; O aa fun de cr aa => U3 q c72 (w_impl_doClose cr a0.ctx) fun ct cu cv df cw => have cx := a0.cN5 [_, _, _, _, _] cw; qa q <| WL_nil fun a ha => ?_
   cases aa
   exact zi (X (⟨ae, ct, cu, cv, ha.s, cx.q6.p4.p4.p4.p4.p4.p5.p6⟩))
  cases aa
  exact WP_skip fun a ha => zi (X (⟨ae, ah, ar, au, ha.s, ab.q6.p4.p4.p4.p4.p4.p5.p6⟩))
 rintro a dg ⟨ak, al, aI, aJ, ha, aK⟩
 refine S1 ha <| C <| C <| zk <| qm q <| qi (qt_not q) q <| qm q <| O h fun cA am h => ?_
 refine Go (res := cA) 3 (if_t · am) (fun aw dh cB => ?_) ?_
 ·exact have am := if_f aw am; jA aK.p2 us27 uo27 il27 aw q <| O am fun di cC am => QC (J q aw) q c17 (fun w' hb => w_impl_HouseValid cC hR3 hS4 hS5 hR6 ((aK.grow hb).viewG (Vw.c (Vw.c (Vw.c (Vw.d (Vw.c (Vw.c (Vw.d Vw.refl))))))))) (by rfl) <| ji (qt_not q) aw q <| cB 3 q q q am
 refine Qn aK fun a ha dj ao => X <| S1 ha ?_
 refine Yh q h (fun h => ?_) (fun h => ?_)
 ·refine rR <| eA ao.p0 us27 uo27 il27 q <| O h fun a1 cD h => have cE := ao.viewG (Vw.c (Vw.c (Vw.c (Vw.d (Vw.c (Vw.c (Vw.d Vw.refl))))))); zd q q c32 (w_impl_copyHouse cD (C0.c.c.c.c.c.c.c) (C1.c.c.c.c.c.c.c) (C2.c.c.c.c.c.c.c) (C4.c.c.c.c.c.c.c) cE) q ?_
  rintro _ dk ⟨aL, cF, cG, aM, aN, aO, cH, cI, rfl, cJ⟩; refine ⟨_, q, ?_⟩
  cases h
  exact have cK := ao.cV4 [] cJ (zc Pure.dp (zc (Pure.sl q) (zc (Pure.sl q) (zc Pure.dp all_nil)))); have a2 := cK.p5; have ax := a2.viewG (Vw.c (Vw.d (Vw.c (Vw.c (Vw.d (Vw.c (Vw.c (Vw.d (Vw.c (Vw.c (Vw.d Vw.refl))))))))))); zl (cs' := [aL, aM, aN, iV a1.2.2.2.1, aO]) a2 q il27 q (T (ax.sliceOne hR1) (T (ax.sliceOne hS2) (T (ax.sliceOne hS3) (T q (T (ax.sliceOne hR4) q))))) q q q fun dl a3 => qa q <| B <| W fun a ha => have cL := R a3.p0; m (retct q ha q q (run_loadVar_bx (cs := [aL, aM, aN, iV a1.2.2.2.1, aO]) us27 uo27 il27 cL) ⟨aL, cF, cG, aM, aN, aO, cH, cI, q, a3.q0.q4.q4.q4.q4.q4.q4.p3.p3.p3.p3⟩)
 cases h
 exact y <| rR <| eA ao.p2 us27 uo27 il27 q <| have a4 := ao.p1; have ay := a4.viewG (Vw.c (Vw.c (Vw.c (Vw.d (Vw.c (Vw.c (Vw.d Vw.refl))))))); zl (cs' := [af, ag, ak, iV aH, al]) a4 q il27 q (T (ay.sliceOne hR3) (T (ay.sliceOne hS4) (T (ay.sliceOne hS5) (T q (T (ay.sliceOne hR6) q))))) q q q fun dm a5 => qa q <| B <| W fun a ha => have cN := R a5.p0; retct q ha q q (run_loadVar_bx (cs := [af, ag, ak, iV aH, al]) us27 uo27 il27 cN) ⟨af, aE, aF, ag, ak, al, aI, aJ, q, a5.q0.q0.q0.p3.p3.p3.p3⟩
theorem w_impl_WorkLeft {w G vp0 p0 r} (h : impl_WorkLeftS p0 = some r) (hp0 : Has G ty4 vp0 p0) (H : Ctx w G) : Calls Tryz.prog 91 #[vp0] w fun e w' => e = .returned (iV r) ∧ Holds M0 w w' [] G := by
 refine F0 34 H Tryz.func91 q fun H => ?_
 refine rR <| qa q <| B <| C <| C <| zk <| qm q <| O h fun x1 ar h => qc q c121 H (fun _ => w_impl_KitchenValid ar (hp0)) <| qi (qt_not q) q <| Qn H fun a ha w3 H5 => X <| S1 ha ?_
 refine Yh q h (fun h => ?_) (fun h => ?_)
 ·cases h
  exact rR <| qa q <| B <| W fun a ha => m (ret1 q ha q ⟨q, H5⟩)
 refine y <| rR <| qa q <| B <| C <| rR <| qm q <| qz H5.ctx (hp0) u89 q <| qm q <| B <| g <| O h fun o9 au h => ?_
 refine fun aH av => zp (I := fun (s7, s8) a w2 => (Fr a 34 [(3, iV s7), (11, vp0), (12, iV (List.length p0 : Int)), (13, iV s8)] ∧ Holds M0 w w2 [] G)) (O := fun q0 e a w2 => e = .exit 0 ∧ (Fr a 34 [(3, iV q0)] ∧ Holds M0 w w2 [] G)) au ?_ ?_ ?_
 ·exact ⟨av.s, H5⟩
 ·rintro ⟨s7, s8⟩ _ a aI ab ⟨ha, af⟩
  refine S1 ha <| rR <| qi (qt_lss q q) q <| B <| C ?_
  refine Yh q ab (fun ab => ?_) (fun ab => ?_)
  ·refine y <| C <| g <| rR <| O ab fun aj ak ab => qe af (hp0) ak u89 i36 q fun _ _ aw => eV u36 aw q fun al am => qa q <| rN <| qm q <| qz am.ctx hR0 u36 q <| qm q <| B <| g <| O ab fun aM ax ab => ?_
   refine fun aN ay => zp (I := fun (ao, ap) a w2 => (Fr a 34 [(3, iV ao), (11, vp0), (12, iV (List.length p0 : Int)), (13, iV s8), (17, al), (18, iV (List.length aj : Int)), (19, iV ap)] ∧ Holds M0 w w2 [.ro ty2 al aj] G)) (O := fun q0 e a w2 => e = .exit 2 ∧ (Fr a 34 [(3, iV q0), (11, vp0), (12, iV (List.length p0 : Int)), (13, iV s8)] ∧ Holds M0 w w2 [] G)) ax ?_ ?_ ?_
   ·exact ⟨ay.s, am⟩
   ·rintro ⟨ao, ap⟩ _ a aO aa ⟨ha, ad⟩
    refine S1 ha <| rR <| qi (qt_lss q q) q <| B <| C ?_
    refine Yh q aa (fun aa => ?_) (fun aa => ?_)
    ·refine y <| C <| g <| rR <| O aa fun ae aq aa => qe ad hR0 aq u36 i123 q fun _ _ az => lP [iV ae.1, iV ae.2] us123 uo123 i123 az q q q q <| zq (cs := [iV 0, iV 0]) ad z123 q q q fun aS aT aA => zl (cs' := [iV ae.1, iV ae.2]) aA q il123 q q q q q fun aU ag => B <| C <| zk <| eA ag.p0 us123 uo123 il123 q <| O aa fun aV aB aa => qc q c122 ag (fun _ => w_impl_finished aB) <| qi (qt_not q) q <| Qn ag fun a ha aW ah => X <| S1 ha ?_
     refine Yh q aa (fun aa => ?_) (fun aa => ?_)
     ·cases aa
      exact Z <| qm q <| qf uf123 fi123_1 nz3 q <| ql u3 ah.p0 q <| qi (qt_sub q q) q <| qi (qt_add q q) q <| qa q <| WL_nil fun a ha => zi <| X <| S1 ha <| Z <| qi (qt_add q q) q <| qm q <| WL_nil fun a ha => ⟨q, ha.s, ah.q0⟩
     cases aa
     exact WP_skip fun a ha => zi <| X <| S1 ha <| Z <| qi (qt_add q q) q <| qm q <| WL_nil fun a ha => ⟨q, ha.s, ah.q0⟩
    cases aa
    exact WP_exit fun a ha => zo (⟨exit_ne, q, ha.s, ad.q0⟩)
   rintro _ a aX ⟨rfl, ha, aF⟩
   cases ab
   exact zn <| zi <| X <| S1 ha <| Z <| qi (qt_add q q) q <| qm q <| WL_nil fun a ha => ⟨q, ha.s, aF⟩
  cases ab
  exact WP_exit fun a ha => zo (⟨exit_ne, q, ha.s, af⟩)
 rintro _ a aY ⟨rfl, ha, aG⟩
 refine zn <| X <| S1 ha <| rR <| qm q <| qa q <| B <| W fun a ha => ?_
 obtain rfl := L h
 exact ret1 q ha q ⟨q, aG⟩
theorem w_impl_EndDeeds {w G A0 B0 A1 B1 A2 B2 B3 A4 B4 r} (h : impl_EndDeedsS B0 B1 B2 B3 B4 = some r) (C0 : Has G ty12 A0 B0) (C1 : Has G tI A1 B1) (C2 : Has G tI A2 B2) (C4 : Has G ty14 A4 B4) (H : Ctx w G) : Calls Tryz.prog 45 #[.agg #[A0, A1, A2, iV B3, A4]] w fun e w' => ∃ (v1 : Value), e = .returned (v1) ∧ Holds M0 w w' [.sl 52 ty10 v1 r] G := by
 refine F0 28 H Tryz.func45 q fun H => ?_
 refine C <| Z <| WL_box (cs := [A0, A1, A2, iV B3, A4]) H q q q q fun b1 w2 H3 => qa q <| B <| C <| C <| zk <| eA H3.p0 us27 uo27 il27 q <| O h fun x6 ar h => qc q c17 H3 (fun _ => w_impl_HouseValid ar (C0.c) (C1.c) (C2.c) (C4.c)) <| qi (qt_not q) q <| Qn H3 fun a ha w8 ae => X <| S1 ha ?_
 refine Yh q h (fun h => ?_) (fun h => ?_)
 ·cases h
  exact rR <| qa q <| B <| W fun a ha => have au := ae.nS 52 ty10; m (ret1 q ha q ⟨(nS), q, au.q1⟩)
 refine y <| rR <| qa q <| B <| C <| rR <| eA ae.p0 us27 uo27 il27 q <| O h fun a0 aw h => U3 q c92 (w_impl_kitchenOf aw (C0.c) (C1.c) (C2.c) (C4.c) ae.ctx) fun a1 a2 a3 a4 ax => have aj := ae.cN1 [] ax; O h fun ay az h => have aA := aj.viewG (Vw.d (Vw.c Vw.refl)); U0 q c91 (w_impl_WorkLeft az hR0 aA) fun a5 aB => have aC := aj.cV0 [] aB all_nil; qm q <| B <| g <| have aD := aC.nS 52 ty10; O h fun a6 aE h => ?_
 refine fun a7 aG => zp (I := fun (ak, al) a w2 => ∃ af, Fr a 28 [(1, pB b1), (3, af), (9, iV ay), (10, iV al)] ∧ Holds M0 w w2 [.bx b1 27 [A0, A1, A2, iV B3, A4], .sl 52 ty10 af ak] G) (O := fun q0 e a w2 => e = .exit 0 ∧ ∃ ad, Fr a 28 [(1, pB b1), (3, ad)] ∧ Holds M0 w w2 [.bx b1 27 [A0, A1, A2, iV B3, A4], .sl 52 ty10 ad q0] G) aE ?_ ?_ ?_
 ·exact ⟨(nS), aG.s, aD.q1.p1⟩
 ·rintro ⟨ak, al⟩ _ a a8 aa ⟨af, ha, am⟩
  refine S1 ha <| rR <| qi (qt_lss q q) q <| B <| C ?_
  refine Yh q aa (fun aa => ?_) (fun aa => ?_)
  ·refine y <| C <| g <| Z <| qm q <| qi (qt_build (args := [(0, .const (iV 4))]) (css := [#[iV 4]]) (cells := #[iV 4, iV 0, iV 0, iV 0]) q ⟨q, trivial⟩ (by kernel_rfl)) q <| zs (t := ty10) (args := [.tmp 13]) (xs := ([(4, 0, 0, 0)] : List (Int × Int × Int × Int))) am (BltL.cons (Blt.pair (Blt.int) (Blt.pair (Blt.int) (Blt.pair (Blt.int) (Blt.int)))) q (BltL.nil)) u44 j52 q q q q q q fun a9 ba aH => O aa fun bb aJ aa => zw aH.p2 hS1 aJ u44 j52 q q q q q q fun aK bc aL => qa q <| WL_nil fun a ha => zi <| X <| S1 ha <| Z <| qi (qt_add q q) q <| qm q <| WL_nil fun a ha => ?_
   cases aa
   exact ⟨q, aK, ha.s, aL.q1.p1⟩
  cases aa
  exact WP_exit fun a ha => zo (⟨exit_ne, q, af, ha.s, am.p1.p1⟩)
 rintro _ a bd ⟨rfl, aO, ha, ah⟩
 refine zn <| X <| S1 ha <| C <| rR <| qf uf27 fi27_4 nz25 q <| ql u25 ah.p0 q <| qz ah.ctx (C4.c.c) u25 q <| qm q <| B <| g <| O h fun be aP h => ?_
 refine fun bf aR => zp (I := fun (ao, ap) a w2 => ∃ ag, Fr a 28 [(3, ag), (19, iV (List.length B4 : Int)), (20, iV ap)] ∧ Holds M0 w w2 [.sl 52 ty10 ag ao] G) (O := fun q0 e a w2 => e = .exit 2 ∧ ∃ ad, Fr a 28 [(3, ad)] ∧ Holds M0 w w2 [.sl 52 ty10 ad q0] G) aP ?_ ?_ ?_
 ·exact ⟨aO, aR.s, ah.q0⟩
 ·rintro ⟨ao, ap⟩ _ a bg ab ⟨ag, ha, aq⟩
  refine S1 ha <| rR <| qi (qt_lss q q) q <| B <| C ?_
  refine Yh q ab (fun ab => ?_) (fun ab => ?_)
  ·refine y <| C <| g <| Z <| qm q <| qi (qt_build (args := [(0, .const (iV 5))]) (css := [#[iV 5]]) (cells := #[iV 5, iV 0, iV 0, iV 0]) q ⟨q, trivial⟩ (by kernel_rfl)) q <| zs (t := ty10) (args := [.tmp 23]) (xs := ([(5, 0, 0, 0)] : List (Int × Int × Int × Int))) aq (BltL.cons (Blt.pair (Blt.int) (Blt.pair (Blt.int) (Blt.pair (Blt.int) (Blt.int)))) q (BltL.nil)) u44 j52 q q q q q q fun bh bi aS => O ab fun bj aU ab => zw aS.p1 hS1 aU u44 j52 q q q q q q fun aV bk aW => qa q <| WL_nil fun a ha => zi <| X <| S1 ha <| Z <| qi (qt_add q q) q <| qm q <| WL_nil fun a ha => ?_
   cases ab
   exact ⟨q, aV, ha.s, aW.q1⟩
  cases ab
  exact WP_exit fun a ha => zo (⟨exit_ne, q, ag, ha.s, aq⟩)
 rintro _ a bl ⟨rfl, aY, ha, aZ⟩
 refine zn <| X <| S1 ha <| rR <| qm q <| qa q <| B <| W fun a ha => ?_
 obtain rfl := L h
 exact ret1 q ha q ⟨aY, q, aZ⟩
theorem w_impl_HouseRun {w G A0 B0 A1 B1 A2 B2 B3 A4 B4 vp1 p1 r} (h : impl_HouseRunS B0 B1 B2 B3 B4 p1 = some r) (hGl : Glob G) (C0 : Has G ty12 A0 B0) (C1 : Has G tI A1 B1) (C2 : Has G tI A2 B2) (C4 : Has G ty14 A4 B4) (hp1 : Has G ty10 vp1 p1) (H : Ctx w G) : Calls Tryz.prog 25 #[.agg #[A0, A1, A2, iV B3, A4], vp1] w fun e w' => ∃ (v1 : Value) (csv1 : List Value) (Fv1 : List Nat) (v4 : Value) (v5 : Value) (v6 : Value) (csv6 : List Value) (Fv6 : List Nat), e = .returned (.tuple #[.agg #[v1, v4, v5, iV r.1.2.2.2.1, v6], iV r.2]) ∧ Holds M0 w w' [dpR 70 dt15 v1 csv1 r.1.1 Fv1, .sl 3 tI v4 r.1.2.1, .sl 3 tI v5 r.1.2.2.1, dpR 38 dt16 v6 csv6 r.1.2.2.2.2 Fv6] G := by
 refine F0 37 H Tryz.func25 q fun H => ?_
 refine C <| Z <| WL_box (cs := [A0, A1, A2, iV B3, A4]) H q q q q fun b1 w2 H3 => zq (cs := [nS, nS, nS, iV 0, nS]) H3 z27 q q q fun b5 w6 H7 => qa q <| B <| C <| C <| zk <| eA H7.p1 us27 uo27 il27 q <| O h fun bQ ba h => qc q c17 H7 (fun _ => w_impl_HouseValid ba (C0.c.c) (C1.c.c) (C2.c.c) (C4.c.c)) <| qi (qt_not q) q <| Qn H7 fun a ha bR ad => X <| S1 ha ?_
 refine Yh q h (fun h => ?_) (fun h => ?_)
 ·cases h
  exact rR <| qi (qt_build (args := []) (css := []) (cells := #[nS, nS, nS, iV 0, nS]) q trivial (by kernel_rfl)) q <| zl (cs' := [nS, nS, nS, iV 0, nS]) ad q il27 q q q q q fun bS aG => qa q <| B <| W fun a ha => have bb := R aG.p0; have bc := aG.nD 70 dt15; have bd := bc.nS 3 tI; have be := bd.nS 3 tI; have bf := be.nD 38 dt16; m (retct q ha q q (run_loadVar_bx (cs := [nS, nS, nS, iV 0, nS]) us27 uo27 il27 bb) ⟨(nS), [], [], (nS), (nS), (nS), [], [], q, bf.q4.q4.p1.p2.p3⟩)
 refine y <| rR <| eA ad.p1 us27 uo27 il27 q <| O h fun bh bi h => zd q q c32 (w_impl_copyHouse bi (C0.c.c) (C1.c.c) (C2.c.c) (C4.c.c) ad.ctx) q ?_
 rintro _ bT ⟨aH, bj, bk, aI, aJ, aK, bl, bm, rfl, bn⟩; refine ⟨_, q, ?_⟩
 refine have bo := ad.cN4 [] bn; zq (cs := [nS, nS, nS, iV 0, nS]) bo z27 q q q fun ae bU aL => have af := aL.viewG (Vw.c (Vw.d (Vw.c (Vw.c (Vw.d (Vw.c (Vw.c Vw.refl))))))); zl (cs' := [aH, aI, aJ, iV bh.2.2.2.1, aK]) aL q il27 q (T (af.sliceOne hR1) (T (af.sliceOne hS2) (T (af.sliceOne hS3) (T q (T (af.sliceOne hR4) q))))) q q q fun bV aM => rN <| qa q <| B <| C <| rR <| qm q <| have bp := aM.viewG (Vw.c (Vw.d (Vw.c (Vw.c (Vw.d (Vw.c (Vw.c Vw.refl))))))); qz bp (hp1.c.c.c.c.c.c.c) u44 q <| qm q <| B <| g <| O h fun bq br h => ?_
 refine fun bW bt => zp (I := fun (aN, aO, aP, aQ, aR, aS, aT) a w2 => ∃ ag ax ay ah aj ak az aA, Fr a 37 [(4, pB b5), (6, pB ae), (7, iV aN), (18, vp1), (19, iV (List.length p1 : Int)), (20, iV aO)] ∧ Holds M0 w w2 [.bx b5 27 [nS, nS, nS, iV 0, nS], .bx ae 27 [ag, ah, aj, iV aS, ak], dpR 70 dt15 ag ax aP ay, .sl 3 tI ah aQ, .sl 3 tI aj aR, dpR 38 dt16 ak az aT aA] G) (O := fun (q0, q1, q2, q3, q4, q5) e a w2 => e = .exit 0 ∧ ∃ aU bu bv aV aW aX bw bz, Fr a 37 [(4, pB b5), (6, pB ae), (7, iV q0)] ∧ Holds M0 w w2 [.bx b5 27 [nS, nS, nS, iV 0, nS], .bx ae 27 [aU, aV, aW, iV q4, aX], dpR 70 dt15 aU bu q1 bv, .sl 3 tI aV q2, .sl 3 tI aW q3, dpR 38 dt16 aX bw q5 bz] G) br ?_ ?_ ?_
 ·exact ⟨aH, bj, bk, aI, aJ, aK, bl, bm, bt.s, aM.q6.p4.p4.p4.p4.p4.p5⟩
 ·rintro ⟨aN, aO, aP, aQ, aR, aS, aT⟩ _ a bX aa ⟨ag, ax, ay, ah, aj, ak, az, aA, ha, al⟩
  refine S1 ha <| rR <| qi (qt_lss q q) q <| B <| C ?_
  refine Yh q aa (fun aa => ?_) (fun aa => ?_)
  ·refine y <| C <| g <| rR <| O aa fun ab aY aa => have bA := al.viewG (Vw.c (Vw.c (Vw.d (Vw.c (Vw.c (Vw.d Vw.refl)))))); qb bA (hp1.c.c.c.c.c.c) aY u44 i52 q fun bY bZ b0 bB => lP [iV ab.1, iV ab.2.1, iV ab.2.2.1, iV ab.2.2.2] us52 uo52 i52 (al.el (hp1.c.c.c.c.c.c) aY bB) q q q q <| zq (cs := [iV 0, iV 0, iV 0, iV 0]) al z52 q q q fun b4 b6 bC => zl (cs' := [iV ab.1, iV ab.2.1, iV ab.2.2.1, iV ab.2.2.2]) bC q il52 q q q q q fun b7 am => rN <| eA am.p2 us27 uo27 il27 q <| eA am.p0 us52 uo52 il52 q <| O aa fun aZ bD aa => have bE := am.viewG (Vw.c (Vw.c (Vw.c (Vw.d (Vw.c (Vw.c (Vw.d Vw.refl))))))); zd q q c24 (w_impl_HouseDo bD hGl.c.c.c.c.c.c.c hR3 hS4 hS5 hR6 bE) q ?_
   rintro _ b8 ⟨ao, a0, a1, ap, aq, ar, a2, a3, rfl, bF⟩; refine ⟨_, q, ?_⟩
   refine have bG := am.cV4 [] bF (zc Pure.dp (zc (Pure.sl q) (zc (Pure.sl q) (zc Pure.dp all_nil)))); qm q <| qi (zv q q) q <| qi (zv q q) q <| zq (cs := [nS, nS, nS, iV 0, nS]) bG z27 q q q fun b9 ca a4 => have au := a4.viewG (Vw.c (Vw.d (Vw.c (Vw.c (Vw.d (Vw.c (Vw.c (Vw.c (Vw.d (Vw.c (Vw.c (Vw.d Vw.refl)))))))))))); zl (cs' := [ao, ap, aq, iV aZ.1.2.2.2.1, ar]) a4 q il27 q (T (au.sliceOne hR1) (T (au.sliceOne hS2) (T (au.sliceOne hS3) (T q (T (au.sliceOne hR4) q))))) q q q fun cb a5 => qa q <| rN <| eA a5.p0 us27 uo27 il27 q <| have a6 := a5.p7; have av := a6.viewG (Vw.c (Vw.c (Vw.d (Vw.c (Vw.c (Vw.d (Vw.c (Vw.c (Vw.d (Vw.c (Vw.c (Vw.d Vw.refl)))))))))))); zl (cs' := [ao, ap, aq, iV aZ.1.2.2.2.1, ar]) a6 q il27 q (T (av.sliceOne hR2) (T (av.sliceOne hS3) (T (av.sliceOne hS4) (T q (T (av.sliceOne hR5) q))))) q q q fun cc a7 => rN <| qm q <| B ?_
   refine Yh q aa (fun aa => ?_) (fun aa => ?_)
   ·cases aa
    exact Z <| qm q <| qi (qt_add q q) q <| qa q <| WL_nil fun a ha => zi <| X <| S1 ha <| Z <| qi (qt_add q q) q <| qm q <| WL_nil fun a ha => ⟨q, ao, a0, a1, ap, aq, ar, a2, a3, ha.s, a7.q1.q5.q6.q6.q6.q6.p4.p4.p4.p4.p4.p5⟩
   cases aa
   exact WP_skip fun a ha => zi <| X <| S1 ha <| Z <| qi (qt_add q q) q <| qm q <| WL_nil fun a ha => ⟨q, ao, a0, a1, ap, aq, ar, a2, a3, ha.s, a7.q1.q5.q6.q6.q6.q6.p4.p4.p4.p4.p4.p5⟩
  cases aa
  exact WP_exit fun a ha => zo (⟨exit_ne, q, ag, ax, ay, ah, aj, ak, az, aA, ha.s, al.p5.p5.p5.p5.p5.p5⟩)
 obtain ⟨cd, ce, cf, cg, a8, ch⟩ := bq
 rintro _ a ci ⟨rfl, aB, bK, bL, aC, aD, aE, bM, bN, ha, aF⟩
 cases h
 exact zn <| X <| S1 ha <| rR <| eA aF.p1 us27 uo27 il27 q <| qm q <| have aw := aF.viewG (Vw.c (Vw.c (Vw.d (Vw.c (Vw.c (Vw.d Vw.refl)))))); zl (cs' := [aB, aC, aD, iV a8, aE]) aF q il27 q (T (aw.sliceOne hR2) (T (aw.sliceOne hS3) (T (aw.sliceOne hS4) (T q (T (aw.sliceOne hR5) q))))) q q q fun cj a9 => qa q <| B <| W fun a ha => have bO := R a9.p0; retct q ha q q (run_loadVar_bx (cs := [aB, aC, aD, iV a8, aE]) us27 uo27 il27 bO) ⟨aB, bK, bL, aC, aD, aE, bM, bN, q, a9.q0.q0.p3.p3.p3.p3⟩
theorem w_impl_listText {w G vp0 p0 r} (h : impl_listTextS p0 = some r) (hGp : GlobP G) (hp0 : Has G tI vp0 p0) (H : Ctx w G) : Calls Tryz.prog 93 #[vp0] w fun e w' => e = .returned (strV r) ∧ Holds M0 w w' [] G := by
 refine F0 27 H Tryz.func93 q fun H => ?_
 refine rR <| qa q <| B <| C <| rR <| qm q <| qz H.ctx (hp0) u24 q <| qi (qt_eql q q) q <| B ?_
 refine Yh q h (fun h => ?_) (fun h => ?_)
 ·cases h
  exact rR <| qa q <| B <| W fun a ha => m (ret1 q ha q ⟨q, H⟩)
 refine y <| rR <| qm q <| qz H.ctx (hp0) u24 q <| O h fun x1 aj h => WL_makeH H aj u28 j9 q (fun _ => ⟨q, q⟩) q q q q q fun v3 w4 H5 => qa q <| B <| C <| rR <| qm q <| qz H5.ctx (hp0.c) u24 q <| qm q <| B <| g <| O h fun o9 ak h => ?_
 refine fun aA al => zp (I := fun (s7, s8) a w2 => (Fr a 27 [(3, v3), (12, vp0), (13, iV (List.length p0 : Int)), (14, iV s7)] ∧ Holds M0 w w2 [.sl 9 .str v3 s8] G)) (O := fun q0 e a w2 => e = .exit 0 ∧ (Fr a 27 [(3, v3)] ∧ Holds M0 w w2 [.sl 9 .str v3 q0] G)) ak ?_ ?_ ?_
 ·exact ⟨al.s, H5⟩
 ·rintro ⟨s7, s8⟩ _ a am aa ⟨ha, ab⟩
  refine S1 ha <| rR <| qi (qt_lss q q) q <| B <| C ?_
  refine Yh q aa (fun aa => ?_) (fun aa => ?_)
  ·refine y <| C <| g <| rR <| qm q <| O aa fun ao ad aa => qe ab (hp0.c) ad u24 i3 q fun _ _ ap => eI u3 ap q <| qa q <| qa q <| B <| Z <| qm q <| qm q <| qm q <| O aa fun ae aq aa => zd q q c67 (w_strconv_Itoa am _ hGp.c ao ae aq ab.ctx) (by rfl) ?_
   rintro _ aE ⟨rfl, ar⟩; refine ⟨_, q, ?_⟩
   refine have af := ab.cN0 [] ar; O aa fun aF ag aa => qb af.ctx hS0 ag u28 i9 q fun aG aH aI au => WL_storeH (fo := 0) (cs' := [strV ae]) af ag au (Upd.whole (Blt.str)) q il9 q q q q fun aJ av => WL_nil fun a ha => zi <| X <| S1 ha <| Z <| qi (qt_add q q) q <| qm q <| WL_nil fun a ha => ?_
   cases aa
   exact ⟨q, ha.s, av⟩
  cases aa
  exact WP_exit fun a ha => zo (⟨exit_ne, q, ha.s, ab⟩)
 rintro _ a aK ⟨rfl, ha, ah⟩
 refine zn <| X <| S1 ha <| C <| zk <| qm q <| O h fun aw ax h => QC q q c123 (fun w' hb => w_strings_Join w' _ v3 o9 hS0 ([44] : List UInt8) aw ax (ah.grow hb).ctx) (by rfl) <| qa q <| Qn ah fun a ha aL ay => X <| S1 ha <| W fun a ha => ?_
 obtain rfl := L h
 exact ret1 q ha q ⟨q, ay.q0⟩
theorem w_impl_answerTo {w G A0 B0 A1 B1 A2 B2 B3 A4 B4 p1 r} (h : impl_answerToS B0 B1 B2 B3 B4 p1 = some r) (hGm : GlobM G) (hGp : GlobP G) (C0 : Has G ty12 A0 B0) (C1 : Has G tI A1 B1) (C2 : Has G tI A2 B2) (C4 : Has G ty14 A4 B4) (H : Ctx w G) : Calls Tryz.prog 46 #[.agg #[A0, A1, A2, iV B3, A4], strV p1] w fun e w' => e = .returned (strV r) ∧ Holds M0 w w' [] G := by
 refine F0 69 H Tryz.func46 q fun H => ?_
 refine C <| Z <| WL_box (cs := [A0, A1, A2, iV B3, A4]) H q q q q fun b1 w2 H3 => qa q <| B <| C <| rR <| qm q <| B <| g <| C <| Z <| qi (qt_seql q q) q <| qa q <| B ?_
 refine Yh q h (fun h => ?_) (fun h => ?_)
 ·refine C <| zk <| qf uf27 fi27_2 nz24 q <| ql u24 H3.p0 q <| O h fun x6 am h => qc q c93 H3 (fun _ => w_impl_listText am hGp.c (C2.c)) <| qa q <| Qn H3 fun a ha w8 ao => X <| S1 ha <| W fun a ha => ?_
  obtain rfl := L h
  exact zj (m (ret1 q ha q ⟨q, ao.q0⟩))
 refine rR <| qi (qt_seql q q) q <| qa q <| B ?_
 refine Yh q h (fun h => ?_) (fun h => ?_)
 ·refine C <| zk <| qf uf27 fi27_3 nz3 q <| ql u3 H3.p0 q <| O h fun aq ar h => QC q q c67 (fun w' hb => w_strconv_Itoa w' _ hGp.c B3 aq ar (H3.grow hb).ctx) (by rfl) <| qa q <| Qn H3 fun a ha a7 au => X <| S1 ha <| W fun a ha => ?_
  obtain rfl := L h
  exact zj (m (ret1 q ha q ⟨q, au.q0⟩))
 refine rR <| qi (qt_seql q q) q <| qa q <| B ?_
 refine Yh q h (fun h => ?_) (fun h => ?_)
 ·refine C <| zk <| qf uf27 fi27_4 nz25 q <| ql u25 H3.p0 q <| qz H3.ctx (C4.c) u25 q <| O h fun aw ax h => QC q q c67 (fun w' hb => w_strconv_Itoa w' _ hGp.c (List.length B4 : Int) aw ax (H3.grow hb).ctx) (by rfl) <| qa q <| Qn H3 fun a ha a8 ay => X <| S1 ha <| W fun a ha => ?_
  obtain rfl := L h
  exact zj (m (ret1 q ha q ⟨q, ay.q0⟩))
 refine rR <| qi (qt_seql q q) q <| qa q <| B ?_
 refine Yh q h (fun h => ?_) (fun h => ?_)
 ·refine rR <| eA H3.p0 us27 uo27 il27 q <| O h fun a9 aA h => U3 q c92 (w_impl_kitchenOf aA (C0.c) (C1.c) (C2.c) (C4.c) H3.ctx) fun ba bb bc bd aB => have ag := H3.cN1 [] aB; O h fun aC aD h => have aE := ag.viewG (Vw.d (Vw.c Vw.refl)); U0 q c91 (w_impl_WorkLeft aD hR0 aE) fun aF aG => have ah := ag.cV0 [] aG all_nil; O h fun aH aI h => have aJ := ah.viewG (Vw.d (Vw.c Vw.refl)); zd q q c67 (w_strconv_Itoa aF _ hGp.c.c aC aH aI aJ) (by rfl) ?_
  rintro _ be ⟨rfl, aK⟩; refine ⟨_, q, ?_⟩
  refine have aL := ah.cV0 [] aK all_nil; qa q <| B <| W fun a ha => ?_
  obtain rfl := L h
  exact zj (m (ret1 q ha q ⟨q, aL.q0.q0⟩))
 refine WP_skip fun a ha => zi <| X <| S1 ha <| rR <| qm q <| O h fun ab aN h => zd q q c64 (w_strings_Cut w2 _ hGm.c p1 ([32] : List UInt8) ab aN H3.ctx) (by rfl) ?_
 rintro _ bf ⟨rfl, aO⟩; refine ⟨_, q, ?_⟩
 refine have aj := H3.cN0 [] aO; qm q <| qi (zv q q) q <| qi (zv q q) q <| qi (zv q q) q <| qa q <| qa q <| qa q <| B <| C <| Z <| qm q <| O h fun ak aP h => U0 q c90 (w_impl_readNumber aP aj.ctx) fun bg aQ => have aa := aj.cN0 [] aQ; qm q <| qi (zv q q) q <| qi (zv q q) q <| qa q <| qa q <| B <| C <| g <| C <| Z <| qm q <| qm q ?_
 refine Ha (res := (ak.2 && (ab.1 == ([98, 105, 108, 108] : List UInt8)))) 2 an (fun ad bh aR => ?_) ?_
 ·exact jm ad q <| ji (qt_seql q q) ad q <| aR 2 q q q (ai ad)
 refine qa q <| B ?_
 refine Yh q h (fun h => ?_) (fun h => ?_)
 ·refine C <| zk <| eA aa.p0 us27 uo27 il27 q <| qm q <| O h fun aS aT h => qc q c94 aa (fun _ => w_impl_TableBill aT (C0.c) (C1.c) (C2.c) (C4.c)) <| qa q <| Qn aa fun a ha bi ae => X <| S1 ha <| C <| rR <| qm q <| qi (qt_lss q q) q <| B ?_
  refine Yh q h (fun h => ?_) (fun h => ?_)
  ·cases h
   exact rR <| qa q <| B <| W fun a ha => m (zj (m (ret1 q ha q ⟨q, ae.q0⟩)))
  refine y <| C <| zk <| qm q <| O h fun aV aW h => QC q q c67 (fun w' hb => w_strconv_Itoa w' _ hGp.c aS aV aW (ae.grow hb).ctx) (by rfl) <| qa q <| Qn ae fun a ha bj aX => X <| S1 ha <| W fun a ha => ?_
  obtain rfl := L h
  exact zj (m (ret1 q ha q ⟨q, aX.q0⟩))
 refine rR <| qm q <| qm q ?_
 refine Ha (res := (ak.2 && (ab.1 == ([102, 114, 101, 101] : List UInt8)))) 2 an (fun af bk aZ => ?_) ?_
 ·exact jm af q <| ji (qt_seql q q) af q <| aZ 2 q q q (ai af)
 refine qa q <| B ?_
 refine Yh q h (fun h => ?_) (fun h => ?_)
 ·refine rR <| qf uf27 fi27_0 nz23 q <| ql u23 aa.p0 q <| qm q <| O h fun bl a0 h => U1 q c95 (w_impl_FreeOf a0 (C0.c) aa.ctx) fun bm bn a1 => have al := aa.cN1 [] a1; O h fun bo a2 h => U0 q c93 (w_impl_listText a2 hGp.c.c hS0 al.ctx) fun bp a3 => have a4 := al.cN0 [] a3; qa q <| B <| W fun a ha => ?_
  obtain rfl := L h
  exact zj (m (ret1 q ha q ⟨q, a4.q0.q0⟩))
 cases h
 exact WP_skip fun a ha => zi <| X <| S1 ha <| rR <| qa q <| B <| W fun a ha => ret1 q ha q ⟨q, aa.q0⟩
theorem w_impl_HouseLine {w G A0 B0 A1 B1 A2 B2 B3 A4 B4 p1 r} (h : impl_HouseLineS B0 B1 B2 B3 B4 p1 = some r) (hGl : Glob G) (hGm : GlobM G) (hGp : GlobP G) (C0 : Has G ty12 A0 B0) (C1 : Has G tI A1 B1) (C2 : Has G tI A2 B2) (C4 : Has G ty14 A4 B4) (H : Ctx w G) : Calls Tryz.prog 14 #[.agg #[A0, A1, A2, iV B3, A4], strV p1] w fun e w' => ∃ (v1 : Value) (csv1 : List Value) (Fv1 : List Nat) (v4 : Value) (v5 : Value) (v6 : Value) (csv6 : List Value) (Fv6 : List Nat), e = .returned (.tuple #[.agg #[v1, v4, v5, iV r.1.2.2.2.1, v6], strV r.2]) ∧ Holds M0 w w' [dpR 70 dt15 v1 csv1 r.1.1 Fv1, .sl 3 tI v4 r.1.2.1, .sl 3 tI v5 r.1.2.2.1, dpR 38 dt16 v6 csv6 r.1.2.2.2.2 Fv6] G := by
 refine F0 47 H Tryz.func14 q fun H => ?_
 refine C <| Z <| WL_box (cs := [A0, A1, A2, iV B3, A4]) H q q q q fun b1 w2 H3 => zq (cs := [nS, nS, nS, iV 0, nS]) H3 z27 q q q fun b5 w6 H7 => qa q <| B <| C <| C <| zk <| eA H7.p1 us27 uo27 il27 q <| O h fun b7 bn h => qc q c17 H7 (fun _ => w_impl_HouseValid bn (C0.c.c) (C1.c.c) (C2.c.c) (C4.c.c)) <| qi (qt_not q) q <| Qn H7 fun a ha b8 aM => X <| S1 ha ?_
 refine Yh q h (fun h => ?_) (fun h => ?_)
 ·cases h
  exact rR <| qi (qt_build (args := []) (css := []) (cells := #[nS, nS, nS, iV 0, nS]) q trivial (by kernel_rfl)) q <| zl (cs' := [nS, nS, nS, iV 0, nS]) aM q il27 q q q q q fun b9 a2 => qa q <| B <| W fun a ha => have bo := R a2.p0; have bp := a2.nD 70 dt15; have bq := bp.nS 3 tI; have br := bq.nS 3 tI; have bs := br.nD 38 dt16; m (retct q ha q q (run_loadVar_bx (cs := [nS, nS, nS, iV 0, nS]) us27 uo27 il27 bo) ⟨(nS), [], [], (nS), (nS), (nS), [], [], q, bs.q4.q4.p1.p2.p3⟩)
 refine y <| C <| rR <| qm q <| O h fun aa bu h => U0 q c44 (w_impl_ReadDeed bu hGl.c.c hGm.c.c aM.ctx) fun ca bv => have bw := aM.cN0 [] bv; qm q <| qi (zv q q) q <| qi (zv q q) q <| zq (cs := [iV 0, iV 0, iV 0, iV 0]) bw z52 q q q fun aw cb bz => zl (cs' := [iV aa.1.1, iV aa.1.2.1, iV aa.1.2.2.1, iV aa.1.2.2.2]) bz q il52 q q q q q fun cc ap => qa q <| rN <| qm q <| B ?_
 refine Yh q h (fun h => ?_) (fun h => ?_)
 ·refine rR <| eA ap.p2 us27 uo27 il27 q <| eA ap.p0 us52 uo52 il52 q <| O h fun ax bA h => zd q q c24 (w_impl_HouseDo bA hGl.c.c.c (C0.c.c.c) (C1.c.c.c) (C2.c.c.c) (C4.c.c.c) ap.ctx) q ?_
  rintro _ cd ⟨aj, a3, a4, ak, al, am, a5, a6, rfl, bB⟩; refine ⟨_, q, ?_⟩
  refine have bC := ap.cN4 [] bB; qm q <| qi (zv q q) q <| qi (zv q q) q <| zq (cs := [nS, nS, nS, iV 0, nS]) bC z27 q q q fun ce cf a7 => have aC := a7.viewG (Vw.c (Vw.d (Vw.c (Vw.c (Vw.d (Vw.c (Vw.c (Vw.c Vw.refl)))))))); zl (cs' := [aj, ak, al, iV ax.1.2.2.2.1, am]) a7 q il27 q (T (aC.sliceOne hR1) (T (aC.sliceOne hS2) (T (aC.sliceOne hS3) (T q (T (aC.sliceOne hR4) q))))) q q q fun cg aD => qa q <| B <| C <| rR <| qm q <| qi (qt_not q) q <| B ?_
  refine Yh q h (fun h => ?_) (fun h => ?_)
  ·cases h
   exact rR <| eA aD.p0 us27 uo27 il27 q <| have a8 := aD.p6; have aE := a8.viewG (Vw.c (Vw.c (Vw.d (Vw.c (Vw.c (Vw.d (Vw.c (Vw.c Vw.refl)))))))); zl (cs' := [aj, ak, al, iV ax.1.2.2.2.1, am]) a8 q il27 q (T (aE.sliceOne hR2) (T (aE.sliceOne hS3) (T (aE.sliceOne hS4) (T q (T (aE.sliceOne hR5) q))))) q q q fun ch a9 => qa q <| B <| W fun a ha => have bD := R a9.p0; m (m (retct q ha q q (run_loadVar_bx (cs := [aj, ak, al, iV ax.1.2.2.2.1, am]) us27 uo27 il27 bD) ⟨aj, a3, a4, ak, al, am, a5, a6, q, a9.q0.q0.q4.q4.p3.p3.p3.p3⟩))
  cases h
  exact y <| rR <| eA aD.p0 us27 uo27 il27 q <| have ba := aD.p6; have aF := ba.viewG (Vw.c (Vw.c (Vw.d (Vw.c (Vw.c (Vw.d (Vw.c (Vw.c Vw.refl)))))))); zl (cs' := [aj, ak, al, iV ax.1.2.2.2.1, am]) ba q il27 q (T (aF.sliceOne hR2) (T (aF.sliceOne hS3) (T (aF.sliceOne hS4) (T q (T (aF.sliceOne hR5) q))))) q q q fun ci bb => qa q <| B <| W fun a ha => have bF := R bb.p0; m (retct q ha q q (run_loadVar_bx (cs := [aj, ak, al, iV ax.1.2.2.2.1, am]) us27 uo27 il27 bF) ⟨aj, a3, a4, ak, al, am, a5, a6, q, bb.q0.q0.q4.q4.p3.p3.p3.p3⟩)
 refine y <| C <| rR <| qm q <| qi (qt_seql q q) q <| B ?_
 refine Yh q h (fun h => ?_) (fun h => ?_)
 ·refine C <| O h fun bH bc h => O h fun ab aN h => ?_
  refine WP_join (M := fun a w2 => ∃ aO aq aP aQ ar au av aR aS, Fr a 47 [(4, pB b5), (10, pB aO)] ∧ Holds M0 w w2 [.bx b5 27 [nS, nS, nS, iV 0, nS], .bx aO 27 [aq, ar, au, iV ab.1.2.2.2.1, av], dpR 70 dt15 aq aP ab.1.1 aQ, .sl 3 tI ar ab.1.2.1, .sl 3 tI au ab.1.2.2.1, dpR 38 dt16 av aR ab.1.2.2.2.2 aS] G) ?_ ?_
  ·refine WP_ordersT (fun w1 w2 => Chg M0 w1 w2) 9 (by kernel_rfl) fun aT bI => have bd := ap.grow bI; ?_
   have aU : Ctx aT ([] ++ ([.bx aw 52 [iV aa.1.1, iV aa.1.2.1, iV aa.1.2.2.1, iV aa.1.2.2.2], .bx b5 27 [nS, nS, nS, iV 0, nS], .bx b1 27 [A0, A1, A2, iV B3, A4]] ++ G)) := bd.ctx
   have bJ : Holds _ aT aT [] ([.bx aw 52 [iV aa.1.1, iV aa.1.2.1, iV aa.1.2.2.1, iV aa.1.2.2.2], .bx b5 27 [nS, nS, nS, iV 0, nS], .bx b1 27 [A0, A1, A2, iV B3, A4]] ++ G) := zb (Rs := []) aU
   refine have Hc := bJ; have bK := HasB.bx (HasB.c (HasB.c (HasB.hd))) Hc.ctx; XT (i := 0) q (by kernel_rfl) q Hc.chg q (qs_agg (cs := [A0, A1, A2, iV B3, A4]) us27 uo27 il27 q (fun j z hj => by rw [Nat.zero_add]; exact bK.cell hj) Hc.chg (Ctx.outB aU (HasB.c (HasB.c (HasB.hd))))) q q ?_
   change XC _ _ _ _ _ _ _ _ ((35, .agg #[A0, A1, A2, iV B3, A4]) :: _) _
   refine have bL := HasB.bx (HasB.c (HasB.c (HasB.hd))) Hc.ctx; XT (i := 1) q (by kernel_rfl) q Hc.chg q (qs_agg (cs := [A0, A1, A2, iV B3, A4]) us27 uo27 il27 q (fun j z hj => by rw [Nat.zero_add]; exact bL.cell hj) Hc.chg (Ctx.outB aU (HasB.c (HasB.c (HasB.hd))))) q q ?_
   change XC _ _ _ _ _ _ _ _ ((36, .agg #[A0, A1, A2, iV B3, A4]) :: _) _
   repeat' first
    | refine XDo 2 q <| U1 q c45 (w_impl_EndDeeds bc (C0.c.c.c) (C1.c.c.c) (C2.c.c.c) (C4.c.c.c) Hc.ctx) fun be _ HK => ?_; have Hc := Hc.cN1 [] HK; refine XN Hc.chg ?_
    | refine XDo 2 q <| U1 q c45 (w_impl_EndDeeds bc (C0.c.c.c.c) (C1.c.c.c.c) (C2.c.c.c.c) (C4.c.c.c.c) Hc.ctx) fun be _ HK => ?_; have Hc := Hc.cN1 [] HK; refine XN Hc.chg ?_
    | refine XDo 3 q <| zd q q c25 (w_impl_HouseRun aN hGl.c.c.c.c (C0.c.c.c.c) (C1.c.c.c.c) (C2.c.c.c.c) (C4.c.c.c.c) hS0 Hc.ctx) q ?_; rintro _ _ ⟨ae, aG, aH, af, ag, ah, aI, aJ, rfl, HK⟩; refine ⟨_, q, ?_⟩; have Hc := Hc.cN4 [] HK; refine XN Hc.chg <| XQ (i := 4) q (by kernel_rfl) q Hc.chg q (fun _ => qt_move q) q q <| XQ (i := 5) q (by kernel_rfl) q Hc.chg q (fun _ => zv q q) q q <| XQ (i := 6) q (by kernel_rfl) q Hc.chg q (fun _ => zv q q) q q ?_
    | refine XDo 3 q <| zd q q c25 (w_impl_HouseRun aN hGl.c.c.c.c.c (C0.c.c.c.c.c) (C1.c.c.c.c.c) (C2.c.c.c.c.c) (C4.c.c.c.c.c) hS1 Hc.ctx) q ?_; rintro _ _ ⟨ae, aG, aH, af, ag, ah, aI, aJ, rfl, HK⟩; refine ⟨_, q, ?_⟩; have Hc := Hc.cN4 [] HK; refine XN Hc.chg <| XQ (i := 4) q (by kernel_rfl) q Hc.chg q (fun _ => qt_move q) q q <| XQ (i := 5) q (by kernel_rfl) q Hc.chg q (fun _ => zv q q) q q <| XQ (i := 6) q (by kernel_rfl) q Hc.chg q (fun _ => zv q q) q q ?_
    | refine XDo 3 q <| zd q q c25 (w_impl_HouseRun aN hGl.c.c.c.c.c (C0.c.c.c.c.c) (C1.c.c.c.c.c) (C2.c.c.c.c.c) (C4.c.c.c.c.c) hS0 Hc.ctx) q ?_; rintro _ _ ⟨ae, aG, aH, af, ag, ah, aI, aJ, rfl, HK⟩; refine ⟨_, q, ?_⟩; have Hc := Hc.cN4 [] HK; refine XN Hc.chg <| XQ (i := 4) q (by kernel_rfl) q Hc.chg q (fun _ => qt_move q) q q <| XQ (i := 5) q (by kernel_rfl) q Hc.chg q (fun _ => zv q q) q q <| XQ (i := 6) q (by kernel_rfl) q Hc.chg q (fun _ => zv q q) q q ?_
    | refine XDo 7 q ?_; refine zq (cs := [nS, nS, nS, iV 0, nS]) Hc z27 q q q (fun bf _ Hc => ?_); refine XN Hc.chg ?_
    | refine XDo 8 q ?_; have ad := Hc.viewG (Vw.c (Vw.d (Vw.c (Vw.c (Vw.d (Vw.c Vw.refl)))))); refine zl (cs' := [ae, af, ag, iV ab.1.2.2.2.1, ah]) Hc q il27 q (T (ad.sliceOne hR1) (T (ad.sliceOne hS2) (T (ad.sliceOne hS3) (T q (T (ad.sliceOne hR4) q))))) q q q (fun _ Hc => ?_); refine XN Hc.chg ?_
    | refine XDo 8 q ?_; have Hc := Hc.p4; have ad := Hc.viewG (Vw.c (Vw.d (Vw.c (Vw.c (Vw.d (Vw.c Vw.refl)))))); refine zl (cs' := [ae, af, ag, iV ab.1.2.2.2.1, ah]) Hc q il27 q (T (ad.sliceOne hR1) (T (ad.sliceOne hS2) (T (ad.sliceOne hS3) (T q (T (ad.sliceOne hR4) q))))) q q q (fun _ Hc => ?_); refine XN Hc.chg ?_
    | refine XDo 8 q ?_; have Hc := Hc.p5; have ad := Hc.viewG (Vw.c (Vw.d (Vw.c (Vw.c (Vw.d (Vw.c Vw.refl)))))); refine zl (cs' := [ae, af, ag, iV ab.1.2.2.2.1, ah]) Hc q il27 q (T (ad.sliceOne hR1) (T (ad.sliceOne hS2) (T (ad.sliceOne hS3) (T q (T (ad.sliceOne hR4) q))))) q q q (fun _ Hc => ?_); refine XN Hc.chg ?_
    | have Hc : Holds _ _ _ [.bx bf 27 [ae, af, ag, iV ab.1.2.2.2.1, ah], dpR 70 dt15 ae aG ab.1.1 aH, .sl 3 tI af ab.1.2.1, .sl 3 tI ag ab.1.2.2.1, dpR 38 dt16 ah aI ab.1.2.2.2.2 aJ, .sl 52 ty10 be bH, .bx aw 52 [iV aa.1.1, iV aa.1.2.1, iV aa.1.2.2.1, iV aa.1.2.2.2], .bx b5 27 [nS, nS, nS, iV 0, nS], .bx b1 27 [A0, A1, A2, iV B3, A4]] G := bd.calledN (Rs := []) Hc; refine XDo 9 q <| qa q <| XE q ?_
    | refine XV [2, 7] (by decide +kernel) q (allc ?_ (allc ?_ alln))
    | refine XV [3, 7] (by decide +kernel) q (allc ?_ (allc ?_ alln))
    | refine XV [7] (by decide +kernel) q (allc ?_ alln)
    | refine XV [8] (by decide +kernel) q (allc ?_ alln)
    | refine XV [9] (by decide +kernel) q (allc ?_ alln)
    | refine XV [3] (by decide +kernel) q (allc ?_ alln)
    | refine XV [2] (by decide +kernel) q (allc ?_ alln)
    | refine XC_done (by decide +kernel) (fun a ha => ?_); have Hc := (((((((((Hc.q5).q5).q6).p4).p4).p4).p4).p4).p5); exact ⟨bf, ae, aG, aH, af, ag, ah, aI, aJ, ha.s, Hc⟩
  rintro a cj ⟨aO, aq, aP, aQ, ar, au, av, aR, aS, ha, aV⟩
  cases h
  exact S1 ha <| rR <| eA aV.p1 us27 uo27 il27 q <| have aK := aV.viewG (Vw.c (Vw.c (Vw.d (Vw.c (Vw.c (Vw.d Vw.refl)))))); zl (cs' := [aq, ar, au, iV ab.1.2.2.2.1, av]) aV q il27 q (T (aK.sliceOne hR2) (T (aK.sliceOne hS3) (T (aK.sliceOne hS4) (T q (T (aK.sliceOne hR5) q))))) q q q fun ck bg => qa q <| B <| W fun a ha => have bM := R bg.p0; m (retct q ha q q (run_loadVar_bx (cs := [aq, ar, au, iV ab.1.2.2.2.1, av]) us27 uo27 il27 bM) ⟨aq, aP, aQ, ar, au, av, aR, aS, q, bg.q0.q0.p3.p3.p3.p3⟩)
 refine y <| C <| O h fun ao bO h => O h fun bP bQ h => ?_
 refine WP_join (M := fun a w2 => ∃ ay aW aX az aA aB aY aZ, Fr a 47 [(4, pB b5), (5, strV bP)] ∧ Holds M0 w w2 [.bx b5 27 [ay, az, aA, iV ao.2.2.2.1, aB], dpR 70 dt15 ay aW ao.1 aX, .sl 3 tI az ao.2.1, .sl 3 tI aA ao.2.2.1, dpR 38 dt16 aB aY ao.2.2.2.2 aZ] G) ?_ ?_
 ·refine WP_ordersT (fun w1 w2 => Chg (([.bx b5 27 [nS, nS, nS, iV 0, nS]] : List Res).flatMap Res.own) w1 w2) 6 (by kernel_rfl) fun a0 bR => have bS := ap.grow bR; have bh := bS.p1; ?_
  have a1 : Ctx a0 ([.bx b5 27 [nS, nS, nS, iV 0, nS]] ++ ([.bx aw 52 [iV aa.1.1, iV aa.1.2.1, iV aa.1.2.2.1, iV aa.1.2.2.2], .bx b1 27 [A0, A1, A2, iV B3, A4]] ++ G)) := bh.ctx
  have bT : Holds _ a0 a0 [.bx b5 27 [nS, nS, nS, iV 0, nS]] ([.bx aw 52 [iV aa.1.1, iV aa.1.2.1, iV aa.1.2.2.1, iV aa.1.2.2.2], .bx b1 27 [A0, A1, A2, iV B3, A4]] ++ G) := zb (Rs := [.bx b5 27 [nS, nS, nS, iV 0, nS]]) a1
  refine have Hc := bT; have bU := HasB.bx (HasB.c (HasB.c (HasB.hd))) Hc.ctx; XT (i := 0) q (by kernel_rfl) q Hc.chg q (qs_agg (cs := [A0, A1, A2, iV B3, A4]) us27 uo27 il27 q (fun j z hj => by rw [Nat.zero_add]; exact bU.cell hj) Hc.chg (Ctx.outB a1 (HasB.c (HasB.hd)))) q q ?_
  change XC _ _ _ _ _ _ _ _ ((42, .agg #[A0, A1, A2, iV B3, A4]) :: _) _
  refine have bV := HasB.bx (HasB.c (HasB.c (HasB.hd))) Hc.ctx; XT (i := 2) q (by kernel_rfl) q Hc.chg q (qs_agg (cs := [A0, A1, A2, iV B3, A4]) us27 uo27 il27 q (fun j z hj => by rw [Nat.zero_add]; exact bV.cell hj) Hc.chg (Ctx.outB a1 (HasB.c (HasB.hd)))) q q ?_
  change XC _ _ _ _ _ _ _ _ ((44, .agg #[A0, A1, A2, iV B3, A4]) :: _) _
  refine XQ (i := 3) q (by kernel_rfl) q Hc.chg q (fun _ => qt_move q) q q ?_
  repeat' first
   | refine XDo 1 q <| zd q q c32 (w_impl_copyHouse bO (C0.c.c.c) (C1.c.c.c) (C2.c.c.c) (C4.c.c.c) Hc.ctx) q ?_; rintro _ _ ⟨bi, bW, bX, bj, bk, bl, bY, bZ, rfl, HK⟩; refine ⟨_, q, ?_⟩; have Hc := Hc.cN4 [] HK; refine XN Hc.chg ?_
   | refine XDo 4 q ?_; have b0 := Hc.viewG (Vw.d (Vw.c (Vw.c (Vw.d (Vw.c Vw.refl))))); refine U0 q c46 (w_impl_answerTo bQ hGm.c.c.c.c.c.c.c hGp.c.c.c.c.c.c.c (C0.c.c.c.c.c.c.c) (C1.c.c.c.c.c.c.c) (C2.c.c.c.c.c.c.c) (C4.c.c.c.c.c.c.c) b0) fun _ HK => ?_; have Hc := Hc.cV0 [] HK all_nil; refine XN Hc.chg ?_
   | refine XDo 5 q ?_; have Hc := Hc.p4; have aL := Hc.viewG (Vw.c (Vw.d (Vw.c (Vw.c (Vw.d Vw.refl))))); refine zl (cs' := [bi, bj, bk, iV ao.2.2.2.1, bl]) Hc q il27 q (T (aL.sliceOne hR1) (T (aL.sliceOne hS2) (T (aL.sliceOne hS3) (T q (T (aL.sliceOne hR4) q))))) q q q (fun _ Hc => ?_); refine XN Hc.chg ?_
   | have Hc := bh.cN5 [_] Hc; refine XDo 6 q <| qa q <| XE q ?_
   | refine XV [1] (by decide +kernel) q (allc ?_ alln)
   | refine XV [4] (by decide +kernel) q (allc ?_ alln)
   | refine XV [5] (by decide +kernel) q (allc ?_ alln)
   | refine XV [6] (by decide +kernel) q (allc ?_ alln)
   | refine XC_done (by decide +kernel) (fun a ha => ?_); have Hc := (((((((Hc.q5).q5).p4).p4).p4).p4).p4); exact ⟨bi, bW, bX, bj, bk, bl, bY, bZ, ha.s, Hc⟩
 rintro a cl ⟨ay, aW, aX, az, aA, aB, aY, aZ, ha, bm⟩
 cases h
 exact S1 ha <| W fun a ha => have b4 := R bm.p0; retct q ha q q (run_loadVar_bx (cs := [ay, az, aA, iV ao.2.2.2.1, aB]) us27 uo27 il27 b4) ⟨ay, aW, aX, az, aA, aB, aY, aZ, q, bm.q0.p3.p3.p3.p3⟩
theorem w_laws_sameInts {w G vp0 p0 vp1 p1 r} (h : laws_sameIntsS p0 p1 = some r) (hp0 : Has G tI vp0 p0) (hp1 : Has G tI vp1 p1) (H : Ctx w G) : Calls Tryz.prog 34 #[vp0, vp1] w fun e w' => e = .returned (.bool r) ∧ Holds M0 w w' [] G := by
 refine F0 26 H Tryz.func34 q fun H => ?_
 refine rR <| qa q <| B <| C <| rR <| qm q <| qz H.ctx (hp0) u24 q <| qm q <| qz H.ctx (hp1) u24 q <| qi (qt_neq q q) q <| B ?_
 refine Yh q h (fun h => ?_) (fun h => ?_)
 ·cases h
  exact rR <| qa q <| B <| W fun a ha => m (ret1 q ha q ⟨q, H⟩)
 refine y <| C <| rR <| qa q <| B <| g <| O h fun o2 ah h => ?_
 refine fun a4 aj => zp (I := fun s1 a w2 => (Fr a 26 [(0, vp0), (1, vp1), (5, iV s1)] ∧ Holds M0 w w2 [] G)) (O := fun o e a w2 => match o with | .inl _ => e = .exit 0 ∧ (Fr a 26 [] ∧ Holds M0 w w2 [] G) | .inr q0 => e = .ret ∧ (Fr a 26 [(4, .bool q0)] ∧ Holds M0 w w2 [] G)) ah ?_ ?_ ?_
 ·exact ⟨aj.s, H⟩
 ·rintro s1 _ a w6 aa ⟨ha, ab⟩
  refine S1 ha <| C <| rR <| qm q <| qm q <| qz ab.ctx (hp0) u24 q <| qi (qt_lss q q) q <| B ?_
  refine Yh q aa (fun aa => ?_) (fun aa => ?_)
  ·refine y <| C <| g <| C <| WP_quiet (by kernel_rfl) (by kernel_rfl) <| qm q <| qm q <| O aa fun ap ad aa => qe ab (hp0) ad u24 i3 q fun _ _ ak => eI u3 ak q <| qm q <| qm q <| O aa fun av ae aa => qe ab (hp1) ae u24 i3 q fun _ _ al => eI u3 al q <| qi (qt_neq q q) q <| Qn ab fun a ha az af => X <| S1 ha ?_
   refine Yh q aa (fun aa => ?_) (fun aa => ?_)
   ·cases aa
    exact rR <| qa q <| B <| W fun a ha => zj (m (⟨ret_ne, q, ha.s, af⟩))
   cases aa
   exact WP_skip fun a ha => zi <| X <| S1 ha <| Z <| qm q <| qi (qt_add q q) q <| qa q <| WL_nil fun a ha => ⟨q, ha.s, af⟩
  cases aa
  exact WP_exit fun a ha => zo (⟨exit_ne, q, ha.s, ab⟩)
 intro e a aA ag
 rcases o2 with o2 | o2
 ·obtain ⟨rfl, ha, am⟩ := ag
  cases h
  exact zn <| X <| S1 ha <| rR <| qa q <| B <| W fun a ha => ret1 q ha q ⟨q, am⟩
 obtain ⟨rfl, ha, ao⟩ := ag
 obtain rfl := L h
 exact zj (m (ret1 q ha q ⟨q, ao⟩))
theorem w_laws_sameItem {w G B0 A1 B1 B2 p1_0 A1_1 p1_1 p1_2 r} (h : laws_sameItemS B0 B1 B2 p1_0 p1_1 p1_2 = some r) (C1 : Has G ty2 A1 B1) (hp1_1 : Has G ty2 A1_1 p1_1) (H : Ctx w G) : Calls Tryz.prog 35 #[.agg #[iV B0, A1, iV B2], .agg #[iV p1_0, A1_1, iV p1_2]] w fun e w' => e = .returned (.bool r) ∧ Holds M0 w w' [] G := by
 refine F0 45 H Tryz.func35 q fun H => ?_
 refine C <| Z <| WL_box (cs := [iV B0, A1, iV B2]) H q q q q fun b1 w2 H3 => WL_box (cs := [iV p1_0, A1_1, iV p1_2]) H3 q q q q fun b5 w6 H7 => qa q <| B <| C <| rR <| qf uf70 fi70_0 nz3 q <| ql u3 H7.p1 q <| qf uf70 fi70_0 nz3 q <| ql u3 H7.p0 q <| qi (qt_neq q q) q <| qm q ?_
 refine Ho (res := ((B0 != p1_0) || (B2 != p1_2))) 5 os (fun ae aE ap => ?_) ?_
 ·exact jf uf70 fi70_2 nz3 ae q <| jl u3 H7.p1 ae q <| jf uf70 fi70_2 nz3 ae q <| jl u3 H7.p0 ae q <| ji (qt_neq q q) ae q <| ap 5 q q q (oi ae)
 refine qm q ?_
 refine Ho (res := (((B0 != p1_0) || (B2 != p1_2)) || ((List.length B1 : Int) != (List.length p1_1 : Int)))) 7 os (fun ad aF aq => ?_) ?_
 ·exact jf uf70 fi70_1 nz68 ad q <| jl u68 H7.p1 ad q <| jz H7.ctx (C1.c.c) u68 ad q <| jf uf70 fi70_1 nz68 ad q <| jl u68 H7.p0 ad q <| jz H7.ctx (hp1_1.c.c) u68 ad q <| ji (qt_neq q q) ad q <| aq 7 q q q (oi ad)
 refine B ?_
 refine Yh q h (fun h => ?_) (fun h => ?_)
 ·cases h
  exact rR <| qa q <| B <| W fun a ha => m (ret1 q ha q ⟨q, H7.q0.q0⟩)
 refine y <| C <| rR <| qa q <| B <| g <| O h fun ah au h => ?_
 refine fun aG aw => zp (I := fun aj a w2 => (Fr a 45 [(2, pB b1), (3, pB b5), (5, iV aj)] ∧ Holds M0 w w2 [.bx b1 70 [iV B0, A1, iV B2], .bx b5 70 [iV p1_0, A1_1, iV p1_2]] G)) (O := fun o e a w2 => match o with | .inl _ => e = .exit 0 ∧ (Fr a 45 [] ∧ Holds M0 w w2 [] G) | .inr q0 => e = .ret ∧ (Fr a 45 [(4, .bool q0)] ∧ Holds M0 w w2 [] G)) au ?_ ?_ ?_
 ·exact ⟨aw.s, H7.p1⟩
 ·rintro aj _ a aH aa ⟨ha, ab⟩
  refine S1 ha <| C <| rR <| qm q <| qf uf70 fi70_1 nz68 q <| ql u68 ab.p0 q <| qz ab.ctx (C1.c.c) u68 q <| qi (qt_lss q q) q <| B ?_
  refine Yh q aa (fun aa => ?_) (fun aa => ?_)
  ·refine y <| C <| g <| C <| WP_quiet (by kernel_rfl) (by kernel_rfl) <| qf uf70 fi70_1 nz68 q <| ql u68 ab.p0 q <| qm q <| O aa fun af ak aa => qe ab (C1.c.c) ak u68 i79 q fun _ _ ax => lP [iV af.1, iV af.2] us79 uo79 i79 ax q q q q <| qf uf70 fi70_1 nz68 q <| ql u68 ab.p1 q <| qm q <| O aa fun ag al aa => qe ab (hp1_1.c.c) al u68 i79 q fun _ _ ay => lP [iV ag.1, iV ag.2] us79 uo79 i79 ay q q q q <| qi (qt_neqA q q (by kernel_rfl) (eqs79 af.1 ag.1 af.2 ag.2)) q <| Qn ab fun a ha aO am => X <| S1 ha ?_
   refine Yh q aa (fun aa => ?_) (fun aa => ?_)
   ·cases aa
    exact rR <| qa q <| B <| W fun a ha => zj (m (⟨ret_ne, q, ha.s, am.q0.q0⟩))
   cases aa
   exact WP_skip fun a ha => zi <| X <| S1 ha <| Z <| qm q <| qi (qt_add q q) q <| qa q <| WL_nil fun a ha => ⟨q, ha.s, am.p1.p1⟩
  cases aa
  exact WP_exit fun a ha => zo (⟨exit_ne, q, ha.s, ab.q0.q0⟩)
 intro e a aP ao
 rcases ah with ah | ah
 ·obtain ⟨rfl, ha, aC⟩ := ao
  cases h
  exact zn <| X <| S1 ha <| rR <| qa q <| B <| W fun a ha => ret1 q ha q ⟨q, aC⟩
 obtain ⟨rfl, ha, aD⟩ := ao
 obtain rfl := L h
 exact zj (m (ret1 q ha q ⟨q, aD⟩))
theorem w_laws_sameTicket {w G vp0 p0 vp1 p1 r} (h : laws_sameTicketS p0 p1 = some r) (hp0 : Has G ty2 vp0 p0) (hp1 : Has G ty2 vp1 p1) (H : Ctx w G) : Calls Tryz.prog 36 #[vp0, vp1] w fun e w' => e = .returned (.bool r) ∧ Holds M0 w w' [] G := by
 refine F0 26 H Tryz.func36 q fun H => ?_
 refine rR <| qa q <| B <| C <| rR <| qm q <| qz H.ctx (hp0) u36 q <| qm q <| qz H.ctx (hp1) u36 q <| qi (qt_neq q q) q <| B ?_
 refine Yh q h (fun h => ?_) (fun h => ?_)
 ·cases h
  exact rR <| qa q <| B <| W fun a ha => m (ret1 q ha q ⟨q, H⟩)
 refine y <| C <| rR <| qa q <| B <| g <| O h fun o2 ak h => ?_
 refine fun a4 al => zp (I := fun s1 a w2 => (Fr a 26 [(0, vp0), (1, vp1), (5, iV s1)] ∧ Holds M0 w w2 [] G)) (O := fun o e a w2 => match o with | .inl _ => e = .exit 0 ∧ (Fr a 26 [] ∧ Holds M0 w w2 [] G) | .inr q0 => e = .ret ∧ (Fr a 26 [(4, .bool q0)] ∧ Holds M0 w w2 [] G)) ak ?_ ?_ ?_
 ·exact ⟨al.s, H⟩
 ·rintro s1 _ a w6 aa ⟨ha, ab⟩
  refine S1 ha <| C <| rR <| qm q <| qm q <| qz ab.ctx (hp0) u36 q <| qi (qt_lss q q) q <| B ?_
  refine Yh q aa (fun aa => ?_) (fun aa => ?_)
  ·refine y <| C <| g <| C <| WP_quiet (by kernel_rfl) (by kernel_rfl) <| qm q <| qm q <| O aa fun ad af aa => qe ab (hp0) af u36 i123 q fun _ _ am => lP [iV ad.1, iV ad.2] us123 uo123 i123 am q q q q <| qm q <| qm q <| O aa fun ae ag aa => qe ab (hp1) ag u36 i123 q fun _ _ ao => lP [iV ae.1, iV ae.2] us123 uo123 i123 ao q q q q <| qi (qt_neqA q q (by kernel_rfl) (eqs123 ad.1 ae.1 ad.2 ae.2)) q <| Qn ab fun a ha az ah => X <| S1 ha ?_
   refine Yh q aa (fun aa => ?_) (fun aa => ?_)
   ·cases aa
    exact rR <| qa q <| B <| W fun a ha => zj (m (⟨ret_ne, q, ha.s, ah⟩))
   cases aa
   exact WP_skip fun a ha => zi <| X <| S1 ha <| Z <| qm q <| qi (qt_add q q) q <| qa q <| WL_nil fun a ha => ⟨q, ha.s, ah⟩
  cases aa
  exact WP_exit fun a ha => zo (⟨exit_ne, q, ha.s, ab⟩)
 intro e a aA aj
 rcases o2 with o2 | o2
 ·obtain ⟨rfl, ha, ap⟩ := aj
  cases h
  exact zn <| X <| S1 ha <| rR <| qa q <| B <| W fun a ha => ret1 q ha q ⟨q, ap⟩
 obtain ⟨rfl, ha, aq⟩ := aj
 obtain rfl := L h
 exact zj (m (ret1 q ha q ⟨q, aq⟩))
theorem w_laws_sameHouse {w G A0 B0 A1 B1 A2 B2 B3 A4 B4 A1_0 p1_0 A1_1 p1_1 A1_2 p1_2 p1_3 A1_4 p1_4 r} (h : laws_sameHouseS B0 B1 B2 B3 B4 p1_0 p1_1 p1_2 p1_3 p1_4 = some r) (C0 : Has G ty12 A0 B0) (C1 : Has G tI A1 B1) (C2 : Has G tI A2 B2) (C4 : Has G ty14 A4 B4) (hp1_0 : Has G ty12 A1_0 p1_0) (hp1_1 : Has G tI A1_1 p1_1) (hp1_2 : Has G tI A1_2 p1_2) (hp1_4 : Has G ty14 A1_4 p1_4) (H : Ctx w G) : Calls Tryz.prog 9 #[.agg #[A0, A1, A2, iV B3, A4], .agg #[A1_0, A1_1, A1_2, iV p1_3, A1_4]] w fun e w' => e = .returned (.bool r) ∧ Holds M0 w w' [] G := by
 refine F0 117 H Tryz.func9 q fun H => ?_
 refine C <| Z <| WL_box (cs := [A0, A1, A2, iV B3, A4]) H q q q q fun b1 w2 H3 => WL_box (cs := [A1_0, A1_1, A1_2, iV p1_3, A1_4]) H3 q q q q fun b5 w6 H7 => qa q <| B <| C <| C <| zk <| qf uf27 fi27_0 nz23 q <| ql u23 H7.p1 q <| qz H7.ctx (C0.c.c) u23 q <| qf uf27 fi27_0 nz23 q <| ql u23 H7.p0 q <| qz H7.ctx (hp1_0.c.c) u23 q <| qi (qt_neq q q) q <| qm q <| O h fun aU am h => ?_
 refine Go (res := aU) 6 (if_t · am) (fun ak bV aV => ?_) ?_
 ·exact have am := if_f ak am; jf uf27 fi27_1 nz24 ak q <| jl u24 H7.p1 ak q <| jf uf27 fi27_1 nz24 ak q <| jl u24 H7.p0 ak q <| O am fun bW aW am => jc ak q c34 H7 (fun _ => w_laws_sameInts aW (C1.c.c) (hp1_1.c.c)) <| ji (qt_not q) ak q <| aV 6 q q q am
 refine qm q <| O h fun aw ao h => ?_
 refine Go (res := aw) 6 (if_t · ao) (fun al bX aX => ?_) ?_
 ·exact have ao := if_f al ao; jf uf27 fi27_2 nz24 al q <| jl u24 H7.p1 al q <| jf uf27 fi27_2 nz24 al q <| jl u24 H7.p0 al q <| O ao fun bY aY ao => jc al q c34 H7 (fun _ => w_laws_sameInts aY (C2.c.c) (hp1_2.c.c)) <| ji (qt_not q) al q <| aX 6 q q q ao
 refine qm q ?_
 refine Go (res := (aw || (B3 != p1_3))) 5 os (fun ap bZ aZ => ?_) ?_
 ·exact jf uf27 fi27_3 nz3 ap q <| jl u3 H7.p1 ap q <| jf uf27 fi27_3 nz3 ap q <| jl u3 H7.p0 ap q <| ji (qt_neq q q) ap q <| aZ 5 q q q (oi ap)
 refine qm q ?_
 refine Go (res := ((aw || (B3 != p1_3)) || ((List.length B4 : Int) != (List.length p1_4 : Int)))) 7 os (fun aj b0 a0 => ?_) ?_
 ·exact jf uf27 fi27_4 nz25 aj q <| jl u25 H7.p1 aj q <| jz H7.ctx (C4.c.c) u25 aj q <| jf uf27 fi27_4 nz25 aj q <| jl u25 H7.p0 aj q <| jz H7.ctx (hp1_4.c.c) u25 aj q <| ji (qt_neq q q) aj q <| a0 7 q q q (oi aj)
 refine Qn H7 fun a ha b4 aD => X <| S1 ha ?_
 refine Yh q h (fun h => ?_) (fun h => ?_)
 ·cases h
  exact rR <| qa q <| B <| W fun a ha => m (ret1 q ha q ⟨q, aD.q0.q0⟩)
 refine y <| C <| rR <| qa q <| B <| g <| O h fun ax a2 h => ?_
 refine fun b6 a4 => zp (I := fun aE a w2 => (Fr a 117 [(2, pB b1), (3, pB b5), (5, iV aE)] ∧ Holds M0 w w2 [.bx b1 27 [A0, A1, A2, iV B3, A4], .bx b5 27 [A1_0, A1_1, A1_2, iV p1_3, A1_4]] G)) (O := fun o e a w2 => match o with | .inl _ => e = .exit 0 ∧ (Fr a 117 [(2, pB b1), (3, pB b5)] ∧ Holds M0 w w2 [.bx b1 27 [A0, A1, A2, iV B3, A4], .bx b5 27 [A1_0, A1_1, A1_2, iV p1_3, A1_4]] G) | .inr q0 => e = .ret ∧ (Fr a 117 [(4, .bool q0)] ∧ Holds M0 w w2 [] G)) a2 ?_ ?_ ?_
 ·exact ⟨a4.s, aD.p1⟩
 ·rintro aE _ a aF ad ⟨ha, aq⟩
  refine S1 ha <| C <| rR <| qm q <| qf uf27 fi27_0 nz23 q <| ql u23 aq.p0 q <| qz aq.ctx (C0.c.c) u23 q <| qi (qt_lss q q) q <| B ?_
  refine Yh q ad (fun ad => ?_) (fun ad => ?_)
  ·refine y <| C <| g <| C <| WP_quiet (by kernel_rfl) (by kernel_rfl) <| qf uf27 fi27_0 nz23 q <| ql u23 aq.p0 q <| qm q <| O ad fun ar aG ad => qb aq.ctx (C0.c.c) aG u23 i70 q fun b7 b8 b9 a5 => ?_
   obtain ⟨ca, a6, a7⟩ := aq.atN (C0.c.c) aG a5
   refine XL_load_agg (t := ty12) us70 uo70 i70 a6 q q q fun cb a8 => ?_
   obtain ⟨c68, c69, cc, cd, rfl, a9, ba, bb⟩ := a8
   obtain ⟨rfl, _⟩ := ba
   obtain ⟨ce, c76, cf, cg, rfl, bc, bd, be⟩ := bb
   obtain ⟨au, rfl, bf⟩ := Rep.sl_inv bd
   obtain ⟨rfl, _⟩ := be
   have ay : Holds _ w aF [.ro ty2 au ar.2.1, .bx b1 27 [A0, A1, A2, iV B3, A4], .bx b5 27 [A1_0, A1_1, A1_2, iV p1_3, A1_4]] G := a7 [.ro ty2 au ar.2.1] ⟨⟨_, _, _, _, q, bf, (fun k h => (fun k h => (fun _ h => h) k (by rw [a9]; exact zx _ h)) k (by rw [bc]; exact List.mem_append_left _ h))⟩, trivial⟩
   change XL _ _ _ _ _ ((57, .agg #[iV ar.1, au, iV ar.2.2]) :: _) _
   refine qf uf27 fi27_0 nz23 q <| ql u23 ay.p2 q <| qm q <| O ad fun av aH ad => qb ay.ctx (hp1_0.c.c.c) aH u23 i70 q fun ch ci cj bg => ?_
   obtain ⟨ck, bh, bi⟩ := ay.atN (hp1_0.c.c.c) aH bg
   refine XL_load_agg (t := ty12) us70 uo70 i70 bh q q q fun cl bj => ?_
   obtain ⟨c97, c98, cm, cn, rfl, bk, bl, bm⟩ := bj
   obtain ⟨rfl, _⟩ := bl
   obtain ⟨c104, c105, co, cp, rfl, bn, bo, bp⟩ := bm
   obtain ⟨az, rfl, bq⟩ := Rep.sl_inv bo
   obtain ⟨rfl, _⟩ := bp
   have aI : Holds _ w aF [.ro ty2 az av.2.1, .ro ty2 au ar.2.1, .bx b1 27 [A0, A1, A2, iV B3, A4], .bx b5 27 [A1_0, A1_1, A1_2, iV p1_3, A1_4]] G := bi [.ro ty2 az av.2.1] ⟨⟨_, _, _, _, q, bq, (fun k h => (fun k h => (fun _ h => h) k (by rw [bk]; exact zx _ h)) k (by rw [bn]; exact List.mem_append_left _ h))⟩, trivial⟩
   change XL _ _ _ _ _ ((62, .agg #[iV av.1, az, iV av.2.2]) :: _) _
   refine O ad fun cq br ad => qc q c35 aI (fun _ => w_laws_sameItem br hR1 hR0) <| qi (qt_not q) q <| Qn aI fun a ha cr aJ => X <| S1 ha ?_
   refine Yh q ad (fun ad => ?_) (fun ad => ?_)
   ·cases ad
    exact rR <| qa q <| B <| W fun a ha => zj (m (⟨ret_ne, q, ha.s, aJ.q0.q0.q0.q0⟩))
   cases ad
   exact WP_skip fun a ha => zi <| X <| S1 ha <| Z <| qm q <| qi (qt_add q q) q <| qa q <| WL_nil fun a ha => ⟨q, ha.s, aJ.q0.q0.p1.p1⟩
  cases ad
  exact WP_exit fun a ha => zo (⟨exit_ne, q, ha.s, aq.p1.p1⟩)
 intro e a ct aK
 rcases ax with ax | ax
 ·obtain ⟨rfl, ha, bv⟩ := aK
  refine zn <| X <| S1 ha <| C <| rR <| qa q <| B <| g <| O h fun aA bw h => ?_
  refine fun cu bA => zp (I := fun aL a w2 => (Fr a 117 [(2, pB b1), (3, pB b5), (6, iV aL)] ∧ Holds M0 w w2 [.bx b1 27 [A0, A1, A2, iV B3, A4], .bx b5 27 [A1_0, A1_1, A1_2, iV p1_3, A1_4]] G)) (O := fun o e a w2 => match o with | .inl _ => e = .exit 2 ∧ (Fr a 117 [] ∧ Holds M0 w w2 [] G) | .inr q0 => e = .ret ∧ (Fr a 117 [(4, .bool q0)] ∧ Holds M0 w w2 [] G)) bw ?_ ?_ ?_
  ·exact ⟨bA.s, bv.p1.p1⟩
  ·rintro aL _ a cv aa ⟨ha, ab⟩
   refine S1 ha <| C <| rR <| qm q <| qf uf27 fi27_4 nz25 q <| ql u25 ab.p0 q <| qz ab.ctx (C4.c.c) u25 q <| qi (qt_lss q q) q <| B ?_
   refine Yh q aa (fun aa => ?_) (fun aa => ?_)
   ·refine y <| C <| g <| C <| WP_quiet (by kernel_rfl) (by kernel_rfl) <| qf uf27 fi27_4 nz25 q <| ql u25 ab.p0 q <| qm q <| O aa fun cw aM aa => qe ab (C4.c.c) aM u25 i38 q fun _ _ bB => qf uf38 fi38_0 nz3 q <| eI u3 bB.f q <| qf uf27 fi27_4 nz25 q <| ql u25 ab.p1 q <| qm q <| O aa fun cA aN aa => qe ab (hp1_4.c.c) aN u25 i38 q fun _ _ bC => qf uf38 fi38_0 nz3 q <| eI u3 bC.f q <| qi (qt_neq q q) q <| qm q <| O aa fun bD ag aa => ?_
    refine Go (res := bD) 14 (if_t · ag) (fun ae cE bE => ?_) ?_
    ·exact have ag := if_f ae ag; jf uf27 fi27_4 nz25 ae q <| jl u25 ab.p0 ae q <| jm ae q <| O ag fun cF aO ag => je ab (C4.c.c) aO u25 i38 ae q fun _ _ bF => jf uf38 fi38_1 nz36 ae q <| jV u36 bF.s.f ae q fun cJ aB => jf uf27 fi27_4 nz25 ae q <| jl u25 aB.p2 ae q <| jm ae q <| O ag fun cK aP ag => je aB (hp1_4.c.c.c) aP u25 i38 ae q fun _ _ bG => jf uf38 fi38_1 nz36 ae q <| jV u36 bG.s.f ae q fun cO bH => O ag fun cP bI ag => jc ae q c36 bH (fun _ => w_laws_sameTicket bI hR1 hR0) <| ji (qt_not q) ae q <| bE 14 q q q ag
    refine qm q <| O aa fun bJ ah aa => ?_
    refine Go (res := bJ) 14 (if_t · ah) (fun af cQ bK => ?_) ?_
    ·exact have ah := if_f af ah; jf uf27 fi27_4 nz25 af q <| jl u25 ab.p0 af q <| jm af q <| O ah fun cR aQ ah => je ab (C4.c.c) aQ u25 i38 af q fun _ _ bL => jf uf38 fi38_2 nz24 af q <| jV u24 bL.s.s af q fun cV aC => jf uf27 fi27_4 nz25 af q <| jl u25 aC.p2 af q <| jm af q <| O ah fun cW aR ah => je aC (hp1_4.c.c.c) aR u25 i38 af q fun _ _ bM => jf uf38 fi38_2 nz24 af q <| jV u24 bM.s.s af q fun c0 bN => O ah fun c1 bO ah => jc af q c34 bN (fun _ => w_laws_sameInts bO hR1 hR0) <| ji (qt_not q) af q <| bK 14 q q q ah
    refine Qn ab fun a ha c2 aS => X <| S1 ha ?_
    refine Yh q aa (fun aa => ?_) (fun aa => ?_)
    ·cases aa
     exact rR <| qa q <| B <| W fun a ha => zj (m (⟨ret_ne, q, ha.s, aS.q0.q0⟩))
    cases aa
    exact WP_skip fun a ha => zi <| X <| S1 ha <| Z <| qm q <| qi (qt_add q q) q <| qa q <| WL_nil fun a ha => ⟨q, ha.s, aS.p1.p1⟩
   cases aa
   exact WP_exit fun a ha => zo (⟨exit_ne, q, ha.s, ab.q0.q0⟩)
  intro e a c3 aT
  rcases aA with aA | aA
  ·obtain ⟨rfl, ha, bS⟩ := aT
   cases h
   exact zn <| X <| S1 ha <| rR <| qa q <| B <| W fun a ha => ret1 q ha q ⟨q, bS⟩
  obtain ⟨rfl, ha, bT⟩ := aT
  obtain rfl := L h
  exact zj (m (ret1 q ha q ⟨q, bT⟩))
 obtain ⟨rfl, ha, bU⟩ := aK
 obtain rfl := L h
 exact zj (m (ret1 q ha q ⟨q, bU⟩))
end Go.Proofs.YtkhnponakhabdaaGreatDoor
