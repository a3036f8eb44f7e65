/- The walks: each Go function computes its shallow function. Printed by a program. -/
import Derived.Test.YtpabogkcmbkffaaGreatDoorWS7R6
set_option linter.unusedVariables false
set_option maxRecDepth 10000
set_option maxHeartbeats 8000000
namespace Go.Proofs.YtpabogkcmbkffaaGreatDoor
open Go Go.RowKit
theorem w_impl_HouseDo {w : World} {G : List Res} (hGl : Glob G) {A0 : Value} {B0 : LI} (C0 : Has G ty12 A0 B0) {A1 : Value} {B1 : List Int} (C1 : Has G tI A1 B1) {A2 : Value} {B2 : List Int} (C2 : Has G tI A2 B2) {B3 : Int} {A4 : Value} {B4 : LT} (C4 : Has G ty14 A4 B4) {p1_0 : Int} {p1_1 : Int} {p1_2 : Int} {p1_3 : Int} {r : (LI × (List Int) × (List Int) × Int × LT) × Bool} (h : impl_HouseDoS B0 B1 B2 B3 B4 p1_0 p1_1 p1_2 p1_3 = some r) (H : Ctx w G) : Calls Tryz.prog 7 #[.agg #[A0, A1, A2, iV B3, A4], .agg #[iV p1_0, iV p1_1, iV p1_2, iV p1_3]] w fun e w' => ∃ (v1 : Value) (csv1 : List Value) (Fv1 : List Nat) (v4 : Value) (v5 : Value) (v6 : Value) (csv6 : List Value) (Fv6 : List Nat), e = .returned (.tuple #[.agg #[v1, v4, v5, iV r.1.2.2.2.1, v6], .bool r.2]) ∧ Holds M0 w w' [dpR 55 dt15 v1 csv1 r.1.1 Fv1, .sl 3 tI v4 r.1.2.1, .sl 3 tI v5 r.1.2.2.1, dpR 47 dt16 v6 csv6 r.1.2.2.2.2 Fv6] G := by
 refine E0 (n := 72) H Tryz.func7 q q q fun H => ?_
 unfold impl_HouseDoS at h
 refine C <| Z <| WL_box (cs := [A0, A1, A2, iV B3, A4]) H q q q q fun b1 w2 H3 => WL_box (cs := [iV p1_0, iV p1_1, iV p1_2, iV p1_3]) H3 q q q q fun b5 w6 H7 => zq (cs := [nS, nS, nS, iV 0, nS]) H7 z27 q q q fun b9 cP az => qA q q q <| B <| C <| C <| zk <| lA (R az.p2) us27 uo27 il27 q q q <| O h fun cQ a6 h => Qc q q c10 az (fun _ => w_impl_HouseValid (C0.c.c.c) (C1.c.c.c) (C2.c.c.c) (C4.c.c.c) a6) q <| A q (qt_not q) q q <| Qn az fun a ha cR ap => X <| S1 ha ?_
 refine Yh q h (fun h => ?_) (fun h => ?_)
 ·refine rR <| A q (qt_build (args := []) (css := []) (cells := #[nS, nS, nS, iV 0, nS]) q trivial (by kernel_rfl)) q q <| zl (cs' := [nS, nS, nS, iV 0, nS]) ap q il27 q q q q q fun cS aP => qA q q q <| B <| W fun a ha => ?_
  cases h
  refine have a7 := R aP.p0; have a8 := aP.nD 55 dt15; have a9 := a8.nS 3 tI; have ba := a9.nS 3 tI; have bb := ba.nD 47 dt16; have bc := bb.q4.q4.q4.p1.p2.p3; ?_
  exact m (retct q ha q q (run_loadVar_bx (cs := [nS, nS, nS, iV 0, nS]) us27 uo27 il27 a7) ⟨(nS), [], [], (nS), (nS), (nS), [], [], q, bc⟩)
 refine y <| C <| C <| zk <| lA (R ap.p1) us29 uo29 il29 q q q <| O h fun cT bd h => Qc q q c26 ap (fun _ => w_impl_onlyNamed hGl.c.c.c bd) q <| A q (qt_not q) q q <| Qn ap fun a ha cU aj => X <| S1 ha ?_
 refine Yh q h (fun h => ?_) (fun h => ?_)
 ·refine rR <| lA (R aj.p2) us27 uo27 il27 q q q <| O h fun aQ be h => zd q q c27 (w_impl_copyHouse (C0.c.c.c) (C1.c.c.c) (C2.c.c.c) (C4.c.c.c) be aj.ctx) q ?_
  rintro _ cV ⟨aA, bf, bg, aB, aC, aD, bh, bi, rfl, bj⟩; refine ⟨_, q, ?_⟩
  refine have bk := aj.cN4 [] bj; have aR := bk.p4; have aq := aR.viewG (Vw.c (Vw.d (Vw.c (Vw.c (Vw.d (Vw.c (Vw.c Vw.refl))))))); zl (cs' := [aA, aB, aC, iV aQ.2.2.2.1, aD]) aR q il27 q (T (aq.sliceOne hR1) (T (aq.sliceOne hS2) (T (aq.sliceOne hS3) (T q (T (aq.sliceOne hR4) q))))) q q q fun cW aS => qA q q q <| B <| W fun a ha => ?_
  cases h
  refine have bl := R aS.p0; have bm := aS.q0.q4.q4.p3.p3.p3.p3; ?_
  exact m (retct q ha q q (run_loadVar_bx (cs := [aA, aB, aC, iV aQ.2.2.2.1, aD]) us27 uo27 il27 bl) ⟨aA, bf, bg, aB, aC, aD, bh, bi, q, bm⟩)
 refine y <| rR <| lA (R aj.p2) us27 uo27 il27 q q q <| O h fun ad bn h => zd q q c27 (w_impl_copyHouse (C0.c.c.c) (C1.c.c.c) (C2.c.c.c) (C4.c.c.c) bn aj.ctx) q ?_
 rintro _ cX ⟨af, aE, aF, ag, ae, ah, ar, au, rfl, bo⟩; refine ⟨_, q, ?_⟩
 refine have bp := aj.cN4 [] bo; zq (cs := [nS, nS, nS, iV 0, nS]) bp z27 q q q fun aG cY aT => have av := aT.viewG (Vw.c (Vw.d (Vw.c (Vw.c (Vw.d (Vw.c (Vw.c (Vw.c Vw.refl)))))))); zl (cs' := [af, ag, ae, iV ad.2.2.2.1, ah]) aT q il27 q (T (av.sliceOne hR1) (T (av.sliceOne hS2) (T (av.sliceOne hS3) (T q (T (av.sliceOne hR4) q))))) q q q fun bq ab => rN <| qA q q q <| B <| C <| rR <| qF uf29 fi29_0 nz3 q q q <| l u3 q (R ab.p6) q q q q <| B <| O h fun br aa h => ?_
 obtain ⟨bs, bt, aH, bu⟩ := br
 refine WP_join (M := fun a w2 => ∃ ak al aI aJ, Fr a 72 [(2, pB b1), (4, pB b9), (6, pB aG), (7, .bool bs)] ∧ Holds M0 w w2 [.bx b1 27 [A0, A1, A2, iV B3, A4], .bx b9 27 [nS, nS, nS, iV 0, nS], .bx aG 27 [af, ag, ak, iV aH, al], dpR 55 dt15 af aE ad.1 aF, .sl 3 tI ag ad.2.1, .sl 3 tI ak bt, dpR 47 dt16 al aI bu aJ] G) ?_ ?_
 ·refine g <| rR <| A q (qt_eql q q) q q <| qA q q q <| B ?_
  refine Yh q aa (fun aa => ?_) (fun aa => ?_)
  ·refine Z <| qF uf29 fi29_1 nz3 q q q <| l u3 q (R ab.p6) q q q q <| qF uf29 fi29_2 nz3 q q q <| l u3 q (R ab.p6) q q q q <| have bv := ab.p4; have bw := bv.p4; have bz := bw.p4; have bA := bz.p4; have aU := bA.p4; O aa fun cZ bB aa => V0 q q c28 (w_impl_doBuy bB aU.ctx) q fun c0 bC => have bD := aU.cN5 [_, _, _, _, _] bC; qA q q q <| WL_nil fun a ha => ?_
   cases aa
   have bE := bD.q6.p4.p4.p4.p4.p4.p5.p6
   exact zi (X (⟨ae, ah, ar, au, ha.s, bE⟩))
  refine rR <| A q (qt_eql q q) q q <| qA q q q <| B ?_
  refine Yh q aa (fun aa => ?_) (fun aa => ?_)
  ·refine Z <| qF uf29 fi29_1 nz3 q q q <| l u3 q (R ab.p6) q q q q <| qF uf29 fi29_2 nz3 q q q <| l u3 q (R ab.p6) q q q q <| have bF := ab.p4; have bG := bF.p4; have bH := bG.p4; have bI := bH.p4; have aV := bI.p4; O aa fun c1 bJ aa => V1 q q c29 (w_impl_doMake bJ aV.ctx) q fun bK c2 bL => have bM := aV.cN5 [_, _, _, _, _] bL; qA q q q <| WL_nil fun a ha => ?_
   cases aa
   have bN := bM.q6.p4.p4.p4.p4.p4.p5.p6
   exact zi (X (⟨bK, ah, ar, au, ha.s, bN⟩))
  refine rR <| A q (qt_eql q q) q q <| qA q q q <| B ?_
  refine Yh q aa (fun aa => ?_) (fun aa => ?_)
  ·refine rR <| qF uf27 fi27_4 nz25 q q q <| l u25 q (R ab.p0) q q q q <| qF uf29 fi29_1 nz3 q q q <| l u3 q (R ab.p6) q q q q <| A q (qt_build (args := [(0, .tmp 40)]) (css := [#[iV p1_1]]) (cells := #[iV p1_1, nS, nS]) q ⟨q, trivial⟩ (by kernel_rfl)) q q <| WL_buildD (Rs := []) (d := dt16) (args := [.tmp 41]) (xs := ([(p1_1, [], [])] : LT)) ab (DBltL.one (cs' := [iV p1_1, nS, nS]) (DBlt.cast (DBlt.pair (DBlt.int (k := .i64) (n := p1_1)) (DBlt.pair (DBlt.nil (e := 49) (d := dt3)) (DBlt.nil (e := 3) (d := (.leaf tI))))) q q) q) u25 j47 q q q q q q fun c3 c4 c5 c6 bO => have bP := bO.p5; O aa fun da bQ aa => WL_appendD bP bQ u25 j47 q q q q q q fun bR bS bT db bU => qF uf27 fi27_4 nz25 q q q <| have aW := bU.p1; have aX := aW.viewG (Vw.c (Vw.d (Vw.d (Vw.c (Vw.c (Vw.c (Vw.c (Vw.c Vw.refl)))))))); WL_store_bx aW q il25 (aX.sliceCells hR1) (aX.sliceOne hR1) q q q fun dc bV => B <| Z <| qA q q q <| WL_nil fun a ha => ?_
   obtain ⟨rfl, rfl, rfl, rfl⟩ := (by simpa only [Option.some.injEq, Prod.mk.injEq] using aa : _)
   have bW := bV.q6.p1.p4.p4.p4.p4.p5.p6
   exact zi (X (⟨ae, bR, bS, bT, ha.s, bW⟩))
  refine rR <| A q (qt_eql q q) q q <| qA q q q <| B ?_
  refine Yh q aa (fun aa => ?_) (fun aa => ?_)
  ·refine Z <| qF uf29 fi29_1 nz3 q q q <| l u3 q (R ab.p6) q q q q <| qF uf29 fi29_2 nz3 q q q <| l u3 q (R ab.p6) q q q q <| qF uf29 fi29_3 nz3 q q q <| l u3 q (R ab.p6) q q q q <| have bX := ab.p4; have bY := bX.p4; have bZ := bY.p4; have b0 := bZ.p4; have aY := b0.p4; O aa fun dd b4 aa => V2 q q c30 (w_impl_doOrder b4 aY.ctx) q fun b6 b7 de b8 => have ca := aY.cN5 [_, _, _, _, _] b8; qA q q q <| WL_nil fun a ha => ?_
   cases aa
   have cb := ca.q6.p4.p4.p4.p4.p4.p5.p6
   exact zi (X (⟨ae, ah, b6, b7, ha.s, cb⟩))
  refine rR <| A q (qt_eql q q) q q <| qA q q q <| B ?_
  refine Yh q aa (fun aa => ?_) (fun aa => ?_)
  ·refine Z <| have cc := ab.p4; have cd := cc.p4; have ce := cd.p4; have cf := ce.p4; have aZ := cf.p4; O aa fun cg ch aa => zd q q c31 (w_impl_doWork bq _ aG af ad.1 aE aF ag ad.2.1 ae ad.2.2.1 ad.2.2.2.1 ah ad.2.2.2.2 ar au cg ch aZ.ctx) (by rfl) ?_
   rintro _ df ⟨ci, cj, rfl, ck⟩; refine ⟨_, q, ?_⟩
   refine have cl := aZ.cN5 [_, _, _, _, _] ck; qA q q q <| WL_nil fun a ha => ?_
   cases aa
   have cm := cl.q6.p4.p4.p4.p4.p4.p5.p6
   exact zi (X (⟨ae, ah, ci, cj, ha.s, cm⟩))
  refine rR <| A q (qt_eql q q) q q <| qA q q q <| B ?_
  refine Yh q aa (fun aa => ?_) (fun aa => ?_)
  ·refine Z <| qF uf29 fi29_1 nz3 q q q <| l u3 q (R ab.p6) q q q q <| have cn := ab.p4; have co := cn.p4; have cp := co.p4; have cq := cp.p4; have a0 := cq.p4; O aa fun dg cr aa => V3 q q c32 (w_impl_doClose cr a0.ctx) q fun ct cu cv dh cw => have cx := a0.cN5 [_, _, _, _, _] cw; qA q q q <| WL_nil fun a ha => ?_
   cases aa
   have cy := cx.q6.p4.p4.p4.p4.p4.p5.p6
   exact zi (X (⟨ae, ct, cu, cv, ha.s, cy⟩))
  refine WP_skip fun a ha => ?_
  cases aa
  have cz := ab.q6.p4.p4.p4.p4.p4.p5.p6
  exact zi (X (⟨ae, ah, ar, au, ha.s, cz⟩))
 rintro a di ⟨ak, al, aI, aJ, ha, aK⟩
 refine S1 ha <| C <| C <| zk <| qM q q q <| A q (qt_not q) q q <| qM q q q <| O h fun cA am h => ?_
 refine Go (res := cA) 3 (if_t · am) (fun aw dj cB => ?_) ?_
 ·exact have am := if_f aw am; lA (R aK.p2) us27 uo27 il27 (J q aw) q q <| O am fun dk cC am => QC (J q aw) q c10 (fun w' hb => w_impl_HouseValid hR3 hS4 hS5 hR6 cC ((aK.grow hb).viewG (Vw.c (Vw.c (Vw.c (Vw.d (Vw.c (Vw.c (Vw.d Vw.refl))))))))) (by rfl) <| A (J q aw) (qt_not q) q q <| cB 3 q q q am
 refine Qn aK fun a ha dl ao => X <| S1 ha ?_
 refine Yh q h (fun h => ?_) (fun h => ?_)
 ·refine rR <| lA (R ao.p0) us27 uo27 il27 q q q <| O h fun a1 cD h => have cE := ao.viewG (Vw.c (Vw.c (Vw.c (Vw.d (Vw.c (Vw.c (Vw.d Vw.refl))))))); zd q q c27 (w_impl_copyHouse (C0.c.c.c.c.c.c.c) (C1.c.c.c.c.c.c.c) (C2.c.c.c.c.c.c.c) (C4.c.c.c.c.c.c.c) cD cE) q ?_
  rintro _ dm ⟨aL, cF, cG, aM, aN, aO, cH, cI, rfl, cJ⟩; refine ⟨_, q, ?_⟩
  refine have cK := ao.cV4 [] cJ (zc Pure.dp (zc (Pure.sl q) (zc (Pure.sl q) (zc Pure.dp all_nil)))); have a2 := cK.p5; have ax := a2.viewG (Vw.c (Vw.d (Vw.c (Vw.c (Vw.d (Vw.c (Vw.c (Vw.d (Vw.c (Vw.c (Vw.d Vw.refl))))))))))); zl (cs' := [aL, aM, aN, iV a1.2.2.2.1, aO]) a2 q il27 q (T (ax.sliceOne hR1) (T (ax.sliceOne hS2) (T (ax.sliceOne hS3) (T q (T (ax.sliceOne hR4) q))))) q q q fun dn a3 => qA q q q <| B <| W fun a ha => ?_
  cases h
  refine have cL := R a3.p0; have cM := a3.q0.q4.q4.q4.q4.q4.q4.p3.p3.p3.p3; ?_
  exact m (retct q ha q q (run_loadVar_bx (cs := [aL, aM, aN, iV a1.2.2.2.1, aO]) us27 uo27 il27 cL) ⟨aL, cF, cG, aM, aN, aO, cH, cI, q, cM⟩)
 refine y <| rR <| lA (R ao.p2) us27 uo27 il27 q q q <| have a4 := ao.p1; have ay := a4.viewG (Vw.c (Vw.c (Vw.c (Vw.d (Vw.c (Vw.c (Vw.d Vw.refl))))))); zl (cs' := [af, ag, ak, iV aH, al]) a4 q il27 q (T (ay.sliceOne hR3) (T (ay.sliceOne hS4) (T (ay.sliceOne hS5) (T q (T (ay.sliceOne hR6) q))))) q q q fun dq a5 => qA q q q <| B <| W fun a ha => ?_
 cases h
 refine have cN := R a5.p0; have cO := a5.q0.q0.q0.p3.p3.p3.p3; ?_
 exact retct q ha q q (run_loadVar_bx (cs := [af, ag, ak, iV aH, al]) us27 uo27 il27 cN) ⟨af, aE, aF, ag, ak, al, aI, aJ, q, cO⟩
theorem w_impl_HouseRun {w : World} {G : List Res} (hGl : Glob G) {A0 : Value} {B0 : LI} (C0 : Has G ty12 A0 B0) {A1 : Value} {B1 : List Int} (C1 : Has G tI A1 B1) {A2 : Value} {B2 : List Int} (C2 : Has G tI A2 B2) {B3 : Int} {A4 : Value} {B4 : LT} (C4 : Has G ty14 A4 B4) {vp1 : Value} {p1 : List (Int × Int × Int × Int)} (hp1 : Has G ty10 vp1 p1) {r : (LI × (List Int) × (List Int) × Int × LT) × Int} (h : impl_HouseRunS B0 B1 B2 B3 B4 p1 = some r) (H : Ctx w G) : Calls Tryz.prog 18 #[.agg #[A0, A1, A2, iV B3, A4], vp1] w fun e w' => ∃ (v1 : Value) (csv1 : List Value) (Fv1 : List Nat) (v4 : Value) (v5 : Value) (v6 : Value) (csv6 : List Value) (Fv6 : List Nat), e = .returned (.tuple #[.agg #[v1, v4, v5, iV r.1.2.2.2.1, v6], iV r.2]) ∧ Holds M0 w w' [dpR 55 dt15 v1 csv1 r.1.1 Fv1, .sl 3 tI v4 r.1.2.1, .sl 3 tI v5 r.1.2.2.1, dpR 47 dt16 v6 csv6 r.1.2.2.2.2 Fv6] G := by
 refine E0 (n := 37) H Tryz.func18 q q q fun H => ?_
 unfold impl_HouseRunS at h
 refine C <| Z <| WL_box (cs := [A0, A1, A2, iV B3, A4]) H q q q q fun b1 w2 H3 => zq (cs := [nS, nS, nS, iV 0, nS]) H3 z27 q q q fun b5 w6 H7 => qA q q q <| B <| C <| C <| zk <| lA (R H7.p1) us27 uo27 il27 q q q <| O h fun bY ba h => Qc q q c10 H7 (fun _ => w_impl_HouseValid (C0.c.c) (C1.c.c) (C2.c.c) (C4.c.c) ba) q <| A q (qt_not q) q q <| Qn H7 fun a ha bZ ad => X <| S1 ha ?_
 refine Yh q h (fun h => ?_) (fun h => ?_)
 ·refine rR <| A q (qt_build (args := []) (css := []) (cells := #[nS, nS, nS, iV 0, nS]) q trivial (by kernel_rfl)) q q <| zl (cs' := [nS, nS, nS, iV 0, nS]) ad q il27 q q q q q fun b0 aG => qA q q q <| B <| W fun a ha => ?_
  cases h
  refine have bb := R aG.p0; have bc := aG.nD 55 dt15; have bd := bc.nS 3 tI; have be := bd.nS 3 tI; have bf := be.nD 47 dt16; have bg := bf.q4.q4.p1.p2.p3; ?_
  exact m (retct q ha q q (run_loadVar_bx (cs := [nS, nS, nS, iV 0, nS]) us27 uo27 il27 bb) ⟨(nS), [], [], (nS), (nS), (nS), [], [], q, bg⟩)
 refine y <| rR <| lA (R ad.p1) us27 uo27 il27 q q q <| O h fun bh bi h => zd q q c27 (w_impl_copyHouse (C0.c.c) (C1.c.c) (C2.c.c) (C4.c.c) bi ad.ctx) q ?_
 rintro _ b4 ⟨aH, bj, bk, aI, aJ, aK, bl, bm, rfl, bn⟩; refine ⟨_, q, ?_⟩
 refine have bo := ad.cN4 [] bn; zq (cs := [nS, nS, nS, iV 0, nS]) bo z27 q q q fun ae b6 aL => have af := aL.viewG (Vw.c (Vw.d (Vw.c (Vw.c (Vw.d (Vw.c (Vw.c Vw.refl))))))); zl (cs' := [aH, aI, aJ, iV bh.2.2.2.1, aK]) aL q il27 q (T (af.sliceOne hR1) (T (af.sliceOne hS2) (T (af.sliceOne hS3) (T q (T (af.sliceOne hR4) q))))) q q q fun b7 aM => rN <| qA q q q <| B <| C <| rR <| qM q q q <| have bp := aM.viewG (Vw.c (Vw.d (Vw.c (Vw.c (Vw.d (Vw.c (Vw.c Vw.refl))))))); za bp (t := ty10) (hp1.c.c.c.c.c.c.c) u40 q q q <| qM q q q <| B <| g <| O h fun bq br h => have bs := aM.q6.p4.p4.p4.p4.p4.p5; ?_
 refine fun b8 bt => zp (I := fun s a w2 => match s with | (aN, aO, aP, aQ, aR, aS, aT) => ∃ ag ax ay ah aj ak az aA, Fr a 37 [(4, pB b5), (6, pB ae), (7, iV aN), (18, vp1), (19, iV (List.length p1 : Int)), (20, iV aO)] ∧ Holds M0 w w2 [.bx b5 27 [nS, nS, nS, iV 0, nS], .bx ae 27 [ag, ah, aj, iV aS, ak], dpR 55 dt15 ag ax aP ay, .sl 3 tI ah aQ, .sl 3 tI aj aR, dpR 47 dt16 ak az aT aA] G) (O := fun o e a w2 => match o with | (q0, q1, q2, q3, q4, q5) => e = .exit 0 ∧ ∃ aU bu bv aV aW aX bw bz, Fr a 37 [(4, pB b5), (6, pB ae), (7, iV q0)] ∧ Holds M0 w w2 [.bx b5 27 [nS, nS, nS, iV 0, nS], .bx ae 27 [aU, aV, aW, iV q4, aX], dpR 55 dt15 aU bu q1 bv, .sl 3 tI aV q2, .sl 3 tI aW q3, dpR 47 dt16 aX bw q5 bz] G) br ?_ ?_ ?_
 ·exact ⟨aH, bj, bk, aI, aJ, aK, bl, bm, bt.s, bs⟩
 ·rintro ⟨aN, aO, aP, aQ, aR, aS, aT⟩ _ a b9 aa ⟨ag, ax, ay, ah, aj, ak, az, aA, ha, al⟩
  refine S1 ha <| rR <| A q (qt_lss q q) q q <| B <| C ?_
  refine Yh q aa (fun aa => ?_) (fun aa => ?_)
  ·refine y <| C <| g <| rR <| O aa fun ab aY aa => have bA := al.viewG (Vw.c (Vw.c (Vw.d (Vw.c (Vw.c (Vw.d Vw.refl)))))); b bA (hp1.c.c.c.c.c.c) aY u40 i29 q q q q fun ca cb cc bB => ?_
   obtain ⟨cd, bC, ce⟩ := al.atN (hp1.c.c.c.c.c.c) aY bB
   refine XL_load_agg (t := ty10) us29 uo29 i29 bC q q q fun cf bD => ?_
   obtain ⟨c77, c78, cg, ch, rfl, ci, bE, bF⟩ := bD
   obtain ⟨rfl, _⟩ := bE
   obtain ⟨c84, c85, cj, ck, rfl, cl, bG, bH⟩ := bF
   obtain ⟨rfl, _⟩ := bG
   obtain ⟨c91, c92, cm, cn, rfl, co, bI, bJ⟩ := bH
   obtain ⟨rfl, _⟩ := bI
   obtain ⟨rfl, _⟩ := bJ
   change XL _ _ _ _ _ ((23, .agg #[iV ab.1, iV ab.2.1, iV ab.2.2.1, iV ab.2.2.2]) :: _) _
   refine zq (cs := [iV 0, iV 0, iV 0, iV 0]) al z29 q q q fun cp cq bK => zl (cs' := [iV ab.1, iV ab.2.1, iV ab.2.2.1, iV ab.2.2.2]) bK q il29 q q q q q fun cr am => rN <| lA (R am.p2) us27 uo27 il27 q q q <| lA (R am.p0) us29 uo29 il29 q q q <| O aa fun aZ bL aa => have bM := am.viewG (Vw.c (Vw.c (Vw.c (Vw.d (Vw.c (Vw.c (Vw.d Vw.refl))))))); zd q q c7 (w_impl_HouseDo hGl.c.c.c.c.c.c.c hR3 hS4 hS5 hR6 bL bM) q ?_
   rintro _ ct ⟨ao, a0, a1, ap, aq, ar, a2, a3, rfl, bN⟩; refine ⟨_, q, ?_⟩
   refine have bO := am.cV4 [] bN (zc Pure.dp (zc (Pure.sl q) (zc (Pure.sl q) (zc Pure.dp all_nil)))); qM q q q <| A q (zv q q) q q <| A q (zv q q) q q <| zq (cs := [nS, nS, nS, iV 0, nS]) bO z27 q q q fun cu cv a4 => have au := a4.viewG (Vw.c (Vw.d (Vw.c (Vw.c (Vw.d (Vw.c (Vw.c (Vw.c (Vw.d (Vw.c (Vw.c (Vw.d Vw.refl)))))))))))); zl (cs' := [ao, ap, aq, iV aZ.1.2.2.2.1, ar]) a4 q il27 q (T (au.sliceOne hR1) (T (au.sliceOne hS2) (T (au.sliceOne hS3) (T q (T (au.sliceOne hR4) q))))) q q q fun cw a5 => qA q q q <| rN <| lA (R a5.p0) us27 uo27 il27 q q q <| have a6 := a5.p7; have av := a6.viewG (Vw.c (Vw.c (Vw.d (Vw.c (Vw.c (Vw.d (Vw.c (Vw.c (Vw.d (Vw.c (Vw.c (Vw.d Vw.refl)))))))))))); zl (cs' := [ao, ap, aq, iV aZ.1.2.2.2.1, ar]) a6 q il27 q (T (av.sliceOne hR2) (T (av.sliceOne hS3) (T (av.sliceOne hS4) (T q (T (av.sliceOne hR5) q))))) q q q fun cx a7 => rN <| qM q q q <| B ?_
   refine Yh q aa (fun aa => ?_) (fun aa => ?_)
   ·refine Z <| qM q q q <| A q (qt_add q q) q q <| qA q q q <| WL_nil fun a ha => zi <| X <| S1 ha <| Z <| A q (qt_add q q) q q <| qM q q q <| WL_nil fun a ha => ?_
    cases aa
    have bP := a7.q1.q5.q6.q6.q6.q6.p4.p4.p4.p4.p4.p5
    exact ⟨q, ao, a0, a1, ap, aq, ar, a2, a3, ha.s, bP⟩
   refine WP_skip fun a ha => zi <| X <| S1 ha <| Z <| A q (qt_add q q) q q <| qM q q q <| WL_nil fun a ha => ?_
   cases aa
   have bQ := a7.q1.q5.q6.q6.q6.q6.p4.p4.p4.p4.p4.p5
   exact ⟨q, ao, a0, a1, ap, aq, ar, a2, a3, ha.s, bQ⟩
  refine WP_exit fun a ha => ?_
  cases aa
  have bR := al.p5.p5.p5.p5.p5.p5
  exact zo (⟨exit_ne, q, ag, ax, ay, ah, aj, ak, az, aA, ha.s, bR⟩)
 obtain ⟨cy, cz, cA, cB, a8, cC⟩ := bq
 rintro _ a cD ⟨rfl, aB, bS, bT, aC, aD, aE, bU, bV, ha, aF⟩
 refine zn <| X <| S1 ha <| rR <| lA (R aF.p1) us27 uo27 il27 q q q <| qM q q q <| have aw := aF.viewG (Vw.c (Vw.c (Vw.d (Vw.c (Vw.c (Vw.d Vw.refl)))))); zl (cs' := [aB, aC, aD, iV a8, aE]) aF q il27 q (T (aw.sliceOne hR2) (T (aw.sliceOne hS3) (T (aw.sliceOne hS4) (T q (T (aw.sliceOne hR5) q))))) q q q fun cE a9 => qA q q q <| B <| W fun a ha => ?_
 cases h
 refine have bW := R a9.p0; have bX := a9.q0.q0.p3.p3.p3.p3; ?_
 exact retct q ha q q (run_loadVar_bx (cs := [aB, aC, aD, iV a8, aE]) us27 uo27 il27 bW) ⟨aB, bS, bT, aC, aD, aE, bU, bV, q, bX⟩
theorem w_spec_HouseRun {w : World} {G : List Res} {A0 : Value} {B0 : LI} (C0 : Has G ty12 A0 B0) {A1 : Value} {B1 : List Int} (C1 : Has G tI A1 B1) {A2 : Value} {B2 : List Int} (C2 : Has G tI A2 B2) {B3 : Int} {A4 : Value} {B4 : LT} (C4 : Has G ty14 A4 B4) {vp1 : Value} {p1 : List (Int × Int × Int × Int)} (hp1 : Has G ty10 vp1 p1) {r : (LI × (List Int) × (List Int) × Int × LT) × Int} (h : spec_HouseRunS B0 B1 B2 B3 B4 p1 = some r) (H : Ctx w G) : Calls Tryz.prog 21 #[.agg #[A0, A1, A2, iV B3, A4], vp1] w fun e w' => ∃ (v1 : Value) (v2 : Value) (v3 : Value) (v4 : Value), e = .returned (.tuple #[.agg #[v1, v2, v3, iV r.1.2.2.2.1, v4], iV r.2]) ∧ Holds M0 w w' [.sl 55 ty12 v1 r.1.1, .sl 3 tI v2 r.1.2.1, .sl 3 tI v3 r.1.2.2.1, .sl 47 ty14 v4 r.1.2.2.2.2] G := by
 refine E0 (n := 38) H Tryz.func21 q q q fun H => ?_
 unfold spec_HouseRunS at h
 refine C <| Z <| WL_box (cs := [A0, A1, A2, iV B3, A4]) H q q q q fun b1 w2 H3 => zq (cs := [nS, nS, nS, iV 0, nS]) H3 z27 q q q fun b5 w6 H7 => qA q q q <| B <| C <| C <| zk <| lA (R H7.p1) us27 uo27 il27 q q q <| O h fun bF a5 h => Qc q q c17 H7 (fun _ => w_spec_HouseValid (C0.c.c) (C1.c.c) (C2.c.c) (C4.c.c) a5) q <| A q (qt_not q) q q <| Qn H7 fun a ha bG ay => X <| S1 ha ?_
 refine Yh q h (fun h => ?_) (fun h => ?_)
 ·refine rR <| A q (qt_build (args := []) (css := []) (cells := #[nS, nS, nS, iV 0, nS]) q trivial (by kernel_rfl)) q q <| zl (cs' := [nS, nS, nS, iV 0, nS]) ay q il27 q q q q q fun bH aR => qA q q q <| B <| W fun a ha => ?_
  cases h
  refine have a6 := R aR.p0; have a7 := aR.nS 55 ty12; have a8 := a7.nS 3 tI; have a9 := a8.nS 3 tI; have ba := a9.nS 47 ty14; have bb := ba.q4.q4.p1.p2.p3; ?_
  exact m (retct q ha q q (run_loadVar_bx (cs := [nS, nS, nS, iV 0, nS]) us27 uo27 il27 a6) ⟨(nS), (nS), (nS), (nS), q, bb⟩)
 refine y <| rR <| lA (R ay.p1) us27 uo27 il27 q q q <| O h fun bc bd h => V4 q q c33 (w_spec_l7Copy (C0.c.c) (C1.c.c) (C2.c.c) (C4.c.c) bd ay.ctx) q fun aS aT aU aV bI be => have bf := ay.cN4 [] be; zq (cs := [nS, nS, nS, iV 0, nS]) bf z27 q q q fun ah bJ al => zl (cs' := [aS, aT, aU, iV bc.2.2.2.1, aV]) al q il27 q (T (al.ctx.sliceOne hS1) (T (al.ctx.sliceOne hS2) (T (al.ctx.sliceOne hS3) (T q (T (al.ctx.sliceOne hS4) q))))) q q q fun bK bg => rN <| qA q q q <| B <| C <| rR <| qA q q q <| B <| g <| O h fun bh bi h => have bj := bg.q6.p4.p4.p4.p4.p4.p5; ?_
 refine fun bL bk => zp (I := fun s a w2 => match s with | (aF, aG, am, ao, ap, aj, aq) => ∃ aa ab ad ae, Fr a 38 [(1, vp1), (4, pB b5), (6, pB ah), (7, iV aF), (8, iV aG)] ∧ Holds M0 w w2 [.bx b5 27 [nS, nS, nS, iV 0, nS], .bx ah 27 [aa, ab, ad, iV aj, ae], .sl 55 ty12 aa am, .sl 3 tI ab ao, .sl 3 tI ad ap, .sl 47 ty14 ae aq] G) (O := fun o e a w2 => match o with | (q0, q1, q2, q3, q4, q5) => e = .exit 0 ∧ ∃ aW aX aY aZ, Fr a 38 [(4, pB b5), (6, pB ah), (7, iV q0)] ∧ Holds M0 w w2 [.bx b5 27 [nS, nS, nS, iV 0, nS], .bx ah 27 [aW, aX, aY, iV q4, aZ], .sl 55 ty12 aW q1, .sl 3 tI aX q2, .sl 3 tI aY q3, .sl 47 ty14 aZ q5] G) bi ?_ ?_ ?_
 ·exact ⟨aS, aT, aU, aV, bk.s, bj⟩
 ·rintro ⟨aF, aG, am, ao, ap, aj, aq⟩ _ a bM af ⟨aa, ab, ad, ae, ha, aH⟩
  refine S1 ha <| C <| rR <| qM q q q <| qM q q q <| za aH.ctx (t := ty10) (hp1.c.c.c.c.c.c) u40 q q q <| A q (qt_lss q q) q q <| B ?_
  refine Yh q af (fun af => ?_) (fun af => ?_)
  ·refine y <| C <| g <| C <| O af fun az aA af => O af fun ag a0 af => ?_
   refine WP_join (M := fun a w2 => ∃ aI ar au av aw, Fr a 38 [(1, vp1), (4, pB b5), (6, pB ah), (7, iV aF), (8, iV aG), (9, pB aI), (10, .bool ag.2)] ∧ Holds M0 w w2 [.bx b5 27 [nS, nS, nS, iV 0, nS], .bx ah 27 [aa, ab, ad, iV aj, ae], .sl 55 ty12 aa am, .sl 3 tI ab ao, .sl 3 tI ad ap, .sl 47 ty14 ae aq, .bx aI 27 [ar, au, av, iV ag.1.2.2.2.1, aw], .sl 55 ty12 ar ag.1.1, .sl 3 tI au ag.1.2.1, .sl 3 tI av ag.1.2.2.1, .sl 47 ty14 aw ag.1.2.2.2.2] G) ?_ ?_
   ·refine WP_ordersT (fun w1 w2 => Chg M0 w1 w2) 11 (by kernel_rfl) fun aJ bl => have a1 := aH.grow bl; ?_
    have aK : Ctx aJ ([] ++ ([.bx b5 27 [nS, nS, nS, iV 0, nS], .bx ah 27 [aa, ab, ad, iV aj, ae], .sl 55 ty12 aa am, .sl 3 tI ab ao, .sl 3 tI ad ap, .sl 47 ty14 ae aq] ++ G)) := a1.ctx
    have bm : Holds _ aJ aJ [] ([.bx b5 27 [nS, nS, nS, iV 0, nS], .bx ah 27 [aa, ab, ad, iV aj, ae], .sl 55 ty12 aa am, .sl 3 tI ab ao, .sl 3 tI ad ap, .sl 47 ty14 ae aq] ++ G) := zb (Rs := []) aK
    refine have Hc := bm; have bn := HasB.bx (HasB.c (HasB.hd)) Hc.ctx; XT (i := 0) q (by kernel_rfl) q Hc.chg q (qs_agg (cs := [aa, ab, ad, iV aj, ae]) us27 uo27 il27 q (fun j z hj => by rw [Nat.zero_add]; exact bn.cell hj) Hc.chg (Ctx.outB aK (HasB.c (HasB.hd)))) q q ?_
    change XC _ _ _ _ _ _ _ _ ((24, .agg #[aa, ab, ad, iV aj, ae]) :: _) _
    refine XQ (i := 1) q (by kernel_rfl) q Hc.chg q (fun _ => qt_move q) q q <| XQ (i := 2) q (by kernel_rfl) q Hc.chg q (fun _ => qt_move q) q q ?_
    obtain ⟨bN, bO, bP, aL⟩ := Ctx.isAt Hc.ctx (hp1.c.c.c.c.c.c) aA
    refine XT (i := 3) q (by kernel_rfl) q Hc.chg q (qs_index aA aL u40 i29 q q) q q ?_
    obtain ⟨bQ, bo, bR⟩ := Hc.atN (hp1.c.c.c.c.c.c) aA aL
    obtain ⟨bS, a2, bp⟩ := bo
    refine XT (i := 4) q (by kernel_rfl) q Hc.chg q (qs_agg us29 uo29 (i29.trans (congrArg some (Rep.length (t := ty10) a2).symm)) q bp Hc.chg (Ctx.outHas aK (hp1.c.c.c.c.c.c) aA aL)) q q ?_
    obtain ⟨bT, bU, bV, bW, rfl, bX, bq, br⟩ := a2
    obtain ⟨rfl, _⟩ := bq
    obtain ⟨bY, bZ, b0, b4, rfl, b6, bs, bt⟩ := br
    obtain ⟨rfl, _⟩ := bs
    obtain ⟨b7, b8, b9, ca, rfl, cb, bu, bv⟩ := bt
    obtain ⟨rfl, _⟩ := bu
    obtain ⟨rfl, _⟩ := bv
    change XC _ _ _ _ _ _ _ _ ((28, .agg #[iV az.1, iV az.2.1, iV az.2.2.1, iV az.2.2.2]) :: _) _
    repeat' first
     | refine XDo 5 q <| V4 q q c8 (w_spec_HouseDo hS2 hS3 hS4 hS5 a0 Hc.ctx) q fun aB aC aD aE _ HK => ?_; have Hc := Hc.cN4 [] HK; refine XN Hc.chg <| XQ (i := 6) q (by kernel_rfl) q Hc.chg q (fun _ => qt_move q) q q <| XQ (i := 7) q (by kernel_rfl) q Hc.chg q (fun _ => zv q q) q q <| XQ (i := 8) q (by kernel_rfl) q Hc.chg q (fun _ => zv q q) q q ?_
     | refine XDo 5 q <| V4 q q c8 (w_spec_HouseDo hS3 hS4 hS5 hS6 a0 Hc.ctx) q fun aB aC aD aE _ HK => ?_; have Hc := Hc.cN4 [] HK; refine XN Hc.chg <| XQ (i := 6) q (by kernel_rfl) q Hc.chg q (fun _ => qt_move q) q q <| XQ (i := 7) q (by kernel_rfl) q Hc.chg q (fun _ => zv q q) q q <| XQ (i := 8) q (by kernel_rfl) q Hc.chg q (fun _ => zv q q) q q ?_
     | refine XDo 9 q ?_; refine zq (cs := [nS, nS, nS, iV 0, nS]) Hc z27 q q q (fun bw _ Hc => ?_); refine XN Hc.chg ?_
     | refine XDo 10 q ?_; refine zl (cs' := [aB, aC, aD, iV ag.1.2.2.2.1, aE]) Hc q il27 q (T (Hc.ctx.sliceOne hS1) (T (Hc.ctx.sliceOne hS2) (T (Hc.ctx.sliceOne hS3) (T q (T (Hc.ctx.sliceOne hS4) q))))) q q q (fun _ Hc => ?_); refine XN Hc.chg ?_
     | refine XDo 10 q ?_; have Hc := Hc.p4; refine zl (cs' := [aB, aC, aD, iV ag.1.2.2.2.1, aE]) Hc q il27 q (T (Hc.ctx.sliceOne hS1) (T (Hc.ctx.sliceOne hS2) (T (Hc.ctx.sliceOne hS3) (T q (T (Hc.ctx.sliceOne hS4) q))))) q q q (fun _ Hc => ?_); refine XN Hc.chg ?_
     | have Hc := a1.cN5 [] Hc; refine XDo 11 q <| qA q q q <| XE q ?_
     | refine XV [5, 9] (by decide +kernel) q (allc ?_ (allc ?_ alln))
     | refine XV [9] (by decide +kernel) q (allc ?_ alln)
     | refine XV [10] (by decide +kernel) q (allc ?_ alln)
     | refine XV [11] (by decide +kernel) q (allc ?_ alln)
     | refine XV [5] (by decide +kernel) q (allc ?_ alln)
     | refine XC_done (by decide +kernel) (fun a ha => ?_); have Hc := (((((((((((Hc.p4).p4).p4).p4).p4).p10).p10).p10).p10).p10).p10); exact ⟨bw, aB, aC, aD, aE, ha.s, Hc⟩
   rintro a cc ⟨aI, ar, au, av, aw, ha, aM⟩
   refine S1 ha <| rR <| qM q q q <| B ?_
   refine Yh q af (fun af => ?_) (fun af => ?_)
   ·refine rR <| lA (R aM.p6) us27 uo27 il27 q q q <| have ax := aM.p1; zl (cs' := [ar, au, av, iV ag.1.2.2.2.1, aw]) ax q il27 q (T (ax.ctx.sliceOne hS7) (T (ax.ctx.sliceOne hS8) (T (ax.ctx.sliceOne hS9) (T q (T (ax.ctx.sliceOne hS10) q))))) q q q fun cd bz => B <| Z <| qM q q q <| A q (qt_add q q) q q <| qA q q q <| WL_nil fun a ha => zi <| X <| S1 ha <| Z <| qM q q q <| A q (qt_add q q) q q <| qA q q q <| WL_nil fun a ha => ?_
    cases af
    have bA := bz.q2.q2.q2.q2.q2.p5.p5.p5.p5.p4.p5
    exact ⟨q, ar, au, av, aw, ha.s, bA⟩
   refine WP_skip fun a ha => zi <| X <| S1 ha <| Z <| qM q q q <| A q (qt_add q q) q q <| qA q q q <| WL_nil fun a ha => ?_
   cases af
   have bB := aM.q6.q6.q6.q6.q6.p5.p5.p5.p5.p5.p5
   exact ⟨q, aa, ab, ad, ae, ha.s, bB⟩
  refine WP_exit fun a ha => ?_
  cases af
  have bC := aH.p5.p5.p5.p5.p5.p5
  exact zo (⟨exit_ne, q, aa, ab, ad, ae, ha.s, bC⟩)
 obtain ⟨ce, cf, cg, ch, a3, ci⟩ := bh
 rintro _ a cj ⟨rfl, aN, aO, aP, aQ, ha, ak⟩
 refine zn <| X <| S1 ha <| rR <| lA (R ak.p1) us27 uo27 il27 q q q <| qM q q q <| zl (cs' := [aN, aO, aP, iV a3, aQ]) ak q il27 q (T (ak.ctx.sliceOne hS2) (T (ak.ctx.sliceOne hS3) (T (ak.ctx.sliceOne hS4) (T q (T (ak.ctx.sliceOne hS5) q))))) q q q fun ck a4 => qA q q q <| B <| W fun a ha => ?_
 cases h
 refine have bD := R a4.p0; have bE := a4.q0.q0.p3.p3.p3.p3; ?_
 exact retct q ha q q (run_loadVar_bx (cs := [aN, aO, aP, iV a3, aQ]) us27 uo27 il27 bD) ⟨aN, aO, aP, aQ, q, bE⟩
theorem w_laws_sameInts {w : World} {G : List Res} {vp0 : Value} {p0 : List Int} (hp0 : Has G tI vp0 p0) {vp1 : Value} {p1 : List Int} (hp1 : Has G tI vp1 p1) {r : Bool} (h : laws_sameIntsS p0 p1 = some r) (H : Ctx w G) : Calls Tryz.prog 19 #[vp0, vp1] w fun e w' => e = .returned (.bool r) ∧ Holds M0 w w' [] G := by
 refine E0 (n := 26) H Tryz.func19 q q q fun H => ?_
 unfold laws_sameIntsS at h
 refine rR <| qA q q q <| B <| C <| rR <| qM q q q <| za H.ctx (t := tI) (hp0) u24 q q q <| qM q q q <| za H.ctx (t := tI) (hp1) u24 q q q <| A q (qt_neq q q) q q <| B ?_
 refine Yh q h (fun h => ?_) (fun h => ?_)
 ·refine rR <| qA q q q <| B <| W fun a ha => ?_
  cases h
  exact m (ret1 q ha q ⟨q, H⟩)
 refine y <| C <| rR <| qA q q q <| B <| g <| O h fun o2 ah h => ?_
 refine fun a4 aj => zp (I := fun s a w2 => match s with | s1 => (Fr a 26 [(0, vp0), (1, vp1), (5, iV s1)] ∧ Holds M0 w w2 [] G)) (O := fun o e a w2 => match o with | .inl _ => e = .exit 0 ∧ (Fr a 26 [] ∧ Holds M0 w w2 [] G) | .inr q0 => e = .ret ∧ (Fr a 26 [(4, .bool q0)] ∧ Holds M0 w w2 [] G)) ah ?_ ?_ ?_
 ·exact ⟨aj.s, H⟩
 ·rintro s1 _ a w6 aa ⟨ha, ab⟩
  refine S1 ha <| C <| rR <| qM q q q <| qM q q q <| za ab.ctx (t := tI) (hp0) u24 q q q <| A q (qt_lss q q) q q <| B ?_
  refine Yh q aa (fun aa => ?_) (fun aa => ?_)
  ·refine y <| C <| g <| C <| WP_quiet (by kernel_rfl) (by kernel_rfl) <| qM q q q <| qM q q q <| O aa fun ap ad aa => b ab.ctx (hp0) ad u24 i3 q q q q fun aq ar au ak => lI u3 q (ab.el (hp0) ad ak) q q q <| qM q q q <| qM q q q <| O aa fun av ae aa => b ab.ctx (hp1) ae u24 i3 q q q q fun aw ax ay al => lI u3 q (ab.el (hp1) ae al) q q q <| A q (qt_neq q q) q q <| Qn ab fun a ha az af => X <| S1 ha ?_
   refine Yh q aa (fun aa => ?_) (fun aa => ?_)
   ·refine rR <| qA q q q <| B <| W fun a ha => ?_
    cases aa
    exact zj (m (⟨ret_ne, q, ha.s, af⟩))
   refine WP_skip fun a ha => zi <| X <| S1 ha <| Z <| qM q q q <| A q (qt_add q q) q q <| qA q q q <| WL_nil fun a ha => ?_
   cases aa
   exact ⟨q, ha.s, af⟩
  refine WP_exit fun a ha => ?_
  cases aa
  exact zo (⟨exit_ne, q, ha.s, ab⟩)
 intro e a aA ag
 rcases o2 with o2 | o2
 ·obtain ⟨rfl, ha, am⟩ := ag
  refine zn <| X <| S1 ha <| rR <| qA q q q <| B <| W fun a ha => ?_
  cases h
  exact ret1 q ha q ⟨q, am⟩
 obtain ⟨rfl, ha, ao⟩ := ag
 obtain rfl := L h
 exact zj (m (ret1 q ha q ⟨q, ao⟩))
theorem w_laws_sameItem {w : World} {G : List Res} {B0 : Int} {A1 : Value} {B1 : LP} (C1 : Has G ty2 A1 B1) {B2 : Int} {p1_0 : Int} {A1_1 : Value} {p1_1 : LP} (hp1_1 : Has G ty2 A1_1 p1_1) {p1_2 : Int} {r : Bool} (h : laws_sameItemS B0 B1 B2 p1_0 p1_1 p1_2 = some r) (H : Ctx w G) : Calls Tryz.prog 39 #[.agg #[iV B0, A1, iV B2], .agg #[iV p1_0, A1_1, iV p1_2]] w fun e w' => e = .returned (.bool r) ∧ Holds M0 w w' [] G := by
 refine E0 (n := 45) H Tryz.func39 q q q fun H => ?_
 unfold laws_sameItemS at h
 refine C <| Z <| WL_box (cs := [iV B0, A1, iV B2]) H q q q q fun b1 w2 H3 => WL_box (cs := [iV p1_0, A1_1, iV p1_2]) H3 q q q q fun b5 w6 H7 => qA q q q <| B <| C <| rR <| qF uf55 fi55_0 nz3 q q q <| l u3 q (R H7.p1) q q q q <| qF uf55 fi55_0 nz3 q q q <| l u3 q (R H7.p0) q q q q <| A q (qt_neq q q) q q <| qM q q q ?_
 refine Ho (res := ((B0 != p1_0) || (B2 != p1_2))) 5 os (fun ae aM ap => ?_) ?_
 ·exact qF uf55 fi55_2 nz3 (J q ae) q q <| l u3 q (R H7.p1) q (J q ae) q q <| qF uf55 fi55_2 nz3 (J q ae) q q <| l u3 q (R H7.p0) q (J q ae) q q <| A (J q ae) (qt_neq q q) q q <| ap 5 q q q (oi ae)
 refine qM q q q ?_
 refine Ho (res := (((B0 != p1_0) || (B2 != p1_2)) || ((List.length B1 : Int) != (List.length p1_1 : Int)))) 7 os (fun ad aN aq => ?_) ?_
 ·exact qF uf55 fi55_1 nz53 (J q ad) q q <| l u53 q (R H7.p1) q (J q ad) q q <| za H7.ctx (t := ty2) (C1.c.c) u53 (J q ad) q q <| qF uf55 fi55_1 nz53 (J q ad) q q <| l u53 q (R H7.p0) q (J q ad) q q <| za H7.ctx (t := ty2) (hp1_1.c.c) u53 (J q ad) q q <| A (J q ad) (qt_neq q q) q q <| aq 7 q q q (oi ad)
 refine B ?_
 refine Yh q h (fun h => ?_) (fun h => ?_)
 ·refine rR <| qA q q q <| B <| W fun a ha => ?_
  cases h
  have ar := H7.q0.q0
  exact m (ret1 q ha q ⟨q, ar⟩)
 refine y <| C <| rR <| qA q q q <| B <| g <| O h fun ah au h => have av := H7.p1; ?_
 refine fun aO aw => zp (I := fun s a w2 => match s with | aj => (Fr a 45 [(2, pB b1), (3, pB b5), (5, iV aj)] ∧ Holds M0 w w2 [.bx b1 55 [iV B0, A1, iV B2], .bx b5 55 [iV p1_0, A1_1, iV p1_2]] G)) (O := fun o e a w2 => match o with | .inl _ => e = .exit 0 ∧ (Fr a 45 [] ∧ Holds M0 w w2 [] G) | .inr q0 => e = .ret ∧ (Fr a 45 [(4, .bool q0)] ∧ Holds M0 w w2 [] G)) au ?_ ?_ ?_
 ·exact ⟨aw.s, av⟩
 ·rintro aj _ a aP aa ⟨ha, ab⟩
  refine S1 ha <| C <| rR <| qM q q q <| qF uf55 fi55_1 nz53 q q q <| l u53 q (R ab.p0) q q q q <| za ab.ctx (t := ty2) (C1.c.c) u53 q q q <| A q (qt_lss q q) q q <| B ?_
  refine Yh q aa (fun aa => ?_) (fun aa => ?_)
  ·refine y <| C <| g <| C <| WP_quiet (by kernel_rfl) (by kernel_rfl) <| qF uf55 fi55_1 nz53 q q q <| l u53 q (R ab.p0) q q q q <| qM q q q <| O aa fun af ak aa => b ab.ctx (C1.c.c) ak u53 i57 q q q q fun aQ aR aS ax => ?_
   obtain ⟨aT, ay, aU⟩ := ab.atN (C1.c.c) ak ax
   refine XL_load_agg (t := ty2) us57 uo57 i57 ay q q q fun aV az => ?_
   obtain ⟨aW, c47, aX, aY, rfl, aZ, aA, aB⟩ := az
   obtain ⟨rfl, _⟩ := aA
   obtain ⟨rfl, _⟩ := aB
   change XL _ _ _ _ _ ((38, .agg #[iV af.1, iV af.2]) :: _) _
   refine qF uf55 fi55_1 nz53 q q q <| l u53 q (R ab.p1) q q q q <| qM q q q <| O aa fun ag al aa => b ab.ctx (hp1_1.c.c) al u53 i57 q q q q fun a0 a1 a2 aC => ?_
   obtain ⟨a3, aD, a4⟩ := ab.atN (hp1_1.c.c) al aC
   refine XL_load_agg (t := ty2) us57 uo57 i57 aD q q q fun a5 aE => ?_
   obtain ⟨c65, c66, a6, a7, rfl, a8, aF, aG⟩ := aE
   obtain ⟨rfl, _⟩ := aF
   obtain ⟨rfl, _⟩ := aG
   change XL _ _ _ _ _ ((43, .agg #[iV ag.1, iV ag.2]) :: _) _
   refine A q (qt_neqA q q (by kernel_rfl) (eqs57 af.1 ag.1 af.2 ag.2)) q q <| Qn ab fun a ha a9 am => X <| S1 ha ?_
   refine Yh q aa (fun aa => ?_) (fun aa => ?_)
   ·refine rR <| qA q q q <| B <| W fun a ha => ?_
    cases aa
    have aH := am.q0.q0
    exact zj (m (⟨ret_ne, q, ha.s, aH⟩))
   refine WP_skip fun a ha => zi <| X <| S1 ha <| Z <| qM q q q <| A q (qt_add q q) q q <| qA q q q <| WL_nil fun a ha => ?_
   cases aa
   have aI := am.p1.p1
   exact ⟨q, ha.s, aI⟩
  refine WP_exit fun a ha => ?_
  cases aa
  have aJ := ab.q0.q0
  exact zo (⟨exit_ne, q, ha.s, aJ⟩)
 intro e a ba ao
 rcases ah with ah | ah
 ·obtain ⟨rfl, ha, aK⟩ := ao
  refine zn <| X <| S1 ha <| rR <| qA q q q <| B <| W fun a ha => ?_
  cases h
  exact ret1 q ha q ⟨q, aK⟩
 obtain ⟨rfl, ha, aL⟩ := ao
 obtain rfl := L h
 exact zj (m (ret1 q ha q ⟨q, aL⟩))
theorem w_laws_sameTicket {w : World} {G : List Res} {vp0 : Value} {p0 : LP} (hp0 : Has G ty2 vp0 p0) {vp1 : Value} {p1 : LP} (hp1 : Has G ty2 vp1 p1) {r : Bool} (h : laws_sameTicketS p0 p1 = some r) (H : Ctx w G) : Calls Tryz.prog 40 #[vp0, vp1] w fun e w' => e = .returned (.bool r) ∧ Holds M0 w w' [] G := by
 refine E0 (n := 26) H Tryz.func40 q q q fun H => ?_
 unfold laws_sameTicketS at h
 refine rR <| qA q q q <| B <| C <| rR <| qM q q q <| za H.ctx (t := ty2) (hp0) u45 q q q <| qM q q q <| za H.ctx (t := ty2) (hp1) u45 q q q <| A q (qt_neq q q) q q <| B ?_
 refine Yh q h (fun h => ?_) (fun h => ?_)
 ·refine rR <| qA q q q <| B <| W fun a ha => ?_
  cases h
  exact m (ret1 q ha q ⟨q, H⟩)
 refine y <| C <| rR <| qA q q q <| B <| g <| O h fun o2 ak h => ?_
 refine fun a4 al => zp (I := fun s a w2 => match s with | s1 => (Fr a 26 [(0, vp0), (1, vp1), (5, iV s1)] ∧ Holds M0 w w2 [] G)) (O := fun o e a w2 => match o with | .inl _ => e = .exit 0 ∧ (Fr a 26 [] ∧ Holds M0 w w2 [] G) | .inr q0 => e = .ret ∧ (Fr a 26 [(4, .bool q0)] ∧ Holds M0 w w2 [] G)) ak ?_ ?_ ?_
 ·exact ⟨al.s, H⟩
 ·rintro s1 _ a w6 aa ⟨ha, ab⟩
  refine S1 ha <| C <| rR <| qM q q q <| qM q q q <| za ab.ctx (t := ty2) (hp0) u45 q q q <| A q (qt_lss q q) q q <| B ?_
  refine Yh q aa (fun aa => ?_) (fun aa => ?_)
  ·refine y <| C <| g <| C <| WP_quiet (by kernel_rfl) (by kernel_rfl) <| qM q q q <| qM q q q <| O aa fun ad af aa => b ab.ctx (hp0) af u45 i49 q q q q fun aB aC aD am => ?_
   obtain ⟨aE, ao, aF⟩ := ab.atN (hp0) af am
   refine XL_load_agg (t := ty2) us49 uo49 i49 ao q q q fun aG ap => ?_
   obtain ⟨c22, c23, aH, aI, rfl, aJ, aq, ar⟩ := ap
   obtain ⟨rfl, _⟩ := aq
   obtain ⟨rfl, _⟩ := ar
   change XL _ _ _ _ _ ((20, .agg #[iV ad.1, iV ad.2]) :: _) _
   refine qM q q q <| qM q q q <| O aa fun ae ag aa => b ab.ctx (hp1) ag u45 i49 q q q q fun aK aL aM au => ?_
   obtain ⟨aN, av, aO⟩ := ab.atN (hp1) ag au
   refine XL_load_agg (t := ty2) us49 uo49 i49 av q q q fun aP aw => ?_
   obtain ⟨c40, c41, aQ, aR, rfl, aS, ax, ay⟩ := aw
   obtain ⟨rfl, _⟩ := ax
   obtain ⟨rfl, _⟩ := ay
   change XL _ _ _ _ _ ((24, .agg #[iV ae.1, iV ae.2]) :: _) _
   refine A q (qt_neqA q q (by kernel_rfl) (eqs49 ad.1 ae.1 ad.2 ae.2)) q q <| Qn ab fun a ha aT ah => X <| S1 ha ?_
   refine Yh q aa (fun aa => ?_) (fun aa => ?_)
   ·refine rR <| qA q q q <| B <| W fun a ha => ?_
    cases aa
    exact zj (m (⟨ret_ne, q, ha.s, ah⟩))
   refine WP_skip fun a ha => zi <| X <| S1 ha <| Z <| qM q q q <| A q (qt_add q q) q q <| qA q q q <| WL_nil fun a ha => ?_
   cases aa
   exact ⟨q, ha.s, ah⟩
  refine WP_exit fun a ha => ?_
  cases aa
  exact zo (⟨exit_ne, q, ha.s, ab⟩)
 intro e a aU aj
 rcases o2 with o2 | o2
 ·obtain ⟨rfl, ha, az⟩ := aj
  refine zn <| X <| S1 ha <| rR <| qA q q q <| B <| W fun a ha => ?_
  cases h
  exact ret1 q ha q ⟨q, az⟩
 obtain ⟨rfl, ha, aA⟩ := aj
 obtain rfl := L h
 exact zj (m (ret1 q ha q ⟨q, aA⟩))
theorem w_laws_sameHouse {w : World} {G : List Res} {A0 : Value} {B0 : LI} (C0 : Has G ty12 A0 B0) {A1 : Value} {B1 : List Int} (C1 : Has G tI A1 B1) {A2 : Value} {B2 : List Int} (C2 : Has G tI A2 B2) {B3 : Int} {A4 : Value} {B4 : LT} (C4 : Has G ty14 A4 B4) {A1_0 : Value} {p1_0 : LI} (hp1_0 : Has G ty12 A1_0 p1_0) {A1_1 : Value} {p1_1 : List Int} (hp1_1 : Has G tI A1_1 p1_1) {A1_2 : Value} {p1_2 : List Int} (hp1_2 : Has G tI A1_2 p1_2) {p1_3 : Int} {A1_4 : Value} {p1_4 : LT} (hp1_4 : Has G ty14 A1_4 p1_4) {r : Bool} (h : laws_sameHouseS B0 B1 B2 B3 B4 p1_0 p1_1 p1_2 p1_3 p1_4 = some r) (H : Ctx w G) : Calls Tryz.prog 9 #[.agg #[A0, A1, A2, iV B3, A4], .agg #[A1_0, A1_1, A1_2, iV p1_3, A1_4]] w fun e w' => e = .returned (.bool r) ∧ Holds M0 w w' [] G := by
 refine E0 (n := 117) H Tryz.func9 q q q fun H => ?_
 unfold laws_sameHouseS at h
 refine C <| Z <| WL_box (cs := [A0, A1, A2, iV B3, A4]) H q q q q fun b1 w2 H3 => WL_box (cs := [A1_0, A1_1, A1_2, iV p1_3, A1_4]) H3 q q q q fun b5 w6 H7 => qA q q q <| B <| C <| C <| zk <| qF uf27 fi27_0 nz23 q q q <| l u23 q (R H7.p1) q q q q <| za H7.ctx (t := ty12) (C0.c.c) u23 q q q <| qF uf27 fi27_0 nz23 q q q <| l u23 q (R H7.p0) q q q q <| za H7.ctx (t := ty12) (hp1_0.c.c) u23 q q q <| A q (qt_neq q q) q q <| qM q q q <| O h fun aU am h => ?_
 refine Go (res := aU) 6 (if_t · am) (fun ak bV aV => ?_) ?_
 ·exact have am := if_f ak am; qF uf27 fi27_1 nz24 (J q ak) q q <| l u24 q (R H7.p1) q (J q ak) q q <| qF uf27 fi27_1 nz24 (J q ak) q q <| l u24 q (R H7.p0) q (J q ak) q q <| O am fun bW aW am => Qc (J q ak) q c19 H7 (fun _ => w_laws_sameInts (C1.c.c) (hp1_1.c.c) aW) q <| A (J q ak) (qt_not q) q q <| aV 6 q q q am
 refine qM q q q <| O h fun aw ao h => ?_
 refine Go (res := aw) 6 (if_t · ao) (fun al bX aX => ?_) ?_
 ·exact have ao := if_f al ao; qF uf27 fi27_2 nz24 (J q al) q q <| l u24 q (R H7.p1) q (J q al) q q <| qF uf27 fi27_2 nz24 (J q al) q q <| l u24 q (R H7.p0) q (J q al) q q <| O ao fun bY aY ao => Qc (J q al) q c19 H7 (fun _ => w_laws_sameInts (C2.c.c) (hp1_2.c.c) aY) q <| A (J q al) (qt_not q) q q <| aX 6 q q q ao
 refine qM q q q ?_
 refine Go (res := (aw || (B3 != p1_3))) 5 os (fun ap bZ aZ => ?_) ?_
 ·exact qF uf27 fi27_3 nz3 (J q ap) q q <| l u3 q (R H7.p1) q (J q ap) q q <| qF uf27 fi27_3 nz3 (J q ap) q q <| l u3 q (R H7.p0) q (J q ap) q q <| A (J q ap) (qt_neq q q) q q <| aZ 5 q q q (oi ap)
 refine qM q q q ?_
 refine Go (res := ((aw || (B3 != p1_3)) || ((List.length B4 : Int) != (List.length p1_4 : Int)))) 7 os (fun aj b0 a0 => ?_) ?_
 ·exact qF uf27 fi27_4 nz25 (J q aj) q q <| l u25 q (R H7.p1) q (J q aj) q q <| za H7.ctx (t := ty14) (C4.c.c) u25 (J q aj) q q <| qF uf27 fi27_4 nz25 (J q aj) q q <| l u25 q (R H7.p0) q (J q aj) q q <| za H7.ctx (t := ty14) (hp1_4.c.c) u25 (J q aj) q q <| A (J q aj) (qt_neq q q) q q <| a0 7 q q q (oi aj)
 refine Qn H7 fun a ha b4 aD => X <| S1 ha ?_
 refine Yh q h (fun h => ?_) (fun h => ?_)
 ·refine rR <| qA q q q <| B <| W fun a ha => ?_
  cases h
  have a1 := aD.q0.q0
  exact m (ret1 q ha q ⟨q, a1⟩)
 refine y <| C <| rR <| qA q q q <| B <| g <| O h fun ax a2 h => have a3 := aD.p1; ?_
 refine fun b6 a4 => zp (I := fun s a w2 => match s with | aE => (Fr a 117 [(2, pB b1), (3, pB b5), (5, iV aE)] ∧ Holds M0 w w2 [.bx b1 27 [A0, A1, A2, iV B3, A4], .bx b5 27 [A1_0, A1_1, A1_2, iV p1_3, A1_4]] G)) (O := fun o e a w2 => match o with | .inl _ => e = .exit 0 ∧ (Fr a 117 [(2, pB b1), (3, pB b5)] ∧ Holds M0 w w2 [.bx b1 27 [A0, A1, A2, iV B3, A4], .bx b5 27 [A1_0, A1_1, A1_2, iV p1_3, A1_4]] G) | .inr q0 => e = .ret ∧ (Fr a 117 [(4, .bool q0)] ∧ Holds M0 w w2 [] G)) a2 ?_ ?_ ?_
 ·exact ⟨a4.s, a3⟩
 ·rintro aE _ a aF ad ⟨ha, aq⟩
  refine S1 ha <| C <| rR <| qM q q q <| qF uf27 fi27_0 nz23 q q q <| l u23 q (R aq.p0) q q q q <| za aq.ctx (t := ty12) (C0.c.c) u23 q q q <| A q (qt_lss q q) q q <| B ?_
  refine Yh q ad (fun ad => ?_) (fun ad => ?_)
  ·refine y <| C <| g <| C <| WP_quiet (by kernel_rfl) (by kernel_rfl) <| qF uf27 fi27_0 nz23 q q q <| l u23 q (R aq.p0) q q q q <| qM q q q <| O ad fun ar aG ad => b aq.ctx (C0.c.c) aG u23 i55 q q q q fun b7 b8 b9 a5 => ?_
   obtain ⟨ca, a6, a7⟩ := aq.atN (C0.c.c) aG a5
   refine XL_load_agg (t := ty12) us55 uo55 i55 a6 q q q fun cb a8 => ?_
   obtain ⟨c68, c69, cc, cd, rfl, a9, ba, bb⟩ := a8
   obtain ⟨rfl, _⟩ := ba
   obtain ⟨c75, c76, ce, cf, rfl, bc, bd, be⟩ := bb
   obtain ⟨au, rfl, bf⟩ := Rep.sl_inv bd
   obtain ⟨rfl, _⟩ := be
   have ay : Holds _ w aF [.ro ty2 au ar.2.1, .bx b1 27 [A0, A1, A2, iV B3, A4], .bx b5 27 [A1_0, A1_1, A1_2, iV p1_3, A1_4]] G := a7 [.ro ty2 au ar.2.1] ⟨⟨_, _, _, _, q, bf, (fun k h => (fun k h => (fun _ h => h) k (by rw [a9]; exact zx _ h)) k (by rw [bc]; exact List.mem_append_left _ h))⟩, trivial⟩
   change XL _ _ _ _ _ ((57, .agg #[iV ar.1, au, iV ar.2.2]) :: _) _
   refine qF uf27 fi27_0 nz23 q q q <| l u23 q (R ay.p2) q q q q <| qM q q q <| O ad fun av aH ad => b ay.ctx (hp1_0.c.c.c) aH u23 i55 q q q q fun cg ch ci bg => ?_
   obtain ⟨cj, bh, bi⟩ := ay.atN (hp1_0.c.c.c) aH bg
   refine XL_load_agg (t := ty12) us55 uo55 i55 bh q q q fun ck bj => ?_
   obtain ⟨c97, c98, cl, cm, rfl, bk, bl, bm⟩ := bj
   obtain ⟨rfl, _⟩ := bl
   obtain ⟨cn, co, cp, cq, rfl, bn, bo, bp⟩ := bm
   obtain ⟨az, rfl, bq⟩ := Rep.sl_inv bo
   obtain ⟨rfl, _⟩ := bp
   have aI : Holds _ w aF [.ro ty2 az av.2.1, .ro ty2 au ar.2.1, .bx b1 27 [A0, A1, A2, iV B3, A4], .bx b5 27 [A1_0, A1_1, A1_2, iV p1_3, A1_4]] G := bi [.ro ty2 az av.2.1] ⟨⟨_, _, _, _, q, bq, (fun k h => (fun k h => (fun _ h => h) k (by rw [bk]; exact zx _ h)) k (by rw [bn]; exact List.mem_append_left _ h))⟩, trivial⟩
   change XL _ _ _ _ _ ((62, .agg #[iV av.1, az, iV av.2.2]) :: _) _
   refine O ad fun cr br ad => Qc q q c39 aI (fun _ => w_laws_sameItem hR1 hR0 br) q <| A q (qt_not q) q q <| Qn aI fun a ha ct aJ => X <| S1 ha ?_
   refine Yh q ad (fun ad => ?_) (fun ad => ?_)
   ·refine rR <| qA q q q <| B <| W fun a ha => ?_
    cases ad
    have bs := aJ.q0.q0.q0.q0
    exact zj (m (⟨ret_ne, q, ha.s, bs⟩))
   refine WP_skip fun a ha => zi <| X <| S1 ha <| Z <| qM q q q <| A q (qt_add q q) q q <| qA q q q <| WL_nil fun a ha => ?_
   cases ad
   have bt := aJ.q0.q0.p1.p1
   exact ⟨q, ha.s, bt⟩
  refine WP_exit fun a ha => ?_
  cases ad
  have bu := aq.p1.p1
  exact zo (⟨exit_ne, q, ha.s, bu⟩)
 intro e a cu aK
 rcases ax with ax | ax
 ·obtain ⟨rfl, ha, bv⟩ := aK
  refine zn <| X <| S1 ha <| C <| rR <| qA q q q <| B <| g <| O h fun aA bw h => have bz := bv.p1.p1; ?_
  refine fun cv bA => zp (I := fun s a w2 => match s with | aL => (Fr a 117 [(2, pB b1), (3, pB b5), (6, iV aL)] ∧ Holds M0 w w2 [.bx b1 27 [A0, A1, A2, iV B3, A4], .bx b5 27 [A1_0, A1_1, A1_2, iV p1_3, A1_4]] G)) (O := fun o e a w2 => match o with | .inl _ => e = .exit 2 ∧ (Fr a 117 [] ∧ Holds M0 w w2 [] G) | .inr q0 => e = .ret ∧ (Fr a 117 [(4, .bool q0)] ∧ Holds M0 w w2 [] G)) bw ?_ ?_ ?_
  ·exact ⟨bA.s, bz⟩
  ·rintro aL _ a cw aa ⟨ha, ab⟩
   refine S1 ha <| C <| rR <| qM q q q <| qF uf27 fi27_4 nz25 q q q <| l u25 q (R ab.p0) q q q q <| za ab.ctx (t := ty14) (C4.c.c) u25 q q q <| A q (qt_lss q q) q q <| B ?_
   refine Yh q aa (fun aa => ?_) (fun aa => ?_)
   ·refine y <| C <| g <| C <| WP_quiet (by kernel_rfl) (by kernel_rfl) <| qF uf27 fi27_4 nz25 q q q <| l u25 q (R ab.p0) q q q q <| qM q q q <| O aa fun cx aM aa => b ab.ctx (C4.c.c) aM u25 i47 q q q q fun cy cz cA bB => qF uf47 fi47_0 nz3 q q q <| lI u3 q (ab.el (C4.c.c) aM bB).f q q q <| qF uf27 fi27_4 nz25 q q q <| l u25 q (R ab.p1) q q q q <| qM q q q <| O aa fun cB aN aa => b ab.ctx (hp1_4.c.c) aN u25 i47 q q q q fun cC cD cE bC => qF uf47 fi47_0 nz3 q q q <| lI u3 q (ab.el (hp1_4.c.c) aN bC).f q q q <| A q (qt_neq q q) q q <| qM q q q <| O aa fun bD ag aa => ?_
    refine Go (res := bD) 14 (if_t · ag) (fun ae cF bE => ?_) ?_
    ·exact have ag := if_f ae ag; qF uf27 fi27_4 nz25 (J q ae) q q <| l u25 q (R ab.p0) q (J q ae) q q <| qM (J q ae) q q <| O ag fun cG aO ag => b ab.ctx (C4.c.c) aO u25 i47 (J q ae) q q q fun cH cI cJ bF => qF uf47 fi47_1 nz45 (J q ae) q q <| lV u45 q (ab.el (C4.c.c) aO bF).s.f (J q ae) q q fun cK aB => qF uf27 fi27_4 nz25 (J q ae) q q <| l u25 q (R aB.p2) q (J q ae) q q <| qM (J q ae) q q <| O ag fun cL aP ag => b aB.ctx (hp1_4.c.c.c) aP u25 i47 (J q ae) q q q fun cM cN cO bG => qF uf47 fi47_1 nz45 (J q ae) q q <| lV u45 q (aB.el (hp1_4.c.c.c) aP bG).s.f (J q ae) q q fun cP bH => O ag fun cQ bI ag => Qc (J q ae) q c40 bH (fun _ => w_laws_sameTicket hR1 hR0 bI) q <| A (J q ae) (qt_not q) q q <| bE 14 q q q ag
    refine qM q q q <| O aa fun bJ ah aa => ?_
    refine Go (res := bJ) 14 (if_t · ah) (fun af cR bK => ?_) ?_
    ·exact have ah := if_f af ah; qF uf27 fi27_4 nz25 (J q af) q q <| l u25 q (R ab.p0) q (J q af) q q <| qM (J q af) q q <| O ah fun cS aQ ah => b ab.ctx (C4.c.c) aQ u25 i47 (J q af) q q q fun cT cU cV bL => qF uf47 fi47_2 nz24 (J q af) q q <| lV u24 q (ab.el (C4.c.c) aQ bL).s.s (J q af) q q fun cW aC => qF uf27 fi27_4 nz25 (J q af) q q <| l u25 q (R aC.p2) q (J q af) q q <| qM (J q af) q q <| O ah fun cX aR ah => b aC.ctx (hp1_4.c.c.c) aR u25 i47 (J q af) q q q fun cY cZ c0 bM => qF uf47 fi47_2 nz24 (J q af) q q <| lV u24 q (aC.el (hp1_4.c.c.c) aR bM).s.s (J q af) q q fun c1 bN => O ah fun c2 bO ah => Qc (J q af) q c19 bN (fun _ => w_laws_sameInts hR1 hR0 bO) q <| A (J q af) (qt_not q) q q <| bK 14 q q q ah
    refine Qn ab fun a ha c3 aS => X <| S1 ha ?_
    refine Yh q aa (fun aa => ?_) (fun aa => ?_)
    ·refine rR <| qA q q q <| B <| W fun a ha => ?_
     cases aa
     have bP := aS.q0.q0
     exact zj (m (⟨ret_ne, q, ha.s, bP⟩))
    refine WP_skip fun a ha => zi <| X <| S1 ha <| Z <| qM q q q <| A q (qt_add q q) q q <| qA q q q <| WL_nil fun a ha => ?_
    cases aa
    have bQ := aS.p1.p1
    exact ⟨q, ha.s, bQ⟩
   refine WP_exit fun a ha => ?_
   cases aa
   have bR := ab.q0.q0
   exact zo (⟨exit_ne, q, ha.s, bR⟩)
  intro e a c4 aT
  rcases aA with aA | aA
  ·obtain ⟨rfl, ha, bS⟩ := aT
   refine zn <| X <| S1 ha <| rR <| qA q q q <| B <| W fun a ha => ?_
   cases h
   exact ret1 q ha q ⟨q, bS⟩
  obtain ⟨rfl, ha, bT⟩ := aT
  obtain rfl := L h
  exact zj (m (ret1 q ha q ⟨q, bT⟩))
 obtain ⟨rfl, ha, bU⟩ := aK
 obtain rfl := L h
 exact zj (m (ret1 q ha q ⟨q, bU⟩))
theorem w_laws_noHouse {w : World} {G : List Res} {A0 : Value} {B0 : LI} (C0 : Has G ty12 A0 B0) {A1 : Value} {B1 : List Int} (C1 : Has G tI A1 B1) {A2 : Value} {B2 : List Int} (C2 : Has G tI A2 B2) {B3 : Int} {A4 : Value} {B4 : LT} (C4 : Has G ty14 A4 B4) {r : Bool} (h : laws_noHouseS B0 B1 B2 B3 B4 = some r) (H : Ctx w G) : Calls Tryz.prog 22 #[.agg #[A0, A1, A2, iV B3, A4]] w fun e w' => e = .returned (.bool r) ∧ Holds M0 w w' [] G := by
 refine E0 (n := 6) H Tryz.func22 q q q fun H => ?_
 unfold laws_noHouseS at h
 refine C <| Z <| WL_box (cs := [A0, A1, A2, iV B3, A4]) H q q q q fun b1 w2 H3 => qA q q q <| B <| C <| zk <| lA (R H3.p0) us27 uo27 il27 q q q <| A q (qt_build (args := []) (css := []) (cells := #[nS, nS, nS, iV 0, nS]) q trivial (by kernel_rfl)) q q <| O h fun x6 aa h => Qc q q c9 H3 (fun _ => w_laws_sameHouse (C0.c) (C1.c) (C2.c) (C4.c) (HasRo.has HasRo.nil) (HasRo.has HasRo.nil) (HasRo.has HasRo.nil) (HasRo.has HasRo.nil) aa) q <| qA q q q <| Qn H3 fun a ha w8 ab => X <| S1 ha <| W fun a ha => ?_
 obtain rfl := L h
 have ad := ab.q0
 exact ret1 q ha q ⟨q, ad⟩
end Go.Proofs.YtpabogkcmbkffaaGreatDoor
