/- The walks: each Go function computes its shallow function. Printed by a program. -/
import Derived.Test.YtpabogkcmbkffaaGreatDoorWS7R3
set_option linter.unusedVariables false
set_option maxRecDepth 10000
set_option maxHeartbeats 8000000
namespace Go.Proofs.YtpabogkcmbkffaaGreatDoor
open Go Go.RowKit
theorem w_spec_HouseDo {w : World} {G : List Res} {A0 : Value} {B0 : LI} (C0 : Has G ty12 A0 B0) {A1 : Value} {B1 : List Int} (C1 : Has G tI A1 B1) {A2 : Value} {B2 : List Int} (C2 : Has G tI A2 B2) {B3 : Int} {A4 : Value} {B4 : LT} (C4 : Has G ty14 A4 B4) {p1_0 : Int} {p1_1 : Int} {p1_2 : Int} {p1_3 : Int} {r : (LI × (List Int) × (List Int) × Int × LT) × Bool} (h : spec_HouseDoS B0 B1 B2 B3 B4 p1_0 p1_1 p1_2 p1_3 = some r) (H : Ctx w G) : Calls Tryz.prog 8 #[.agg #[A0, A1, A2, iV B3, A4], .agg #[iV p1_0, iV p1_1, iV p1_2, iV p1_3]] w fun e w' => ∃ (v1 : Value) (v2 : Value) (v3 : Value) (v4 : Value), e = .returned (.tuple #[.agg #[v1, v2, v3, iV r.1.2.2.2.1, v4], .bool r.2]) ∧ Holds M0 w w' [.sl 55 ty12 v1 r.1.1, .sl 3 tI v2 r.1.2.1, .sl 3 tI v3 r.1.2.2.1, .sl 47 ty14 v4 r.1.2.2.2.2] G := by
 refine E0 (n := 137) H Tryz.func8 q q q fun H => ?_
 unfold spec_HouseDoS at h
 refine C <| Z <| WL_box (cs := [A0, A1, A2, iV B3, A4]) H q q q q fun b1 w2 H3 => WL_box (cs := [iV p1_0, iV p1_1, iV p1_2, iV p1_3]) H3 q q q q fun b5 w6 H7 => zq (cs := [nS, nS, nS, iV 0, nS]) H7 z27 q q q fun b9 eR bt => qA q q q <| B <| C <| C <| zk <| lA (R bt.p2) us27 uo27 il27 q q q <| O h fun eS cJ h => Qc q q c17 bt (fun _ => w_spec_HouseValid (C0.c.c.c) (C1.c.c.c) (C2.c.c.c) (C4.c.c.c) cJ) q <| A q (qt_not q) q q <| Qn bt fun a ha eT aX => X <| S1 ha ?_
 refine Yh q h (fun h => ?_) (fun h => ?_)
 ·refine rR <| A q (qt_build (args := []) (css := []) (cells := #[nS, nS, nS, iV 0, nS]) q trivial (by kernel_rfl)) q q <| zl (cs' := [nS, nS, nS, iV 0, nS]) aX q il27 q q q q q fun eU cg => qA q q q <| B <| W fun a ha => ?_
  cases h
  refine have cK := R cg.p0; have cL := cg.nS 55 ty12; have cM := cL.nS 3 tI; have cN := cM.nS 3 tI; have cO := cN.nS 47 ty14; have cP := cO.q4.q4.q4.p1.p2.p3; ?_
  exact m (retct q ha q q (run_loadVar_bx (cs := [nS, nS, nS, iV 0, nS]) us27 uo27 il27 cK) ⟨(nS), (nS), (nS), (nS), q, cP⟩)
 refine y <| rR <| lA (R aX.p2) us27 uo27 il27 q q q <| O h fun af cQ h => V4 q q c33 (w_spec_l7Copy (C0.c.c.c) (C1.c.c.c) (C2.c.c.c) (C4.c.c.c) cQ aX.ctx) q fun ab ad ae ag eV cR => have cS := aX.cN4 [] cR; zq (cs := [nS, nS, nS, iV 0, nS]) cS z27 q q q fun eW eX av => zl (cs' := [ab, ad, ae, iV af.2.2.2.1, ag]) av q il27 q (T (av.ctx.sliceOne hS1) (T (av.ctx.sliceOne hS2) (T (av.ctx.sliceOne hS3) (T q (T (av.ctx.sliceOne hS4) q))))) q q q fun eY aa => rN <| qA q q q <| B <| C <| g <| rR <| qF uf29 fi29_0 nz3 q q q <| l u3 q (R aa.p6) q q q q <| A q (qt_neq q q) q q <| qM q q q ?_
 refine Ha (res := ((p1_0 != 3) && (p1_3 != 0))) 3 an (fun aY eZ cT => ?_) ?_
 ·exact qF uf29 fi29_3 nz3 (J q aY) q q <| l u3 q (R aa.p6) q (J q aY) q q <| A (J q aY) (qt_neq q q) q q <| cT 3 q q q (ai aY)
 refine qM q q q ?_
 refine Ho (res := (((p1_0 != 3) && (p1_3 != 0)) || ((decide (p1_0 ≥ 4)) && (p1_2 != 0)))) 8 os (fun ah e0 cU => ?_) ?_
 ·refine qF uf29 fi29_0 nz3 (J q ah) q q <| l u3 q (R aa.p6) q (J q ah) q q <| A (J q ah) (qt_geq q q) q q <| qM (J q ah) q q ?_
  refine Ha (res := ((decide (p1_0 ≥ 4)) && (p1_2 != 0))) (hw := (J q ah)) 3 an (fun aZ e1 cV => ?_) ?_
  ·exact qF uf29 fi29_2 nz3 (J q aZ) q q <| l u3 q (R aa.p6) q (J q aZ) q q <| A (J q aZ) (qt_neq q q) q q <| cV 3 q q q (ai aZ)
  exact cU 5 q q q (oi ah)
 refine qM q q q ?_
 refine Ho (res := ((((p1_0 != 3) && (p1_3 != 0)) || ((decide (p1_0 ≥ 4)) && (p1_2 != 0))) || ((p1_0 == 4) && (p1_1 != 0)))) 8 os (fun aj e2 cW => ?_) ?_
 ·refine qF uf29 fi29_0 nz3 (J q aj) q q <| l u3 q (R aa.p6) q (J q aj) q q <| A (J q aj) (qt_eql q q) q q <| qM (J q aj) q q ?_
  refine Ha (res := ((p1_0 == 4) && (p1_1 != 0))) (hw := (J q aj)) 3 an (fun a0 e3 cX => ?_) ?_
  ·exact qF uf29 fi29_1 nz3 (J q a0) q q <| l u3 q (R aa.p6) q (J q a0) q q <| A (J q a0) (qt_neq q q) q q <| cX 3 q q q (ai a0)
  exact cW 5 q q q (oi aj)
 refine qM q q q ?_
 refine Ho (res := (((((p1_0 != 3) && (p1_3 != 0)) || ((decide (p1_0 ≥ 4)) && (p1_2 != 0))) || ((p1_0 == 4) && (p1_1 != 0))) || ((p1_0 == 2) && (p1_2 != 0)))) 8 os (fun ak e4 cY => ?_) ?_
 ·refine qF uf29 fi29_0 nz3 (J q ak) q q <| l u3 q (R aa.p6) q (J q ak) q q <| A (J q ak) (qt_eql q q) q q <| qM (J q ak) q q ?_
  refine Ha (res := ((p1_0 == 2) && (p1_2 != 0))) (hw := (J q ak)) 3 an (fun a1 e5 cZ => ?_) ?_
  ·exact qF uf29 fi29_2 nz3 (J q a1) q q <| l u3 q (R aa.p6) q (J q a1) q q <| A (J q a1) (qt_neq q q) q q <| cZ 3 q q q (ai a1)
  exact cY 5 q q q (oi ak)
 refine qA q q q <| B ?_
 refine Yh q h (fun h => ?_) (fun h => ?_)
 ·refine rR <| lA (R aa.p0) us27 uo27 il27 q q q <| have aw := aa.p5; zl (cs' := [ab, ad, ae, iV af.2.2.2.1, ag]) aw q il27 q (T (aw.ctx.sliceOne hS2) (T (aw.ctx.sliceOne hS3) (T (aw.ctx.sliceOne hS4) (T q (T (aw.ctx.sliceOne hS5) q))))) q q q fun e6 ch => qA q q q <| B <| W fun a ha => ?_
  cases h
  refine have c0 := R ch.p0; have c1 := ch.q0.q0.q4.q4.p3.p3.p3.p3; ?_
  exact zj (m (retct q ha q q (run_loadVar_bx (cs := [ab, ad, ae, iV af.2.2.2.1, ag]) us27 uo27 il27 c0) ⟨ab, ad, ae, ag, q, c1⟩))
 refine rR <| qF uf29 fi29_0 nz3 q q q <| l u3 q (R aa.p6) q q q q <| A q (qt_eql q q) q q <| qA q q q <| B ?_
 refine Yh q h (fun h => ?_) (fun h => ?_)
 ·refine Z <| lA (R aa.p0) us27 uo27 il27 q q q <| qF uf29 fi29_1 nz3 q q q <| l u3 q (R aa.p6) q q q q <| qF uf29 fi29_2 nz3 q q q <| l u3 q (R aa.p6) q q q q <| have c2 := aa.p4; have c3 := c2.p4; have c4 := c3.p4; have ci := c4.p4; O h fun bu c5 h => V4 q q c34 (w_spec_l7Buy c5 ci.ctx) q fun a2 a3 a4 a5 e7 c6 => have da := ci.cN4 [_, _, _, _] c6; qM q q q <| A q (zv q q) q q <| A q (zv q q) q q <| have ax := da.p4; zl (cs' := [a2, a3, a4, iV bu.1.2.2.2.1, a5]) ax q il27 q (T (ax.ctx.sliceOne hS1) (T (ax.ctx.sliceOne hS2) (T (ax.ctx.sliceOne hS3) (T q (T (ax.ctx.sliceOne hS4) q))))) q q q fun e8 bv => qA q q q <| WL_nil fun a ha => zi <| X <| S1 ha <| C <| C <| zk <| qM q q q <| A q (qt_not q) q q <| qM q q q <| O h fun db al h => ?_
  refine Go (res := db) 3 (if_t · al) (fun a6 e9 dc => ?_) ?_
  ·exact have al := if_f a6 al; lA (R bv.p0) us27 uo27 il27 (J q a6) q q <| O al fun fa dd al => Qc (J q a6) q c17 bv (fun _ => w_spec_HouseValid hS1 hS2 hS3 hS4 dd) q <| A (J q a6) (qt_not q) q q <| dc 3 q q q al
  refine Qn bv fun a ha fb ay => X <| S1 ha ?_
  refine Yh q h (fun h => ?_) (fun h => ?_)
  ·refine rR <| lA (R ay.p7) us27 uo27 il27 q q q <| O h fun cj de h => V4 q q c33 (w_spec_l7Copy (C0.c.c.c.c.c.c.c.c) (C1.c.c.c.c.c.c.c.c) (C2.c.c.c.c.c.c.c.c) (C4.c.c.c.c.c.c.c.c) de ay.ctx) q fun bw bz bA bB fc df => have dg := ay.cN4 [] df; have az := dg.p9; zl (cs' := [bw, bz, bA, iV cj.2.2.2.1, bB]) az q il27 q (T (az.ctx.sliceOne hS1) (T (az.ctx.sliceOne hS2) (T (az.ctx.sliceOne hS3) (T q (T (az.ctx.sliceOne hS4) q))))) q q q fun fd ck => qA q q q <| B <| W fun a ha => ?_
   cases h
   refine have dh := R ck.p0; have di := ck.q0.q4.q4.q4.q4.q4.q4.q4.p3.p3.p3.p3; ?_
   exact m (retct q ha q q (run_loadVar_bx (cs := [bw, bz, bA, iV cj.2.2.2.1, bB]) us27 uo27 il27 dh) ⟨bw, bz, bA, bB, q, di⟩)
  refine y <| rR <| lA (R ay.p0) us27 uo27 il27 q q q <| have aA := ay.p5; zl (cs' := [a2, a3, a4, iV bu.1.2.2.2.1, a5]) aA q il27 q (T (aA.ctx.sliceOne hS2) (T (aA.ctx.sliceOne hS3) (T (aA.ctx.sliceOne hS4) (T q (T (aA.ctx.sliceOne hS5) q))))) q q q fun fe cl => qA q q q <| B <| W fun a ha => ?_
  cases h
  refine have dj := R cl.p0; have dk := cl.q0.q0.q4.q4.p3.p3.p3.p3; ?_
  exact retct q ha q q (run_loadVar_bx (cs := [a2, a3, a4, iV bu.1.2.2.2.1, a5]) us27 uo27 il27 dj) ⟨a2, a3, a4, a5, q, dk⟩
 refine rR <| qF uf29 fi29_0 nz3 q q q <| l u3 q (R aa.p6) q q q q <| A q (qt_eql q q) q q <| qA q q q <| B ?_
 refine Yh q h (fun h => ?_) (fun h => ?_)
 ·refine Z <| lA (R aa.p0) us27 uo27 il27 q q q <| qF uf29 fi29_1 nz3 q q q <| l u3 q (R aa.p6) q q q q <| qF uf29 fi29_2 nz3 q q q <| l u3 q (R aa.p6) q q q q <| have dl := aa.p4; have dm := dl.p4; have dn := dm.p4; have cm := dn.p4; O h fun bC dq h => V4 q q c35 (w_spec_l7Make dq cm.ctx) q fun a7 a8 a9 ba ff dr => have ds := cm.cN4 [_, _, _, _] dr; qM q q q <| A q (zv q q) q q <| A q (zv q q) q q <| have aB := ds.p4; zl (cs' := [a7, a8, a9, iV bC.1.2.2.2.1, ba]) aB q il27 q (T (aB.ctx.sliceOne hS1) (T (aB.ctx.sliceOne hS2) (T (aB.ctx.sliceOne hS3) (T q (T (aB.ctx.sliceOne hS4) q))))) q q q fun fg bD => qA q q q <| WL_nil fun a ha => zi <| X <| S1 ha <| C <| C <| zk <| qM q q q <| A q (qt_not q) q q <| qM q q q <| O h fun dt am h => ?_
  refine Go (res := dt) 3 (if_t · am) (fun bb fh du => ?_) ?_
  ·exact have am := if_f bb am; lA (R bD.p0) us27 uo27 il27 (J q bb) q q <| O am fun fi dv am => Qc (J q bb) q c17 bD (fun _ => w_spec_HouseValid hS1 hS2 hS3 hS4 dv) q <| A (J q bb) (qt_not q) q q <| du 3 q q q am
  refine Qn bD fun a ha fj aC => X <| S1 ha ?_
  refine Yh q h (fun h => ?_) (fun h => ?_)
  ·refine rR <| lA (R aC.p7) us27 uo27 il27 q q q <| O h fun cn dw h => V4 q q c33 (w_spec_l7Copy (C0.c.c.c.c.c.c.c.c) (C1.c.c.c.c.c.c.c.c) (C2.c.c.c.c.c.c.c.c) (C4.c.c.c.c.c.c.c.c) dw aC.ctx) q fun bE bF bG bH fk dx => have dy := aC.cN4 [] dx; have aD := dy.p9; zl (cs' := [bE, bF, bG, iV cn.2.2.2.1, bH]) aD q il27 q (T (aD.ctx.sliceOne hS1) (T (aD.ctx.sliceOne hS2) (T (aD.ctx.sliceOne hS3) (T q (T (aD.ctx.sliceOne hS4) q))))) q q q fun fl co => qA q q q <| B <| W fun a ha => ?_
   cases h
   refine have dz := R co.p0; have dA := co.q0.q4.q4.q4.q4.q4.q4.q4.p3.p3.p3.p3; ?_
   exact m (retct q ha q q (run_loadVar_bx (cs := [bE, bF, bG, iV cn.2.2.2.1, bH]) us27 uo27 il27 dz) ⟨bE, bF, bG, bH, q, dA⟩)
  refine y <| rR <| lA (R aC.p0) us27 uo27 il27 q q q <| have aE := aC.p5; zl (cs' := [a7, a8, a9, iV bC.1.2.2.2.1, ba]) aE q il27 q (T (aE.ctx.sliceOne hS2) (T (aE.ctx.sliceOne hS3) (T (aE.ctx.sliceOne hS4) (T q (T (aE.ctx.sliceOne hS5) q))))) q q q fun fm cp => qA q q q <| B <| W fun a ha => ?_
  cases h
  refine have dB := R cp.p0; have dC := cp.q0.q0.q4.q4.p3.p3.p3.p3; ?_
  exact retct q ha q q (run_loadVar_bx (cs := [a7, a8, a9, iV bC.1.2.2.2.1, ba]) us27 uo27 il27 dB) ⟨a7, a8, a9, ba, q, dC⟩
 refine rR <| qF uf29 fi29_0 nz3 q q q <| l u3 q (R aa.p6) q q q q <| A q (qt_eql q q) q q <| qA q q q <| B ?_
 refine Yh q h (fun h => ?_) (fun h => ?_)
 ·refine rR <| qF uf27 fi27_4 nz25 q q q <| l u25 q (R aa.p0) q q q q <| qF uf29 fi29_1 nz3 q q q <| l u3 q (R aa.p6) q q q q <| A q (qt_build (args := [(0, .tmp 87)]) (css := [#[iV p1_1]]) (cells := #[iV p1_1, nS, nS]) q ⟨q, trivial⟩ (by kernel_rfl)) q q <| zs (t := ty14) (args := [.tmp 88]) (xs := ([(p1_1, [], [])] : LT)) aa (BltL.cons (Blt.pair (Blt.int) (Blt.pair (Blt.slice (HasRo.nil)) (Blt.slice (HasRo.nil)))) q (BltL.nil)) u25 j47 q q q q q q fun fn fo dD => have dE := dD.p5; O h fun fp dF h => zw dE hS1 dF u25 j47 q q q q q q fun bI fq dG => qF uf27 fi27_4 nz25 q q q <| have bJ := dG.p2; WL_store_bx bJ q il25 (bJ.ctx.sliceCells hS1) (bJ.ctx.sliceOne hS1) q q q fun fr bK => B <| Z <| qA q q q <| WL_nil fun a ha => zi <| X <| S1 ha <| C <| C <| zk <| qM q q q <| A q (qt_not q) q q <| qM q q q <| O h fun dH ao h => ?_
  refine Go (res := dH) 3 (if_t · ao) (fun bc fs dI => ?_) ?_
  ·exact have ao := if_f bc ao; lA (R bK.p0) us27 uo27 il27 (J q bc) q q <| O ao fun ft dJ ao => Qc (J q bc) q c17 bK (fun _ => w_spec_HouseValid hS3 hS4 hS5 hS1 dJ) q <| A (J q bc) (qt_not q) q q <| dI 3 q q q ao
  refine Qn bK fun a ha fu aF => X <| S1 ha ?_
  refine Yh q h (fun h => ?_) (fun h => ?_)
  ·refine rR <| lA (R aF.p8) us27 uo27 il27 q q q <| O h fun cq dK h => V4 q q c33 (w_spec_l7Copy (C0.c.c.c.c.c.c.c.c.c) (C1.c.c.c.c.c.c.c.c.c) (C2.c.c.c.c.c.c.c.c.c) (C4.c.c.c.c.c.c.c.c.c) dK aF.ctx) q fun bL bM bN bO fv dL => have dM := aF.cN4 [] dL; have aG := dM.p10; zl (cs' := [bL, bM, bN, iV cq.2.2.2.1, bO]) aG q il27 q (T (aG.ctx.sliceOne hS1) (T (aG.ctx.sliceOne hS2) (T (aG.ctx.sliceOne hS3) (T q (T (aG.ctx.sliceOne hS4) q))))) q q q fun fw cr => qA q q q <| B <| W fun a ha => ?_
   cases h
   refine have dN := R cr.p0; have dO := cr.q0.q4.q4.q4.q4.q4.q4.q4.q4.p3.p3.p3.p3; ?_
   exact m (retct q ha q q (run_loadVar_bx (cs := [bL, bM, bN, iV cq.2.2.2.1, bO]) us27 uo27 il27 dN) ⟨bL, bM, bN, bO, q, dO⟩)
  refine y <| rR <| lA (R aF.p0) us27 uo27 il27 q q q <| have aH := aF.p6; zl (cs' := [ab, ad, ae, iV af.2.2.2.1, bI]) aH q il27 q (T (aH.ctx.sliceOne hS4) (T (aH.ctx.sliceOne hS5) (T (aH.ctx.sliceOne hS6) (T q (T (aH.ctx.sliceOne hS2) q))))) q q q fun fx ct => qA q q q <| B <| W fun a ha => ?_
  cases h
  refine have dP := R ct.p0; have dQ := ct.q0.q0.q1.q4.q4.p3.p3.p3; ?_
  exact retct q ha q q (run_loadVar_bx (cs := [ab, ad, ae, iV af.2.2.2.1, bI]) us27 uo27 il27 dP) ⟨ab, ad, ae, bI, q, dQ⟩
 refine rR <| qF uf29 fi29_0 nz3 q q q <| l u3 q (R aa.p6) q q q q <| A q (qt_eql q q) q q <| qA q q q <| B ?_
 refine Yh q h (fun h => ?_) (fun h => ?_)
 ·refine Z <| lA (R aa.p0) us27 uo27 il27 q q q <| qF uf29 fi29_1 nz3 q q q <| l u3 q (R aa.p6) q q q q <| qF uf29 fi29_2 nz3 q q q <| l u3 q (R aa.p6) q q q q <| qF uf29 fi29_3 nz3 q q q <| l u3 q (R aa.p6) q q q q <| have dR := aa.p4; have dS := dR.p4; have dT := dS.p4; have cu := dT.p4; O h fun bP dU h => V4 q q c36 (w_spec_l7Order dU cu.ctx) q fun bd be bf bg fy dV => have dW := cu.cN4 [_, _, _, _] dV; qM q q q <| A q (zv q q) q q <| A q (zv q q) q q <| have aI := dW.p4; zl (cs' := [bd, be, bf, iV bP.1.2.2.2.1, bg]) aI q il27 q (T (aI.ctx.sliceOne hS1) (T (aI.ctx.sliceOne hS2) (T (aI.ctx.sliceOne hS3) (T q (T (aI.ctx.sliceOne hS4) q))))) q q q fun fz bQ => qA q q q <| WL_nil fun a ha => zi <| X <| S1 ha <| C <| C <| zk <| qM q q q <| A q (qt_not q) q q <| qM q q q <| O h fun dX ap h => ?_
  refine Go (res := dX) 3 (if_t · ap) (fun bh fA dY => ?_) ?_
  ·exact have ap := if_f bh ap; lA (R bQ.p0) us27 uo27 il27 (J q bh) q q <| O ap fun fB dZ ap => Qc (J q bh) q c17 bQ (fun _ => w_spec_HouseValid hS1 hS2 hS3 hS4 dZ) q <| A (J q bh) (qt_not q) q q <| dY 3 q q q ap
  refine Qn bQ fun a ha fC aJ => X <| S1 ha ?_
  refine Yh q h (fun h => ?_) (fun h => ?_)
  ·refine rR <| lA (R aJ.p7) us27 uo27 il27 q q q <| O h fun cv d0 h => V4 q q c33 (w_spec_l7Copy (C0.c.c.c.c.c.c.c.c) (C1.c.c.c.c.c.c.c.c) (C2.c.c.c.c.c.c.c.c) (C4.c.c.c.c.c.c.c.c) d0 aJ.ctx) q fun bR bS bT bU fD d1 => have d2 := aJ.cN4 [] d1; have aK := d2.p9; zl (cs' := [bR, bS, bT, iV cv.2.2.2.1, bU]) aK q il27 q (T (aK.ctx.sliceOne hS1) (T (aK.ctx.sliceOne hS2) (T (aK.ctx.sliceOne hS3) (T q (T (aK.ctx.sliceOne hS4) q))))) q q q fun fE cw => qA q q q <| B <| W fun a ha => ?_
   cases h
   refine have d3 := R cw.p0; have d4 := cw.q0.q4.q4.q4.q4.q4.q4.q4.p3.p3.p3.p3; ?_
   exact m (retct q ha q q (run_loadVar_bx (cs := [bR, bS, bT, iV cv.2.2.2.1, bU]) us27 uo27 il27 d3) ⟨bR, bS, bT, bU, q, d4⟩)
  refine y <| rR <| lA (R aJ.p0) us27 uo27 il27 q q q <| have aL := aJ.p5; zl (cs' := [bd, be, bf, iV bP.1.2.2.2.1, bg]) aL q il27 q (T (aL.ctx.sliceOne hS2) (T (aL.ctx.sliceOne hS3) (T (aL.ctx.sliceOne hS4) (T q (T (aL.ctx.sliceOne hS5) q))))) q q q fun fF cx => qA q q q <| B <| W fun a ha => ?_
  cases h
  refine have d5 := R cx.p0; have d6 := cx.q0.q0.q4.q4.p3.p3.p3.p3; ?_
  exact retct q ha q q (run_loadVar_bx (cs := [bd, be, bf, iV bP.1.2.2.2.1, bg]) us27 uo27 il27 d5) ⟨bd, be, bf, bg, q, d6⟩
 refine rR <| qF uf29 fi29_0 nz3 q q q <| l u3 q (R aa.p6) q q q q <| A q (qt_eql q q) q q <| qA q q q <| B ?_
 refine Yh q h (fun h => ?_) (fun h => ?_)
 ·refine Z <| lA (R aa.p0) us27 uo27 il27 q q q <| have d7 := aa.p4; have d8 := d7.p4; have d9 := d8.p4; have cy := d9.p4; O h fun bV ea h => V4 q q c37 (w_spec_l7Work ea cy.ctx) q fun bi bj bk bl fG eb => have ec := cy.cN4 [_, _, _, _] eb; qM q q q <| A q (zv q q) q q <| A q (zv q q) q q <| have aM := ec.p4; zl (cs' := [bi, bj, bk, iV bV.1.2.2.2.1, bl]) aM q il27 q (T (aM.ctx.sliceOne hS1) (T (aM.ctx.sliceOne hS2) (T (aM.ctx.sliceOne hS3) (T q (T (aM.ctx.sliceOne hS4) q))))) q q q fun fH bW => qA q q q <| WL_nil fun a ha => zi <| X <| S1 ha <| C <| C <| zk <| qM q q q <| A q (qt_not q) q q <| qM q q q <| O h fun ed aq h => ?_
  refine Go (res := ed) 3 (if_t · aq) (fun bm fI ee => ?_) ?_
  ·exact have aq := if_f bm aq; lA (R bW.p0) us27 uo27 il27 (J q bm) q q <| O aq fun fJ ef aq => Qc (J q bm) q c17 bW (fun _ => w_spec_HouseValid hS1 hS2 hS3 hS4 ef) q <| A (J q bm) (qt_not q) q q <| ee 3 q q q aq
  refine Qn bW fun a ha fK aN => X <| S1 ha ?_
  refine Yh q h (fun h => ?_) (fun h => ?_)
  ·refine rR <| lA (R aN.p7) us27 uo27 il27 q q q <| O h fun cz eg h => V4 q q c33 (w_spec_l7Copy (C0.c.c.c.c.c.c.c.c) (C1.c.c.c.c.c.c.c.c) (C2.c.c.c.c.c.c.c.c) (C4.c.c.c.c.c.c.c.c) eg aN.ctx) q fun bX bY bZ b0 fL eh => have ei := aN.cN4 [] eh; have aO := ei.p9; zl (cs' := [bX, bY, bZ, iV cz.2.2.2.1, b0]) aO q il27 q (T (aO.ctx.sliceOne hS1) (T (aO.ctx.sliceOne hS2) (T (aO.ctx.sliceOne hS3) (T q (T (aO.ctx.sliceOne hS4) q))))) q q q fun fM cA => qA q q q <| B <| W fun a ha => ?_
   cases h
   refine have ej := R cA.p0; have ek := cA.q0.q4.q4.q4.q4.q4.q4.q4.p3.p3.p3.p3; ?_
   exact m (retct q ha q q (run_loadVar_bx (cs := [bX, bY, bZ, iV cz.2.2.2.1, b0]) us27 uo27 il27 ej) ⟨bX, bY, bZ, b0, q, ek⟩)
  refine y <| rR <| lA (R aN.p0) us27 uo27 il27 q q q <| have aP := aN.p5; zl (cs' := [bi, bj, bk, iV bV.1.2.2.2.1, bl]) aP q il27 q (T (aP.ctx.sliceOne hS2) (T (aP.ctx.sliceOne hS3) (T (aP.ctx.sliceOne hS4) (T q (T (aP.ctx.sliceOne hS5) q))))) q q q fun fN cB => qA q q q <| B <| W fun a ha => ?_
  cases h
  refine have em := R cB.p0; have en := cB.q0.q0.q4.q4.p3.p3.p3.p3; ?_
  exact retct q ha q q (run_loadVar_bx (cs := [bi, bj, bk, iV bV.1.2.2.2.1, bl]) us27 uo27 il27 em) ⟨bi, bj, bk, bl, q, en⟩
 refine rR <| qF uf29 fi29_0 nz3 q q q <| l u3 q (R aa.p6) q q q q <| A q (qt_eql q q) q q <| qA q q q <| B ?_
 refine Yh q h (fun h => ?_) (fun h => ?_)
 ·refine Z <| lA (R aa.p0) us27 uo27 il27 q q q <| qF uf29 fi29_1 nz3 q q q <| l u3 q (R aa.p6) q q q q <| have eo := aa.p4; have ep := eo.p4; have er := ep.p4; have cC := er.p4; O h fun b4 es h => V4 q q c38 (w_spec_l7Close es cC.ctx) q fun bn bo bp bq fO et => have eu := cC.cN4 [_, _, _, _] et; qM q q q <| A q (zv q q) q q <| A q (zv q q) q q <| have aQ := eu.p4; zl (cs' := [bn, bo, bp, iV b4.1.2.2.2.1, bq]) aQ q il27 q (T (aQ.ctx.sliceOne hS1) (T (aQ.ctx.sliceOne hS2) (T (aQ.ctx.sliceOne hS3) (T q (T (aQ.ctx.sliceOne hS4) q))))) q q q fun fP b6 => qA q q q <| WL_nil fun a ha => zi <| X <| S1 ha <| C <| C <| zk <| qM q q q <| A q (qt_not q) q q <| qM q q q <| O h fun ew ar h => ?_
  refine Go (res := ew) 3 (if_t · ar) (fun br fQ ey => ?_) ?_
  ·exact have ar := if_f br ar; lA (R b6.p0) us27 uo27 il27 (J q br) q q <| O ar fun fR ez ar => Qc (J q br) q c17 b6 (fun _ => w_spec_HouseValid hS1 hS2 hS3 hS4 ez) q <| A (J q br) (qt_not q) q q <| ey 3 q q q ar
  refine Qn b6 fun a ha fS aR => X <| S1 ha ?_
  refine Yh q h (fun h => ?_) (fun h => ?_)
  ·refine rR <| lA (R aR.p7) us27 uo27 il27 q q q <| O h fun cD eA h => V4 q q c33 (w_spec_l7Copy (C0.c.c.c.c.c.c.c.c) (C1.c.c.c.c.c.c.c.c) (C2.c.c.c.c.c.c.c.c) (C4.c.c.c.c.c.c.c.c) eA aR.ctx) q fun b7 b8 ca cb fT eB => have eC := aR.cN4 [] eB; have aS := eC.p9; zl (cs' := [b7, b8, ca, iV cD.2.2.2.1, cb]) aS q il27 q (T (aS.ctx.sliceOne hS1) (T (aS.ctx.sliceOne hS2) (T (aS.ctx.sliceOne hS3) (T q (T (aS.ctx.sliceOne hS4) q))))) q q q fun fU cE => qA q q q <| B <| W fun a ha => ?_
   cases h
   refine have eD := R cE.p0; have eE := cE.q0.q4.q4.q4.q4.q4.q4.q4.p3.p3.p3.p3; ?_
   exact m (retct q ha q q (run_loadVar_bx (cs := [b7, b8, ca, iV cD.2.2.2.1, cb]) us27 uo27 il27 eD) ⟨b7, b8, ca, cb, q, eE⟩)
  refine y <| rR <| lA (R aR.p0) us27 uo27 il27 q q q <| have aT := aR.p5; zl (cs' := [bn, bo, bp, iV b4.1.2.2.2.1, bq]) aT q il27 q (T (aT.ctx.sliceOne hS2) (T (aT.ctx.sliceOne hS3) (T (aT.ctx.sliceOne hS4) (T q (T (aT.ctx.sliceOne hS5) q))))) q q q fun fV cF => qA q q q <| B <| W fun a ha => ?_
  cases h
  refine have eF := R cF.p0; have eG := cF.q0.q0.q4.q4.p3.p3.p3.p3; ?_
  exact retct q ha q q (run_loadVar_bx (cs := [bn, bo, bp, iV b4.1.2.2.2.1, bq]) us27 uo27 il27 eF) ⟨bn, bo, bp, bq, q, eG⟩
 refine WP_skip fun a ha => zi <| X <| S1 ha <| C <| C <| zk <| qM q q q <| A q (qt_not q) q q <| qM q q q <| O h fun eH au h => ?_
 refine Go (res := eH) 3 (if_t · au) (fun bs fW eI => ?_) ?_
 ·exact have au := if_f bs au; lA (R aa.p0) us27 uo27 il27 (J q bs) q q <| O au fun fX eJ au => Qc (J q bs) q c17 aa (fun _ => w_spec_HouseValid hS1 hS2 hS3 hS4 eJ) q <| A (J q bs) (qt_not q) q q <| eI 3 q q q au
 refine Qn aa fun a ha fY aU => X <| S1 ha ?_
 refine Yh q h (fun h => ?_) (fun h => ?_)
 ·refine rR <| lA (R aU.p7) us27 uo27 il27 q q q <| O h fun cG eK h => V4 q q c33 (w_spec_l7Copy (C0.c.c.c.c.c.c.c.c) (C1.c.c.c.c.c.c.c.c) (C2.c.c.c.c.c.c.c.c) (C4.c.c.c.c.c.c.c.c) eK aU.ctx) q fun cc cd ce cf fZ eL => have eM := aU.cN4 [] eL; have aV := eM.p9; zl (cs' := [cc, cd, ce, iV cG.2.2.2.1, cf]) aV q il27 q (T (aV.ctx.sliceOne hS1) (T (aV.ctx.sliceOne hS2) (T (aV.ctx.sliceOne hS3) (T q (T (aV.ctx.sliceOne hS4) q))))) q q q fun f0 cH => qA q q q <| B <| W fun a ha => ?_
  cases h
  refine have eN := R cH.p0; have eO := cH.q0.q4.q4.q4.q4.q4.q4.q4.p3.p3.p3.p3; ?_
  exact m (retct q ha q q (run_loadVar_bx (cs := [cc, cd, ce, iV cG.2.2.2.1, cf]) us27 uo27 il27 eN) ⟨cc, cd, ce, cf, q, eO⟩)
 refine y <| rR <| lA (R aU.p0) us27 uo27 il27 q q q <| have aW := aU.p5; zl (cs' := [ab, ad, ae, iV af.2.2.2.1, ag]) aW q il27 q (T (aW.ctx.sliceOne hS2) (T (aW.ctx.sliceOne hS3) (T (aW.ctx.sliceOne hS4) (T q (T (aW.ctx.sliceOne hS5) q))))) q q q fun f1 cI => qA q q q <| B <| W fun a ha => ?_
 cases h
 refine have eP := R cI.p0; have eQ := cI.q0.q0.q4.q4.p3.p3.p3.p3; ?_
 exact retct q ha q q (run_loadVar_bx (cs := [ab, ad, ae, iV af.2.2.2.1, ag]) us27 uo27 il27 eP) ⟨ab, ad, ae, ag, q, eQ⟩
theorem w_spec_l20House {w : World} {G : List Res} {bp0 : Nat} {A0 : Value} {B0 : List Int} (C0 : Has G (.int .u8) A0 B0) {B1 : Int} {p1 : Int} {r : Int × (LI × (List Int) × (List Int) × Int × LT)} (h : spec_l20HouseS B0 B1 p1 = some r) (H : Ctx w ([.bx bp0 89 [A0, iV B1]] ++ G)) : Calls Tryz.prog 24 #[pB bp0, iV p1] w fun e w' => ∃ (v1 : Value) (v2 : Value) (v3 : Value) (v4 : Value), e = .returned (.agg #[v1, v2, v3, iV r.2.2.2.2.1, v4]) ∧ Holds (([.bx bp0 89 [A0, iV B1]] : List Res).flatMap Res.own) w w' [.sl 55 ty12 v1 r.2.1, .sl 3 tI v2 r.2.2.1, .sl 3 tI v3 r.2.2.2.1, .sl 47 ty14 v4 r.2.2.2.2.2, .bx bp0 89 [A0, iV r.1]] G := by
 refine E1 (n := 79) H Tryz.func24 q q q fun H => ?_
 unfold spec_l20HouseS at h
 refine C <| Z <| zq (cs := [nS, nS, nS, iV 0, nS]) H z27 q q q fun b1 w2 H3 => rN <| qM q q q <| have H7 := H3.p1; O h fun x5 bp h => V1 q q c57 (w_spec_l20Items (C0.c) bp H7.ctx) q fun aI w8 H9 => have bq := H7.cN2 [_] H9; qA q q q <| rN <| qM q q q <| qM q q q <| qM q q q <| have a3 := bq.p1; O h fun cI br h => V1 q q c58 (w_spec_l20Prices (C0.c.c) hS0 br a3.ctx) q fun aJ cJ bs => have bt := a3.cN2 [_] bs; qM q q q <| qM q q q <| have a4 := bt.p1; O h fun cK bu h => V1 q q c59 (w_spec_l20Amounts (C0.c.c.c) hS1 bu a4.ctx) q fun aK cL bv => have bw := a4.cN2 [_] bv; ?_
 refine qM q q q <| have a5 := bw.p1; O h fun aO bz h => V0 q q c60 (w_spec_l20Rd__pick (C0.c.c.c.c) bz a5.ctx) q fun cM bA => have a6 := a5.cN1 [_] bA; qM q q q <| O h fun aP bB h => V0 q q c60 (w_spec_l20Rd__pick (C0.c.c.c.c) bB a6.ctx) q fun cN bC => have aL := a6.cN1 [_] bC; A q (qt_mul q q) q q <| A q (qt_build (args := [(0, .tmp 12), (1, .tmp 15), (2, .tmp 18), (3, .tmp 23)]) (css := [#[aI], #[aJ], #[aK], #[iV (IntKind.wrap .i64 (aO.2 * aP.2))]]) (cells := #[aI, aJ, aK, iV (IntKind.wrap .i64 (aO.2 * aP.2)), nS]) q ⟨(aL.ctx.sliceCells hS3), (aL.ctx.sliceCells hS2), (aL.ctx.sliceCells hS1), q, trivial⟩ (by kernel_rfl)) q q <| zq (cs := [nS, nS, nS, iV 0, nS]) aL z27 q q q fun aj cO aM => zl (cs' := [aI, aJ, aK, iV (IntKind.wrap .i64 (aO.2 * aP.2)), nS]) aM q il27 q (T (aM.ctx.sliceOne hS4) (T (aM.ctx.sliceOne hS3) (T (aM.ctx.sliceOne hS2) (T q (T q q))))) q q q fun cP bD => B <| C <| rR <| qM q q q ?_
 refine have a7 := bD.p1; O h fun cQ bE h => V0 q q c60 (w_spec_l20Rd__pick (C0.c.c.c.c.c) bE a7.ctx) q fun cR bF => have bG := a7.cN1 [_] bF; qA q q q <| B <| g <| have bH := bG.nS 47 ty14; O h fun bI bJ h => have bK := bH.p3.p4.p5.p5.p6.p6; ?_
 refine fun cS bL => zp (I := fun s a w2 => match s with | (aQ, al, au, av, aw, ak, ax) => ∃ ab ad ae af, Fr a 79 [(0, pB bp0), (1, iV p1), (4, pB b1), (6, pB aj), (7, iV aQ)] ∧ Holds (([.bx bp0 89 [A0, iV B1]] : List Res).flatMap Res.own) w w2 [.bx bp0 89 [A0, iV al], .bx b1 27 [nS, nS, nS, iV 0, nS], .bx aj 27 [ab, ad, ae, iV ak, af], .sl 55 ty12 ab au, .sl 3 tI ad av, .sl 3 tI ae aw, .sl 47 ty14 af ax] G) (O := fun o e a w2 => match o with | (q0, q1, q2, q3, q4, q5) => e = .exit 0 ∧ ∃ a8 a9 ba bb, Fr a 79 [(0, pB bp0), (1, iV p1), (4, pB b1), (6, pB aj)] ∧ Holds (([.bx bp0 89 [A0, iV B1]] : List Res).flatMap Res.own) w w2 [.bx bp0 89 [A0, iV q0], .bx b1 27 [nS, nS, nS, iV 0, nS], .bx aj 27 [a8, a9, ba, iV q4, bb], .sl 55 ty12 a8 q1, .sl 3 tI a9 q2, .sl 3 tI ba q3, .sl 47 ty14 bb q5] G) bJ ?_ ?_ ?_
 ·exact ⟨aI, aJ, aK, (nS), bL.s, bK⟩
 ·rintro ⟨aQ, al, au, av, aw, ak, ax⟩ _ a cT ah ⟨ab, ad, ae, af, ha, bc⟩
  refine S1 ha <| C <| rR <| qM q q q <| A q (qt_gtr q q) q q <| B ?_
  refine Yh q ah (fun ah => ?_) (fun ah => ?_)
  ·refine y <| C <| g <| C <| O ah fun bd be ah => O ah fun ag bf ah => ?_
   refine WP_join (M := fun a w2 => ∃ aR aA aB aC aD, Fr a 79 [(0, pB bp0), (1, iV p1), (4, pB b1), (6, pB aj), (7, iV aQ), (8, pB aR), (9, .bool ag.2)] ∧ Holds (([.bx bp0 89 [A0, iV B1]] : List Res).flatMap Res.own) w w2 [.bx bp0 89 [A0, iV bd.1], .bx b1 27 [nS, nS, nS, iV 0, nS], .bx aj 27 [ab, ad, ae, iV ak, af], .sl 55 ty12 ab au, .sl 3 tI ad av, .sl 3 tI ae aw, .sl 47 ty14 af ax, .bx aR 27 [aA, aB, aC, iV ag.1.2.2.2.1, aD], .sl 55 ty12 aA ag.1.1, .sl 3 tI aB ag.1.2.1, .sl 3 tI aC ag.1.2.2.1, .sl 47 ty14 aD ag.1.2.2.2.2] G) ?_ ?_
   ·refine WP_ordersT (fun w1 w2 => Chg (([.bx bp0 89 [A0, iV al]] : List Res).flatMap Res.own) w1 w2) 10 (by kernel_rfl) fun aS bM => have bg := bc.grow bM; ?_
    have aT : Ctx aS ([.bx bp0 89 [A0, iV al]] ++ ([.bx b1 27 [nS, nS, nS, iV 0, nS], .bx aj 27 [ab, ad, ae, iV ak, af], .sl 55 ty12 ab au, .sl 3 tI ad av, .sl 3 tI ae aw, .sl 47 ty14 af ax] ++ G)) := bg.ctx
    have bN : Holds _ aS aS [.bx bp0 89 [A0, iV al]] ([.bx b1 27 [nS, nS, nS, iV 0, nS], .bx aj 27 [ab, ad, ae, iV ak, af], .sl 55 ty12 ab au, .sl 3 tI ad av, .sl 3 tI ae aw, .sl 47 ty14 af ax] ++ G) := zb (Rs := [.bx bp0 89 [A0, iV al]]) aT
    refine have Hc := bN; have bO := HasB.bx (HasB.c (HasB.c (HasB.hd))) Hc.ctx; XT (i := 0) q (by kernel_rfl) q Hc.chg q (qs_agg (cs := [ab, ad, ae, iV ak, af]) us27 uo27 il27 q (fun j z hj => by rw [Nat.zero_add]; exact bO.cell hj) Hc.chg (Ctx.outB aT (HasB.c (HasB.hd)))) q q ?_
    change XC _ _ _ _ _ _ _ _ ((32, .agg #[ab, ad, ae, iV ak, af]) :: _) _
    refine XQ (i := 1) q (by kernel_rfl) q Hc.chg q (fun _ => qt_move q) q q <| have bP := HasB.bx (HasB.c (HasB.c (HasB.hd))) Hc.ctx; XT (i := 2) q (by kernel_rfl) q Hc.chg q (qs_agg (cs := [ab, ad, ae, iV ak, af]) us27 uo27 il27 q (fun j z hj => by rw [Nat.zero_add]; exact bP.cell hj) Hc.chg (Ctx.outB aT (HasB.c (HasB.hd)))) q q ?_
    change XC _ _ _ _ _ _ _ _ ((34, .agg #[ab, ad, ae, iV ak, af]) :: _) _
    repeat' first
     | refine XDo 3 q <| V0 q q c25 (w_spec_l20HouseDeed (C0.c.c.c.c.c.c) hS2 hS3 hS4 hS5 be Hc.ctx) q fun _ HK => ?_; have Hc := Hc.cN1 [_] HK; refine XN Hc.chg ?_
     | refine XDo 3 q ?_; have Hc := Hc.p1; refine V0 q q c25 (w_spec_l20HouseDeed (C0.c.c.c.c.c.c.c) hS3 hS4 hS5 hS6 be Hc.ctx) q fun _ HK => ?_; have Hc := Hc.cN1 [_] HK; refine XN Hc.chg ?_
     | refine XDo 4 q <| V4 q q c8 (w_spec_HouseDo hS3 hS4 hS5 hS6 bf Hc.ctx) q fun am ao ap aq _ HK => ?_; have Hc := Hc.cN4 [] HK; refine XN Hc.chg <| XQ (i := 5) q (by kernel_rfl) q Hc.chg q (fun _ => qt_move q) q q <| XQ (i := 6) q (by kernel_rfl) q Hc.chg q (fun _ => zv q q) q q <| XQ (i := 7) q (by kernel_rfl) q Hc.chg q (fun _ => zv q q) q q ?_
     | refine XDo 4 q <| V4 q q c8 (w_spec_HouseDo hS4 hS5 hS6 hS7 bf Hc.ctx) q fun am ao ap aq _ HK => ?_; have Hc := Hc.cN4 [] HK; refine XN Hc.chg <| XQ (i := 5) q (by kernel_rfl) q Hc.chg q (fun _ => qt_move q) q q <| XQ (i := 6) q (by kernel_rfl) q Hc.chg q (fun _ => zv q q) q q <| XQ (i := 7) q (by kernel_rfl) q Hc.chg q (fun _ => zv q q) q q ?_
     | refine XDo 8 q ?_; refine zq (cs := [nS, nS, nS, iV 0, nS]) Hc z27 q q q (fun bh _ Hc => ?_); refine XN Hc.chg ?_
     | refine XDo 9 q ?_; refine zl (cs' := [am, ao, ap, iV ag.1.2.2.2.1, aq]) Hc q il27 q (T (Hc.ctx.sliceOne hS1) (T (Hc.ctx.sliceOne hS2) (T (Hc.ctx.sliceOne hS3) (T q (T (Hc.ctx.sliceOne hS4) q))))) q q q (fun _ Hc => ?_); refine XN Hc.chg ?_
     | refine XDo 9 q ?_; have Hc := Hc.p4; refine zl (cs' := [am, ao, ap, iV ag.1.2.2.2.1, aq]) Hc q il27 q (T (Hc.ctx.sliceOne hS1) (T (Hc.ctx.sliceOne hS2) (T (Hc.ctx.sliceOne hS3) (T q (T (Hc.ctx.sliceOne hS4) q))))) q q q (fun _ Hc => ?_); refine XN Hc.chg ?_
     | refine XDo 9 q ?_; have Hc := Hc.p5; refine zl (cs' := [am, ao, ap, iV ag.1.2.2.2.1, aq]) Hc q il27 q (T (Hc.ctx.sliceOne hS1) (T (Hc.ctx.sliceOne hS2) (T (Hc.ctx.sliceOne hS3) (T q (T (Hc.ctx.sliceOne hS4) q))))) q q q (fun _ Hc => ?_); refine XN Hc.chg ?_
     | have Hc : Holds _ _ _ [.bx bh 27 [am, ao, ap, iV ag.1.2.2.2.1, aq], .sl 55 ty12 am ag.1.1, .sl 3 tI ao ag.1.2.1, .sl 3 tI ap ag.1.2.2.1, .sl 47 ty14 aq ag.1.2.2.2.2, .bx bp0 89 [A0, iV bd.1], .bx b1 27 [nS, nS, nS, iV 0, nS], .bx aj 27 [ab, ad, ae, iV ak, af], .sl 55 ty12 ab au, .sl 3 tI ad av, .sl 3 tI ae aw, .sl 47 ty14 af ax] G := bg.calledN (Rs := [.bx bp0 89 [A0, iV al]]) Hc; refine XDo 10 q <| qA q q q <| XE q ?_
     | refine XV [3, 8] (by decide +kernel) q (allc ?_ (allc ?_ alln))
     | refine XV [4, 8] (by decide +kernel) q (allc ?_ (allc ?_ alln))
     | refine XV [8] (by decide +kernel) q (allc ?_ alln)
     | refine XV [9] (by decide +kernel) q (allc ?_ alln)
     | refine XV [10] (by decide +kernel) q (allc ?_ alln)
     | refine XV [4] (by decide +kernel) q (allc ?_ alln)
     | refine XV [3] (by decide +kernel) q (allc ?_ alln)
     | refine XC_done (by decide +kernel) (fun a ha => ?_); have Hc := ((((((((((((Hc.p4).p4).p4).p4).p4).p11).p11).p11).p11).p11).p11).p11); exact ⟨bh, am, ao, ap, aq, ha.s, Hc⟩
   rintro a cU ⟨aR, aA, aB, aC, aD, ha, aU⟩
   refine S1 ha <| rR <| qM q q q <| B ?_
   refine Yh q ah (fun ah => ?_) (fun ah => ?_)
   ·refine Z <| lA (R aU.p7) us27 uo27 il27 q q q <| have aE := aU.p2; zl (cs' := [aA, aB, aC, iV ag.1.2.2.2.1, aD]) aE q il27 q (T (aE.ctx.sliceOne hS8) (T (aE.ctx.sliceOne hS9) (T (aE.ctx.sliceOne hS10) (T q (T (aE.ctx.sliceOne hS11) q))))) q q q fun cV bQ => WL_nil fun a ha => zi <| X <| S1 ha <| Z <| qM q q q <| A q (qt_sub q q) q q <| qA q q q <| WL_nil fun a ha => ?_
    cases ah
    have bR := bQ.q3.q3.q3.q3.q3.p6.p6.p6.p6.p4.p6.p6
    exact ⟨q, aA, aB, aC, aD, ha.s, bR⟩
   refine WP_skip fun a ha => zi <| X <| S1 ha <| Z <| qM q q q <| A q (qt_sub q q) q q <| qA q q q <| WL_nil fun a ha => ?_
   cases ah
   have bS := aU.q7.q7.q7.q7.q7.p6.p6.p6.p6.p6.p6.p6
   exact ⟨q, ab, ad, ae, af, ha.s, bS⟩
  refine WP_exit fun a ha => ?_
  cases ah
  have bT := bc.p6.p6.p6.p6.p6.p6.p6
  exact zo (⟨exit_ne, q, ab, ad, ae, af, ha.s, bT⟩)
 obtain ⟨cW, bU, bV, cX, cY, cZ⟩ := bI
 rintro _ a c0 ⟨rfl, aF, aG, aN, aV, ha, bi⟩
 refine zn <| X <| S1 ha <| C <| rR <| qM q q q <| qM q q q <| O h fun c1 bW h => V0 q q c61 (w_spec_l20Rd__odd (C0.c.c.c.c.c.c) bW bi.ctx) q fun c2 bX => have aW := bi.cN1 [_] bX; B <| O h fun bY aa h => ?_
 obtain ⟨bZ, b0, aX, b4⟩ := bY
 refine WP_join (M := fun a w2 => ∃ ay az, Fr a 79 [(0, pB bp0), (4, pB b1), (6, pB aj)] ∧ Holds (([.bx bp0 89 [A0, iV B1]] : List Res).flatMap Res.own) w w2 [.bx bp0 89 [A0, iV bZ], .bx b1 27 [nS, nS, nS, iV 0, nS], .bx aj 27 [aF, aG, ay, iV aX, az], .sl 55 ty12 aF bU, .sl 3 tI aG bV, .sl 3 tI ay b0, .sl 47 ty14 az b4] G) ?_ ?_
 ·refine Yh q aa (fun aa => ?_) (fun aa => ?_)
  ·refine rR <| qM q q q <| O aa fun c3 b5 aa => V0 q q c60 (w_spec_l20Rd__pick (C0.c.c.c.c.c.c) b5 aW.ctx) q fun c4 b6 => have ar := aW.cN1 [_] b6; B <| g <| rR <| A q (qt_eql q q) q q <| qA q q q <| B ?_
   refine Yh q aa (fun aa => ?_) (fun aa => ?_)
   ·refine Z <| zs (t := tI) (args := [.const (iV (-1)), .const (iV 100000)]) (xs := ([(-1), 100000] : List Int)) ar (BltL.cons (Blt.int) q (BltL.cons (Blt.int) q (BltL.nil))) u24 j3 q q q q q q fun c5 c6 b7 => qM q q q <| have bj := b7.p1; O aa fun da b8 aa => V0 q q c60 (w_spec_l20Rd__pick (C0.c.c.c.c.c.c.c) b8 bj.ctx) q fun db b9 => have aY := bj.cN1 [_] b9; O aa fun dc bk aa => b aY.ctx hS1 bk u24 i3 q q q q fun dd de df ca => lI u3 q (aY.el hS1 bk ca) q q q <| qF uf27 fi27_3 nz3 q q q <| have cb := aY.p3; WL_store_bx cb q il3 q q q q q fun dg cc => WL_nil fun a ha => ?_
    obtain ⟨rfl, rfl, rfl, rfl⟩ := (by simpa only [Option.some.injEq, Prod.mk.injEq] using aa : _)
    have cd := cc.q2.p6.p6.p6.p6.p4.p6.p6
    exact zi (X (⟨aN, aV, ha.s, cd⟩))
   refine rR <| A q (qt_eql q q) q q <| qA q q q <| B ?_
   refine Yh q aa (fun aa => ?_) (fun aa => ?_)
   ·refine Z <| qF uf27 fi27_2 nz24 q q q <| l u24 q (R ar.p2) q q q q <| zs (t := tI) (args := [.const (iV 0)]) (xs := ([0] : List Int)) ar (BltL.cons (Blt.int) q (BltL.nil)) u24 j3 q q q q q q fun dh di ce => have cf := ce.p6; O aa fun dj cg aa => zw cf hS1 cg u24 j3 q q q q q q fun ch dk ci => qF uf27 fi27_2 nz24 q q q <| have aZ := ci.p4; WL_store_bx aZ q il24 (aZ.ctx.sliceCells hS1) (aZ.ctx.sliceOne hS1) q q q fun dl cj => WL_nil fun a ha => ?_
    obtain ⟨rfl, rfl, rfl, rfl⟩ := (by simpa only [Option.some.injEq, Prod.mk.injEq] using aa : _)
    have ck := cj.q2.p6.p2.p6.p6.p4.p6.p6
    exact zi (X (⟨ch, aV, ha.s, ck⟩))
   refine rR <| A q (qt_eql q q) q q <| qA q q q <| B ?_
   refine Yh q aa (fun aa => ?_) (fun aa => ?_)
   ·refine Z <| qF uf27 fi27_4 nz25 q q q <| l u25 q (R ar.p2) q q q q <| A q (qt_build (args := []) (css := []) (cells := #[iV 0, iV 0]) q trivial (by kernel_rfl)) q q <| zs (t := ty2) (args := [.tmp 71]) (xs := ([(0, 0)] : LP)) ar (BltL.cons (Blt.pair (Blt.int) (Blt.int)) q (BltL.nil)) u45 j49 q q q q q q fun bl dm cl => zs (t := tI) (args := [.const (iV 9)]) (xs := ([9] : List Int)) cl (BltL.cons (Blt.int) q (BltL.nil)) u24 j3 q q q q q q fun bm dn a0 => A q (qt_build (args := [(1, .tmp 72), (2, .tmp 73)]) (css := [#[bl], #[bm]]) (cells := #[iV 0, bl, bm]) q ⟨(a0.ctx.sliceCells hS1), (a0.ctx.sliceCells hS0), trivial⟩ (by kernel_rfl)) q q <| have cm := a0.p1; have cn := cm.freeze; have co := cn.p1; have cp := co.freeze; zs (t := ty14) (args := [.tmp 74]) (xs := ([(0, [(0, 0)], [9])] : LT)) cp (BltL.cons (Blt.pair (Blt.int) (Blt.pair (Blt.slice hO1) (Blt.slice hO0))) q (BltL.nil)) u25 j47 q q q q q q fun dq dr cq => ?_
    refine have cr := cq.p9; O aa fun ds ct aa => zw cr hS1 ct u25 j47 q q q q q q fun cu dt cv => qF uf27 fi27_4 nz25 q q q <| have a1 := cv.p6; WL_store_bx a1 q il25 (a1.ctx.sliceCells hS1) (a1.ctx.sliceOne hS1) q q q fun du cw => WL_nil fun a ha => ?_
    obtain ⟨rfl, rfl, rfl, rfl⟩ := (by simpa only [Option.some.injEq, Prod.mk.injEq] using aa : _)
    have cx := cw.q2.q2.q2.p1.p6.p6.p6.p4.p6.p6
    exact zi (X (⟨aN, cu, ha.s, cx⟩))
   refine Z <| qF uf27 fi27_4 nz25 q q q <| l u25 q (R ar.p2) q q q q <| A q (qt_build (args := [(0, .const (iV (-1)))]) (css := [#[iV (-1)]]) (cells := #[iV (-1), nS, nS]) q ⟨q, trivial⟩ (by kernel_rfl)) q q <| zs (t := ty14) (args := [.tmp 48]) (xs := ([((-1), [], [])] : LT)) ar (BltL.cons (Blt.pair (Blt.int) (Blt.pair (Blt.slice (HasRo.nil)) (Blt.slice (HasRo.nil)))) q (BltL.nil)) u25 j47 q q q q q q fun dv dw cy => have cz := cy.p7; O aa fun dx cA aa => zw cz hS1 cA u25 j47 q q q q q q fun cB dy cC => qF uf27 fi27_4 nz25 q q q <| have a2 := cC.p4; WL_store_bx a2 q il25 (a2.ctx.sliceCells hS1) (a2.ctx.sliceOne hS1) q q q fun dz cD => WL_nil fun a ha => ?_
   obtain ⟨rfl, rfl, rfl, rfl⟩ := (by simpa only [Option.some.injEq, Prod.mk.injEq] using aa : _)
   have cE := cD.q2.p1.p6.p6.p6.p4.p6.p6
   exact zi (X (⟨aN, cB, ha.s, cE⟩))
  refine WP_skip fun a ha => ?_
  obtain ⟨rfl, rfl, rfl, rfl⟩ := (by simpa only [Option.some.injEq, Prod.mk.injEq] using aa : _)
  have cF := aW.p6.p6.p6.p6.p6.p6.p6
  exact X (⟨aN, aV, ha.s, cF⟩)
 rintro a dA ⟨ay, az, ha, bn⟩
 refine S1 ha <| rR <| lA (R bn.p2) us27 uo27 il27 q q q <| have aH := bn.p1; zl (cs' := [aF, aG, ay, iV aX, az]) aH q il27 q (T (aH.ctx.sliceOne hS3) (T (aH.ctx.sliceOne hS4) (T (aH.ctx.sliceOne hS5) (T q (T (aH.ctx.sliceOne hS6) q))))) q q q fun dB bo => B <| W fun a ha => ?_
 cases h
 refine have cG := R bo.p0; have cH := bo.q0.q1.p4.p4.p4.p4; ?_
 exact retc q ha q (run_loadVar_bx (cs := [aF, aG, ay, iV aX, az]) us27 uo27 il27 cG) ⟨aF, aG, ay, az, q, cH⟩
theorem w_spec_l20HouseDeeds {w : World} {G : List Res} {bp0 : Nat} {A0 : Value} {B0 : List Int} (C0 : Has G (.int .u8) A0 B0) {B1 : Int} {A1_0 : Value} {p1_0 : LI} (hp1_0 : HasRo G ty12 A1_0 p1_0) {A1_1 : Value} {p1_1 : List Int} (hp1_1 : HasRo G tI A1_1 p1_1) {A1_2 : Value} {p1_2 : List Int} (hp1_2 : HasRo G tI A1_2 p1_2) {p1_3 : Int} {A1_4 : Value} {p1_4 : LT} (hp1_4 : HasRo G ty14 A1_4 p1_4) {r : Int × (List (Int × Int × Int × Int))} (h : spec_l20HouseDeedsS B0 B1 p1_0 p1_1 p1_2 p1_3 p1_4 = some r) (H : Ctx w ([.bx bp0 89 [A0, iV B1]] ++ G)) : Calls Tryz.prog 56 #[pB bp0, .agg #[A1_0, A1_1, A1_2, iV p1_3, A1_4]] w fun e w' => ∃ (v1 : Value), e = .returned (v1) ∧ Holds (([.bx bp0 89 [A0, iV B1]] : List Res).flatMap Res.own) w w' [.sl 29 ty10 v1 r.2, .bx bp0 89 [A0, iV r.1]] G := by
 refine E1 (n := 35) H Tryz.func56 q q q fun H => ?_
 unfold spec_l20HouseDeedsS at h
 refine C <| Z <| WL_box (cs := [A1_0, A1_1, A1_2, iV p1_3, A1_4]) H q q q q fun b1 w2 H3 => qA q q q <| B <| C <| Z <| zs (t := ty10) (args := []) (xs := ([] : List (Int × Int × Int × Int))) H3 (BltL.nil) u40 j29 q q q q q q fun v5 w6 H7 => qA q q q <| rN <| lA (R H7.p1) us27 uo27 il27 q q q <| zq (cs := [nS, nS, nS, iV 0, nS]) H7 z27 q q q fun ad bD af => zl (cs' := [A1_0, A1_1, A1_2, iV p1_3, A1_4]) af q il27 q (T (af.ctx.sliceOne (hp1_0.c.c.c.c.has)) (T (af.ctx.sliceOne (hp1_1.c.c.c.c.has)) (T (af.ctx.sliceOne (hp1_2.c.c.c.c.has)) (T q (T (af.ctx.sliceOne (hp1_4.c.c.c.c.has)) q))))) q q q fun bE aR => B <| C <| rR <| qM q q q <| have aG := aR.p3; O h fun ak aS h => V0 q q c60 (w_spec_l20Rd__pick (C0.c.c.c) aS aG.ctx) q fun al aT => have aU := aG.cN1 [_] aT; qA q q q <| B <| g ?_
 have aV : Holds _ w al [.ro ty12 A1_0 p1_0, .bx bp0 89 [A0, iV ak.1], .bx ad 27 [A1_0, A1_1, A1_2, iV p1_3, A1_4], .sl 29 ty10 v5 ([]), .bx b1 27 [A1_0, A1_1, A1_2, iV p1_3, A1_4]] G := aU.dup (hp1_0.c.c.c.c)
 have aW : Holds _ w al [.ro tI A1_1 p1_1, .ro ty12 A1_0 p1_0, .bx bp0 89 [A0, iV ak.1], .bx ad 27 [A1_0, A1_1, A1_2, iV p1_3, A1_4], .sl 29 ty10 v5 ([]), .bx b1 27 [A1_0, A1_1, A1_2, iV p1_3, A1_4]] G := aV.dup (hp1_1.c.c.c.c.c)
 have aX : Holds _ w al [.ro tI A1_2 p1_2, .ro tI A1_1 p1_1, .ro ty12 A1_0 p1_0, .bx bp0 89 [A0, iV ak.1], .bx ad 27 [A1_0, A1_1, A1_2, iV p1_3, A1_4], .sl 29 ty10 v5 ([]), .bx b1 27 [A1_0, A1_1, A1_2, iV p1_3, A1_4]] G := aW.dup (hp1_2.c.c.c.c.c.c)
 have aY : Holds _ w al [.ro ty14 A1_4 p1_4, .ro tI A1_2 p1_2, .ro tI A1_1 p1_1, .ro ty12 A1_0 p1_0, .bx bp0 89 [A0, iV ak.1], .bx ad 27 [A1_0, A1_1, A1_2, iV p1_3, A1_4], .sl 29 ty10 v5 ([]), .bx b1 27 [A1_0, A1_1, A1_2, iV p1_3, A1_4]] G := aX.dup (hp1_4.c.c.c.c.c.c.c)
 refine O h fun aZ a0 h => have a1 := aY.q7.p1.p2.p3.p5.p6.p6; ?_
 refine fun bF a2 => zp (I := fun s a w2 => match s with | (az, aA, aH, aI, aJ, aK, aL, aM) => ∃ ae am ao ap aq, Fr a 35 [(0, pB bp0), (5, ae), (6, pB ad), (7, iV aA)] ∧ Holds (([.bx bp0 89 [A0, iV B1]] : List Res).flatMap Res.own) w w2 [.bx bp0 89 [A0, iV aH], .sl 29 ty10 ae az, .bx ad 27 [am, ao, ap, iV aL, aq], .ro ty12 am aI, .ro tI ao aJ, .ro tI ap aK, .ro ty14 aq aM] G) (O := fun o e a w2 => match o with | (q0, q1, q2, q3, q4, q5, q6) => e = .exit 0 ∧ ∃ aN, Fr a 35 [(0, pB bp0), (5, aN)] ∧ Holds (([.bx bp0 89 [A0, iV B1]] : List Res).flatMap Res.own) w w2 [.bx bp0 89 [A0, iV q1], .sl 29 ty10 aN q0] G) a0 ?_ ?_ ?_
 ·exact ⟨v5, A1_0, A1_1, A1_2, A1_4, a2.s, a1⟩
 ·rintro ⟨az, aA, aH, aI, aJ, aK, aL, aM⟩ _ a bG aa ⟨ae, am, ao, ap, aq, ha, ar⟩
  refine S1 ha <| C <| rR <| qM q q q <| A q (qt_gtr q q) q q <| B ?_
  refine Yh q aa (fun aa => ?_) (fun aa => ?_)
  ·refine y <| C <| g <| rR <| qM q q q <| lA (R ar.p2) us27 uo27 il27 q q q <| O aa fun ab a3 aa => V0 q q c25 (w_spec_l20HouseDeed (C0.c.c.c.c.c.c) hR2 hR3 hR4 hR5 a3 ar.ctx) q fun bH a4 => have a5 := ar.cN1 [_] a4; zq (cs := [iV 0, iV 0, iV 0, iV 0]) a5 z29 q q q fun aO bI a6 => zl (cs' := [iV ab.2.1, iV ab.2.2.1, iV ab.2.2.2.1, iV ab.2.2.2.2]) a6 q il29 q q q q q fun bJ au => rN <| lA (R au.p3) us27 uo27 il27 q q q <| lA (R au.p0) us29 uo29 il29 q q q <| O aa fun aP a7 aa => V4 q q c8 (w_spec_HouseDo hR4 hR5 hR6 hR7 a7 au.ctx) q fun aB aC aD aE bK a8 => have a9 := au.cN4 [] a8; qM q q q <| A q (zv q q) q q <| A q (zv q q) q q <| zq (cs := [nS, nS, nS, iV 0, nS]) a9 z27 q q q fun bL bM ag => zl (cs' := [aB, aC, aD, iV aP.1.2.2.2.1, aE]) ag q il27 q (T (ag.ctx.sliceOne hS1) (T (ag.ctx.sliceOne hS2) (T (ag.ctx.sliceOne hS3) (T q (T (ag.ctx.sliceOne hS4) q))))) q q q fun bN aF => qA q q q <| B <| C <| rR <| qM q q q <| B <| O aa fun ba ah aa => ?_
   obtain ⟨bb, bc, bd, be, bf⟩ := ba
   refine WP_join (M := fun a w2 => ∃ av aw ax ay, Fr a 35 [(0, pB bp0), (5, ae), (6, pB ad), (7, iV aA), (8, pB aO)] ∧ Holds (([.bx bp0 89 [A0, iV B1]] : List Res).flatMap Res.own) w w2 [.bx bp0 89 [A0, iV ab.1], .sl 29 ty10 ae az, .bx ad 27 [av, aw, ax, iV be, ay], .ro ty12 av bb, .ro tI aw bc, .ro tI ax bd, .ro ty14 ay bf, .bx aO 29 [iV ab.2.1, iV ab.2.2.1, iV ab.2.2.2.1, iV ab.2.2.2.2]] G) ?_ ?_
   ·refine Yh q ah (fun ah => ?_) (fun ah => ?_)
    ·refine Z <| lA (R aF.p0) us27 uo27 il27 q q q <| have aj := aF.p8; zl (cs' := [aB, aC, aD, iV aP.1.2.2.2.1, aE]) aj q il27 q (T (aj.ctx.sliceOne hS2) (T (aj.ctx.sliceOne hS3) (T (aj.ctx.sliceOne hS4) (T q (T (aj.ctx.sliceOne hS5) q))))) q q q fun bO bg => WL_nil fun a ha => ?_
     cases ah
     refine have bh := bg.p2; have bi := bh.freeze; have bj := bi.p3; have bk := bj.freeze; have bl := bk.p4; have bm := bl.freeze; have bn := bm.p5; have bo := bn.freeze; have bp := bo.q5.q8.q8.q8.q8.p5.p1.p2.p3.p4.p5.p7.p7; ?_
     exact X (⟨aB, aC, aD, aE, ha.s, bp⟩)
    refine WP_skip fun a ha => ?_
    obtain ⟨rfl, rfl, rfl, rfl, rfl⟩ := (by simpa only [Option.some.injEq, Prod.mk.injEq] using ah : _)
    have bq := aF.q0.q0.q0.q0.q0.p7.p7.p7.p7.p7.p7.p7
    exact X (⟨am, ao, ap, aq, ha.s, bq⟩)
   rintro a bP ⟨av, aw, ax, ay, ha, aQ⟩
   refine S1 ha <| Z <| qM q q q <| lA (R aQ.p7) us29 uo29 il29 q q q <| zs (t := ty10) (args := [.tmp 31]) (xs := ([(ab.2.1, ab.2.2.1, ab.2.2.2.1, ab.2.2.2.2)] : List (Int × Int × Int × Int))) aQ (BltL.cons (Blt.pair (Blt.int) (Blt.pair (Blt.int) (Blt.pair (Blt.int) (Blt.int)))) q (BltL.nil)) u40 j29 q q q q q q fun bQ bR br => have bs := br.p2; O aa fun bS bt aa => zw bs hS1 bt u40 j29 q q q q q q fun bu bT bv => qA q q q <| WL_nil fun a ha => zi <| X <| S1 ha <| Z <| qM q q q <| A q (qt_sub q q) q q <| qA q q q <| WL_nil fun a ha => ?_
   cases aa
   have bw := bv.q1.q7.p6.p6.p6.p6.p6.p5.p6
   exact ⟨q, bu, av, aw, ax, ay, ha.s, bw⟩
  refine WP_exit fun a ha => ?_
  cases aa
  have bz := ar.q2.q2.q2.q2.q2.p1.p1
  exact zo (⟨exit_ne, q, ae, ha.s, bz⟩)
 obtain ⟨bU, bV, bW, bX, bY, bZ, b0⟩ := aZ
 rintro _ a b4 ⟨rfl, bA, ha, bB⟩
 refine zn <| X <| S1 ha <| rR <| qM q q q <| qA q q q <| B <| W fun a ha => ?_
 cases h
 have bC := bB.p1
 exact ret1 q ha q ⟨bA, q, bC⟩
theorem w_spec_DrawHouseRun {w : World} {G : List Res} {vp0 : Value} {p0 : List Int} (hp0 : HasRo G (.int .u8) vp0 p0) {r : (LI × (List Int) × (List Int) × Int × LT) × (List (Int × Int × Int × Int))} (h : spec_DrawHouseRunS p0 = some r) (H : Ctx w G) : Calls Tryz.prog 20 #[vp0] w fun e w' => ∃ (v1 : Value) (v2 : Value) (v3 : Value) (v4 : Value) (v5 : Value), e = .returned (.tuple #[.agg #[v1, v2, v3, iV r.1.2.2.2.1, v4], v5]) ∧ Holds M0 w w' [.ro ty12 v1 r.1.1, .ro tI v2 r.1.2.1, .ro tI v3 r.1.2.2.1, .ro ty14 v4 r.1.2.2.2.2, .sl 29 ty10 v5 r.2] G := by
 refine E0 (n := 14) H Tryz.func20 q q q fun H => ?_
 unfold spec_DrawHouseRunS at h
 refine C <| Z <| zq (cs := [nS, nS, nS, iV 0, nS]) H z27 q q q fun b1 w2 H3 => qA q q q <| rN <| qM q q q <| O h fun x5 ax h => V2 q q c23 (w_spec_l20Open (hp0.c) ax H3.ctx) q fun v9 am w7 H8 => have ay := H3.cN2 [] H8; qA q q q <| rN <| qM q q q <| have ar := ay.p1; O h fun aa az h => V4 q q c24 (w_spec_l20House hR0 az ar.ctx) q fun ab ad ae af aW aA => have aB := ar.cN5 [_] aA; zq (cs := [nS, nS, nS, iV 0, nS]) aB z27 q q q fun au aX ag => zl (cs' := [ab, ad, ae, iV aa.2.2.2.2.1, af]) ag q il27 q (T (ag.ctx.sliceOne hS1) (T (ag.ctx.sliceOne hS2) (T (ag.ctx.sliceOne hS3) (T q (T (ag.ctx.sliceOne hS4) q))))) q q q fun aY aC => B <| C <| have aD := aC.p1; have aE := aD.freeze; have aF := aE.p2; ?_
 refine have aG := aF.freeze; have aH := aG.p3; have aI := aH.freeze; have aJ := aI.p4; have aK := aJ.freeze; O h fun aL aM h => ?_
 refine WP_join (M := fun a w2 => ∃ ao ah aj ak al, Fr a 14 [(2, pB b1), (3, ao)] ∧ Holds M0 w w2 [.bx b1 27 [ah, aj, ak, iV aa.2.2.2.2.1, al], .ro ty12 ah aa.2.1, .ro tI aj aa.2.2.1, .ro tI ak aa.2.2.2.1, .ro ty14 al aa.2.2.2.2.2, .sl 29 ty10 ao aL.2] G) ?_ ?_
 ·refine WP_ordersT (fun w1 w2 => Chg (([.bx am 89 [v9, iV aa.1], .bx b1 27 [nS, nS, nS, iV 0, nS]] : List Res).flatMap Res.own) w1 w2) 5 (by kernel_rfl) fun ap aN => have aO := aK.grow aN; have aP := aO.p7; have av := aP.p6; ?_
  have aq : Ctx ap ([.bx am 89 [v9, iV aa.1], .bx b1 27 [nS, nS, nS, iV 0, nS]] ++ ([.ro ty14 af aa.2.2.2.2.2, .ro tI ae aa.2.2.2.1, .ro tI ad aa.2.2.1, .ro ty12 ab aa.2.1, .bx au 27 [ab, ad, ae, iV aa.2.2.2.2.1, af], .ro (.int .u8) v9 x5.1] ++ G)) := av.ctx
  have aQ : Holds _ ap ap [.bx am 89 [v9, iV aa.1], .bx b1 27 [nS, nS, nS, iV 0, nS]] ([.ro ty14 af aa.2.2.2.2.2, .ro tI ae aa.2.2.2.1, .ro tI ad aa.2.2.1, .ro ty12 ab aa.2.1, .bx au 27 [ab, ad, ae, iV aa.2.2.2.2.1, af], .ro (.int .u8) v9 x5.1] ++ G) := zb (Rs := [.bx am 89 [v9, iV aa.1], .bx b1 27 [nS, nS, nS, iV 0, nS]]) aq
  refine have Hc := aQ; have aR := HasB.bx (HasB.c (HasB.c (HasB.c (HasB.c (HasB.c (HasB.c (HasB.hd))))))) Hc.ctx; XT (i := 0) q (by kernel_rfl) q Hc.chg q (qs_agg (cs := [ab, ad, ae, iV aa.2.2.2.2.1, af]) us27 uo27 il27 q (fun j z hj => by rw [Nat.zero_add]; exact aR.cell hj) Hc.chg (Ctx.outB aq (HasB.c (HasB.c (HasB.c (HasB.c (HasB.hd))))))) q q ?_
  change XC _ _ _ _ _ _ _ _ ((10, .agg #[ab, ad, ae, iV aa.2.2.2.2.1, af]) :: _) _
  refine XQ (i := 1) q (by kernel_rfl) q Hc.chg q (fun _ => qt_move q) q q <| have aS := HasB.bx (HasB.c (HasB.c (HasB.c (HasB.c (HasB.c (HasB.c (HasB.hd))))))) Hc.ctx; XT (i := 2) q (by kernel_rfl) q Hc.chg q (qs_agg (cs := [ab, ad, ae, iV aa.2.2.2.2.1, af]) us27 uo27 il27 q (fun j z hj => by rw [Nat.zero_add]; exact aS.cell hj) Hc.chg (Ctx.outB aq (HasB.c (HasB.c (HasB.c (HasB.c (HasB.hd))))))) q q ?_
  change XC _ _ _ _ _ _ _ _ ((12, .agg #[ab, ad, ae, iV aa.2.2.2.2.1, af]) :: _) _
  repeat' first
   | refine XDo 3 q <| V1 q q c56 (w_spec_l20HouseDeeds hR6 hO4 hO3 hO2 hO1 aM Hc.ctx) q fun aT _ HK => ?_; have Hc := Hc.cN2 [_] HK; refine XN Hc.chg ?_
   | refine XDo 4 q ?_; have Hc := Hc.p2; refine zl (cs' := [ab, ad, ae, iV aa.2.2.2.2.1, af]) Hc q il27 q (T (Hc.ctx.sliceOne hR6) (T (Hc.ctx.sliceOne hR5) (T (Hc.ctx.sliceOne hR4) (T q (T (Hc.ctx.sliceOne hR3) q))))) q q q (fun _ Hc => ?_); refine XN Hc.chg ?_
   | have Hc := av.cN3 [_, _] Hc; refine XDo 5 q <| qA q q q <| XE q ?_
   | refine XV [3] (by decide +kernel) q (allc ?_ alln)
   | refine XV [4] (by decide +kernel) q (allc ?_ alln)
   | refine XV [5] (by decide +kernel) q (allc ?_ alln)
   | refine XC_done (by decide +kernel) (fun a ha => ?_); have Hc := (((((((((Hc.q2).q6).q6).p1).p2).p3).p4).p5).p5); exact ⟨aT, ab, ad, ae, af, ha.s, Hc⟩
 rintro a aZ ⟨ao, ah, aj, ak, al, ha, aw⟩
 refine S1 ha <| W fun a ha => ?_
 cases h
 refine have aU := R aw.p0; have aV := aw.q0.p4.p4.p4.p4.p4; ?_
 exact retct q ha q q (run_loadVar_bx (cs := [ah, aj, ak, iV aa.2.2.2.2.1, al]) us27 uo27 il27 aU) ⟨ah, aj, ak, al, ao, q, aV⟩
theorem w_impl_partsValid {w : World} {G : List Res} {vp0 : Value} {p0 : LP} (hp0 : Has G ty2 vp0 p0) {p1 : Int} {r : Bool} (h : impl_partsValidS p0 p1 = some r) (H : Ctx w G) : Calls Tryz.prog 103 #[vp0, iV p1] w fun e w' => e = .returned (.bool r) ∧ Holds M0 w w' [] G := by
 refine E0 (n := 45) H Tryz.func103 q q q fun H => ?_
 unfold impl_partsValidS at h
 refine rR <| qA q q q <| B <| C <| rR <| qM q q q <| za H.ctx (t := ty2) (hp0) u53 q q q <| A q (qt_lss q q) q q <| qM q q q ?_
 refine Ho (res := ((decide ((List.length p0 : Int) < 1)) || (decide ((List.length p0 : Int) > 3)))) 3 os (fun af K2 am => ?_) ?_
 ·exact qM (J q af) q q <| za H.ctx (t := ty2) (hp0) u53 (J q af) q q <| A (J q af) (qt_gtr q q) q q <| am 3 q q q (oi af)
 refine B ?_
 refine Yh q h (fun h => ?_) (fun h => ?_)
 ·refine rR <| qA q q q <| B <| W fun a ha => ?_
  cases h
  exact m (ret1 q ha q ⟨q, H⟩)
 refine y <| rR <| qA q q q <| B <| C <| rR <| qM q q q <| za H.ctx (t := ty2) (hp0) u53 q q q <| qM q q q <| B <| g <| O h fun o6 ao h => ?_
 refine fun a8 ap => zp (I := fun s a w2 => match s with | (s4, s5) => (Fr a 45 [(1, iV p1), (5, iV s4), (16, vp0), (17, iV (List.length p0 : Int)), (18, iV s5)] ∧ Holds M0 w w2 [] G)) (O := fun o e a w2 => match o with | .inl _ => e = .exit 0 ∧ (Fr a 45 [] ∧ Holds M0 w w2 [] G) | .inr q0 => e = .ret ∧ (Fr a 45 [(4, .bool q0)] ∧ Holds M0 w w2 [] G)) ao ?_ ?_ ?_
 ·exact ⟨ap.s, H⟩
 ·rintro ⟨s4, s5⟩ _ a aF ab ⟨ha, ag⟩
  refine S1 ha <| rR <| A q (qt_lss q q) q q <| B <| C ?_
  refine Yh q ab (fun ab => ?_) (fun ab => ?_)
  ·refine y <| C <| g <| rR <| O ab fun aa ak ab => b ag.ctx (hp0) ak u53 i57 q q q q fun aG aH aI aq => ?_
   obtain ⟨aJ, ar, aK⟩ := ag.atN (hp0) ak aq
   refine XL_load_agg (t := ty2) us57 uo57 i57 ar q q q fun aL au => ?_
   obtain ⟨c26, c27, aM, aN, rfl, aO, av, aw⟩ := au
   obtain ⟨rfl, _⟩ := av
   obtain ⟨rfl, _⟩ := aw
   change XL _ _ _ _ _ ((21, .agg #[iV aa.1, iV aa.2]) :: _) _
   refine zq (cs := [iV 0, iV 0]) ag z57 q q q fun aP aQ ax => zl (cs' := [iV aa.1, iV aa.2]) ax q il57 q q q q q fun aR ad => B <| C <| rR <| qF uf57 fi57_0 nz3 q q q <| l u3 q (R ad.p0) q q q q <| qM q q q <| A q (qt_leq q q) q q <| qM q q q ?_
   refine Ho (res := ((decide (aa.1 ≤ s4)) || (decide (aa.1 ≥ p1)))) 4 os (fun ae aS ay => ?_) ?_
   ·exact qF uf57 fi57_0 nz3 (J q ae) q q <| l u3 q (R ad.p0) q (J q ae) q q <| qM (J q ae) q q <| A (J q ae) (qt_geq q q) q q <| ay 4 q q q (oi ae)
   refine qM q q q ?_
   refine Ho (res := (((decide (aa.1 ≤ s4)) || (decide (aa.1 ≥ p1))) || (decide (aa.2 < 1)))) 3 os (fun ah aT az => ?_) ?_
   ·exact qF uf57 fi57_1 nz3 (J q ah) q q <| l u3 q (R ad.p0) q (J q ah) q q <| A (J q ah) (qt_lss q q) q q <| az 3 q q q (oi ah)
   refine qM q q q ?_
   refine Ho (res := ((((decide (aa.1 ≤ s4)) || (decide (aa.1 ≥ p1))) || (decide (aa.2 < 1))) || (decide (aa.2 > 6)))) 3 os (fun aj aU aA => ?_) ?_
   ·exact qF uf57 fi57_1 nz3 (J q aj) q q <| l u3 q (R ad.p0) q (J q aj) q q <| A (J q aj) (qt_gtr q q) q q <| aA 3 q q q (oi aj)
   refine B ?_
   refine Yh q ab (fun ab => ?_) (fun ab => ?_)
   ·refine rR <| qA q q q <| B <| W fun a ha => ?_
    cases ab
    have aB := ad.q0
    exact m (zj (m (⟨ret_ne, q, ha.s, aB⟩)))
   refine y <| Z <| qF uf57 fi57_0 nz3 q q q <| l u3 q (R ad.p0) q q q q <| qA q q q <| WL_nil fun a ha => zi <| X <| S1 ha <| Z <| A q (qt_add q q) q q <| qM q q q <| WL_nil fun a ha => ?_
   cases ab
   have aC := ad.q0
   exact ⟨q, ha.s, aC⟩
  refine WP_exit fun a ha => ?_
  cases ab
  exact zo (⟨exit_ne, q, ha.s, ag⟩)
 intro e a aV al
 rcases o6 with o6 | o6
 ·obtain ⟨rfl, ha, aD⟩ := al
  refine zn <| X <| S1 ha <| rR <| qA q q q <| B <| W fun a ha => ?_
  cases h
  exact ret1 q ha q ⟨q, aD⟩
 obtain ⟨rfl, ha, aE⟩ := al
 obtain rfl := L h
 exact zj (m (ret1 q ha q ⟨q, aE⟩))
theorem w_impl_itemValid {w : World} {G : List Res} {B0 : Int} {A1 : Value} {B1 : LP} (C1 : Has G ty2 A1 B1) {B2 : Int} {p1 : Int} {r : Bool} (h : impl_itemValidS B0 B1 B2 p1 = some r) (H : Ctx w G) : Calls Tryz.prog 78 #[.agg #[iV B0, A1, iV B2], iV p1] w fun e w' => e = .returned (.bool r) ∧ Holds M0 w w' [] G := by
 refine E0 (n := 34) H Tryz.func78 q q q fun H => ?_
 unfold impl_itemValidS at h
 refine C <| Z <| WL_box (cs := [iV B0, A1, iV B2]) H q q q q fun b1 w2 H3 => qA q q q <| B <| C <| rR <| qF uf55 fi55_2 nz3 q q q <| l u3 q (R H3.p0) q q q q <| A q (qt_lss q q) q q <| qM q q q ?_
 refine Ho (res := ((decide (B2 < 0)) || (decide (B2 > 31)))) 3 os (fun ad K7 af => ?_) ?_
 ·exact qF uf55 fi55_2 nz3 (J q ad) q q <| l u3 q (R H3.p0) q (J q ad) q q <| A (J q ad) (qt_gtr q q) q q <| af 3 q q q (oi ad)
 refine B ?_
 refine Yh q h (fun h => ?_) (fun h => ?_)
 ·refine rR <| qA q q q <| B <| W fun a ha => ?_
  cases h
  have ag := H3.q0
  exact m (ret1 q ha q ⟨q, ag⟩)
 refine y <| C <| rR <| qF uf55 fi55_0 nz3 q q q <| l u3 q (R H3.p0) q q q q <| A q (qt_eql q q) q q <| B ?_
 refine Yh q h (fun h => ?_) (fun h => ?_)
 ·refine rR <| qF uf55 fi55_1 nz53 q q q <| l u53 q (R H3.p0) q q q q <| za H3.ctx (t := ty2) (C1.c) u53 q q q <| A q (qt_eql q q) q q <| qA q q q <| B <| W fun a ha => ?_
  cases h
  have ah := H3.q0
  exact m (ret1 q ha q ⟨q, ah⟩)
 refine y <| C <| zk <| qF uf55 fi55_0 nz3 q q q <| l u3 q (R H3.p0) q q q q <| A q (qt_geq q q) q q <| qM q q q ?_
 refine Ga (res := ((decide (B0 ≥ 1)) && (decide (B0 ≤ 6)))) 3 an (fun ae aq aj => ?_) ?_
 ·exact qF uf55 fi55_0 nz3 (J q ae) q q <| l u3 q (R H3.p0) q (J q ae) q q <| A (J q ae) (qt_leq q q) q q <| aj 3 q q q (ai ae)
 refine qM q q q <| O h fun ak aa h => ?_
 refine Ga (res := ak) 4 (if_f · aa) (fun ab ar al => ?_) ?_
 ·exact have aa := if_t ab aa; qF uf55 fi55_1 nz53 (J q ab) q q <| l u53 q (R H3.p0) q (J q ab) q q <| qM (J q ab) q q <| O aa fun au am aa => Qc (J q ab) q c103 H3 (fun _ => w_impl_partsValid (C1.c) am) q <| al 4 q q q aa
 refine qA q q q <| Qn H3 fun a ha av ao => X <| S1 ha <| W fun a ha => ?_
 obtain rfl := L h
 have ap := ao.q0
 exact ret1 q ha q ⟨q, ap⟩
end Go.Proofs.YtpabogkcmbkffaaGreatDoor
