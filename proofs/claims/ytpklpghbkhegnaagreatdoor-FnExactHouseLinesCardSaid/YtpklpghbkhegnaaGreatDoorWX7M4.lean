/- The walks: each Go function computes its shallow function. Printed by a program. -/
import Derived.Test.YtpklpghbkhegnaaGreatDoorWX7M3
set_option linter.unusedVariables false
set_option maxRecDepth 10000
set_option maxHeartbeats 8000000
namespace Go.Proofs.YtpklpghbkhegnaaGreatDoor
open Go Go.RowKit
theorem w_spec_HouseDo {w G A0 B0 A1 B1 A2 B2 B3 A4 B4 p1_0 p1_1 p1_2 p1_3 r} (h : spec_HouseDoS B0 B1 B2 B3 B4 p1_0 p1_1 p1_2 p1_3 = some r) (C0 : Has G ty12 A0 B0) (C1 : Has G tI A1 B1) (C2 : Has G tI A2 B2) (C4 : Has G ty14 A4 B4) (H : Ctx w G) : Calls Tryz.prog 27 #[.agg #[A0, A1, A2, iV B3, A4], .agg #[iV p1_0, iV p1_1, iV p1_2, iV p1_3]] w fun e w' => ∃ (v1 : Value) (v2 : Value) (v3 : Value) (v4 : Value), e = .returned (.tuple #[.agg #[v1, v2, v3, iV r.1.2.2.2.1, v4], .bool r.2]) ∧ Holds M0 w w' [.sl 95 ty12 v1 r.1.1, .sl 3 tI v2 r.1.2.1, .sl 3 tI v3 r.1.2.2.1, .sl 89 ty14 v4 r.1.2.2.2.2] G := by
 refine F0 137 H Tryz.func27 q fun H => ?_
 refine C <| Z <| WL_box (cs := [A0, A1, A2, iV B3, A4]) H q q q q fun b1 w2 H3 => WL_box (cs := [iV p1_0, iV p1_1, iV p1_2, iV p1_3]) H3 q q q q fun b5 w6 H7 => zq (cs := [nS, nS, nS, iV 0, nS]) H7 z31 q q q fun b9 eY bt => qa q <| B <| C <| C <| zk <| eA bt.p2 us31 uo31 il31 q <| O h fun eZ cJ h => qc q c22 bt (fun _ => w_spec_HouseValid cJ (C0.c.c.c) (C1.c.c.c) (C2.c.c.c) (C4.c.c.c)) <| qi (qt_not q) q <| Qn bt fun a ha e0 aX => X <| S1 ha ?_
 refine Yh q h (fun h => ?_) (fun h => ?_)
 ·cases h
  exact rR <| qi (qt_build (args := []) (css := []) (cells := #[nS, nS, nS, iV 0, nS]) q trivial (by kernel_rfl)) q <| zl (cs' := [nS, nS, nS, iV 0, nS]) aX q il31 q q q q q fun e1 cg => qa q <| B <| W fun a ha => have cK := R cg.p0; have cL := cg.nS 95 ty12; have cM := cL.nS 3 tI; have cN := cM.nS 3 tI; have cO := cN.nS 89 ty14; m (retct q ha q q (run_loadVar_bx (cs := [nS, nS, nS, iV 0, nS]) us31 uo31 il31 cK) ⟨(nS), (nS), (nS), (nS), q, cO.q4.q4.q4.p1.p2.p3⟩)
 refine y <| rR <| eA aX.p2 us31 uo31 il31 q <| O h fun af cQ h => U4 q c25 (w_spec_l7Copy cQ (C0.c.c.c) (C1.c.c.c) (C2.c.c.c) (C4.c.c.c) aX.ctx) fun ab ad ae ag e2 cR => have cS := aX.cN4 [] cR; zq (cs := [nS, nS, nS, iV 0, nS]) cS z31 q q q fun e3 e4 av => zl (cs' := [ab, ad, ae, iV af.2.2.2.1, ag]) av q il31 q (T (av.ctx.sliceOne hS1) (T (av.ctx.sliceOne hS2) (T (av.ctx.sliceOne hS3) (T q (T (av.ctx.sliceOne hS4) q))))) q q q fun e5 aa => rN <| qa q <| B <| C <| g <| rR <| qf uf50 fi50_0 nz3 q <| ql u3 aa.p6 q <| qi (qt_neq q q) q <| qm q ?_
 refine Ha (res := ((p1_0 != 3) && (p1_3 != 0))) 3 an (fun aY e6 cT => ?_) ?_
 ·exact jf uf50 fi50_3 nz3 aY q <| jl u3 aa.p6 aY q <| ji (qt_neq q q) aY q <| cT 3 q q q (ai aY)
 refine qm q ?_
 refine Ho (res := (((p1_0 != 3) && (p1_3 != 0)) || ((decide (p1_0 ≥ 4)) && (p1_2 != 0)))) 8 os (fun ah e7 cU => ?_) ?_
 ·refine jf uf50 fi50_0 nz3 ah q <| jl u3 aa.p6 ah q <| ji (qt_geq q q) ah q <| jm ah q ?_
  refine Ha (res := ((decide (p1_0 ≥ 4)) && (p1_2 != 0))) (hw := (J q ah)) 3 an (fun aZ e8 cV => ?_) ?_
  ·exact jf uf50 fi50_2 nz3 aZ q <| jl u3 aa.p6 aZ q <| ji (qt_neq q q) aZ q <| cV 3 q q q (ai aZ)
  exact cU 5 q q q (oi ah)
 refine qm q ?_
 refine Ho (res := ((((p1_0 != 3) && (p1_3 != 0)) || ((decide (p1_0 ≥ 4)) && (p1_2 != 0))) || ((p1_0 == 4) && (p1_1 != 0)))) 8 os (fun aj e9 cW => ?_) ?_
 ·refine jf uf50 fi50_0 nz3 aj q <| jl u3 aa.p6 aj q <| ji (qt_eql q q) aj q <| jm aj q ?_
  refine Ha (res := ((p1_0 == 4) && (p1_1 != 0))) (hw := (J q aj)) 3 an (fun a0 fa cX => ?_) ?_
  ·exact jf uf50 fi50_1 nz3 a0 q <| jl u3 aa.p6 a0 q <| ji (qt_neq q q) a0 q <| cX 3 q q q (ai a0)
  exact cW 5 q q q (oi aj)
 refine qm q ?_
 refine Ho (res := (((((p1_0 != 3) && (p1_3 != 0)) || ((decide (p1_0 ≥ 4)) && (p1_2 != 0))) || ((p1_0 == 4) && (p1_1 != 0))) || ((p1_0 == 2) && (p1_2 != 0)))) 8 os (fun ak fb cY => ?_) ?_
 ·refine jf uf50 fi50_0 nz3 ak q <| jl u3 aa.p6 ak q <| ji (qt_eql q q) ak q <| jm ak q ?_
  refine Ha (res := ((p1_0 == 2) && (p1_2 != 0))) (hw := (J q ak)) 3 an (fun a1 fc cZ => ?_) ?_
  ·exact jf uf50 fi50_2 nz3 a1 q <| jl u3 aa.p6 a1 q <| ji (qt_neq q q) a1 q <| cZ 3 q q q (ai a1)
  exact cY 5 q q q (oi ak)
 refine qa q <| B ?_
 refine Yh q h (fun h => ?_) (fun h => ?_)
 ·cases h
  exact rR <| eA aa.p0 us31 uo31 il31 q <| have aw := aa.p5; zl (cs' := [ab, ad, ae, iV af.2.2.2.1, ag]) aw q il31 q (T (aw.ctx.sliceOne hS2) (T (aw.ctx.sliceOne hS3) (T (aw.ctx.sliceOne hS4) (T q (T (aw.ctx.sliceOne hS5) q))))) q q q fun fd ch => qa q <| B <| W fun a ha => have c0 := R ch.p0; zj (m (retct q ha q q (run_loadVar_bx (cs := [ab, ad, ae, iV af.2.2.2.1, ag]) us31 uo31 il31 c0) ⟨ab, ad, ae, ag, q, ch.q0.q0.q4.q4.p3.p3.p3.p3⟩))
 refine rR <| qf uf50 fi50_0 nz3 q <| ql u3 aa.p6 q <| qi (qt_eql q q) q <| qa q <| B ?_
 refine Yh q h (fun h => ?_) (fun h => ?_)
 ·refine Z <| eA aa.p0 us31 uo31 il31 q <| qf uf50 fi50_1 nz3 q <| ql u3 aa.p6 q <| qf uf50 fi50_2 nz3 q <| ql u3 aa.p6 q <| have ci := aa.p4.p4.p4.p4; O h fun bu da h => U4 q c65 (w_spec_l7Buy da ci.ctx) fun a2 a3 a4 a5 fe db => have dc := ci.cN4 [_, _, _, _] db; qm q <| qi (zv q q) q <| qi (zv q q) q <| have ax := dc.p4; zl (cs' := [a2, a3, a4, iV bu.1.2.2.2.1, a5]) ax q il31 q (T (ax.ctx.sliceOne hS1) (T (ax.ctx.sliceOne hS2) (T (ax.ctx.sliceOne hS3) (T q (T (ax.ctx.sliceOne hS4) q))))) q q q fun ff bv => qa q <| WL_nil fun a ha => zi <| X <| S1 ha <| C <| C <| zk <| qm q <| qi (qt_not q) q <| qm q <| O h fun dd al h => ?_
  refine Go (res := dd) 3 (if_t · al) (fun a6 fg de => ?_) ?_
  ·exact have al := if_f a6 al; jA bv.p0 us31 uo31 il31 a6 q <| O al fun fh df al => jc a6 q c22 bv (fun _ => w_spec_HouseValid df hS1 hS2 hS3 hS4) <| ji (qt_not q) a6 q <| de 3 q q q al
  refine Qn bv fun a ha fi ay => X <| S1 ha ?_
  refine Yh q h (fun h => ?_) (fun h => ?_)
  ·refine rR <| eA ay.p7 us31 uo31 il31 q <| O h fun cj dg h => U4 q c25 (w_spec_l7Copy dg (C0.c.c.c.c.c.c.c.c) (C1.c.c.c.c.c.c.c.c) (C2.c.c.c.c.c.c.c.c) (C4.c.c.c.c.c.c.c.c) ay.ctx) fun bw bz bA bB fj dh => have di := ay.cN4 [] dh; have az := di.p9; zl (cs' := [bw, bz, bA, iV cj.2.2.2.1, bB]) az q il31 q (T (az.ctx.sliceOne hS1) (T (az.ctx.sliceOne hS2) (T (az.ctx.sliceOne hS3) (T q (T (az.ctx.sliceOne hS4) q))))) q q q fun fk ck => qa q <| B <| W fun a ha => ?_
   cases h
   refine have dj := R ck.p0; ?_
   exact m (retct q ha q q (run_loadVar_bx (cs := [bw, bz, bA, iV cj.2.2.2.1, bB]) us31 uo31 il31 dj) ⟨bw, bz, bA, bB, q, ck.q0.q4.q4.q4.q4.q4.q4.q4.p3.p3.p3.p3⟩)
  cases h
  exact y <| rR <| eA ay.p0 us31 uo31 il31 q <| have aA := ay.p5; zl (cs' := [a2, a3, a4, iV bu.1.2.2.2.1, a5]) aA q il31 q (T (aA.ctx.sliceOne hS2) (T (aA.ctx.sliceOne hS3) (T (aA.ctx.sliceOne hS4) (T q (T (aA.ctx.sliceOne hS5) q))))) q q q fun fl cl => qa q <| B <| W fun a ha => have dl := R cl.p0; retct q ha q q (run_loadVar_bx (cs := [a2, a3, a4, iV bu.1.2.2.2.1, a5]) us31 uo31 il31 dl) ⟨a2, a3, a4, a5, q, cl.q0.q0.q4.q4.p3.p3.p3.p3⟩
 refine rR <| qf uf50 fi50_0 nz3 q <| ql u3 aa.p6 q <| qi (qt_eql q q) q <| qa q <| B ?_
 refine Yh q h (fun h => ?_) (fun h => ?_)
 ·refine Z <| eA aa.p0 us31 uo31 il31 q <| qf uf50 fi50_1 nz3 q <| ql u3 aa.p6 q <| qf uf50 fi50_2 nz3 q <| ql u3 aa.p6 q <| have cm := aa.p4.p4.p4.p4; O h fun bC ds h => U4 q c66 (w_spec_l7Make ds cm.ctx) fun a7 a8 a9 ba fm dt => have du := cm.cN4 [_, _, _, _] dt; qm q <| qi (zv q q) q <| qi (zv q q) q <| have aB := du.p4; zl (cs' := [a7, a8, a9, iV bC.1.2.2.2.1, ba]) aB q il31 q (T (aB.ctx.sliceOne hS1) (T (aB.ctx.sliceOne hS2) (T (aB.ctx.sliceOne hS3) (T q (T (aB.ctx.sliceOne hS4) q))))) q q q fun fn bD => qa q <| WL_nil fun a ha => zi <| X <| S1 ha <| C <| C <| zk <| qm q <| qi (qt_not q) q <| qm q <| O h fun dv am h => ?_
  refine Go (res := dv) 3 (if_t · am) (fun bb fo dw => ?_) ?_
  ·exact have am := if_f bb am; jA bD.p0 us31 uo31 il31 bb q <| O am fun fp dx am => jc bb q c22 bD (fun _ => w_spec_HouseValid dx hS1 hS2 hS3 hS4) <| ji (qt_not q) bb q <| dw 3 q q q am
  refine Qn bD fun a ha fq aC => X <| S1 ha ?_
  refine Yh q h (fun h => ?_) (fun h => ?_)
  ·refine rR <| eA aC.p7 us31 uo31 il31 q <| O h fun cn dy h => U4 q c25 (w_spec_l7Copy dy (C0.c.c.c.c.c.c.c.c) (C1.c.c.c.c.c.c.c.c) (C2.c.c.c.c.c.c.c.c) (C4.c.c.c.c.c.c.c.c) aC.ctx) fun bE bF bG bH fr dz => have dA := aC.cN4 [] dz; have aD := dA.p9; zl (cs' := [bE, bF, bG, iV cn.2.2.2.1, bH]) aD q il31 q (T (aD.ctx.sliceOne hS1) (T (aD.ctx.sliceOne hS2) (T (aD.ctx.sliceOne hS3) (T q (T (aD.ctx.sliceOne hS4) q))))) q q q fun fs co => qa q <| B <| W fun a ha => ?_
   cases h
   refine have dB := R co.p0; ?_
   exact m (retct q ha q q (run_loadVar_bx (cs := [bE, bF, bG, iV cn.2.2.2.1, bH]) us31 uo31 il31 dB) ⟨bE, bF, bG, bH, q, co.q0.q4.q4.q4.q4.q4.q4.q4.p3.p3.p3.p3⟩)
  cases h
  exact y <| rR <| eA aC.p0 us31 uo31 il31 q <| have aE := aC.p5; zl (cs' := [a7, a8, a9, iV bC.1.2.2.2.1, ba]) aE q il31 q (T (aE.ctx.sliceOne hS2) (T (aE.ctx.sliceOne hS3) (T (aE.ctx.sliceOne hS4) (T q (T (aE.ctx.sliceOne hS5) q))))) q q q fun ft cp => qa q <| B <| W fun a ha => have dD := R cp.p0; retct q ha q q (run_loadVar_bx (cs := [a7, a8, a9, iV bC.1.2.2.2.1, ba]) us31 uo31 il31 dD) ⟨a7, a8, a9, ba, q, cp.q0.q0.q4.q4.p3.p3.p3.p3⟩
 refine rR <| qf uf50 fi50_0 nz3 q <| ql u3 aa.p6 q <| qi (qt_eql q q) q <| qa q <| B ?_
 refine Yh q h (fun h => ?_) (fun h => ?_)
 ·refine rR <| qf uf31 fi31_4 nz29 q <| ql u29 aa.p0 q <| qf uf50 fi50_1 nz3 q <| ql u3 aa.p6 q <| qi (qt_build (args := [(0, .tmp 87)]) (css := [#[iV p1_1]]) (cells := #[iV p1_1, nS, nS]) q ⟨q, trivial⟩ (by kernel_rfl)) q <| zs (t := ty14) (args := [.tmp 88]) (xs := ([(p1_1, [], [])] : LT)) aa (BltL.cons (Blt.pair (Blt.int) (Blt.pair (Blt.slice (HasRo.nil)) (Blt.slice (HasRo.nil)))) q (BltL.nil)) u29 j89 q q q q q q fun fu fv dF => O h fun fw dH h => zw dF.p5 hS1 dH u29 j89 q q q q q q fun bI fx dI => qf uf31 fi31_4 nz29 q <| have bJ := dI.p2; WL_store_bx bJ q il29 (bJ.ctx.sliceCells hS1) (bJ.ctx.sliceOne hS1) q q q fun fy bK => B <| Z <| qa q <| WL_nil fun a ha => zi <| X <| S1 ha <| C <| C <| zk <| qm q <| qi (qt_not q) q <| qm q <| O h fun dJ ao h => ?_
  refine Go (res := dJ) 3 (if_t · ao) (fun bc fz dK => ?_) ?_
  ·exact have ao := if_f bc ao; jA bK.p0 us31 uo31 il31 bc q <| O ao fun fA dL ao => jc bc q c22 bK (fun _ => w_spec_HouseValid dL hS3 hS4 hS5 hS1) <| ji (qt_not q) bc q <| dK 3 q q q ao
  refine Qn bK fun a ha fB aF => X <| S1 ha ?_
  refine Yh q h (fun h => ?_) (fun h => ?_)
  ·refine rR <| eA aF.p8 us31 uo31 il31 q <| O h fun cq dM h => U4 q c25 (w_spec_l7Copy dM (C0.c.c.c.c.c.c.c.c.c) (C1.c.c.c.c.c.c.c.c.c) (C2.c.c.c.c.c.c.c.c.c) (C4.c.c.c.c.c.c.c.c.c) aF.ctx) fun bL bM bN bO fC dN => have dO := aF.cN4 [] dN; have aG := dO.p10; zl (cs' := [bL, bM, bN, iV cq.2.2.2.1, bO]) aG q il31 q (T (aG.ctx.sliceOne hS1) (T (aG.ctx.sliceOne hS2) (T (aG.ctx.sliceOne hS3) (T q (T (aG.ctx.sliceOne hS4) q))))) q q q fun fD cr => qa q <| B <| W fun a ha => ?_
   cases h
   refine have dP := R cr.p0; ?_
   exact m (retct q ha q q (run_loadVar_bx (cs := [bL, bM, bN, iV cq.2.2.2.1, bO]) us31 uo31 il31 dP) ⟨bL, bM, bN, bO, q, cr.q0.q4.q4.q4.q4.q4.q4.q4.q4.p3.p3.p3.p3⟩)
  cases h
  exact y <| rR <| eA aF.p0 us31 uo31 il31 q <| have aH := aF.p6; zl (cs' := [ab, ad, ae, iV af.2.2.2.1, bI]) aH q il31 q (T (aH.ctx.sliceOne hS4) (T (aH.ctx.sliceOne hS5) (T (aH.ctx.sliceOne hS6) (T q (T (aH.ctx.sliceOne hS2) q))))) q q q fun fE ct => qa q <| B <| W fun a ha => have dR := R ct.p0; retct q ha q q (run_loadVar_bx (cs := [ab, ad, ae, iV af.2.2.2.1, bI]) us31 uo31 il31 dR) ⟨ab, ad, ae, bI, q, ct.q0.q0.q1.q4.q4.p3.p3.p3⟩
 refine rR <| qf uf50 fi50_0 nz3 q <| ql u3 aa.p6 q <| qi (qt_eql q q) q <| qa q <| B ?_
 refine Yh q h (fun h => ?_) (fun h => ?_)
 ·refine Z <| eA aa.p0 us31 uo31 il31 q <| qf uf50 fi50_1 nz3 q <| ql u3 aa.p6 q <| qf uf50 fi50_2 nz3 q <| ql u3 aa.p6 q <| qf uf50 fi50_3 nz3 q <| ql u3 aa.p6 q <| have cu := aa.p4.p4.p4.p4; O h fun bP dW h => U4 q c67 (w_spec_l7Order dW cu.ctx) fun bd be bf bg fF dX => have dY := cu.cN4 [_, _, _, _] dX; qm q <| qi (zv q q) q <| qi (zv q q) q <| have aI := dY.p4; zl (cs' := [bd, be, bf, iV bP.1.2.2.2.1, bg]) aI q il31 q (T (aI.ctx.sliceOne hS1) (T (aI.ctx.sliceOne hS2) (T (aI.ctx.sliceOne hS3) (T q (T (aI.ctx.sliceOne hS4) q))))) q q q fun fG bQ => qa q <| WL_nil fun a ha => zi <| X <| S1 ha <| C <| C <| zk <| qm q <| qi (qt_not q) q <| qm q <| O h fun dZ ap h => ?_
  refine Go (res := dZ) 3 (if_t · ap) (fun bh fH d0 => ?_) ?_
  ·exact have ap := if_f bh ap; jA bQ.p0 us31 uo31 il31 bh q <| O ap fun fI d1 ap => jc bh q c22 bQ (fun _ => w_spec_HouseValid d1 hS1 hS2 hS3 hS4) <| ji (qt_not q) bh q <| d0 3 q q q ap
  refine Qn bQ fun a ha fJ aJ => X <| S1 ha ?_
  refine Yh q h (fun h => ?_) (fun h => ?_)
  ·refine rR <| eA aJ.p7 us31 uo31 il31 q <| O h fun cv d2 h => U4 q c25 (w_spec_l7Copy d2 (C0.c.c.c.c.c.c.c.c) (C1.c.c.c.c.c.c.c.c) (C2.c.c.c.c.c.c.c.c) (C4.c.c.c.c.c.c.c.c) aJ.ctx) fun bR bS bT bU fK d3 => have d4 := aJ.cN4 [] d3; have aK := d4.p9; zl (cs' := [bR, bS, bT, iV cv.2.2.2.1, bU]) aK q il31 q (T (aK.ctx.sliceOne hS1) (T (aK.ctx.sliceOne hS2) (T (aK.ctx.sliceOne hS3) (T q (T (aK.ctx.sliceOne hS4) q))))) q q q fun fL cw => qa q <| B <| W fun a ha => ?_
   cases h
   refine have d5 := R cw.p0; ?_
   exact m (retct q ha q q (run_loadVar_bx (cs := [bR, bS, bT, iV cv.2.2.2.1, bU]) us31 uo31 il31 d5) ⟨bR, bS, bT, bU, q, cw.q0.q4.q4.q4.q4.q4.q4.q4.p3.p3.p3.p3⟩)
  cases h
  exact y <| rR <| eA aJ.p0 us31 uo31 il31 q <| have aL := aJ.p5; zl (cs' := [bd, be, bf, iV bP.1.2.2.2.1, bg]) aL q il31 q (T (aL.ctx.sliceOne hS2) (T (aL.ctx.sliceOne hS3) (T (aL.ctx.sliceOne hS4) (T q (T (aL.ctx.sliceOne hS5) q))))) q q q fun fM cx => qa q <| B <| W fun a ha => have d7 := R cx.p0; retct q ha q q (run_loadVar_bx (cs := [bd, be, bf, iV bP.1.2.2.2.1, bg]) us31 uo31 il31 d7) ⟨bd, be, bf, bg, q, cx.q0.q0.q4.q4.p3.p3.p3.p3⟩
 refine rR <| qf uf50 fi50_0 nz3 q <| ql u3 aa.p6 q <| qi (qt_eql q q) q <| qa q <| B ?_
 refine Yh q h (fun h => ?_) (fun h => ?_)
 ·refine Z <| eA aa.p0 us31 uo31 il31 q <| have cy := aa.p4.p4.p4.p4; O h fun bV ec h => U4 q c68 (w_spec_l7Work ec cy.ctx) fun bi bj bk bl fN ed => have ee := cy.cN4 [_, _, _, _] ed; qm q <| qi (zv q q) q <| qi (zv q q) q <| have aM := ee.p4; zl (cs' := [bi, bj, bk, iV bV.1.2.2.2.1, bl]) aM q il31 q (T (aM.ctx.sliceOne hS1) (T (aM.ctx.sliceOne hS2) (T (aM.ctx.sliceOne hS3) (T q (T (aM.ctx.sliceOne hS4) q))))) q q q fun fO bW => qa q <| WL_nil fun a ha => zi <| X <| S1 ha <| C <| C <| zk <| qm q <| qi (qt_not q) q <| qm q <| O h fun ef aq h => ?_
  refine Go (res := ef) 3 (if_t · aq) (fun bm fP eg => ?_) ?_
  ·exact have aq := if_f bm aq; jA bW.p0 us31 uo31 il31 bm q <| O aq fun fQ eh aq => jc bm q c22 bW (fun _ => w_spec_HouseValid eh hS1 hS2 hS3 hS4) <| ji (qt_not q) bm q <| eg 3 q q q aq
  refine Qn bW fun a ha fR aN => X <| S1 ha ?_
  refine Yh q h (fun h => ?_) (fun h => ?_)
  ·refine rR <| eA aN.p7 us31 uo31 il31 q <| O h fun cz ei h => U4 q c25 (w_spec_l7Copy ei (C0.c.c.c.c.c.c.c.c) (C1.c.c.c.c.c.c.c.c) (C2.c.c.c.c.c.c.c.c) (C4.c.c.c.c.c.c.c.c) aN.ctx) fun bX bY bZ b0 fS ej => have ek := aN.cN4 [] ej; have aO := ek.p9; zl (cs' := [bX, bY, bZ, iV cz.2.2.2.1, b0]) aO q il31 q (T (aO.ctx.sliceOne hS1) (T (aO.ctx.sliceOne hS2) (T (aO.ctx.sliceOne hS3) (T q (T (aO.ctx.sliceOne hS4) q))))) q q q fun fU cA => qa q <| B <| W fun a ha => ?_
   cases h
   refine have em := R cA.p0; ?_
   exact m (retct q ha q q (run_loadVar_bx (cs := [bX, bY, bZ, iV cz.2.2.2.1, b0]) us31 uo31 il31 em) ⟨bX, bY, bZ, b0, q, cA.q0.q4.q4.q4.q4.q4.q4.q4.p3.p3.p3.p3⟩)
  cases h
  exact y <| rR <| eA aN.p0 us31 uo31 il31 q <| have aP := aN.p5; zl (cs' := [bi, bj, bk, iV bV.1.2.2.2.1, bl]) aP q il31 q (T (aP.ctx.sliceOne hS2) (T (aP.ctx.sliceOne hS3) (T (aP.ctx.sliceOne hS4) (T q (T (aP.ctx.sliceOne hS5) q))))) q q q fun fV cB => qa q <| B <| W fun a ha => have eo := R cB.p0; retct q ha q q (run_loadVar_bx (cs := [bi, bj, bk, iV bV.1.2.2.2.1, bl]) us31 uo31 il31 eo) ⟨bi, bj, bk, bl, q, cB.q0.q0.q4.q4.p3.p3.p3.p3⟩
 refine rR <| qf uf50 fi50_0 nz3 q <| ql u3 aa.p6 q <| qi (qt_eql q q) q <| qa q <| B ?_
 refine Yh q h (fun h => ?_) (fun h => ?_)
 ·refine Z <| eA aa.p0 us31 uo31 il31 q <| qf uf50 fi50_1 nz3 q <| ql u3 aa.p6 q <| have cC := aa.p4.p4.p4.p4; O h fun b4 eu h => U4 q c69 (w_spec_l7Close eu cC.ctx) fun bn bo bp bq fW ew => have ey := cC.cN4 [_, _, _, _] ew; qm q <| qi (zv q q) q <| qi (zv q q) q <| have aQ := ey.p4; zl (cs' := [bn, bo, bp, iV b4.1.2.2.2.1, bq]) aQ q il31 q (T (aQ.ctx.sliceOne hS1) (T (aQ.ctx.sliceOne hS2) (T (aQ.ctx.sliceOne hS3) (T q (T (aQ.ctx.sliceOne hS4) q))))) q q q fun fX b6 => qa q <| WL_nil fun a ha => zi <| X <| S1 ha <| C <| C <| zk <| qm q <| qi (qt_not q) q <| qm q <| O h fun ez ar h => ?_
  refine Go (res := ez) 3 (if_t · ar) (fun br fY eC => ?_) ?_
  ·exact have ar := if_f br ar; jA b6.p0 us31 uo31 il31 br q <| O ar fun fZ eD ar => jc br q c22 b6 (fun _ => w_spec_HouseValid eD hS1 hS2 hS3 hS4) <| ji (qt_not q) br q <| eC 3 q q q ar
  refine Qn b6 fun a ha f0 aR => X <| S1 ha ?_
  refine Yh q h (fun h => ?_) (fun h => ?_)
  ·refine rR <| eA aR.p7 us31 uo31 il31 q <| O h fun cD eE h => U4 q c25 (w_spec_l7Copy eE (C0.c.c.c.c.c.c.c.c) (C1.c.c.c.c.c.c.c.c) (C2.c.c.c.c.c.c.c.c) (C4.c.c.c.c.c.c.c.c) aR.ctx) fun b7 b8 ca cb f1 eF => have eG := aR.cN4 [] eF; have aS := eG.p9; zl (cs' := [b7, b8, ca, iV cD.2.2.2.1, cb]) aS q il31 q (T (aS.ctx.sliceOne hS1) (T (aS.ctx.sliceOne hS2) (T (aS.ctx.sliceOne hS3) (T q (T (aS.ctx.sliceOne hS4) q))))) q q q fun f2 cE => qa q <| B <| W fun a ha => ?_
   cases h
   refine have eH := R cE.p0; ?_
   exact m (retct q ha q q (run_loadVar_bx (cs := [b7, b8, ca, iV cD.2.2.2.1, cb]) us31 uo31 il31 eH) ⟨b7, b8, ca, cb, q, cE.q0.q4.q4.q4.q4.q4.q4.q4.p3.p3.p3.p3⟩)
  cases h
  exact y <| rR <| eA aR.p0 us31 uo31 il31 q <| have aT := aR.p5; zl (cs' := [bn, bo, bp, iV b4.1.2.2.2.1, bq]) aT q il31 q (T (aT.ctx.sliceOne hS2) (T (aT.ctx.sliceOne hS3) (T (aT.ctx.sliceOne hS4) (T q (T (aT.ctx.sliceOne hS5) q))))) q q q fun f3 cF => qa q <| B <| W fun a ha => have eK := R cF.p0; retct q ha q q (run_loadVar_bx (cs := [bn, bo, bp, iV b4.1.2.2.2.1, bq]) us31 uo31 il31 eK) ⟨bn, bo, bp, bq, q, cF.q0.q0.q4.q4.p3.p3.p3.p3⟩
 refine WP_skip fun a ha => zi <| X <| S1 ha <| C <| C <| zk <| qm q <| qi (qt_not q) q <| qm q <| O h fun eM au h => ?_
 refine Go (res := eM) 3 (if_t · au) (fun bs f4 eN => ?_) ?_
 ·exact have au := if_f bs au; jA aa.p0 us31 uo31 il31 bs q <| O au fun f5 eO au => jc bs q c22 aa (fun _ => w_spec_HouseValid eO hS1 hS2 hS3 hS4) <| ji (qt_not q) bs q <| eN 3 q q q au
 refine Qn aa fun a ha f6 aU => X <| S1 ha ?_
 refine Yh q h (fun h => ?_) (fun h => ?_)
 ·refine rR <| eA aU.p7 us31 uo31 il31 q <| O h fun cG eP h => U4 q c25 (w_spec_l7Copy eP (C0.c.c.c.c.c.c.c.c) (C1.c.c.c.c.c.c.c.c) (C2.c.c.c.c.c.c.c.c) (C4.c.c.c.c.c.c.c.c) aU.ctx) fun cc cd ce cf f7 eQ => have eR := aU.cN4 [] eQ; have aV := eR.p9; zl (cs' := [cc, cd, ce, iV cG.2.2.2.1, cf]) aV q il31 q (T (aV.ctx.sliceOne hS1) (T (aV.ctx.sliceOne hS2) (T (aV.ctx.sliceOne hS3) (T q (T (aV.ctx.sliceOne hS4) q))))) q q q fun f8 cH => qa q <| B <| W fun a ha => ?_
  cases h
  refine have eT := R cH.p0; ?_
  exact m (retct q ha q q (run_loadVar_bx (cs := [cc, cd, ce, iV cG.2.2.2.1, cf]) us31 uo31 il31 eT) ⟨cc, cd, ce, cf, q, cH.q0.q4.q4.q4.q4.q4.q4.q4.p3.p3.p3.p3⟩)
 cases h
 exact y <| rR <| eA aU.p0 us31 uo31 il31 q <| have aW := aU.p5; zl (cs' := [ab, ad, ae, iV af.2.2.2.1, ag]) aW q il31 q (T (aW.ctx.sliceOne hS2) (T (aW.ctx.sliceOne hS3) (T (aW.ctx.sliceOne hS4) (T q (T (aW.ctx.sliceOne hS5) q))))) q q q fun f9 cI => qa q <| B <| W fun a ha => have eW := R cI.p0; retct q ha q q (run_loadVar_bx (cs := [ab, ad, ae, iV af.2.2.2.1, ag]) us31 uo31 il31 eW) ⟨ab, ad, ae, ag, q, cI.q0.q0.q4.q4.p3.p3.p3.p3⟩
theorem w_spec_WorkLeft {w G vp0 p0 r} (h : spec_WorkLeftS p0 = some r) (hp0 : Has G ty4 vp0 p0) (H : Ctx w G) : Calls Tryz.prog 32 #[vp0] w fun e w' => e = .returned (iV r) ∧ Holds M0 w w' [] G := by
 refine F0 37 H Tryz.func32 q fun H => ?_
 refine rR <| qa q <| B <| C <| C <| zk <| qm q <| O h fun x1 ao h => qc q c70 H (fun _ => w_spec_KitchenValid ao (hp0)) <| qi (qt_not q) q <| Qn H fun a ha w3 H5 => X <| S1 ha ?_
 refine Yh q h (fun h => ?_) (fun h => ?_)
 ·cases h
  exact rR <| qa q <| B <| W fun a ha => m (ret1 q ha q ⟨q, H5⟩)
 refine y <| rR <| qa q <| B <| C <| rR <| qa q <| B <| g <| O h fun o9 ap h => ?_
 refine fun aC aq => zp (I := fun (s7, s8) a w2 => (Fr a 37 [(0, vp0), (3, iV s7), (4, iV s8)] ∧ Holds M0 w w2 [] G)) (O := fun q0 e a w2 => e = .exit 0 ∧ (Fr a 37 [(3, iV q0)] ∧ Holds M0 w w2 [] G)) ap ?_ ?_ ?_
 ·exact ⟨aq.s, H5⟩
 ·rintro ⟨s7, s8⟩ _ a aD ab ⟨ha, ae⟩
  refine S1 ha <| C <| rR <| qm q <| qm q <| qz ae.ctx (hp0) u65 q <| qi (qt_lss q q) q <| B ?_
  refine Yh q ab (fun ab => ?_) (fun ab => ?_)
  ·refine y <| C <| g <| rR <| qa q <| B <| g <| O ab fun aE ar ab => ?_
   refine fun aF au => zp (I := fun (ag, ah) a w2 => (Fr a 37 [(0, vp0), (3, iV ag), (4, iV s8), (5, iV ah)] ∧ Holds M0 w w2 [] G)) (O := fun q0 e a w2 => e = .exit 2 ∧ (Fr a 37 [(0, vp0), (3, iV q0), (4, iV s8)] ∧ Holds M0 w w2 [] G)) ar ?_ ?_ ?_
   ·exact ⟨au.s, ae⟩
   ·rintro ⟨ag, ah⟩ _ a aG aa ⟨ha, aj⟩
    refine S1 ha <| C <| rR <| qm q <| qm q <| qm q <| O aa fun aH ak aa => qe aj (hp0) ak u65 i87 q fun _ _ av => eV u87 av q fun aL ad => qz ad.ctx hR0 u87 q <| qi (qt_lss q q) q <| B ?_
    refine Yh q aa (fun aa => ?_) (fun aa => ?_)
    ·refine y <| C <| g <| Z <| qm q <| qm q <| qm q <| O aa fun aM al aa => qe ad (hp0.c) al u65 i87 q fun _ _ aw => eV u87 aw q fun aQ af => qm q <| O aa fun aR am aa => qe af hR0 am u87 i103 q fun _ _ ax => qf uf103 fi103_1 nz3 q <| eI u3 ax.s q <| qi (qt_sub q q) q <| qi (qt_max q q) q <| qi (qt_add q q) q <| qa q <| WL_nil fun a ha => zi <| X <| S1 ha <| Z <| qm q <| qi (qt_add q q) q <| qa q <| WL_nil fun a ha => ?_
     cases aa
     exact ⟨q, ha.s, af.q0.q0⟩
    cases aa
    exact WP_exit fun a ha => zo (⟨exit_ne, q, ha.s, ad.q0⟩)
   rintro _ a aV ⟨rfl, ha, aA⟩
   cases ab
   exact zn <| zi <| X <| S1 ha <| Z <| qm q <| qi (qt_add q q) q <| qa q <| WL_nil fun a ha => ⟨q, ha.s, aA⟩
  cases ab
  exact WP_exit fun a ha => zo (⟨exit_ne, q, ha.s, ae⟩)
 rintro _ a aW ⟨rfl, ha, aB⟩
 refine zn <| X <| S1 ha <| rR <| qm q <| qa q <| B <| W fun a ha => ?_
 obtain rfl := L h
 exact ret1 q ha q ⟨q, aB⟩
theorem w_spec_EndDeeds {w G A0 B0 A1 B1 A2 B2 B3 A4 B4 r} (h : spec_EndDeedsS B0 B1 B2 B3 B4 = some r) (C0 : Has G ty12 A0 B0) (C1 : Has G tI A1 B1) (C2 : Has G tI A2 B2) (C4 : Has G ty14 A4 B4) (H : Ctx w G) : Calls Tryz.prog 29 #[.agg #[A0, A1, A2, iV B3, A4]] w fun e w' => ∃ (v1 : Value), e = .returned (v1) ∧ Holds M0 w w' [.sl 50 ty10 v1 r] G := by
 refine F0 34 H Tryz.func29 q fun H => ?_
 refine C <| Z <| WL_box (cs := [A0, A1, A2, iV B3, A4]) H q q q q fun b1 w2 H3 => qa q <| B <| C <| Z <| zs (t := ty10) (args := []) (xs := ([] : List (Int × Int × Int × Int))) H3 (BltL.nil) u60 j50 q q q q q q fun v5 w6 H7 => qa q <| B <| C <| C <| zk <| eA H7.p1 us31 uo31 il31 q <| O h fun aX aq h => qc q c22 H7 (fun _ => w_spec_HouseValid aq (C0.c.c) (C1.c.c) (C2.c.c) (C4.c.c)) <| qi (qt_not q) q <| Qn H7 fun a ha aY ae => X <| S1 ha ?_
 refine Yh q h (fun h => ?_) (fun h => ?_)
 ·cases h
  exact rR <| qm q <| qa q <| B <| W fun a ha => m (ret1 q ha q ⟨v5, q, ae.q1⟩)
 refine y <| C <| rR <| eA ae.p1 us31 uo31 il31 q <| O h fun aZ au h => U1 q c33 (w_spec_l7Tickets au (C0.c.c) (C1.c.c) (C2.c.c) (C4.c.c) ae.ctx) fun a0 a1 av => have aj := ae.cN1 [] av; O h fun a2 aw h => U0 q c32 (w_spec_WorkLeft aw hS0 aj.ctx) fun a3 ax => have ay := aj.cN0 [] ax; qa q <| B <| g <| O h fun a4 az h => ?_
 refine fun a5 aB => zp (I := fun (ak, al) a w2 => ∃ af, Fr a 34 [(1, pB b1), (3, af), (4, iV al)] ∧ Holds M0 w w2 [.bx b1 31 [A0, A1, A2, iV B3, A4], .sl 50 ty10 af ak] G) (O := fun q0 e a w2 => e = .exit 0 ∧ ∃ ad, Fr a 34 [(1, pB b1), (3, ad)] ∧ Holds M0 w w2 [.bx b1 31 [A0, A1, A2, iV B3, A4], .sl 50 ty10 ad q0] G) az ?_ ?_ ?_
 ·exact ⟨v5, aB.s, ay.q0.p1⟩
 ·rintro ⟨ak, al⟩ _ a a6 aa ⟨af, ha, am⟩
  refine S1 ha <| C <| rR <| qm q <| qi (qt_gtr q q) q <| B ?_
  refine Yh q aa (fun aa => ?_) (fun aa => ?_)
  ·refine y <| C <| g <| Z <| qm q <| qi (qt_build (args := [(0, .const (iV 4))]) (css := [#[iV 4]]) (cells := #[iV 4, iV 0, iV 0, iV 0]) q ⟨q, trivial⟩ (by kernel_rfl)) q <| zs (t := ty10) (args := [.tmp 19]) (xs := ([(4, 0, 0, 0)] : List (Int × Int × Int × Int))) am (BltL.cons (Blt.pair (Blt.int) (Blt.pair (Blt.int) (Blt.pair (Blt.int) (Blt.int)))) q (BltL.nil)) u60 j50 q q q q q q fun a7 a8 aC => O aa fun a9 aE aa => zw aC.p2 hS1 aE u60 j50 q q q q q q fun aF ba aG => qa q <| WL_nil fun a ha => zi <| X <| S1 ha <| Z <| qm q <| qi (qt_sub q q) q <| qa q <| WL_nil fun a ha => ?_
   cases aa
   exact ⟨q, aF, ha.s, aG.q1.p1⟩
  cases aa
  exact WP_exit fun a ha => zo (⟨exit_ne, q, af, ha.s, am.p1.p1⟩)
 rintro _ a bb ⟨rfl, aJ, ha, aK⟩
 refine zn <| X <| S1 ha <| C <| rR <| qa q <| B <| g <| O h fun bc aL h => ?_
 refine fun bd aN => zp (I := fun (ao, ap) a w2 => ∃ ag, Fr a 34 [(1, pB b1), (3, ag), (5, iV ap)] ∧ Holds M0 w w2 [.bx b1 31 [A0, A1, A2, iV B3, A4], .sl 50 ty10 ag ao] G) (O := fun q0 e a w2 => e = .exit 2 ∧ ∃ ad, Fr a 34 [(3, ad)] ∧ Holds M0 w w2 [.sl 50 ty10 ad q0] G) aL ?_ ?_ ?_
 ·exact ⟨aJ, aN.s, aK.p1.p1⟩
 ·rintro ⟨ao, ap⟩ _ a be ab ⟨ag, ha, ah⟩
  refine S1 ha <| C <| rR <| qm q <| qf uf31 fi31_4 nz29 q <| ql u29 ah.p0 q <| qz ah.ctx (C4.c.c) u29 q <| qi (qt_lss q q) q <| B ?_
  refine Yh q ab (fun ab => ?_) (fun ab => ?_)
  ·refine y <| C <| g <| Z <| qm q <| qi (qt_build (args := [(0, .const (iV 5))]) (css := [#[iV 5]]) (cells := #[iV 5, iV 0, iV 0, iV 0]) q ⟨q, trivial⟩ (by kernel_rfl)) q <| zs (t := ty10) (args := [.tmp 30]) (xs := ([(5, 0, 0, 0)] : List (Int × Int × Int × Int))) ah (BltL.cons (Blt.pair (Blt.int) (Blt.pair (Blt.int) (Blt.pair (Blt.int) (Blt.int)))) q (BltL.nil)) u60 j50 q q q q q q fun bf bg aO => O ab fun bh aQ ab => zw aO.p2 hS1 aQ u60 j50 q q q q q q fun aR bi aS => qa q <| WL_nil fun a ha => zi <| X <| S1 ha <| Z <| qm q <| qi (qt_add q q) q <| qa q <| WL_nil fun a ha => ?_
   cases ab
   exact ⟨q, aR, ha.s, aS.q1.p1⟩
  cases ab
  exact WP_exit fun a ha => zo (⟨exit_ne, q, ag, ha.s, ah.q0⟩)
 rintro _ a bj ⟨rfl, aV, ha, aW⟩
 refine zn <| X <| S1 ha <| rR <| qm q <| qa q <| B <| W fun a ha => ?_
 obtain rfl := L h
 exact ret1 q ha q ⟨aV, q, aW⟩
theorem w_spec_HouseRun {w G A0 B0 A1 B1 A2 B2 B3 A4 B4 vp1 p1 r} (h : spec_HouseRunS B0 B1 B2 B3 B4 p1 = some r) (C0 : Has G ty12 A0 B0) (C1 : Has G tI A1 B1) (C2 : Has G tI A2 B2) (C4 : Has G ty14 A4 B4) (hp1 : Has G ty10 vp1 p1) (H : Ctx w G) : Calls Tryz.prog 28 #[.agg #[A0, A1, A2, iV B3, A4], vp1] w fun e w' => ∃ (v1 : Value) (v2 : Value) (v3 : Value) (v4 : Value), e = .returned (.tuple #[.agg #[v1, v2, v3, iV r.1.2.2.2.1, v4], iV r.2]) ∧ Holds M0 w w' [.sl 95 ty12 v1 r.1.1, .sl 3 tI v2 r.1.2.1, .sl 3 tI v3 r.1.2.2.1, .sl 89 ty14 v4 r.1.2.2.2.2] G := by
 refine F0 38 H Tryz.func28 q fun H => ?_
 refine C <| Z <| WL_box (cs := [A0, A1, A2, iV B3, A4]) H q q q q fun b1 w2 H3 => zq (cs := [nS, nS, nS, iV 0, nS]) H3 z31 q q q fun b5 w6 H7 => qa q <| B <| C <| C <| zk <| eA H7.p1 us31 uo31 il31 q <| O h fun bF a5 h => qc q c22 H7 (fun _ => w_spec_HouseValid a5 (C0.c.c) (C1.c.c) (C2.c.c) (C4.c.c)) <| qi (qt_not q) q <| Qn H7 fun a ha bG ay => X <| S1 ha ?_
 refine Yh q h (fun h => ?_) (fun h => ?_)
 ·cases h
  exact rR <| qi (qt_build (args := []) (css := []) (cells := #[nS, nS, nS, iV 0, nS]) q trivial (by kernel_rfl)) q <| zl (cs' := [nS, nS, nS, iV 0, nS]) ay q il31 q q q q q fun bH aR => qa q <| B <| W fun a ha => have a6 := R aR.p0; have a7 := aR.nS 95 ty12; have a8 := a7.nS 3 tI; have a9 := a8.nS 3 tI; have ba := a9.nS 89 ty14; m (retct q ha q q (run_loadVar_bx (cs := [nS, nS, nS, iV 0, nS]) us31 uo31 il31 a6) ⟨(nS), (nS), (nS), (nS), q, ba.q4.q4.p1.p2.p3⟩)
 refine y <| rR <| eA ay.p1 us31 uo31 il31 q <| O h fun bc bd h => U4 q c25 (w_spec_l7Copy bd (C0.c.c) (C1.c.c) (C2.c.c) (C4.c.c) ay.ctx) fun aS aT aU aV bI be => have bf := ay.cN4 [] be; zq (cs := [nS, nS, nS, iV 0, nS]) bf z31 q q q fun ah bJ al => zl (cs' := [aS, aT, aU, iV bc.2.2.2.1, aV]) al q il31 q (T (al.ctx.sliceOne hS1) (T (al.ctx.sliceOne hS2) (T (al.ctx.sliceOne hS3) (T q (T (al.ctx.sliceOne hS4) q))))) q q q fun bK bg => rN <| qa q <| B <| C <| rR <| qa q <| B <| g <| O h fun bh bi h => ?_
 refine fun bL bk => zp (I := fun (aF, aG, am, ao, ap, aj, aq) a w2 => ∃ aa ab ad ae, Fr a 38 [(1, vp1), (4, pB b5), (6, pB ah), (7, iV aF), (8, iV aG)] ∧ Holds M0 w w2 [.bx b5 31 [nS, nS, nS, iV 0, nS], .bx ah 31 [aa, ab, ad, iV aj, ae], .sl 95 ty12 aa am, .sl 3 tI ab ao, .sl 3 tI ad ap, .sl 89 ty14 ae aq] G) (O := fun (q0, q1, q2, q3, q4, q5) e a w2 => e = .exit 0 ∧ ∃ aW aX aY aZ, Fr a 38 [(4, pB b5), (6, pB ah), (7, iV q0)] ∧ Holds M0 w w2 [.bx b5 31 [nS, nS, nS, iV 0, nS], .bx ah 31 [aW, aX, aY, iV q4, aZ], .sl 95 ty12 aW q1, .sl 3 tI aX q2, .sl 3 tI aY q3, .sl 89 ty14 aZ q5] G) bi ?_ ?_ ?_
 ·exact ⟨aS, aT, aU, aV, bk.s, bg.q6.p4.p4.p4.p4.p4.p5⟩
 ·rintro ⟨aF, aG, am, ao, ap, aj, aq⟩ _ a bM af ⟨aa, ab, ad, ae, ha, aH⟩
  refine S1 ha <| C <| rR <| qm q <| qm q <| qz aH.ctx (hp1.c.c.c.c.c.c) u60 q <| qi (qt_lss q q) q <| B ?_
  refine Yh q af (fun af => ?_) (fun af => ?_)
  ·refine y <| C <| g <| C <| O af fun az aA af => O af fun ag a0 af => ?_
   refine WP_join (M := fun a w2 => ∃ aI ar au av aw, Fr a 38 [(1, vp1), (4, pB b5), (6, pB ah), (7, iV aF), (8, iV aG), (9, pB aI), (10, .bool ag.2)] ∧ Holds M0 w w2 [.bx b5 31 [nS, nS, nS, iV 0, nS], .bx ah 31 [aa, ab, ad, iV aj, ae], .sl 95 ty12 aa am, .sl 3 tI ab ao, .sl 3 tI ad ap, .sl 89 ty14 ae aq, .bx aI 31 [ar, au, av, iV ag.1.2.2.2.1, aw], .sl 95 ty12 ar ag.1.1, .sl 3 tI au ag.1.2.1, .sl 3 tI av ag.1.2.2.1, .sl 89 ty14 aw ag.1.2.2.2.2] G) ?_ ?_
   ·refine WP_ordersT (fun w1 w2 => Chg M0 w1 w2) 11 (by kernel_rfl) fun aJ bl => have a1 := aH.grow bl; ?_
    have aK : Ctx aJ ([] ++ ([.bx b5 31 [nS, nS, nS, iV 0, nS], .bx ah 31 [aa, ab, ad, iV aj, ae], .sl 95 ty12 aa am, .sl 3 tI ab ao, .sl 3 tI ad ap, .sl 89 ty14 ae aq] ++ G)) := a1.ctx
    have bm : Holds _ aJ aJ [] ([.bx b5 31 [nS, nS, nS, iV 0, nS], .bx ah 31 [aa, ab, ad, iV aj, ae], .sl 95 ty12 aa am, .sl 3 tI ab ao, .sl 3 tI ad ap, .sl 89 ty14 ae aq] ++ G) := zb (Rs := []) aK
    refine have Hc := bm; have bn := HasB.bx (HasB.c (HasB.hd)) Hc.ctx; XT (i := 0) q (by kernel_rfl) q Hc.chg q (qs_agg (cs := [aa, ab, ad, iV aj, ae]) us31 uo31 il31 q (fun j z hj => by rw [Nat.zero_add]; exact bn.cell hj) Hc.chg (Ctx.outB aK (HasB.c (HasB.hd)))) q q ?_
    change XC _ _ _ _ _ _ _ _ ((24, .agg #[aa, ab, ad, iV aj, ae]) :: _) _
    refine XQ (i := 1) q (by kernel_rfl) q Hc.chg q (fun _ => qt_move q) q q <| XQ (i := 2) q (by kernel_rfl) q Hc.chg q (fun _ => qt_move q) q q ?_
    obtain ⟨bN, bO, bP, aL⟩ := Ctx.isAt Hc.ctx (hp1.c.c.c.c.c.c) aA
    refine XT (i := 3) q (by kernel_rfl) q Hc.chg q (qs_index aA aL u60 i50 q q) q q ?_
    obtain ⟨bQ, bo, bR⟩ := Hc.atN (hp1.c.c.c.c.c.c) aA aL
    obtain ⟨bS, a2, bp⟩ := bo
    refine XT (i := 4) q (by kernel_rfl) q Hc.chg q (qs_agg us50 uo50 (i50.trans (congrArg some (Rep.length (t := ty10) a2).symm)) q bp Hc.chg (Ctx.outHas aK (hp1.c.c.c.c.c.c) aA aL)) q q ?_
    obtain ⟨bT, bU, bV, bW, rfl, bX, bq, br⟩ := a2
    obtain ⟨rfl, _⟩ := bq
    obtain ⟨bY, bZ, b0, b4, rfl, b6, bs, bt⟩ := br
    obtain ⟨rfl, _⟩ := bs
    obtain ⟨b7, b8, b9, ca, rfl, cb, bu, bv⟩ := bt
    obtain ⟨rfl, _⟩ := bu
    obtain ⟨rfl, _⟩ := bv
    change XC _ _ _ _ _ _ _ _ ((28, .agg #[iV az.1, iV az.2.1, iV az.2.2.1, iV az.2.2.2]) :: _) _
    repeat' first
     | refine XDo 5 q <| U4 q c27 (w_spec_HouseDo a0 hS2 hS3 hS4 hS5 Hc.ctx) fun aB aC aD aE _ HK => ?_; have Hc := Hc.cN4 [] HK; refine XN Hc.chg <| XQ (i := 6) q (by kernel_rfl) q Hc.chg q (fun _ => qt_move q) q q <| XQ (i := 7) q (by kernel_rfl) q Hc.chg q (fun _ => zv q q) q q <| XQ (i := 8) q (by kernel_rfl) q Hc.chg q (fun _ => zv q q) q q ?_
     | refine XDo 5 q <| U4 q c27 (w_spec_HouseDo a0 hS3 hS4 hS5 hS6 Hc.ctx) fun aB aC aD aE _ HK => ?_; have Hc := Hc.cN4 [] HK; refine XN Hc.chg <| XQ (i := 6) q (by kernel_rfl) q Hc.chg q (fun _ => qt_move q) q q <| XQ (i := 7) q (by kernel_rfl) q Hc.chg q (fun _ => zv q q) q q <| XQ (i := 8) q (by kernel_rfl) q Hc.chg q (fun _ => zv q q) q q ?_
     | refine XDo 9 q ?_; refine zq (cs := [nS, nS, nS, iV 0, nS]) Hc z31 q q q (fun bw _ Hc => ?_); refine XN Hc.chg ?_
     | refine XDo 10 q ?_; refine zl (cs' := [aB, aC, aD, iV ag.1.2.2.2.1, aE]) Hc q il31 q (T (Hc.ctx.sliceOne hS1) (T (Hc.ctx.sliceOne hS2) (T (Hc.ctx.sliceOne hS3) (T q (T (Hc.ctx.sliceOne hS4) q))))) q q q (fun _ Hc => ?_); refine XN Hc.chg ?_
     | refine XDo 10 q ?_; have Hc := Hc.p4; refine zl (cs' := [aB, aC, aD, iV ag.1.2.2.2.1, aE]) Hc q il31 q (T (Hc.ctx.sliceOne hS1) (T (Hc.ctx.sliceOne hS2) (T (Hc.ctx.sliceOne hS3) (T q (T (Hc.ctx.sliceOne hS4) q))))) q q q (fun _ Hc => ?_); refine XN Hc.chg ?_
     | have Hc := a1.cN5 [] Hc; refine XDo 11 q <| qa q <| XE q ?_
     | refine XV [5, 9] (by decide +kernel) q (allc ?_ (allc ?_ alln))
     | refine XV [9] (by decide +kernel) q (allc ?_ alln)
     | refine XV [10] (by decide +kernel) q (allc ?_ alln)
     | refine XV [11] (by decide +kernel) q (allc ?_ alln)
     | refine XV [5] (by decide +kernel) q (allc ?_ alln)
     | refine XC_done (by decide +kernel) (fun a ha => ?_); have Hc := (((((((((((Hc.p4).p4).p4).p4).p4).p10).p10).p10).p10).p10).p10); exact ⟨bw, aB, aC, aD, aE, ha.s, Hc⟩
   rintro a cc ⟨aI, ar, au, av, aw, ha, aM⟩
   refine S1 ha <| rR <| qm q <| B ?_
   refine Yh q af (fun af => ?_) (fun af => ?_)
   ·cases af
    exact rR <| eA aM.p6 us31 uo31 il31 q <| have ax := aM.p1; zl (cs' := [ar, au, av, iV ag.1.2.2.2.1, aw]) ax q il31 q (T (ax.ctx.sliceOne hS7) (T (ax.ctx.sliceOne hS8) (T (ax.ctx.sliceOne hS9) (T q (T (ax.ctx.sliceOne hS10) q))))) q q q fun cd bz => B <| Z <| qm q <| qi (qt_add q q) q <| qa q <| WL_nil fun a ha => zi <| X <| S1 ha <| Z <| qm q <| qi (qt_add q q) q <| qa q <| WL_nil fun a ha => ⟨q, ar, au, av, aw, ha.s, bz.q2.q2.q2.q2.q2.p5.p5.p5.p5.p4.p5⟩
   cases af
   exact WP_skip fun a ha => zi <| X <| S1 ha <| Z <| qm q <| qi (qt_add q q) q <| qa q <| WL_nil fun a ha => ⟨q, aa, ab, ad, ae, ha.s, aM.q6.q6.q6.q6.q6.p5.p5.p5.p5.p5.p5⟩
  cases af
  exact WP_exit fun a ha => zo (⟨exit_ne, q, aa, ab, ad, ae, ha.s, aH.p5.p5.p5.p5.p5.p5⟩)
 obtain ⟨ce, cf, cg, ch, a3, ci⟩ := bh
 rintro _ a cj ⟨rfl, aN, aO, aP, aQ, ha, ak⟩
 cases h
 exact zn <| X <| S1 ha <| rR <| eA ak.p1 us31 uo31 il31 q <| qm q <| zl (cs' := [aN, aO, aP, iV a3, aQ]) ak q il31 q (T (ak.ctx.sliceOne hS2) (T (ak.ctx.sliceOne hS3) (T (ak.ctx.sliceOne hS4) (T q (T (ak.ctx.sliceOne hS5) q))))) q q q fun ck a4 => qa q <| B <| W fun a ha => have bD := R a4.p0; retct q ha q q (run_loadVar_bx (cs := [aN, aO, aP, iV a3, aQ]) us31 uo31 il31 bD) ⟨aN, aO, aP, aQ, q, a4.q0.q0.p3.p3.p3.p3⟩
theorem w_spec_l7List {w G vp0 p0 r} (h : spec_l7ListS p0 = some r) (hp0 : Has G tI vp0 p0) (H : Ctx w G) : Calls Tryz.prog 30 #[vp0] w fun e w' => e = .returned (strV r) ∧ Holds M0 w w' [] G := by
 refine F0 27 H Tryz.func30 q fun H => ?_
 refine rR <| qa q <| B <| C <| rR <| qm q <| qz H.ctx (hp0) u23 q <| qi (qt_eql q q) q <| B ?_
 refine Yh q h (fun h => ?_) (fun h => ?_)
 ·cases h
  exact rR <| qa q <| B <| W fun a ha => m (ret1 q ha q ⟨q, H⟩)
 refine y <| C <| zk <| qm q <| O h fun x1 ad h => qe H (hp0) ad u23 i3 q fun _ _ ah => eI u3 ah q <| O h fun x7 aj h => QC q q c31 (fun w' hb => w_spec_l1Number w' G x1 x7 aj (H.grow hb).ctx) (by rfl) <| qa q <| Qn H fun a ha w9 ak => X <| S1 ha <| C <| rR <| qa q <| B <| g <| O h fun aA al h => ?_
 refine fun aB am => zp (I := fun (ae, af) a w2 => (Fr a 27 [(0, vp0), (3, strV ae), (4, iV af)] ∧ Holds M0 w w2 [] G)) (O := fun q0 e a w2 => e = .exit 0 ∧ (Fr a 27 [(3, strV q0)] ∧ Holds M0 w w2 [] G)) al ?_ ?_ ?_
 ·exact ⟨am.s, ak⟩
 ·rintro ⟨ae, af⟩ _ a aC aa ⟨ha, ab⟩
  refine S1 ha <| C <| rR <| qm q <| qm q <| qz ab.ctx (hp0) u23 q <| qi (qt_lss q q) q <| B ?_
  refine Yh q aa (fun aa => ?_) (fun aa => ?_)
  ·refine y <| C <| g <| zk <| qm q <| O aa fun aD ao aa => qi (qt_sadd q q ao) q <| qm q <| qm q <| O aa fun ap ag aa => qe ab (hp0) ag u23 i3 q fun _ _ aq => eI u3 aq q <| O aa fun ar au aa => QC q q c31 (fun w' hb => w_spec_l1Number w' G ap ar au (ab.grow hb).ctx) (by rfl) <| O aa fun aH av aa => qi (qt_sadd q q av) q <| qa q <| Qn ab fun a ha aI aw => zi <| X <| S1 ha <| Z <| qm q <| qi (qt_add q q) q <| qa q <| WL_nil fun a ha => ?_
   cases aa
   exact ⟨q, ha.s, aw⟩
  cases aa
  exact WP_exit fun a ha => zo (⟨exit_ne, q, ha.s, ab⟩)
 rintro _ a aJ ⟨rfl, ha, ax⟩
 refine zn <| X <| S1 ha <| rR <| qm q <| qa q <| B <| W fun a ha => ?_
 obtain rfl := L h
 exact ret1 q ha q ⟨q, ax⟩
end Go.Proofs.YtpklpghbkhegnaaGreatDoor
