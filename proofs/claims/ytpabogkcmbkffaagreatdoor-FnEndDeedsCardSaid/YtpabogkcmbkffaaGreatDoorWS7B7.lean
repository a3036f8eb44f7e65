/- The walks: each Go function computes its shallow function. Printed by a program. -/
import Derived.Test.YtpabogkcmbkffaaGreatDoorWS7B6
set_option linter.unusedVariables false
set_option maxRecDepth 10000
namespace Go.Proofs.YtpabogkcmbkffaaGreatDoor
open Go Go.RowKit
theorem w_spec_HouseDo (w : World) (G : List Res) (A0 : Value) (B0 : LI) (C0 : Has G ty12 A0 B0) (A1 : Value) (B1 : List Int) (C1 : Has G tI A1 B1) (A2 : Value) (B2 : List Int) (C2 : Has G tI A2 B2) (B3 : Int) (A4 : Value) (B4 : LT) (C4 : Has G ty14 A4 B4) (p1_0 : Int) (p1_1 : Int) (p1_2 : Int) (p1_3 : Int) (r : (LI × (List Int) × (List Int) × Int × LT) × Bool) (h : spec_HouseDoS B0 B1 B2 B3 B4 p1_0 p1_1 p1_2 p1_3 = some r) (H : Ctx w G) : Calls Tryz.prog 8 #[.agg #[A0, A1, A2, iV B3, A4], .agg #[iV p1_0, iV p1_1, iV p1_2, iV p1_3]] w fun e w' => ∃ (v1 : Value) (v2 : Value) (v3 : Value) (v4 : Value), e = .returned (.tuple #[.agg #[v1, v2, v3, iV r.1.2.2.2.1, v4], .bool r.2]) ∧ Holds M0 w w' [.sl 55 ty12 v1 r.1.1, .sl 3 tI v2 r.1.2.1, .sl 3 tI v3 r.1.2.2.1, .sl 47 ty14 v4 r.1.2.2.2.2] G := by
 have H : Holds M0 w w [] G := zb H
 refine zg (args := [.agg #[A0, A1, A2, iV B3, A4], .agg #[iV p1_0, iV p1_1, iV p1_2, iV p1_3]]) (n := 137) Tryz.func8 q q q ?_
 unfold spec_HouseDoS at h
 refine C <| Z ?_
 refine WL_box (cs := [A0, A1, A2, iV B3, A4]) H q q q q (fun b1 w2 H3 => ?_)
 refine WL_box (cs := [iV p1_0, iV p1_1, iV p1_2, iV p1_3]) H3 q q q q (fun b5 w6 H7 => ?_)
 refine zq (cs := [nS, nS, nS, iV 0, nS]) H7 z27 q q q (fun b9 f6 bA => ?_)
 refine qA q q q <| B <| C <| C <| zk ?_
 have cX := R bA.p2
 refine zm (cs := [A0, A1, A2, iV B3, A4]) us27 uo27 il27 cX q q q ?_
 change XL _ _ _ _ _ ((8, .agg #[A0, A1, A2, iV B3, A4]) :: _) _
 obtain ⟨cY, cZ, h⟩ := D h
 refine QC q q c17 (fun w' hb => w_spec_HouseValid w' _ A0 B0 (C0.c.c.c) A1 B1 (C1.c.c.c) A2 B2 (C2.c.c.c) B3 A4 B4 (C4.c.c.c) cY cZ (bA.grow hb).ctx) (by rfl) <| A q (qt_not q) q q <| QL_nil fun a ha c0 c1 => ?_
 have bz := bA.grow c1
 refine X (S ?_ ha)
 refine Y q (fun bB => ?_) (fun bB => ?_)
 ·have h := if_t bB h
  refine rR <| A q (qt_build (args := []) (css := []) (cells := #[nS, nS, nS, iV 0, nS]) q trivial (by kernel_rfl)) q q ?_
  refine zl (cs' := [nS, nS, nS, iV 0, nS]) bz q il27 q q q q q (fun f7 cC => ?_)
  refine qA q q q <| B <| W fun a ha => ?_
  obtain rfl := L h
  have c2 := R cC.p0
  have c3 := cC.nS 55 ty12
  have c4 := c3.nS 3 tI
  have c5 := c4.nS 3 tI
  have c6 := c5.nS 47 ty14
  have da := c6.q4.q4.q4.p1.p2.p3
  exact m (retct q ha q q (run_loadVar_bx (cs := [nS, nS, nS, iV 0, nS]) us27 uo27 il27 c2) ⟨(nS), (nS), (nS), (nS), q, da⟩)
 have h := if_f bB h
 refine y <| C <| Z ?_
 have db := R bz.p2
 refine zm (cs := [A0, A1, A2, iV B3, A4]) us27 uo27 il27 db q q q ?_
 change XL _ _ _ _ _ ((12, .agg #[A0, A1, A2, iV B3, A4]) :: _) _
 obtain ⟨aa, dc, h⟩ := D h
 refine zd q q c33 (w_spec_l7Copy c0 _ A0 B0 (C0.c.c.c) A1 B1 (C1.c.c.c) A2 B2 (C2.c.c.c) B3 A4 B4 (C4.c.c.c) aa dc bz.ctx) (by rfl) ?_
 rintro _ f8 ⟨ad, ae, af, ag, rfl, dd⟩; refine ⟨_, q, ?_⟩
 have de := bz.cN4 [] dd
 refine zq (cs := [nS, nS, nS, iV 0, nS]) de z27 q q q (fun f9 ga a4 => ?_)
 refine zl (cs' := [ad, ae, af, iV aa.2.2.2.1, ag]) a4 q il27 q (T (a4.ctx.sliceOne hS1) (T (a4.ctx.sliceOne hS2) (T (a4.ctx.sliceOne hS3) (T q (T (a4.ctx.sliceOne hS4) q))))) q q q (fun a5 ab => ?_)
 refine rN <| qA q q q <| B <| C <| g <| rR <| qF uf29 fi29_0 nz3 q q q ?_
 have df := R ab.p6
 refine l u3 q df q q q q <| A q (qt_neq q q) q q <| qM q q q ?_
 refine zh 4 22 (.bool ((p1_0 != 3) && (p1_3 != 0))) ?_ (fun md hmd hk => ?_)
 rotate_left
 ·obtain ⟨Q, rfl⟩ := Md.seq_of hmd
  rcases btf (p1_0 != 3) with ap | ap
  ·skip
   refine qF uf29 fi29_3 nz3 (J q ap) q q ?_
   have dg := R ab.p6
   refine l u3 q dg q (J q ap) q q <| A (J q ap) (qt_neq q q) q q <| A q (ze q ap q) q q ?_
   exact hk _ (p (by rw [ap]; rfl) (cfn 3 q (u)))
  skip
  refine qS q ap q q <| qS q ap q q <| qS q ap q q <| A q (zf q ap q) q q ?_
  exact hk _ (p (by rw [ap]; rfl) (cfn 3 q (u)))
 refine qM q q q ?_
 refine zh 9 32 (.bool (((p1_0 != 3) && (p1_3 != 0)) || ((decide (p1_0 ≥ 4)) && (p1_2 != 0)))) ?_ (fun md hmd hk => ?_)
 rotate_left
 ·obtain ⟨Q, rfl⟩ := Md.seq_of hmd
  rcases btf ((p1_0 != 3) && (p1_3 != 0)) with ah | ah
  ·skip
   refine qS q ah q q <| qS q ah q q <| qS q ah q q <| qS q ah q q <| XL_skip q q q <| XL_skip q q q <| XL_skip q q q <| qS q ah q q <| A q (ze q ah q) q q ?_
   exact hk _ (p (by rw [ah]; rfl) (cfn 8 q (u)))
  skip
  refine qF uf29 fi29_0 nz3 (J q ah) q q ?_
  have dh := R ab.p6
  refine l u3 q dh q (J q ah) q q <| A (J q ah) (qt_geq q q) q q <| qM (J q ah) q q ?_
  refine zh 4 31 (.bool ((decide (p1_0 ≥ 4)) && (p1_2 != 0))) ?_ (fun md hmd hk => ?_)
  rotate_left
  ·obtain ⟨Q, rfl⟩ := Md.seq_of hmd
   rcases btf (decide (p1_0 ≥ 4)) with aq | aq
   ·skip
    refine qF uf29 fi29_2 nz3 (J q aq) q q ?_
    have di := R ab.p6
    refine l u3 q di q (J q aq) q q <| A (J q aq) (qt_neq q q) q q <| A (J q ah) (ze q aq q) q q ?_
    exact hk _ (p (by rw [aq]; rfl) (cfn 3 q (u)))
   skip
   refine qS q aq q q <| qS q aq q q <| qS q aq q q <| A (J q ah) (zf q aq q) q q ?_
   exact hk _ (p (by rw [aq]; rfl) (cfn 3 q (u)))
  refine A q (zf q ah q) q q ?_
  exact hk _ (p (by rw [ah]; rfl) (cfn 5 q (u)))
 refine qM q q q ?_
 refine zh 9 42 (.bool ((((p1_0 != 3) && (p1_3 != 0)) || ((decide (p1_0 ≥ 4)) && (p1_2 != 0))) || ((p1_0 == 4) && (p1_1 != 0)))) ?_ (fun md hmd hk => ?_)
 rotate_left
 ·obtain ⟨Q, rfl⟩ := Md.seq_of hmd
  rcases btf (((p1_0 != 3) && (p1_3 != 0)) || ((decide (p1_0 ≥ 4)) && (p1_2 != 0))) with ai | ai
  ·skip
   refine qS q ai q q <| qS q ai q q <| qS q ai q q <| qS q ai q q <| XL_skip q q q <| XL_skip q q q <| XL_skip q q q <| qS q ai q q <| A q (ze q ai q) q q ?_
   exact hk _ (p (by rw [ai]; rfl) (cfn 8 q (u)))
  skip
  refine qF uf29 fi29_0 nz3 (J q ai) q q ?_
  have dj := R ab.p6
  refine l u3 q dj q (J q ai) q q <| A (J q ai) (qt_eql q q) q q <| qM (J q ai) q q ?_
  refine zh 4 41 (.bool ((p1_0 == 4) && (p1_1 != 0))) ?_ (fun md hmd hk => ?_)
  rotate_left
  ·obtain ⟨Q, rfl⟩ := Md.seq_of hmd
   rcases btf (p1_0 == 4) with ar | ar
   ·skip
    refine qF uf29 fi29_1 nz3 (J q ar) q q ?_
    have dk := R ab.p6
    refine l u3 q dk q (J q ar) q q <| A (J q ar) (qt_neq q q) q q <| A (J q ai) (ze q ar q) q q ?_
    exact hk _ (p (by rw [ar]; rfl) (cfn 3 q (u)))
   skip
   refine qS q ar q q <| qS q ar q q <| qS q ar q q <| A (J q ai) (zf q ar q) q q ?_
   exact hk _ (p (by rw [ar]; rfl) (cfn 3 q (u)))
  refine A q (zf q ai q) q q ?_
  exact hk _ (p (by rw [ai]; rfl) (cfn 5 q (u)))
 refine qM q q q ?_
 refine zh 9 52 (.bool (((((p1_0 != 3) && (p1_3 != 0)) || ((decide (p1_0 ≥ 4)) && (p1_2 != 0))) || ((p1_0 == 4) && (p1_1 != 0))) || ((p1_0 == 2) && (p1_2 != 0)))) ?_ (fun md hmd hk => ?_)
 rotate_left
 ·obtain ⟨Q, rfl⟩ := Md.seq_of hmd
  rcases btf ((((p1_0 != 3) && (p1_3 != 0)) || ((decide (p1_0 ≥ 4)) && (p1_2 != 0))) || ((p1_0 == 4) && (p1_1 != 0))) with aj | aj
  ·skip
   refine qS q aj q q <| qS q aj q q <| qS q aj q q <| qS q aj q q <| XL_skip q q q <| XL_skip q q q <| XL_skip q q q <| qS q aj q q <| A q (ze q aj q) q q ?_
   exact hk _ (p (by rw [aj]; rfl) (cfn 8 q (u)))
  skip
  refine qF uf29 fi29_0 nz3 (J q aj) q q ?_
  have dl := R ab.p6
  refine l u3 q dl q (J q aj) q q <| A (J q aj) (qt_eql q q) q q <| qM (J q aj) q q ?_
  refine zh 4 51 (.bool ((p1_0 == 2) && (p1_2 != 0))) ?_ (fun md hmd hk => ?_)
  rotate_left
  ·obtain ⟨Q, rfl⟩ := Md.seq_of hmd
   rcases btf (p1_0 == 2) with au | au
   ·skip
    refine qF uf29 fi29_2 nz3 (J q au) q q ?_
    have dm := R ab.p6
    refine l u3 q dm q (J q au) q q <| A (J q au) (qt_neq q q) q q <| A (J q aj) (ze q au q) q q ?_
    exact hk _ (p (by rw [au]; rfl) (cfn 3 q (u)))
   skip
   refine qS q au q q <| qS q au q q <| qS q au q q <| A (J q aj) (zf q au q) q q ?_
   exact hk _ (p (by rw [au]; rfl) (cfn 3 q (u)))
  refine A q (zf q aj q) q q ?_
  exact hk _ (p (by rw [aj]; rfl) (cfn 5 q (u)))
 refine qA q q q <| B ?_
 refine Y q (fun bC => ?_) (fun bC => ?_)
 ·have h := if_t bC h
  refine C <| Z ?_
  have dn := R ab.p0
  refine zm (cs := [ad, ae, af, iV aa.2.2.2.1, ag]) us27 uo27 il27 dn q q q ?_
  change XL _ _ _ _ _ ((53, .agg #[ad, ae, af, iV aa.2.2.2.1, ag]) :: _) _
  have a6 := ab.p5
  refine zl (cs' := [ad, ae, af, iV aa.2.2.2.1, ag]) a6 q il27 q (T (a6.ctx.sliceOne hS2) (T (a6.ctx.sliceOne hS3) (T (a6.ctx.sliceOne hS4) (T q (T (a6.ctx.sliceOne hS5) q))))) q q q (fun gb cD => ?_)
  refine qA q q q <| B <| W fun a ha => ?_
  obtain rfl := L h
  have dq := R cD.p0
  have dr := cD.q0.q0.q4.q4.p3.p3.p3.p3
  exact zj (m (retct q ha q q (run_loadVar_bx (cs := [ad, ae, af, iV aa.2.2.2.1, ag]) us27 uo27 il27 dq) ⟨ad, ae, af, ag, q, dr⟩))
 have h := if_f bC h
 refine rR <| qF uf29 fi29_0 nz3 q q q ?_
 have ds := R ab.p6
 refine l u3 q ds q q q q <| A q (qt_eql q q) q q <| qA q q q <| B ?_
 refine Y q (fun bD => ?_) (fun bD => ?_)
 ·have h := if_t bD h
  refine Z ?_
  have dt := R ab.p0
  refine zm (cs := [ad, ae, af, iV aa.2.2.2.1, ag]) us27 uo27 il27 dt q q q ?_
  change XL _ _ _ _ _ ((59, .agg #[ad, ae, af, iV aa.2.2.2.1, ag]) :: _) _
  refine qF uf29 fi29_1 nz3 q q q ?_
  have du := R ab.p6
  refine l u3 q du q q q q <| qF uf29 fi29_2 nz3 q q q ?_
  have dv := R ab.p6
  refine l u3 q dv q q q q ?_
  have dw := ab.p4
  have dx := dw.p4
  have dy := dx.p4
  have cE := dy.p4
  obtain ⟨ak, dz, h⟩ := D h
  refine zd q q c34 (w_spec_l7Buy a5 _ ad aa.1 ae aa.2.1 af aa.2.2.1 aa.2.2.2.1 ag aa.2.2.2.2 p1_1 p1_2 ak dz cE.ctx) (by rfl) ?_
  rintro _ gc ⟨aC, aD, aE, aF, rfl, dA⟩; refine ⟨_, q, ?_⟩
  have dB := cE.cN4 [_, _, _, _] dA
  refine qM q q q <| A q (zv q q) q q <| A q (zv q q) q q ?_
  have a7 := dB.p4
  refine zl (cs' := [aC, aD, aE, iV ak.1.2.2.2.1, aF]) a7 q il27 q (T (a7.ctx.sliceOne hS1) (T (a7.ctx.sliceOne hS2) (T (a7.ctx.sliceOne hS3) (T q (T (a7.ctx.sliceOne hS4) q))))) q q q (fun gd bE => ?_)
  refine qA q q q <| WL_nil fun a ha => ?_
  refine zi (X (S ?_ ha))
  refine C <| C <| zk <| qM q q q <| A q (qt_not q) q q <| qM q q q ?_
  obtain ⟨dC, aX, h⟩ := D h
  refine zh 4 133 (.bool dC) ?_ (fun md hmd hk => ?_)
  rotate_left
  ·obtain ⟨K, rfl⟩ := zr hmd
   rcases btf (!ak.2) with av | av
   ·skip
    refine qS q av q q <| qS q av q q <| qS q av q q <| A q (ze q av q) q q ?_
    exact hk _ (p (vb (if_t av aX)) (cfn 3 q (u)))
   skip
   have aX := if_f av aX
   have dD := R bE.p0
   refine zm (cs := [aC, aD, aE, iV ak.1.2.2.2.1, aF]) us27 uo27 il27 dD (J q av) q q ?_
   change XL _ _ _ _ _ ((130, .agg #[aC, aD, aE, iV ak.1.2.2.2.1, aF]) :: _) _
   obtain ⟨dE, dF, aX⟩ := D aX
   refine QC (J q av) q c17 (fun w' hb => w_spec_HouseValid w' _ aC ak.1.1 hS1 aD ak.1.2.1 hS2 aE ak.1.2.2.1 hS3 ak.1.2.2.2.1 aF ak.1.2.2.2.2 hS4 dE dF (bE.grow hb).ctx) (by rfl) <| A (J q av) (qt_not q) q q <| A q (zf q av q) q q ?_
   exact hk _ (p (vb aX) (cfn 3 q (u)))
  refine QL_nil fun a ha dG dH => ?_
  have a8 := bE.grow dH
  refine X (S ?_ ha)
  refine Y q (fun bF => ?_) (fun bF => ?_)
  ·have h := if_t bF h
   refine C <| Z ?_
   have dI := R a8.p7
   refine zm (cs := [A0, A1, A2, iV B3, A4]) us27 uo27 il27 dI q q q ?_
   change XL _ _ _ _ _ ((134, .agg #[A0, A1, A2, iV B3, A4]) :: _) _
   obtain ⟨bG, dJ, h⟩ := D h
   refine zd q q c33 (w_spec_l7Copy dG _ A0 B0 (C0.c.c.c.c.c.c.c.c) A1 B1 (C1.c.c.c.c.c.c.c.c) A2 B2 (C2.c.c.c.c.c.c.c.c) B3 A4 B4 (C4.c.c.c.c.c.c.c.c) bG dJ a8.ctx) (by rfl) ?_
   rintro _ ge ⟨bH, bI, bJ, bK, rfl, dK⟩; refine ⟨_, q, ?_⟩
   have dL := a8.cN4 [] dK
   have a9 := dL.p9
   refine zl (cs' := [bH, bI, bJ, iV bG.2.2.2.1, bK]) a9 q il27 q (T (a9.ctx.sliceOne hS1) (T (a9.ctx.sliceOne hS2) (T (a9.ctx.sliceOne hS3) (T q (T (a9.ctx.sliceOne hS4) q))))) q q q (fun gf cF => ?_)
   refine qA q q q <| B <| W fun a ha => ?_
   obtain rfl := L h
   have dM := R cF.p0
   have dN := cF.q0.q4.q4.q4.q4.q4.q4.q4.p3.p3.p3.p3
   exact m (retct q ha q q (run_loadVar_bx (cs := [bH, bI, bJ, iV bG.2.2.2.1, bK]) us27 uo27 il27 dM) ⟨bH, bI, bJ, bK, q, dN⟩)
  have h := if_f bF h
  refine y <| C <| Z ?_
  have dO := R a8.p0
  refine zm (cs := [aC, aD, aE, iV ak.1.2.2.2.1, aF]) us27 uo27 il27 dO q q q ?_
  change XL _ _ _ _ _ ((136, .agg #[aC, aD, aE, iV ak.1.2.2.2.1, aF]) :: _) _
  have ba := a8.p5
  refine zl (cs' := [aC, aD, aE, iV ak.1.2.2.2.1, aF]) ba q il27 q (T (ba.ctx.sliceOne hS2) (T (ba.ctx.sliceOne hS3) (T (ba.ctx.sliceOne hS4) (T q (T (ba.ctx.sliceOne hS5) q))))) q q q (fun gg cG => ?_)
  refine qA q q q <| B <| W fun a ha => ?_
  obtain rfl := L h
  have dP := R cG.p0
  have dQ := cG.q0.q0.q4.q4.p3.p3.p3.p3
  exact retct q ha q q (run_loadVar_bx (cs := [aC, aD, aE, iV ak.1.2.2.2.1, aF]) us27 uo27 il27 dP) ⟨aC, aD, aE, aF, q, dQ⟩
 have h := if_f bD h
 refine rR <| qF uf29 fi29_0 nz3 q q q ?_
 have dR := R ab.p6
 refine l u3 q dR q q q q <| A q (qt_eql q q) q q <| qA q q q <| B ?_
 refine Y q (fun bL => ?_) (fun bL => ?_)
 ·have h := if_t bL h
  refine Z ?_
  have dS := R ab.p0
  refine zm (cs := [ad, ae, af, iV aa.2.2.2.1, ag]) us27 uo27 il27 dS q q q ?_
  change XL _ _ _ _ _ ((72, .agg #[ad, ae, af, iV aa.2.2.2.1, ag]) :: _) _
  refine qF uf29 fi29_1 nz3 q q q ?_
  have dT := R ab.p6
  refine l u3 q dT q q q q <| qF uf29 fi29_2 nz3 q q q ?_
  have dU := R ab.p6
  refine l u3 q dU q q q q ?_
  have dV := ab.p4
  have dW := dV.p4
  have dX := dW.p4
  have cH := dX.p4
  obtain ⟨al, dY, h⟩ := D h
  refine zd q q c35 (w_spec_l7Make a5 _ ad aa.1 ae aa.2.1 af aa.2.2.1 aa.2.2.2.1 ag aa.2.2.2.2 p1_1 p1_2 al dY cH.ctx) (by rfl) ?_
  rintro _ gh ⟨aG, aH, aI, aJ, rfl, dZ⟩; refine ⟨_, q, ?_⟩
  have d0 := cH.cN4 [_, _, _, _] dZ
  refine qM q q q <| A q (zv q q) q q <| A q (zv q q) q q ?_
  have bb := d0.p4
  refine zl (cs' := [aG, aH, aI, iV al.1.2.2.2.1, aJ]) bb q il27 q (T (bb.ctx.sliceOne hS1) (T (bb.ctx.sliceOne hS2) (T (bb.ctx.sliceOne hS3) (T q (T (bb.ctx.sliceOne hS4) q))))) q q q (fun gi bM => ?_)
  refine qA q q q <| WL_nil fun a ha => ?_
  refine zi (X (S ?_ ha))
  refine C <| C <| zk <| qM q q q <| A q (qt_not q) q q <| qM q q q ?_
  obtain ⟨d1, aY, h⟩ := D h
  refine zh 4 133 (.bool d1) ?_ (fun md hmd hk => ?_)
  rotate_left
  ·obtain ⟨K, rfl⟩ := zr hmd
   rcases btf (!al.2) with aw | aw
   ·skip
    refine qS q aw q q <| qS q aw q q <| qS q aw q q <| A q (ze q aw q) q q ?_
    exact hk _ (p (vb (if_t aw aY)) (cfn 3 q (u)))
   skip
   have aY := if_f aw aY
   have d2 := R bM.p0
   refine zm (cs := [aG, aH, aI, iV al.1.2.2.2.1, aJ]) us27 uo27 il27 d2 (J q aw) q q ?_
   change XL _ _ _ _ _ ((130, .agg #[aG, aH, aI, iV al.1.2.2.2.1, aJ]) :: _) _
   obtain ⟨d3, d4, aY⟩ := D aY
   refine QC (J q aw) q c17 (fun w' hb => w_spec_HouseValid w' _ aG al.1.1 hS1 aH al.1.2.1 hS2 aI al.1.2.2.1 hS3 al.1.2.2.2.1 aJ al.1.2.2.2.2 hS4 d3 d4 (bM.grow hb).ctx) (by rfl) <| A (J q aw) (qt_not q) q q <| A q (zf q aw q) q q ?_
   exact hk _ (p (vb aY) (cfn 3 q (u)))
  refine QL_nil fun a ha d5 d6 => ?_
  have bc := bM.grow d6
  refine X (S ?_ ha)
  refine Y q (fun bN => ?_) (fun bN => ?_)
  ·have h := if_t bN h
   refine C <| Z ?_
   have d7 := R bc.p7
   refine zm (cs := [A0, A1, A2, iV B3, A4]) us27 uo27 il27 d7 q q q ?_
   change XL _ _ _ _ _ ((134, .agg #[A0, A1, A2, iV B3, A4]) :: _) _
   obtain ⟨bO, d8, h⟩ := D h
   refine zd q q c33 (w_spec_l7Copy d5 _ A0 B0 (C0.c.c.c.c.c.c.c.c) A1 B1 (C1.c.c.c.c.c.c.c.c) A2 B2 (C2.c.c.c.c.c.c.c.c) B3 A4 B4 (C4.c.c.c.c.c.c.c.c) bO d8 bc.ctx) (by rfl) ?_
   rintro _ gj ⟨bP, bQ, bR, bS, rfl, d9⟩; refine ⟨_, q, ?_⟩
   have ea := bc.cN4 [] d9
   have bd := ea.p9
   refine zl (cs' := [bP, bQ, bR, iV bO.2.2.2.1, bS]) bd q il27 q (T (bd.ctx.sliceOne hS1) (T (bd.ctx.sliceOne hS2) (T (bd.ctx.sliceOne hS3) (T q (T (bd.ctx.sliceOne hS4) q))))) q q q (fun gk cI => ?_)
   refine qA q q q <| B <| W fun a ha => ?_
   obtain rfl := L h
   have eb := R cI.p0
   have ec := cI.q0.q4.q4.q4.q4.q4.q4.q4.p3.p3.p3.p3
   exact m (retct q ha q q (run_loadVar_bx (cs := [bP, bQ, bR, iV bO.2.2.2.1, bS]) us27 uo27 il27 eb) ⟨bP, bQ, bR, bS, q, ec⟩)
  have h := if_f bN h
  refine y <| C <| Z ?_
  have ed := R bc.p0
  refine zm (cs := [aG, aH, aI, iV al.1.2.2.2.1, aJ]) us27 uo27 il27 ed q q q ?_
  change XL _ _ _ _ _ ((136, .agg #[aG, aH, aI, iV al.1.2.2.2.1, aJ]) :: _) _
  have be := bc.p5
  refine zl (cs' := [aG, aH, aI, iV al.1.2.2.2.1, aJ]) be q il27 q (T (be.ctx.sliceOne hS2) (T (be.ctx.sliceOne hS3) (T (be.ctx.sliceOne hS4) (T q (T (be.ctx.sliceOne hS5) q))))) q q q (fun gl cJ => ?_)
  refine qA q q q <| B <| W fun a ha => ?_
  obtain rfl := L h
  have ee := R cJ.p0
  have ef := cJ.q0.q0.q4.q4.p3.p3.p3.p3
  exact retct q ha q q (run_loadVar_bx (cs := [aG, aH, aI, iV al.1.2.2.2.1, aJ]) us27 uo27 il27 ee) ⟨aG, aH, aI, aJ, q, ef⟩
 have h := if_f bL h
 refine rR <| qF uf29 fi29_0 nz3 q q q ?_
 have eg := R ab.p6
 refine l u3 q eg q q q q <| A q (qt_eql q q) q q <| qA q q q <| B ?_
 refine Y q (fun bT => ?_) (fun bT => ?_)
 ·have h := if_t bT h
  refine rR <| qF uf27 fi27_4 nz25 q q q ?_
  have eh := R ab.p0
  refine l u25 q eh q q q q <| qF uf29 fi29_1 nz3 q q q ?_
  have ei := R ab.p6
  refine l u3 q ei q q q q <| A q (qt_build (args := [(0, .tmp 87)]) (css := [#[iV p1_1]]) (cells := #[iV p1_1, nS, nS]) q ⟨q, trivial⟩ (by kernel_rfl)) q q ?_
  refine zs (t := ty14) (args := [.tmp 88]) (xs := ([(p1_1, [], [])] : LT)) ab (BltL.cons (Blt.pair (Blt.int) (Blt.pair (Blt.slice (HasRo.nil)) (Blt.slice (HasRo.nil)))) q (BltL.nil)) u25 j47 q q q q q q (fun gm gn ej => ?_)
  have ek := ej.p5
  obtain ⟨el, em, h⟩ := D h
  refine zw ek hS1 em u25 j47 q q q q q q (fun aW go en => ?_)
  refine qF uf27 fi27_4 nz25 q q q ?_
  have bU := en.p2
  refine WL_store_bx bU q il25 (bU.ctx.sliceCells hS1) (bU.ctx.sliceOne hS1) q q q (fun gp bV => ?_)
  refine B <| Z <| qA q q q <| WL_nil fun a ha => ?_
  refine zi (X (S ?_ ha))
  refine C <| C <| zk <| qM q q q <| A q (qt_not q) q q <| qM q q q ?_
  obtain ⟨eo, aZ, h⟩ := D h
  refine zh 4 133 (.bool eo) ?_ (fun md hmd hk => ?_)
  rotate_left
  ·obtain ⟨K, rfl⟩ := zr hmd
   rcases btf (!true) with ax | ax
   ·skip
    refine qS q ax q q <| qS q ax q q <| qS q ax q q <| A q (ze q ax q) q q ?_
    exact hk _ (p (vb (if_t ax aZ)) (cfn 3 q (u)))
   skip
   have aZ := if_f ax aZ
   have ep := R bV.p0
   refine zm (cs := [ad, ae, af, iV aa.2.2.2.1, aW]) us27 uo27 il27 ep (J q ax) q q ?_
   change XL _ _ _ _ _ ((130, .agg #[ad, ae, af, iV aa.2.2.2.1, aW]) :: _) _
   obtain ⟨er, es, aZ⟩ := D aZ
   refine QC (J q ax) q c17 (fun w' hb => w_spec_HouseValid w' _ ad aa.1 hS3 ae aa.2.1 hS4 af aa.2.2.1 hS5 aa.2.2.2.1 aW el hS1 er es (bV.grow hb).ctx) (by rfl) <| A (J q ax) (qt_not q) q q <| A q (zf q ax q) q q ?_
   exact hk _ (p (vb aZ) (cfn 3 q (u)))
  refine QL_nil fun a ha et eu => ?_
  have bf := bV.grow eu
  refine X (S ?_ ha)
  refine Y q (fun bW => ?_) (fun bW => ?_)
  ·have h := if_t bW h
   refine C <| Z ?_
   have ew := R bf.p8
   refine zm (cs := [A0, A1, A2, iV B3, A4]) us27 uo27 il27 ew q q q ?_
   change XL _ _ _ _ _ ((134, .agg #[A0, A1, A2, iV B3, A4]) :: _) _
   obtain ⟨bX, ey, h⟩ := D h
   refine zd q q c33 (w_spec_l7Copy et _ A0 B0 (C0.c.c.c.c.c.c.c.c.c) A1 B1 (C1.c.c.c.c.c.c.c.c.c) A2 B2 (C2.c.c.c.c.c.c.c.c.c) B3 A4 B4 (C4.c.c.c.c.c.c.c.c.c) bX ey bf.ctx) (by rfl) ?_
   rintro _ gq ⟨bY, bZ, b0, b4, rfl, ez⟩; refine ⟨_, q, ?_⟩
   have eA := bf.cN4 [] ez
   have bg := eA.p10
   refine zl (cs' := [bY, bZ, b0, iV bX.2.2.2.1, b4]) bg q il27 q (T (bg.ctx.sliceOne hS1) (T (bg.ctx.sliceOne hS2) (T (bg.ctx.sliceOne hS3) (T q (T (bg.ctx.sliceOne hS4) q))))) q q q (fun gr cK => ?_)
   refine qA q q q <| B <| W fun a ha => ?_
   obtain rfl := L h
   have eB := R cK.p0
   have eC := cK.q0.q4.q4.q4.q4.q4.q4.q4.q4.p3.p3.p3.p3
   exact m (retct q ha q q (run_loadVar_bx (cs := [bY, bZ, b0, iV bX.2.2.2.1, b4]) us27 uo27 il27 eB) ⟨bY, bZ, b0, b4, q, eC⟩)
  have h := if_f bW h
  refine y <| C <| Z ?_
  have eD := R bf.p0
  refine zm (cs := [ad, ae, af, iV aa.2.2.2.1, aW]) us27 uo27 il27 eD q q q ?_
  change XL _ _ _ _ _ ((136, .agg #[ad, ae, af, iV aa.2.2.2.1, aW]) :: _) _
  have bh := bf.p6
  refine zl (cs' := [ad, ae, af, iV aa.2.2.2.1, aW]) bh q il27 q (T (bh.ctx.sliceOne hS4) (T (bh.ctx.sliceOne hS5) (T (bh.ctx.sliceOne hS6) (T q (T (bh.ctx.sliceOne hS2) q))))) q q q (fun gs cL => ?_)
  refine qA q q q <| B <| W fun a ha => ?_
  obtain rfl := L h
  have eE := R cL.p0
  have eF := cL.q0.q0.q1.q4.q4.p3.p3.p3
  exact retct q ha q q (run_loadVar_bx (cs := [ad, ae, af, iV aa.2.2.2.1, aW]) us27 uo27 il27 eE) ⟨ad, ae, af, aW, q, eF⟩
 have h := if_f bT h
 refine rR <| qF uf29 fi29_0 nz3 q q q ?_
 have eG := R ab.p6
 refine l u3 q eG q q q q <| A q (qt_eql q q) q q <| qA q q q <| B ?_
 refine Y q (fun b6 => ?_) (fun b6 => ?_)
 ·have h := if_t b6 h
  refine Z ?_
  have eH := R ab.p0
  refine zm (cs := [ad, ae, af, iV aa.2.2.2.1, ag]) us27 uo27 il27 eH q q q ?_
  change XL _ _ _ _ _ ((97, .agg #[ad, ae, af, iV aa.2.2.2.1, ag]) :: _) _
  refine qF uf29 fi29_1 nz3 q q q ?_
  have eI := R ab.p6
  refine l u3 q eI q q q q <| qF uf29 fi29_2 nz3 q q q ?_
  have eJ := R ab.p6
  refine l u3 q eJ q q q q <| qF uf29 fi29_3 nz3 q q q ?_
  have eK := R ab.p6
  refine l u3 q eK q q q q ?_
  have eL := ab.p4
  have eM := eL.p4
  have eN := eM.p4
  have cM := eN.p4
  obtain ⟨am, eO, h⟩ := D h
  refine zd q q c36 (w_spec_l7Order a5 _ ad aa.1 ae aa.2.1 af aa.2.2.1 aa.2.2.2.1 ag aa.2.2.2.2 p1_1 p1_2 p1_3 am eO cM.ctx) (by rfl) ?_
  rintro _ gt ⟨aK, aL, aM, aN, rfl, eP⟩; refine ⟨_, q, ?_⟩
  have eQ := cM.cN4 [_, _, _, _] eP
  refine qM q q q <| A q (zv q q) q q <| A q (zv q q) q q ?_
  have bi := eQ.p4
  refine zl (cs' := [aK, aL, aM, iV am.1.2.2.2.1, aN]) bi q il27 q (T (bi.ctx.sliceOne hS1) (T (bi.ctx.sliceOne hS2) (T (bi.ctx.sliceOne hS3) (T q (T (bi.ctx.sliceOne hS4) q))))) q q q (fun gu b7 => ?_)
  refine qA q q q <| WL_nil fun a ha => ?_
  refine zi (X (S ?_ ha))
  refine C <| C <| zk <| qM q q q <| A q (qt_not q) q q <| qM q q q ?_
  obtain ⟨eR, a0, h⟩ := D h
  refine zh 4 133 (.bool eR) ?_ (fun md hmd hk => ?_)
  rotate_left
  ·obtain ⟨K, rfl⟩ := zr hmd
   rcases btf (!am.2) with ay | ay
   ·skip
    refine qS q ay q q <| qS q ay q q <| qS q ay q q <| A q (ze q ay q) q q ?_
    exact hk _ (p (vb (if_t ay a0)) (cfn 3 q (u)))
   skip
   have a0 := if_f ay a0
   have eS := R b7.p0
   refine zm (cs := [aK, aL, aM, iV am.1.2.2.2.1, aN]) us27 uo27 il27 eS (J q ay) q q ?_
   change XL _ _ _ _ _ ((130, .agg #[aK, aL, aM, iV am.1.2.2.2.1, aN]) :: _) _
   obtain ⟨eT, eU, a0⟩ := D a0
   refine QC (J q ay) q c17 (fun w' hb => w_spec_HouseValid w' _ aK am.1.1 hS1 aL am.1.2.1 hS2 aM am.1.2.2.1 hS3 am.1.2.2.2.1 aN am.1.2.2.2.2 hS4 eT eU (b7.grow hb).ctx) (by rfl) <| A (J q ay) (qt_not q) q q <| A q (zf q ay q) q q ?_
   exact hk _ (p (vb a0) (cfn 3 q (u)))
  refine QL_nil fun a ha eV eW => ?_
  have bj := b7.grow eW
  refine X (S ?_ ha)
  refine Y q (fun b8 => ?_) (fun b8 => ?_)
  ·have h := if_t b8 h
   refine C <| Z ?_
   have eX := R bj.p7
   refine zm (cs := [A0, A1, A2, iV B3, A4]) us27 uo27 il27 eX q q q ?_
   change XL _ _ _ _ _ ((134, .agg #[A0, A1, A2, iV B3, A4]) :: _) _
   obtain ⟨ca, eY, h⟩ := D h
   refine zd q q c33 (w_spec_l7Copy eV _ A0 B0 (C0.c.c.c.c.c.c.c.c) A1 B1 (C1.c.c.c.c.c.c.c.c) A2 B2 (C2.c.c.c.c.c.c.c.c) B3 A4 B4 (C4.c.c.c.c.c.c.c.c) ca eY bj.ctx) (by rfl) ?_
   rintro _ gv ⟨cb, cc, cd, ce, rfl, eZ⟩; refine ⟨_, q, ?_⟩
   have e0 := bj.cN4 [] eZ
   have bk := e0.p9
   refine zl (cs' := [cb, cc, cd, iV ca.2.2.2.1, ce]) bk q il27 q (T (bk.ctx.sliceOne hS1) (T (bk.ctx.sliceOne hS2) (T (bk.ctx.sliceOne hS3) (T q (T (bk.ctx.sliceOne hS4) q))))) q q q (fun gw cN => ?_)
   refine qA q q q <| B <| W fun a ha => ?_
   obtain rfl := L h
   have e1 := R cN.p0
   have e2 := cN.q0.q4.q4.q4.q4.q4.q4.q4.p3.p3.p3.p3
   exact m (retct q ha q q (run_loadVar_bx (cs := [cb, cc, cd, iV ca.2.2.2.1, ce]) us27 uo27 il27 e1) ⟨cb, cc, cd, ce, q, e2⟩)
  have h := if_f b8 h
  refine y <| C <| Z ?_
  have e3 := R bj.p0
  refine zm (cs := [aK, aL, aM, iV am.1.2.2.2.1, aN]) us27 uo27 il27 e3 q q q ?_
  change XL _ _ _ _ _ ((136, .agg #[aK, aL, aM, iV am.1.2.2.2.1, aN]) :: _) _
  have bl := bj.p5
  refine zl (cs' := [aK, aL, aM, iV am.1.2.2.2.1, aN]) bl q il27 q (T (bl.ctx.sliceOne hS2) (T (bl.ctx.sliceOne hS3) (T (bl.ctx.sliceOne hS4) (T q (T (bl.ctx.sliceOne hS5) q))))) q q q (fun gx cO => ?_)
  refine qA q q q <| B <| W fun a ha => ?_
  obtain rfl := L h
  have e4 := R cO.p0
  have e5 := cO.q0.q0.q4.q4.p3.p3.p3.p3
  exact retct q ha q q (run_loadVar_bx (cs := [aK, aL, aM, iV am.1.2.2.2.1, aN]) us27 uo27 il27 e4) ⟨aK, aL, aM, aN, q, e5⟩
 have h := if_f b6 h
 refine rR <| qF uf29 fi29_0 nz3 q q q ?_
 have e6 := R ab.p6
 refine l u3 q e6 q q q q <| A q (qt_eql q q) q q <| qA q q q <| B ?_
 refine Y q (fun cf => ?_) (fun cf => ?_)
 ·have h := if_t cf h
  refine Z ?_
  have e7 := R ab.p0
  refine zm (cs := [ad, ae, af, iV aa.2.2.2.1, ag]) us27 uo27 il27 e7 q q q ?_
  change XL _ _ _ _ _ ((112, .agg #[ad, ae, af, iV aa.2.2.2.1, ag]) :: _) _
  have e8 := ab.p4
  have e9 := e8.p4
  have fa := e9.p4
  have cP := fa.p4
  obtain ⟨an, fb, h⟩ := D h
  refine zd q q c37 (w_spec_l7Work a5 _ ad aa.1 ae aa.2.1 af aa.2.2.1 aa.2.2.2.1 ag aa.2.2.2.2 an fb cP.ctx) (by rfl) ?_
  rintro _ gy ⟨aO, aP, aQ, aR, rfl, fc⟩; refine ⟨_, q, ?_⟩
  have fd := cP.cN4 [_, _, _, _] fc
  refine qM q q q <| A q (zv q q) q q <| A q (zv q q) q q ?_
  have bm := fd.p4
  refine zl (cs' := [aO, aP, aQ, iV an.1.2.2.2.1, aR]) bm q il27 q (T (bm.ctx.sliceOne hS1) (T (bm.ctx.sliceOne hS2) (T (bm.ctx.sliceOne hS3) (T q (T (bm.ctx.sliceOne hS4) q))))) q q q (fun gz cg => ?_)
  refine qA q q q <| WL_nil fun a ha => ?_
  refine zi (X (S ?_ ha))
  refine C <| C <| zk <| qM q q q <| A q (qt_not q) q q <| qM q q q ?_
  obtain ⟨fe, a1, h⟩ := D h
  refine zh 4 133 (.bool fe) ?_ (fun md hmd hk => ?_)
  rotate_left
  ·obtain ⟨K, rfl⟩ := zr hmd
   rcases btf (!an.2) with az | az
   ·skip
    refine qS q az q q <| qS q az q q <| qS q az q q <| A q (ze q az q) q q ?_
    exact hk _ (p (vb (if_t az a1)) (cfn 3 q (u)))
   skip
   have a1 := if_f az a1
   have ff := R cg.p0
   refine zm (cs := [aO, aP, aQ, iV an.1.2.2.2.1, aR]) us27 uo27 il27 ff (J q az) q q ?_
   change XL _ _ _ _ _ ((130, .agg #[aO, aP, aQ, iV an.1.2.2.2.1, aR]) :: _) _
   obtain ⟨fg, fh, a1⟩ := D a1
   refine QC (J q az) q c17 (fun w' hb => w_spec_HouseValid w' _ aO an.1.1 hS1 aP an.1.2.1 hS2 aQ an.1.2.2.1 hS3 an.1.2.2.2.1 aR an.1.2.2.2.2 hS4 fg fh (cg.grow hb).ctx) (by rfl) <| A (J q az) (qt_not q) q q <| A q (zf q az q) q q ?_
   exact hk _ (p (vb a1) (cfn 3 q (u)))
  refine QL_nil fun a ha fi fj => ?_
  have bn := cg.grow fj
  refine X (S ?_ ha)
  refine Y q (fun ch => ?_) (fun ch => ?_)
  ·have h := if_t ch h
   refine C <| Z ?_
   have fk := R bn.p7
   refine zm (cs := [A0, A1, A2, iV B3, A4]) us27 uo27 il27 fk q q q ?_
   change XL _ _ _ _ _ ((134, .agg #[A0, A1, A2, iV B3, A4]) :: _) _
   obtain ⟨ci, fl, h⟩ := D h
   refine zd q q c33 (w_spec_l7Copy fi _ A0 B0 (C0.c.c.c.c.c.c.c.c) A1 B1 (C1.c.c.c.c.c.c.c.c) A2 B2 (C2.c.c.c.c.c.c.c.c) B3 A4 B4 (C4.c.c.c.c.c.c.c.c) ci fl bn.ctx) (by rfl) ?_
   rintro _ gA ⟨cj, ck, cl, cm, rfl, fm⟩; refine ⟨_, q, ?_⟩
   have fn := bn.cN4 [] fm
   have bo := fn.p9
   refine zl (cs' := [cj, ck, cl, iV ci.2.2.2.1, cm]) bo q il27 q (T (bo.ctx.sliceOne hS1) (T (bo.ctx.sliceOne hS2) (T (bo.ctx.sliceOne hS3) (T q (T (bo.ctx.sliceOne hS4) q))))) q q q (fun gB cQ => ?_)
   refine qA q q q <| B <| W fun a ha => ?_
   obtain rfl := L h
   have fo := R cQ.p0
   have fp := cQ.q0.q4.q4.q4.q4.q4.q4.q4.p3.p3.p3.p3
   exact m (retct q ha q q (run_loadVar_bx (cs := [cj, ck, cl, iV ci.2.2.2.1, cm]) us27 uo27 il27 fo) ⟨cj, ck, cl, cm, q, fp⟩)
  have h := if_f ch h
  refine y <| C <| Z ?_
  have fq := R bn.p0
  refine zm (cs := [aO, aP, aQ, iV an.1.2.2.2.1, aR]) us27 uo27 il27 fq q q q ?_
  change XL _ _ _ _ _ ((136, .agg #[aO, aP, aQ, iV an.1.2.2.2.1, aR]) :: _) _
  have bp := bn.p5
  refine zl (cs' := [aO, aP, aQ, iV an.1.2.2.2.1, aR]) bp q il27 q (T (bp.ctx.sliceOne hS2) (T (bp.ctx.sliceOne hS3) (T (bp.ctx.sliceOne hS4) (T q (T (bp.ctx.sliceOne hS5) q))))) q q q (fun gC cR => ?_)
  refine qA q q q <| B <| W fun a ha => ?_
  obtain rfl := L h
  have fr := R cR.p0
  have fs := cR.q0.q0.q4.q4.p3.p3.p3.p3
  exact retct q ha q q (run_loadVar_bx (cs := [aO, aP, aQ, iV an.1.2.2.2.1, aR]) us27 uo27 il27 fr) ⟨aO, aP, aQ, aR, q, fs⟩
 have h := if_f cf h
 refine rR <| qF uf29 fi29_0 nz3 q q q ?_
 have ft := R ab.p6
 refine l u3 q ft q q q q <| A q (qt_eql q q) q q <| qA q q q <| B ?_
 refine Y q (fun cn => ?_) (fun cn => ?_)
 ·have h := if_t cn h
  refine Z ?_
  have fu := R ab.p0
  refine zm (cs := [ad, ae, af, iV aa.2.2.2.1, ag]) us27 uo27 il27 fu q q q ?_
  change XL _ _ _ _ _ ((121, .agg #[ad, ae, af, iV aa.2.2.2.1, ag]) :: _) _
  refine qF uf29 fi29_1 nz3 q q q ?_
  have fv := R ab.p6
  refine l u3 q fv q q q q ?_
  have fw := ab.p4
  have fx := fw.p4
  have fy := fx.p4
  have cS := fy.p4
  obtain ⟨ao, fz, h⟩ := D h
  refine zd q q c38 (w_spec_l7Close a5 _ ad aa.1 ae aa.2.1 af aa.2.2.1 aa.2.2.2.1 ag aa.2.2.2.2 p1_1 ao fz cS.ctx) (by rfl) ?_
  rintro _ gD ⟨aS, aT, aU, aV, rfl, fA⟩; refine ⟨_, q, ?_⟩
  have fB := cS.cN4 [_, _, _, _] fA
  refine qM q q q <| A q (zv q q) q q <| A q (zv q q) q q ?_
  have bq := fB.p4
  refine zl (cs' := [aS, aT, aU, iV ao.1.2.2.2.1, aV]) bq q il27 q (T (bq.ctx.sliceOne hS1) (T (bq.ctx.sliceOne hS2) (T (bq.ctx.sliceOne hS3) (T q (T (bq.ctx.sliceOne hS4) q))))) q q q (fun gE co => ?_)
  refine qA q q q <| WL_nil fun a ha => ?_
  refine zi (X (S ?_ ha))
  refine C <| C <| zk <| qM q q q <| A q (qt_not q) q q <| qM q q q ?_
  obtain ⟨fC, a2, h⟩ := D h
  refine zh 4 133 (.bool fC) ?_ (fun md hmd hk => ?_)
  rotate_left
  ·obtain ⟨K, rfl⟩ := zr hmd
   rcases btf (!ao.2) with aA | aA
   ·skip
    refine qS q aA q q <| qS q aA q q <| qS q aA q q <| A q (ze q aA q) q q ?_
    exact hk _ (p (vb (if_t aA a2)) (cfn 3 q (u)))
   skip
   have a2 := if_f aA a2
   have fD := R co.p0
   refine zm (cs := [aS, aT, aU, iV ao.1.2.2.2.1, aV]) us27 uo27 il27 fD (J q aA) q q ?_
   change XL _ _ _ _ _ ((130, .agg #[aS, aT, aU, iV ao.1.2.2.2.1, aV]) :: _) _
   obtain ⟨fE, fF, a2⟩ := D a2
   refine QC (J q aA) q c17 (fun w' hb => w_spec_HouseValid w' _ aS ao.1.1 hS1 aT ao.1.2.1 hS2 aU ao.1.2.2.1 hS3 ao.1.2.2.2.1 aV ao.1.2.2.2.2 hS4 fE fF (co.grow hb).ctx) (by rfl) <| A (J q aA) (qt_not q) q q <| A q (zf q aA q) q q ?_
   exact hk _ (p (vb a2) (cfn 3 q (u)))
  refine QL_nil fun a ha fG fH => ?_
  have br := co.grow fH
  refine X (S ?_ ha)
  refine Y q (fun cp => ?_) (fun cp => ?_)
  ·have h := if_t cp h
   refine C <| Z ?_
   have fI := R br.p7
   refine zm (cs := [A0, A1, A2, iV B3, A4]) us27 uo27 il27 fI q q q ?_
   change XL _ _ _ _ _ ((134, .agg #[A0, A1, A2, iV B3, A4]) :: _) _
   obtain ⟨cq, fJ, h⟩ := D h
   refine zd q q c33 (w_spec_l7Copy fG _ A0 B0 (C0.c.c.c.c.c.c.c.c) A1 B1 (C1.c.c.c.c.c.c.c.c) A2 B2 (C2.c.c.c.c.c.c.c.c) B3 A4 B4 (C4.c.c.c.c.c.c.c.c) cq fJ br.ctx) (by rfl) ?_
   rintro _ gF ⟨cr, ct, cu, cv, rfl, fK⟩; refine ⟨_, q, ?_⟩
   have fL := br.cN4 [] fK
   have bs := fL.p9
   refine zl (cs' := [cr, ct, cu, iV cq.2.2.2.1, cv]) bs q il27 q (T (bs.ctx.sliceOne hS1) (T (bs.ctx.sliceOne hS2) (T (bs.ctx.sliceOne hS3) (T q (T (bs.ctx.sliceOne hS4) q))))) q q q (fun gG cT => ?_)
   refine qA q q q <| B <| W fun a ha => ?_
   obtain rfl := L h
   have fM := R cT.p0
   have fN := cT.q0.q4.q4.q4.q4.q4.q4.q4.p3.p3.p3.p3
   exact m (retct q ha q q (run_loadVar_bx (cs := [cr, ct, cu, iV cq.2.2.2.1, cv]) us27 uo27 il27 fM) ⟨cr, ct, cu, cv, q, fN⟩)
  have h := if_f cp h
  refine y <| C <| Z ?_
  have fO := R br.p0
  refine zm (cs := [aS, aT, aU, iV ao.1.2.2.2.1, aV]) us27 uo27 il27 fO q q q ?_
  change XL _ _ _ _ _ ((136, .agg #[aS, aT, aU, iV ao.1.2.2.2.1, aV]) :: _) _
  have bt := br.p5
  refine zl (cs' := [aS, aT, aU, iV ao.1.2.2.2.1, aV]) bt q il27 q (T (bt.ctx.sliceOne hS2) (T (bt.ctx.sliceOne hS3) (T (bt.ctx.sliceOne hS4) (T q (T (bt.ctx.sliceOne hS5) q))))) q q q (fun gH cU => ?_)
  refine qA q q q <| B <| W fun a ha => ?_
  obtain rfl := L h
  have fP := R cU.p0
  have fQ := cU.q0.q0.q4.q4.p3.p3.p3.p3
  exact retct q ha q q (run_loadVar_bx (cs := [aS, aT, aU, iV ao.1.2.2.2.1, aV]) us27 uo27 il27 fP) ⟨aS, aT, aU, aV, q, fQ⟩
 have h := if_f cn h
 refine WP_skip fun a ha => ?_
 refine zi (X (S ?_ ha))
 refine C <| C <| zk <| qM q q q <| A q (qt_not q) q q <| qM q q q ?_
 obtain ⟨fR, a3, h⟩ := D h
 refine zh 4 133 (.bool fR) ?_ (fun md hmd hk => ?_)
 rotate_left
 ·obtain ⟨K, rfl⟩ := zr hmd
  rcases btf (!false) with aB | aB
  ·skip
   refine qS q aB q q <| qS q aB q q <| qS q aB q q <| A q (ze q aB q) q q ?_
   exact hk _ (p (vb (if_t aB a3)) (cfn 3 q (u)))
  skip
  have a3 := if_f aB a3
  have fS := R ab.p0
  refine zm (cs := [ad, ae, af, iV aa.2.2.2.1, ag]) us27 uo27 il27 fS (J q aB) q q ?_
  change XL _ _ _ _ _ ((130, .agg #[ad, ae, af, iV aa.2.2.2.1, ag]) :: _) _
  obtain ⟨fT, fU, a3⟩ := D a3
  refine QC (J q aB) q c17 (fun w' hb => w_spec_HouseValid w' _ ad aa.1 hS1 ae aa.2.1 hS2 af aa.2.2.1 hS3 aa.2.2.2.1 ag aa.2.2.2.2 hS4 fT fU (ab.grow hb).ctx) (by rfl) <| A (J q aB) (qt_not q) q q <| A q (zf q aB q) q q ?_
  exact hk _ (p (vb a3) (cfn 3 q (u)))
 refine QL_nil fun a ha fV fW => ?_
 have bu := ab.grow fW
 refine X (S ?_ ha)
 refine Y q (fun cw => ?_) (fun cw => ?_)
 ·have h := if_t cw h
  refine C <| Z ?_
  have fX := R bu.p7
  refine zm (cs := [A0, A1, A2, iV B3, A4]) us27 uo27 il27 fX q q q ?_
  change XL _ _ _ _ _ ((134, .agg #[A0, A1, A2, iV B3, A4]) :: _) _
  obtain ⟨cx, fY, h⟩ := D h
  refine zd q q c33 (w_spec_l7Copy fV _ A0 B0 (C0.c.c.c.c.c.c.c.c) A1 B1 (C1.c.c.c.c.c.c.c.c) A2 B2 (C2.c.c.c.c.c.c.c.c) B3 A4 B4 (C4.c.c.c.c.c.c.c.c) cx fY bu.ctx) (by rfl) ?_
  rintro _ gI ⟨cy, cz, cA, cB, rfl, fZ⟩; refine ⟨_, q, ?_⟩
  have f0 := bu.cN4 [] fZ
  have bv := f0.p9
  refine zl (cs' := [cy, cz, cA, iV cx.2.2.2.1, cB]) bv q il27 q (T (bv.ctx.sliceOne hS1) (T (bv.ctx.sliceOne hS2) (T (bv.ctx.sliceOne hS3) (T q (T (bv.ctx.sliceOne hS4) q))))) q q q (fun gJ cV => ?_)
  refine qA q q q <| B <| W fun a ha => ?_
  obtain rfl := L h
  have f1 := R cV.p0
  have f2 := cV.q0.q4.q4.q4.q4.q4.q4.q4.p3.p3.p3.p3
  exact m (retct q ha q q (run_loadVar_bx (cs := [cy, cz, cA, iV cx.2.2.2.1, cB]) us27 uo27 il27 f1) ⟨cy, cz, cA, cB, q, f2⟩)
 have h := if_f cw h
 refine y <| C <| Z ?_
 have f3 := R bu.p0
 refine zm (cs := [ad, ae, af, iV aa.2.2.2.1, ag]) us27 uo27 il27 f3 q q q ?_
 change XL _ _ _ _ _ ((136, .agg #[ad, ae, af, iV aa.2.2.2.1, ag]) :: _) _
 have bw := bu.p5
 refine zl (cs' := [ad, ae, af, iV aa.2.2.2.1, ag]) bw q il27 q (T (bw.ctx.sliceOne hS2) (T (bw.ctx.sliceOne hS3) (T (bw.ctx.sliceOne hS4) (T q (T (bw.ctx.sliceOne hS5) q))))) q q q (fun gK cW => ?_)
 refine qA q q q <| B <| W fun a ha => ?_
 obtain rfl := L h
 have f4 := R cW.p0
 have f5 := cW.q0.q0.q4.q4.p3.p3.p3.p3
 exact retct q ha q q (run_loadVar_bx (cs := [ad, ae, af, iV aa.2.2.2.1, ag]) us27 uo27 il27 f4) ⟨ad, ae, af, ag, q, f5⟩
theorem w_spec_l20House (w : World) (G : List Res) (bp0 : Nat) (A0 : Value) (B0 : List Int) (C0 : Has G (.int .u8) A0 B0) (B1 : Int) (p1 : Int) (r : Int × (LI × (List Int) × (List Int) × Int × LT)) (h : spec_l20HouseS B0 B1 p1 = some r) (H : Ctx w ([.bx bp0 89 [A0, iV B1]] ++ G)) : Calls Tryz.prog 24 #[pB bp0, iV p1] w fun e w' => ∃ (v1 : Value) (v2 : Value) (v3 : Value) (v4 : Value), e = .returned (.agg #[v1, v2, v3, iV r.2.2.2.2.1, v4]) ∧ Holds (([.bx bp0 89 [A0, iV B1]] : List Res).flatMap Res.own) w w' [.sl 55 ty12 v1 r.2.1, .sl 3 tI v2 r.2.2.1, .sl 3 tI v3 r.2.2.2.1, .sl 47 ty14 v4 r.2.2.2.2.2, .bx bp0 89 [A0, iV r.1]] G := by
 have H : Holds (([.bx bp0 89 [A0, iV B1]] : List Res).flatMap Res.own) w w [.bx bp0 89 [A0, iV B1]] G := zb H
 refine zg (args := [pB bp0, iV p1]) (n := 79) Tryz.func24 q q q ?_
 unfold spec_l20HouseS at h
 refine C <| Z ?_
 refine zq (cs := [nS, nS, nS, iV 0, nS]) H z27 q q q (fun b1 w2 H3 => ?_)
 refine rN <| qM q q q ?_
 have H7 := H3.p1
 obtain ⟨x5, bZ, h⟩ := D h
 refine zd q q c57 (w_spec_l20Items w2 _ bp0 A0 B0 (C0.c) B1 0 x5 bZ H7.ctx) (by rfl) ?_
 rintro _ w8 ⟨aC, rfl, H9⟩; refine ⟨_, q, ?_⟩
 have b0 := H7.cN2 [_] H9
 refine qA q q q <| rN <| qM q q q <| qM q q q <| qM q q q ?_
 have bs := b0.p1
 obtain ⟨bt, b4, h⟩ := D h
 refine zd q q c58 (w_spec_l20Prices w8 _ bp0 A0 B0 (C0.c.c) x5.1 aC x5.2 hS0 0 bt b4 bs.ctx) (by rfl) ?_
 rintro _ b5 ⟨aO, rfl, b6⟩; refine ⟨_, q, ?_⟩
 have b7 := bs.cN2 [_] b6
 refine qM q q q <| qM q q q ?_
 have bu := b7.p1
 obtain ⟨bv, b8, h⟩ := D h
 refine zd q q c59 (w_spec_l20Amounts b5 _ bp0 A0 B0 (C0.c.c.c) bt.1 aC x5.2 hS1 0 bv b8 bu.ctx) (by rfl) ?_
 rintro _ b9 ⟨aP, rfl, ca⟩; refine ⟨_, q, ?_⟩
 have cb := bu.cN2 [_] ca
 refine qM q q q ?_
 have bw := cb.p1
 obtain ⟨aE, cc, h⟩ := D h
 refine zd q q c60 (w_spec_l20Rd__pick b9 _ bp0 A0 B0 (C0.c.c.c.c) bv.1 256 aE cc bw.ctx) (by rfl) ?_
 rintro _ cd ⟨rfl, ce⟩; refine ⟨_, q, ?_⟩
 have bz := bw.cN1 [_] ce
 refine qM q q q ?_
 obtain ⟨aF, cf, h⟩ := D h
 refine zd q q c60 (w_spec_l20Rd__pick cd _ bp0 A0 B0 (C0.c.c.c.c) aE.1 9 aF cf bz.ctx) (by rfl) ?_
 rintro _ dX ⟨rfl, cg⟩; refine ⟨_, q, ?_⟩
 have aQ := bz.cN1 [_] cg
 refine A q (qt_mul q q) q q <| A q (qt_build (args := [(0, .tmp 12), (1, .tmp 15), (2, .tmp 18), (3, .tmp 23)]) (css := [#[aC], #[aO], #[aP], #[iV (IntKind.wrap .i64 (aE.2 * aF.2))]]) (cells := #[aC, aO, aP, iV (IntKind.wrap .i64 (aE.2 * aF.2)), nS]) q ⟨(aQ.ctx.sliceCells hS3), (aQ.ctx.sliceCells hS2), (aQ.ctx.sliceCells hS1), q, trivial⟩ (by kernel_rfl)) q q ?_
 refine zq (cs := [nS, nS, nS, iV 0, nS]) aQ z27 q q q (fun ak dY aR => ?_)
 refine zl (cs' := [aC, aO, aP, iV (IntKind.wrap .i64 (aE.2 * aF.2)), nS]) aR q il27 q (T (aR.ctx.sliceOne hS4) (T (aR.ctx.sliceOne hS3) (T (aR.ctx.sliceOne hS2) (T q (T q q))))) q q q (fun ch ci => ?_)
 refine B <| C <| rR <| qM q q q ?_
 have bA := ci.p1
 obtain ⟨cj, ck, h⟩ := D h
 refine zd q q c60 (w_spec_l20Rd__pick ch _ bp0 A0 B0 (C0.c.c.c.c.c) aF.1 24 cj ck bA.ctx) (by rfl) ?_
 rintro _ dZ ⟨rfl, cl⟩; refine ⟨_, q, ?_⟩
 have cm := bA.cN1 [_] cl
 refine qA q q q <| B <| g ?_
 have cn := cm.nS 47 ty14
 obtain ⟨co, cp, h⟩ := D h
 have cq := cn.p3.p4.p5.p5.p6.p6
 refine fun cr bB => zp (I := fun s a w2 => match s with | (a8, ap, al, am, an, ai, ao) => ∃ ad ae af ag, Fr a 79 [(0, pB bp0), (1, iV p1), (4, pB b1), (6, pB ak), (7, iV a8)] ∧ Holds (([.bx bp0 89 [A0, iV B1]] : List Res).flatMap Res.own) w w2 [.bx bp0 89 [A0, iV ap], .bx b1 27 [nS, nS, nS, iV 0, nS], .bx ak 27 [ad, ae, af, iV ai, ag], .sl 55 ty12 ad al, .sl 3 tI ae am, .sl 3 tI af an, .sl 47 ty14 ag ao] G) (O := fun o e a w2 => match o with | (q0, q1, q2, q3, q4, q5) => e = .exit 0 ∧ ∃ bC bD bE bF, Fr a 79 [(0, pB bp0), (1, iV p1), (4, pB b1), (6, pB ak)] ∧ Holds (([.bx bp0 89 [A0, iV B1]] : List Res).flatMap Res.own) w w2 [.bx bp0 89 [A0, iV q0], .bx b1 27 [nS, nS, nS, iV 0, nS], .bx ak 27 [bC, bD, bE, iV q4, bF], .sl 55 ty12 bC q1, .sl 3 tI bD q2, .sl 3 tI bE q3, .sl 47 ty14 bF q5] G) cp ?_ ?_ ?_
 ·exact ⟨aC, aO, aP, (nS), bB.sub ⟨q, q, q, q, q, trivial⟩, cq⟩
 ·clear bB
  intro s d0 a d1 aj ct
  obtain ⟨a8, ap, al, am, an, ai, ao⟩ := s
  obtain ⟨ad, ae, af, ag, ha, bG⟩ := ct
  refine S ?_ ha
  clear ha
  refine C <| rR <| qM q q q <| A q (qt_gtr q q) q q <| B ?_
  refine Y q (fun a9 => ?_) (fun a9 => ?_)
  ·have aj := if_t a9 aj
   refine y <| C <| g <| C ?_
   obtain ⟨ah, bH, aj⟩ := D aj
   obtain ⟨ab, ba, aj⟩ := D aj
   refine WP_join (M := fun a w2 => ∃ bb av aw ax ay, Fr a 79 [(0, pB bp0), (1, iV p1), (4, pB b1), (6, pB ak), (7, iV a8), (8, pB bb), (9, .bool ab.2)] ∧ Holds (([.bx bp0 89 [A0, iV B1]] : List Res).flatMap Res.own) w w2 [.bx bp0 89 [A0, iV ah.1], .bx b1 27 [nS, nS, nS, iV 0, nS], .bx ak 27 [ad, ae, af, iV ai, ag], .sl 55 ty12 ad al, .sl 3 tI ae am, .sl 3 tI af an, .sl 47 ty14 ag ao, .bx bb 27 [av, aw, ax, iV ab.1.2.2.2.1, ay], .sl 55 ty12 av ab.1.1, .sl 3 tI aw ab.1.2.1, .sl 3 tI ax ab.1.2.2.1, .sl 47 ty14 ay ab.1.2.2.2.2] G) ?_ ?_
   ·refine WP_ordersT (fun w1 w2 => Chg (([.bx bp0 89 [A0, iV ap]] : List Res).flatMap Res.own) w1 w2) 10 (by kernel_rfl) (fun aS cu => ?_)
    have aT := bG.grow cu
    have bc : Ctx aS ([.bx bp0 89 [A0, iV ap]] ++ ([.bx b1 27 [nS, nS, nS, iV 0, nS], .bx ak 27 [ad, ae, af, iV ai, ag], .sl 55 ty12 ad al, .sl 3 tI ae am, .sl 3 tI af an, .sl 47 ty14 ag ao] ++ G)) := aT.ctx
    have aq : Holds _ aS aS [.bx bp0 89 [A0, iV ap]] ([.bx b1 27 [nS, nS, nS, iV 0, nS], .bx ak 27 [ad, ae, af, iV ai, ag], .sl 55 ty12 ad al, .sl 3 tI ae am, .sl 3 tI af an, .sl 47 ty14 ag ao] ++ G) := zb (Rs := [.bx bp0 89 [A0, iV ap]]) bc
    have cv := HasB.bx (HasB.c (HasB.c (HasB.hd))) aq.ctx
    refine XT (i := 0) q (by kernel_rfl) q aq.chg q (qs_agg (cs := [ad, ae, af, iV ai, ag]) us27 uo27 il27 q (fun j z hj => by rw [Nat.zero_add]; exact cv.cell hj) aq.chg (Ctx.outB bc (HasB.c (HasB.hd)))) q q ?_
    change XC _ _ _ _ _ _ _ _ ((32, .agg #[ad, ae, af, iV ai, ag]) :: _) _
    refine XQ (i := 1) q (by kernel_rfl) q aq.chg q (fun _ => qt_move q) q q ?_
    have cw := HasB.bx (HasB.c (HasB.c (HasB.hd))) aq.ctx
    refine XT (i := 2) q (by kernel_rfl) q aq.chg q (qs_agg (cs := [ad, ae, af, iV ai, ag]) us27 uo27 il27 q (fun j z hj => by rw [Nat.zero_add]; exact cw.cell hj) aq.chg (Ctx.outB bc (HasB.c (HasB.hd)))) q q ?_
    change XC _ _ _ _ _ _ _ _ ((34, .agg #[ad, ae, af, iV ai, ag]) :: _) _
    refine zy [3, 8] (by kernel_rfl) (by simp) (allc ?_ (allc ?_ alln))
    ·refine XC_do q ?_
     refine zd q q c25 (w_spec_l20HouseDeed aS _ bp0 A0 B0 (C0.c.c.c.c.c.c) ap ad al hS2 ae am hS3 af an hS4 ai ag ao hS5 ah bH aq.ctx) (by rfl) ?_
     rintro _ cx ⟨rfl, cy⟩; refine ⟨_, q, ?_⟩
     have aU := aq.cN1 [_] cy
     refine XN aU.chg ?_
     refine zy [4, 8] (by kernel_rfl) (by simp) (allc ?_ (allc ?_ alln))
     ·refine XC_do q ?_
      refine zd q q c8 (w_spec_HouseDo cx _ ad al hS3 ae am hS4 af an hS5 ai ag ao hS6 ah.2.1 ah.2.2.1 ah.2.2.2.1 ah.2.2.2.2 ab ba aU.ctx) (by rfl) ?_
      rintro _ d2 ⟨aV, aW, aX, aY, rfl, cz⟩; refine ⟨_, q, ?_⟩
      have aG := aU.cN4 [] cz
      refine XN aG.chg <| XQ (i := 5) q (by kernel_rfl) q aG.chg q (fun _ => qt_move q) q q <| XQ (i := 6) q (by kernel_rfl) q aG.chg q (fun _ => zv q q) q q <| XQ (i := 7) q (by kernel_rfl) q aG.chg q (fun _ => zv q q) q q <| X1 8 (by kernel_rfl) q ?_
      refine zq (cs := [nS, nS, nS, iV 0, nS]) aG z27 q q q (fun bI d3 aD => ?_)
      refine XN aD.chg <| X1 9 (by kernel_rfl) q ?_
      refine zl (cs' := [aV, aW, aX, iV ab.1.2.2.2.1, aY]) aD q il27 q (T (aD.ctx.sliceOne hS1) (T (aD.ctx.sliceOne hS2) (T (aD.ctx.sliceOne hS3) (T q (T (aD.ctx.sliceOne hS4) q))))) q q q (fun cA bJ => ?_)
      refine XN bJ.chg ?_
      have cB : Holds _ w cA [.bx bI 27 [aV, aW, aX, iV ab.1.2.2.2.1, aY], .sl 55 ty12 aV ab.1.1, .sl 3 tI aW ab.1.2.1, .sl 3 tI aX ab.1.2.2.1, .sl 47 ty14 aY ab.1.2.2.2.2, .bx bp0 89 [A0, iV ah.1], .bx b1 27 [nS, nS, nS, iV 0, nS], .bx ak 27 [ad, ae, af, iV ai, ag], .sl 55 ty12 ad al, .sl 3 tI ae am, .sl 3 tI af an, .sl 47 ty14 ag ao] G := aT.calledN (Rs := [.bx bp0 89 [A0, iV ap]]) bJ
      refine X1 10 (by kernel_rfl) q <| qA q q q <| XE q ?_
      refine XC_done (by kernel_rfl) (fun a ha => ?_)
      have cC := cB.p4.p4.p4.p4.p4.p11.p11.p11.p11.p11.p11.p11
      exact ⟨bI, aV, aW, aX, aY, ha.sub ⟨q, q, q, q, q, q, q, trivial⟩, cC⟩
     refine XC_do q ?_
     refine zq (cs := [nS, nS, nS, iV 0, nS]) aU z27 q q q (fun bK cD bd => ?_)
     refine XN bd.chg <| X1 4 (by kernel_rfl) q <| zd q q c8 (w_spec_HouseDo cD _ ad al hS4 ae am hS5 af an hS6 ai ag ao hS7 ah.2.1 ah.2.2.1 ah.2.2.2.1 ah.2.2.2.2 ab ba bd.ctx) (by rfl) ?_
     rintro _ d4 ⟨aZ, a0, a1, a2, rfl, cE⟩; refine ⟨_, q, ?_⟩
     have aH := bd.cN4 [] cE
     refine XN aH.chg <| XQ (i := 5) q (by kernel_rfl) q aH.chg q (fun _ => qt_move q) q q <| XQ (i := 6) q (by kernel_rfl) q aH.chg q (fun _ => zv q q) q q <| XQ (i := 7) q (by kernel_rfl) q aH.chg q (fun _ => zv q q) q q <| X1 9 (by kernel_rfl) q ?_
     have aI := aH.p4
     refine zl (cs' := [aZ, a0, a1, iV ab.1.2.2.2.1, a2]) aI q il27 q (T (aI.ctx.sliceOne hS1) (T (aI.ctx.sliceOne hS2) (T (aI.ctx.sliceOne hS3) (T q (T (aI.ctx.sliceOne hS4) q))))) q q q (fun cF bL => ?_)
     refine XN bL.chg ?_
     have cG : Holds _ w cF [.bx bK 27 [aZ, a0, a1, iV ab.1.2.2.2.1, a2], .sl 55 ty12 aZ ab.1.1, .sl 3 tI a0 ab.1.2.1, .sl 3 tI a1 ab.1.2.2.1, .sl 47 ty14 a2 ab.1.2.2.2.2, .bx bp0 89 [A0, iV ah.1], .bx b1 27 [nS, nS, nS, iV 0, nS], .bx ak 27 [ad, ae, af, iV ai, ag], .sl 55 ty12 ad al, .sl 3 tI ae am, .sl 3 tI af an, .sl 47 ty14 ag ao] G := aT.calledN (Rs := [.bx bp0 89 [A0, iV ap]]) bL
     refine X1 10 (by kernel_rfl) q <| qA q q q <| XE q ?_
     refine XC_done (by kernel_rfl) (fun a ha => ?_)
     have cH := cG.p4.p4.p4.p4.p4.p11.p11.p11.p11.p11.p11.p11
     exact ⟨bK, aZ, a0, a1, a2, ha.sub ⟨q, q, q, q, q, q, q, trivial⟩, cH⟩
    refine XC_do q ?_
    refine zq (cs := [nS, nS, nS, iV 0, nS]) aq z27 q q q (fun bM cI bN => ?_)
    refine XN bN.chg <| X1 3 (by kernel_rfl) q ?_
    have bO := bN.p1
    refine zd q q c25 (w_spec_l20HouseDeed cI _ bp0 A0 B0 (C0.c.c.c.c.c.c.c) ap ad al hS3 ae am hS4 af an hS5 ai ag ao hS6 ah bH bO.ctx) (by rfl) ?_
    rintro _ cJ ⟨rfl, cK⟩; refine ⟨_, q, ?_⟩
    have be := bO.cN1 [_] cK
    refine XN be.chg <| X1 4 (by kernel_rfl) q <| zd q q c8 (w_spec_HouseDo cJ _ ad al hS4 ae am hS5 af an hS6 ai ag ao hS7 ah.2.1 ah.2.2.1 ah.2.2.2.1 ah.2.2.2.2 ab ba be.ctx) (by rfl) ?_
    rintro _ d5 ⟨a3, a4, a5, a6, rfl, cL⟩; refine ⟨_, q, ?_⟩
    have aJ := be.cN4 [] cL
    refine XN aJ.chg <| XQ (i := 5) q (by kernel_rfl) q aJ.chg q (fun _ => qt_move q) q q <| XQ (i := 6) q (by kernel_rfl) q aJ.chg q (fun _ => zv q q) q q <| XQ (i := 7) q (by kernel_rfl) q aJ.chg q (fun _ => zv q q) q q <| X1 9 (by kernel_rfl) q ?_
    have aK := aJ.p5
    refine zl (cs' := [a3, a4, a5, iV ab.1.2.2.2.1, a6]) aK q il27 q (T (aK.ctx.sliceOne hS1) (T (aK.ctx.sliceOne hS2) (T (aK.ctx.sliceOne hS3) (T q (T (aK.ctx.sliceOne hS4) q))))) q q q (fun cM bP => ?_)
    refine XN bP.chg ?_
    have cN : Holds _ w cM [.bx bM 27 [a3, a4, a5, iV ab.1.2.2.2.1, a6], .sl 55 ty12 a3 ab.1.1, .sl 3 tI a4 ab.1.2.1, .sl 3 tI a5 ab.1.2.2.1, .sl 47 ty14 a6 ab.1.2.2.2.2, .bx bp0 89 [A0, iV ah.1], .bx b1 27 [nS, nS, nS, iV 0, nS], .bx ak 27 [ad, ae, af, iV ai, ag], .sl 55 ty12 ad al, .sl 3 tI ae am, .sl 3 tI af an, .sl 47 ty14 ag ao] G := aT.calledN (Rs := [.bx bp0 89 [A0, iV ap]]) bP
    refine X1 10 (by kernel_rfl) q <| qA q q q <| XE q ?_
    refine XC_done (by kernel_rfl) (fun a ha => ?_)
    have cO := cN.p4.p4.p4.p4.p4.p11.p11.p11.p11.p11.p11.p11
    exact ⟨bM, a3, a4, a5, a6, ha.sub ⟨q, q, q, q, q, q, q, trivial⟩, cO⟩
   intro a d6 cP
   obtain ⟨bb, av, aw, ax, ay, ha, bf⟩ := cP
   refine S ?_ ha
   clear ha
   refine rR <| qM q q q <| B ?_
   refine Y q (fun bg => ?_) (fun bg => ?_)
   ·have aj := if_t bg aj
    refine Z ?_
    have cQ := R bf.p7
    refine zm (cs := [av, aw, ax, iV ab.1.2.2.2.1, ay]) us27 uo27 il27 cQ q q q ?_
    change XL _ _ _ _ _ ((40, .agg #[av, aw, ax, iV ab.1.2.2.2.1, ay]) :: _) _
    have aL := bf.p2
    refine zl (cs' := [av, aw, ax, iV ab.1.2.2.2.1, ay]) aL q il27 q (T (aL.ctx.sliceOne hS8) (T (aL.ctx.sliceOne hS9) (T (aL.ctx.sliceOne hS10) (T q (T (aL.ctx.sliceOne hS11) q))))) q q q (fun d7 cR => ?_)
    refine WL_nil fun a ha => ?_
    refine zi (X (S ?_ ha))
    refine Z <| qM q q q <| A q (qt_sub q q) q q <| qA q q q <| WL_nil fun a ha => ?_
    obtain rfl := L aj
    have cS := cR.q3.q3.q3.q3.q3.p6.p6.p6.p6.p4.p6.p6
    exact ⟨q, av, aw, ax, ay, ha.sub ⟨q, q, q, q, q, trivial⟩, cS⟩
   have aj := if_f bg aj
   refine WP_skip fun a ha => ?_
   refine zi (X (S ?_ ha))
   refine Z <| qM q q q <| A q (qt_sub q q) q q <| qA q q q <| WL_nil fun a ha => ?_
   obtain rfl := L aj
   have cT := bf.q7.q7.q7.q7.q7.p6.p6.p6.p6.p6.p6.p6
   exact ⟨q, ad, ae, af, ag, ha.sub ⟨q, q, q, q, q, trivial⟩, cT⟩
  have aj := if_f a9 aj
  refine WP_exit fun a ha => ?_
  obtain rfl := L aj
  have cU := bG.p6.p6.p6.p6.p6.p6.p6
  exact zo (⟨exit_ne, q, ad, ae, af, ag, ha.sub ⟨q, q, q, q, trivial⟩, cU⟩)
 intro e cr cV cW
 obtain ⟨cX, cY, cZ, d8, d9, ea⟩ := co
 obtain ⟨rfl, c0⟩ := cW
 obtain ⟨az, aA, a7, bh, ha, bQ⟩ := c0
 refine zn (X (S ?_ ha))
 refine C <| rR <| qM q q q <| qM q q q ?_
 obtain ⟨bR, c1, h⟩ := D h
 refine zd q q c61 (w_spec_l20Rd__odd cV _ bp0 A0 B0 (C0.c.c.c.c.c.c) cX p1 bR c1 bQ.ctx) (by rfl) ?_
 rintro _ c2 ⟨rfl, c3⟩; refine ⟨_, q, ?_⟩
 have bi := bQ.cN1 [_] c3
 refine B ?_
 obtain ⟨c4, aa, h⟩ := D h
 obtain ⟨c5, c6, aM, da⟩ := c4
 refine WP_join (M := fun a w2 => ∃ ar au, Fr a 79 [(0, pB bp0), (4, pB b1), (6, pB ak)] ∧ Holds (([.bx bp0 89 [A0, iV B1]] : List Res).flatMap Res.own) w w2 [.bx bp0 89 [A0, iV c5], .bx b1 27 [nS, nS, nS, iV 0, nS], .bx ak 27 [az, aA, ar, iV aM, au], .sl 55 ty12 az cY, .sl 3 tI aA cZ, .sl 3 tI ar c6, .sl 47 ty14 au da] G) ?_ ?_
 ·refine Y q (fun bj => ?_) (fun bj => ?_)
  ·have aa := if_t bj aa
   refine rR <| qM q q q ?_
   obtain ⟨bS, db, aa⟩ := D aa
   refine zd q q c60 (w_spec_l20Rd__pick c2 _ bp0 A0 B0 (C0.c.c.c.c.c.c) bR.1 4 bS db bi.ctx) (by rfl) ?_
   rintro _ eb ⟨rfl, dc⟩; refine ⟨_, q, ?_⟩
   have aB := bi.cN1 [_] dc
   refine B <| g <| rR <| A q (qt_eql q q) q q <| qA q q q <| B ?_
   refine Y q (fun bk => ?_) (fun bk => ?_)
   ·have aa := if_t bk aa
    refine Z ?_
    refine zs (t := tI) (args := [.const (iV (-1)), .const (iV 100000)]) (xs := ([(-1), 100000] : List Int)) aB (BltL.cons (Blt.int) q (BltL.cons (Blt.int) q (BltL.nil))) u24 j3 q q q q q q (fun ec dd de => ?_)
    refine qM q q q ?_
    have bT := de.p1
    obtain ⟨df, dg, aa⟩ := D aa
    refine zd q q c60 (w_spec_l20Rd__pick dd _ bp0 A0 B0 (C0.c.c.c.c.c.c.c) bS.1 2 df dg bT.ctx) (by rfl) ?_
    rintro _ ed ⟨rfl, dh⟩; refine ⟨_, q, ?_⟩
    have bl := bT.cN1 [_] dh
    obtain ⟨ee, bU, aa⟩ := D aa
    refine b bl.ctx hS1 bU u24 i3 q q q q (fun ef eg eh di => ?_)
    obtain ⟨ei, dj, ej⟩ := bl.at hS1 bU di
    refine zt (k := .i64) u3 q dj q q q <| qF uf27 fi27_3 nz3 q q q ?_
    have dk := bl.p3
    refine WL_store_bx dk q il3 q q q q q (fun ek dl => ?_)
    refine WL_nil fun a ha => ?_
    obtain ⟨rfl, rfl, rfl, rfl⟩ := (by simpa only [Option.some.injEq, Prod.mk.injEq] using aa : _)
    have dm := dl.q2.p6.p6.p6.p6.p4.p6.p6
    exact zi (X (⟨a7, bh, ha.sub ⟨q, q, q, trivial⟩, dm⟩))
   have aa := if_f bk aa
   refine rR <| A q (qt_eql q q) q q <| qA q q q <| B ?_
   refine Y q (fun bm => ?_) (fun bm => ?_)
   ·have aa := if_t bm aa
    refine Z <| qF uf27 fi27_2 nz24 q q q ?_
    have dn := R aB.p2
    refine l u24 q dn q q q q ?_
    refine zs (t := tI) (args := [.const (iV 0)]) (xs := ([0] : List Int)) aB (BltL.cons (Blt.int) q (BltL.nil)) u24 j3 q q q q q q (fun el em dq => ?_)
    have dr := dq.p6
    obtain ⟨en, ds, aa⟩ := D aa
    refine zw dr hS1 ds u24 j3 q q q q q q (fun dt eo du => ?_)
    refine qF uf27 fi27_2 nz24 q q q ?_
    have bn := du.p4
    refine WL_store_bx bn q il24 (bn.ctx.sliceCells hS1) (bn.ctx.sliceOne hS1) q q q (fun ep dv => ?_)
    refine WL_nil fun a ha => ?_
    obtain ⟨rfl, rfl, rfl, rfl⟩ := (by simpa only [Option.some.injEq, Prod.mk.injEq] using aa : _)
    have dw := dv.q2.p6.p2.p6.p6.p4.p6.p6
    exact zi (X (⟨dt, bh, ha.sub ⟨q, q, q, trivial⟩, dw⟩))
   have aa := if_f bm aa
   refine rR <| A q (qt_eql q q) q q <| qA q q q <| B ?_
   refine Y q (fun bo => ?_) (fun bo => ?_)
   ·have aa := if_t bo aa
    refine Z <| qF uf27 fi27_4 nz25 q q q ?_
    have dx := R aB.p2
    refine l u25 q dx q q q q <| A q (qt_build (args := []) (css := []) (cells := #[iV 0, iV 0]) q trivial (by kernel_rfl)) q q ?_
    refine zs (t := ty2) (args := [.tmp 71]) (xs := ([(0, 0)] : LP)) aB (BltL.cons (Blt.pair (Blt.int) (Blt.int)) q (BltL.nil)) u45 j49 q q q q q q (fun bV er dy => ?_)
    refine zs (t := tI) (args := [.const (iV 9)]) (xs := ([9] : List Int)) dy (BltL.cons (Blt.int) q (BltL.nil)) u24 j3 q q q q q q (fun bW es bp => ?_)
    refine A q (qt_build (args := [(1, .tmp 72), (2, .tmp 73)]) (css := [#[bV], #[bW]]) (cells := #[iV 0, bV, bW]) q ⟨(bp.ctx.sliceCells hS1), (bp.ctx.sliceCells hS0), trivial⟩ (by kernel_rfl)) q q ?_
    have dz := bp.p1
    have dA := dz.freeze
    have dB := dA.p1
    have dC := dB.freeze
    refine zs (t := ty14) (args := [.tmp 74]) (xs := ([(0, [(0, 0)], [9])] : LT)) dC (BltL.cons (Blt.pair (Blt.int) (Blt.pair (Blt.slice hO1) (Blt.slice hO0))) q (BltL.nil)) u25 j47 q q q q q q (fun et eu dD => ?_)
    have dE := dD.p9
    obtain ⟨ew, dF, aa⟩ := D aa
    refine zw dE hS1 dF u25 j47 q q q q q q (fun dG ey dH => ?_)
    refine qF uf27 fi27_4 nz25 q q q ?_
    have bq := dH.p6
    refine WL_store_bx bq q il25 (bq.ctx.sliceCells hS1) (bq.ctx.sliceOne hS1) q q q (fun ez dI => ?_)
    refine WL_nil fun a ha => ?_
    obtain ⟨rfl, rfl, rfl, rfl⟩ := (by simpa only [Option.some.injEq, Prod.mk.injEq] using aa : _)
    have dJ := dI.q2.q2.q2.p1.p6.p6.p6.p4.p6.p6
    exact zi (X (⟨a7, dG, ha.sub ⟨q, q, q, trivial⟩, dJ⟩))
   have aa := if_f bo aa
   refine Z <| qF uf27 fi27_4 nz25 q q q ?_
   have dK := R aB.p2
   refine l u25 q dK q q q q <| A q (qt_build (args := [(0, .const (iV (-1)))]) (css := [#[iV (-1)]]) (cells := #[iV (-1), nS, nS]) q ⟨q, trivial⟩ (by kernel_rfl)) q q ?_
   refine zs (t := ty14) (args := [.tmp 48]) (xs := ([((-1), [], [])] : LT)) aB (BltL.cons (Blt.pair (Blt.int) (Blt.pair (Blt.slice (HasRo.nil)) (Blt.slice (HasRo.nil)))) q (BltL.nil)) u25 j47 q q q q q q (fun eA eB dL => ?_)
   have dM := dL.p7
   obtain ⟨eC, dN, aa⟩ := D aa
   refine zw dM hS1 dN u25 j47 q q q q q q (fun dO eD dP => ?_)
   refine qF uf27 fi27_4 nz25 q q q ?_
   have br := dP.p4
   refine WL_store_bx br q il25 (br.ctx.sliceCells hS1) (br.ctx.sliceOne hS1) q q q (fun eE dQ => ?_)
   refine WL_nil fun a ha => ?_
   obtain ⟨rfl, rfl, rfl, rfl⟩ := (by simpa only [Option.some.injEq, Prod.mk.injEq] using aa : _)
   have dR := dQ.q2.p1.p6.p6.p6.p4.p6.p6
   exact zi (X (⟨a7, dO, ha.sub ⟨q, q, q, trivial⟩, dR⟩))
  have aa := if_f bj aa
  refine WP_skip fun a ha => ?_
  obtain ⟨rfl, rfl, rfl, rfl⟩ := (by simpa only [Option.some.injEq, Prod.mk.injEq] using aa : _)
  have dS := bi.p6.p6.p6.p6.p6.p6.p6
  exact X (⟨a7, bh, ha.sub ⟨q, q, q, trivial⟩, dS⟩)
 intro a eF dT
 obtain ⟨ar, au, ha, bX⟩ := dT
 refine S ?_ ha
 clear ha
 refine C <| Z ?_
 have dU := R bX.p2
 refine zm (cs := [az, aA, ar, iV aM, au]) us27 uo27 il27 dU q q q ?_
 change XL _ _ _ _ _ ((78, .agg #[az, aA, ar, iV aM, au]) :: _) _
 have aN := bX.p1
 refine zl (cs' := [az, aA, ar, iV aM, au]) aN q il27 q (T (aN.ctx.sliceOne hS3) (T (aN.ctx.sliceOne hS4) (T (aN.ctx.sliceOne hS5) (T q (T (aN.ctx.sliceOne hS6) q))))) q q q (fun eG bY => ?_)
 refine B <| W fun a ha => ?_
 obtain rfl := L h
 have dV := R bY.p0
 have dW := bY.q0.q1.p4.p4.p4.p4
 exact retc q ha q (run_loadVar_bx (cs := [az, aA, ar, iV aM, au]) us27 uo27 il27 dV) ⟨az, aA, ar, au, q, dW⟩
end Go.Proofs.YtpabogkcmbkffaaGreatDoor
