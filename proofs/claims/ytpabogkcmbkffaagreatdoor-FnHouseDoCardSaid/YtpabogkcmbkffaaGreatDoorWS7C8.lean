/- The walks: each Go function computes its shallow function. Printed by a program. -/
import Derived.Test.YtpabogkcmbkffaaGreatDoorWS7C7
set_option linter.unusedVariables false
set_option maxRecDepth 10000
set_option maxHeartbeats 8000000
namespace Go.Proofs.YtpabogkcmbkffaaGreatDoor
open Go Go.RowKit
theorem w_laws_sameHouse (w : World) (G : List Res) (A0 : Value) (B0 : LI) (C0 : Has G ty10 A0 B0) (A1 : Value) (B1 : List Int) (C1 : Has G tI A1 B1) (A2 : Value) (B2 : List Int) (C2 : Has G tI A2 B2) (B3 : Int) (A4 : Value) (B4 : LT) (C4 : Has G ty12 A4 B4) (A1_0 : Value) (p1_0 : LI) (hp1_0 : Has G ty10 A1_0 p1_0) (A1_1 : Value) (p1_1 : List Int) (hp1_1 : Has G tI A1_1 p1_1) (A1_2 : Value) (p1_2 : List Int) (hp1_2 : Has G tI A1_2 p1_2) (p1_3 : Int) (A1_4 : Value) (p1_4 : LT) (hp1_4 : Has G ty12 A1_4 p1_4) (r : Bool) (h : laws_sameHouseS B0 B1 B2 B3 B4 p1_0 p1_1 p1_2 p1_3 p1_4 = some r) (H : Ctx w G) : Calls Tryz.prog 9 #[.agg #[A0, A1, A2, iV B3, A4], .agg #[A1_0, A1_1, A1_2, iV p1_3, A1_4]] w fun e w' => e = .returned (.bool r) ∧ Holds M0 w w' [] G := by
 have H : Holds M0 w w [] G := zb H
 refine zg (args := [.agg #[A0, A1, A2, iV B3, A4], .agg #[A1_0, A1_1, A1_2, iV p1_3, A1_4]]) (n := 117) Tryz.func9 q q q ?_
 unfold laws_sameHouseS at h
 refine C <| Z ?_
 refine WL_box (cs := [A0, A1, A2, iV B3, A4]) H q q q q (fun b1 w2 H3 => ?_)
 refine WL_box (cs := [A1_0, A1_1, A1_2, iV p1_3, A1_4]) H3 q q q q (fun b5 w6 H7 => ?_)
 refine qA q q q <| B <| C <| C <| zk <| qF uf27 fi27_0 nz23 q q q ?_
 have ba := R H7.p1
 refine l u23 q ba q q q q <| za H7.ctx (t := ty10) (C0.c.c) u23 q q q <| qF uf27 fi27_0 nz23 q q q ?_
 have bb := R H7.p0
 refine l u23 q bb q q q q <| za H7.ctx (t := ty10) (hp1_0.c.c) u23 q q q <| A q (qt_neq q q) q q <| qM q q q ?_
 obtain ⟨aL, ao, h⟩ := D h
 refine zh 7 21 (.bool aL) ?_ (fun md hmd hk => ?_)
 rotate_left
 ·obtain ⟨K, rfl⟩ := zr hmd
  rcases btf ((List.length B0 : Int) != (List.length p1_0 : Int)) with af | af
  ·skip
   refine qS q af q q <| qS q af q q <| qS q af q q <| qS q af q q <| qS q af q q <| qS q af q q <| A q (ze q af q) q q ?_
   exact hk _ (p (vb (if_t af ao)) (cfn 6 q (u)))
  skip
  have ao := if_f af ao
  refine qF uf27 fi27_1 nz24 (J q af) q q ?_
  have bc := R H7.p1
  refine l u24 q bc q (J q af) q q <| qF uf27 fi27_1 nz24 (J q af) q q ?_
  have bd := R H7.p0
  refine l u24 q bd q (J q af) q q ?_
  obtain ⟨be, bf, ao⟩ := D ao
  refine QC (J q af) q c19 (fun w' hb => w_laws_sameInts w' _ A1 B1 (C1.c.c) A1_1 p1_1 (hp1_1.c.c) be bf (H7.grow hb).ctx) (by rfl) <| A (J q af) (qt_not q) q q <| A q (zf q af q) q q ?_
  exact hk _ (p (vb ao) (cfn 6 q (u)))
 refine qM q q q ?_
 obtain ⟨ar, ap, h⟩ := D h
 refine zh 7 29 (.bool ar) ?_ (fun md hmd hk => ?_)
 rotate_left
 ·obtain ⟨K, rfl⟩ := zr hmd
  rcases btf aL with ag | ag
  ·skip
   refine qS q ag q q <| qS q ag q q <| qS q ag q q <| qS q ag q q <| qS q ag q q <| qS q ag q q <| A q (ze q ag q) q q ?_
   exact hk _ (p (vb (if_t ag ap)) (cfn 6 q (u)))
  skip
  have ap := if_f ag ap
  refine qF uf27 fi27_2 nz24 (J q ag) q q ?_
  have bg := R H7.p1
  refine l u24 q bg q (J q ag) q q <| qF uf27 fi27_2 nz24 (J q ag) q q ?_
  have bh := R H7.p0
  refine l u24 q bh q (J q ag) q q ?_
  obtain ⟨bi, bj, ap⟩ := D ap
  refine QC (J q ag) q c19 (fun w' hb => w_laws_sameInts w' _ A2 B2 (C2.c.c) A1_2 p1_2 (hp1_2.c.c) bi bj (H7.grow hb).ctx) (by rfl) <| A (J q ag) (qt_not q) q q <| A q (zf q ag q) q q ?_
  exact hk _ (p (vb ap) (cfn 6 q (u)))
 refine qM q q q ?_
 refine zh 6 36 (.bool (ar || (B3 != p1_3))) ?_ (fun md hmd hk => ?_)
 rotate_left
 ·obtain ⟨K, rfl⟩ := zr hmd
  rcases btf ar with aj | aj
  ·skip
   refine qS q aj q q <| qS q aj q q <| qS q aj q q <| qS q aj q q <| qS q aj q q <| A q (ze q aj q) q q ?_
   exact hk _ (p (by rw [aj]; rfl) (cfn 5 q (u)))
  skip
  refine qF uf27 fi27_3 nz3 (J q aj) q q ?_
  have bk := R H7.p1
  refine l u3 q bk q (J q aj) q q <| qF uf27 fi27_3 nz3 (J q aj) q q ?_
  have bl := R H7.p0
  refine l u3 q bl q (J q aj) q q <| A (J q aj) (qt_neq q q) q q <| A q (zf q aj q) q q ?_
  exact hk _ (p (by rw [aj]; rfl) (cfn 5 q (u)))
 refine qM q q q ?_
 refine zh 8 45 (.bool ((ar || (B3 != p1_3)) || ((List.length B4 : Int) != (List.length p1_4 : Int)))) ?_ (fun md hmd hk => ?_)
 rotate_left
 ·obtain ⟨K, rfl⟩ := zr hmd
  rcases btf (ar || (B3 != p1_3)) with ad | ad
  ·skip
   refine qS q ad q q <| qS q ad q q <| qS q ad q q <| qS q ad q q <| qS q ad q q <| qS q ad q q <| qS q ad q q <| A q (ze q ad q) q q ?_
   exact hk _ (p (by rw [ad]; rfl) (cfn 7 q (u)))
  skip
  refine qF uf27 fi27_4 nz25 (J q ad) q q ?_
  have bm := R H7.p1
  refine l u25 q bm q (J q ad) q q <| za H7.ctx (t := ty12) (C4.c.c) u25 (J q ad) q q <| qF uf27 fi27_4 nz25 (J q ad) q q ?_
  have bn := R H7.p0
  refine l u25 q bn q (J q ad) q q <| za H7.ctx (t := ty12) (hp1_4.c.c) u25 (J q ad) q q <| A (J q ad) (qt_neq q q) q q <| A q (zf q ad q) q q ?_
  exact hk _ (p (by rw [ad]; rfl) (cfn 7 q (u)))
 refine QL_nil fun a ha di bo => ?_
 have aM := H7.grow bo
 refine X (S ?_ ha)
 refine Y q (fun az => ?_) (fun az => ?_)
 ·have h := if_t az h
  refine rR <| qA q q q <| B <| W fun a ha => ?_
  obtain rfl := L h
  have bp := aM.q0.q0
  exact m (ret1 q ha q ⟨q, bp⟩)
 have h := if_f az h
 refine y <| C <| rR <| qA q q q <| B <| g ?_
 obtain ⟨au, bq, h⟩ := D h
 have br := aM.p1
 refine fun bs aN => zp (I := fun s a w2 => match s with | aO => (Fr a 117 [(2, pB b1), (3, pB b5), (5, iV aO)] ∧ Holds M0 w w2 [.bx b1 27 [A0, A1, A2, iV B3, A4], .bx b5 27 [A1_0, A1_1, A1_2, iV p1_3, A1_4]] G)) (O := fun o e a w2 => match o with | .inl _ => e = .exit 0 ∧ (Fr a 117 [(2, pB b1), (3, pB b5)] ∧ Holds M0 w w2 [.bx b1 27 [A0, A1, A2, iV B3, A4], .bx b5 27 [A1_0, A1_1, A1_2, iV p1_3, A1_4]] G) | .inr q0 => e = .ret ∧ (Fr a 117 [(4, .bool q0)] ∧ Holds M0 w w2 [] G)) bq ?_ ?_ ?_
 ·exact ⟨aN.sub ⟨q, q, q, trivial⟩, br⟩
 ·clear aN
  intro s dj a aP ah bt
  obtain ⟨aO, rfl⟩ : ∃ z, z = s := ⟨s, q⟩
  obtain ⟨ha, aq⟩ := bt
  refine S ?_ ha
  clear ha
  refine C <| rR <| qM q q q <| qF uf27 fi27_0 nz23 q q q ?_
  have bu := R aq.p0
  refine l u23 q bu q q q q <| za aq.ctx (t := ty10) (C0.c.c) u23 q q q <| A q (qt_lss q q) q q <| B ?_
  refine Y q (fun aA => ?_) (fun aA => ?_)
  ·have ah := if_t aA ah
   refine y <| C <| g <| C <| WP_quiet (by kernel_rfl) (by kernel_rfl) <| qF uf27 fi27_0 nz23 q q q ?_
   have bv := R aq.p0
   refine l u23 q bv q q q q <| qM q q q ?_
   obtain ⟨am, aQ, ah⟩ := D ah
   refine b aq.ctx (C0.c.c) aQ u23 i55 q q q q (fun dk dl dm bw => ?_)
   obtain ⟨dn, bz, bA⟩ := aq.atN (C0.c.c) aQ bw
   refine XL_load_agg (t := ty10) us55 uo55 i55 bz q q q (fun dq bB => ?_)
   obtain ⟨c61, c62, dr, ds, rfl, bC, bD, bE⟩ := bB
   obtain ⟨rfl, _⟩ := bD
   obtain ⟨c68, c69, dt, du, rfl, bF, bG, bH⟩ := bE
   obtain ⟨av, rfl, bI⟩ := Rep.sl_inv bG
   obtain ⟨rfl, _⟩ := bH
   have aB : Holds _ w aP [.ro ty2 av am.2.1, .bx b1 27 [A0, A1, A2, iV B3, A4], .bx b5 27 [A1_0, A1_1, A1_2, iV p1_3, A1_4]] G := bA [.ro ty2 av am.2.1] ⟨⟨_, _, _, _, q, bI, (fun k h => (fun k h => (fun _ h => h) k (by rw [bC]; exact zx _ h)) k (by rw [bF]; exact List.mem_append_left _ h))⟩, trivial⟩
   change XL _ _ _ _ _ ((57, .agg #[iV am.1, av, iV am.2.2]) :: _) _
   refine qF uf27 fi27_0 nz23 q q q ?_
   have bJ := R aB.p2
   refine l u23 q bJ q q q q <| qM q q q ?_
   obtain ⟨an, aR, ah⟩ := D ah
   refine b aB.ctx (hp1_0.c.c.c) aR u23 i55 q q q q (fun dv dw dx bK => ?_)
   obtain ⟨dy, bL, bM⟩ := aB.atN (hp1_0.c.c.c) aR bK
   refine XL_load_agg (t := ty10) us55 uo55 i55 bL q q q (fun dz bN => ?_)
   obtain ⟨c90, c91, dA, dB, rfl, bO, bP, bQ⟩ := bN
   obtain ⟨rfl, _⟩ := bP
   obtain ⟨c97, c98, dC, dD, rfl, bR, bS, bT⟩ := bQ
   obtain ⟨ax, rfl, bU⟩ := Rep.sl_inv bS
   obtain ⟨rfl, _⟩ := bT
   have aS : Holds _ w aP [.ro ty2 ax an.2.1, .ro ty2 av am.2.1, .bx b1 27 [A0, A1, A2, iV B3, A4], .bx b5 27 [A1_0, A1_1, A1_2, iV p1_3, A1_4]] G := bM [.ro ty2 ax an.2.1] ⟨⟨_, _, _, _, q, bU, (fun k h => (fun k h => (fun _ h => h) k (by rw [bO]; exact zx _ h)) k (by rw [bR]; exact List.mem_append_left _ h))⟩, trivial⟩
   change XL _ _ _ _ _ ((62, .agg #[iV an.1, ax, iV an.2.2]) :: _) _
   obtain ⟨bV, bW, ah⟩ := D ah
   refine QC q q c39 (fun w' hb => w_laws_sameItem w' _ am.1 av am.2.1 hR1 am.2.2 an.1 ax an.2.1 hR0 an.2.2 bV bW (aS.grow hb).ctx) (by rfl) <| A q (qt_not q) q q <| QL_nil fun a ha dE bX => ?_
   have aT := aS.grow bX
   refine X (S ?_ ha)
   refine Y q (fun aC => ?_) (fun aC => ?_)
   ·have ah := if_t aC ah
    refine rR <| qA q q q <| B <| W fun a ha => ?_
    obtain rfl := L ah
    have bY := aT.q0.q0.q0.q0
    exact zj (m (⟨ret_ne, q, ha.sub ⟨q, trivial⟩, bY⟩))
   have ah := if_f aC ah
   refine WP_skip fun a ha => ?_
   refine zi (X (S ?_ ha))
   refine Z <| qM q q q <| A q (qt_add q q) q q <| qA q q q <| WL_nil fun a ha => ?_
   obtain rfl := L ah
   have bZ := aT.q0.q0.p1.p1
   exact ⟨q, ha.sub ⟨q, q, q, trivial⟩, bZ⟩
  have ah := if_f aA ah
  refine WP_exit fun a ha => ?_
  obtain rfl := L ah
  have b0 := aq.p1.p1
  exact zo (⟨exit_ne, q, ha.sub ⟨q, q, trivial⟩, b0⟩)
 intro e bs dF aU
 rcases au with au | au
 ·skip
  obtain ⟨rfl, b4⟩ := aU
  obtain ⟨ha, b6⟩ := b4
  refine zn (X (S ?_ ha))
  refine C <| rR <| qA q q q <| B <| g ?_
  obtain ⟨aw, b7, h⟩ := D h
  have b8 := b6.p1.p1
  refine fun b9 aV => zp (I := fun s a w2 => match s with | aW => (Fr a 117 [(2, pB b1), (3, pB b5), (6, iV aW)] ∧ Holds M0 w w2 [.bx b1 27 [A0, A1, A2, iV B3, A4], .bx b5 27 [A1_0, A1_1, A1_2, iV p1_3, A1_4]] G)) (O := fun o e a w2 => match o with | .inl _ => e = .exit 2 ∧ (Fr a 117 [] ∧ Holds M0 w w2 [] G) | .inr q0 => e = .ret ∧ (Fr a 117 [(4, .bool q0)] ∧ Holds M0 w w2 [] G)) b7 ?_ ?_ ?_
  ·exact ⟨aV.sub ⟨q, q, q, trivial⟩, b8⟩
  ·clear aV
   intro s dG a ay ae ca
   obtain ⟨aW, rfl⟩ : ∃ z, z = s := ⟨s, q⟩
   obtain ⟨ha, ai⟩ := ca
   refine S ?_ ha
   clear ha
   refine C <| rR <| qM q q q <| qF uf27 fi27_4 nz25 q q q ?_
   have cb := R ai.p0
   refine l u25 q cb q q q q <| za ai.ctx (t := ty12) (C4.c.c) u25 q q q <| A q (qt_lss q q) q q <| B ?_
   refine Y q (fun aD => ?_) (fun aD => ?_)
   ·have ae := if_t aD ae
    refine y <| C <| g <| C <| WP_quiet (by kernel_rfl) (by kernel_rfl) <| qF uf27 fi27_4 nz25 q q q ?_
    have cc := R ai.p0
    refine l u25 q cc q q q q <| qM q q q ?_
    obtain ⟨cd, aX, ae⟩ := D ae
    refine b ai.ctx (C4.c.c) aX u25 i47 q q q q (fun dH dI dJ ce => ?_)
    refine qF uf47 fi47_0 nz3 q q q ?_
    obtain ⟨dK, cf, dL⟩ := ai.at (C4.c.c) aX ce
    obtain ⟨dM, cg, dN⟩ := AtP.fst cf
    refine zt (k := .i64) u3 q cg q q q <| qF uf27 fi27_4 nz25 q q q ?_
    have ch := R ai.p1
    refine l u25 q ch q q q q <| qM q q q ?_
    obtain ⟨ci, aY, ae⟩ := D ae
    refine b ai.ctx (hp1_4.c.c) aY u25 i47 q q q q (fun dO dP dQ cj => ?_)
    refine qF uf47 fi47_0 nz3 q q q ?_
    obtain ⟨dR, ck, dS⟩ := ai.at (hp1_4.c.c) aY cj
    obtain ⟨dT, cl, dU⟩ := AtP.fst ck
    refine zt (k := .i64) u3 q cl q q q <| A q (qt_neq q q) q q <| qM q q q ?_
    obtain ⟨aZ, ak, ae⟩ := D ae
    refine zh 15 100 (.bool aZ) ?_ (fun md hmd hk => ?_)
    rotate_left
    ·obtain ⟨K, rfl⟩ := zr hmd
     rcases btf (cd.1 != ci.1) with aa | aa
     ·skip
      refine qS q aa q q <| qS q aa q q <| qS q aa q q <| qS q aa q q <| qS q aa q q <| qS q aa q q <| qS q aa q q <| qS q aa q q <| qS q aa q q <| qS q aa q q ?_
      refine qS q aa q q <| qS q aa q q <| qS q aa q q <| qS q aa q q <| A q (ze q aa q) q q ?_
      exact hk _ (p (vb (if_t aa ak)) (cfn 14 q (u)))
     skip
     have ak := if_f aa ak
     refine qF uf27 fi27_4 nz25 (J q aa) q q ?_
     have cm := R ai.p0
     refine l u25 q cm q (J q aa) q q <| qM (J q aa) q q ?_
     obtain ⟨aE, a0, ak⟩ := D ak
     refine b ai.ctx (C4.c.c) a0 u25 i47 (J q aa) q q q (fun dV dW dX cn => ?_)
     refine qF uf47 fi47_1 nz45 (J q aa) q q ?_
     obtain ⟨dY, co, cp⟩ := ai.at (C4.c.c) a0 cn
     obtain ⟨dZ, cq, cr⟩ := AtP.snd co
     obtain ⟨d0, ct, cu⟩ := AtP.fst cq
     refine XL_load (t := ty4) u45 q q ct (J q aa) q q (fun aF cv => ?_)
     have aG : Holds _ w ay [.ro ty2 aF aE.2.1, .bx b1 27 [A0, A1, A2, iV B3, A4], .bx b5 27 [A1_0, A1_1, A1_2, iV p1_3, A1_4]] G := cp _ _ _ _ cv (fun k h => (fun k h => (fun _ h => h) k (cr k h)) k (cu k h))
     refine qF uf27 fi27_4 nz25 (J q aa) q q ?_
     have cw := R aG.p2
     refine l u25 q cw q (J q aa) q q <| qM (J q aa) q q ?_
     obtain ⟨a1, a2, ak⟩ := D ak
     refine b aG.ctx (hp1_4.c.c.c) a2 u25 i47 (J q aa) q q q (fun d1 d2 d3 cx => ?_)
     refine qF uf47 fi47_1 nz45 (J q aa) q q ?_
     obtain ⟨d4, cy, cz⟩ := aG.at (hp1_4.c.c.c) a2 cx
     obtain ⟨d5, cA, cB⟩ := AtP.snd cy
     obtain ⟨d6, cC, cD⟩ := AtP.fst cA
     refine XL_load (t := ty4) u45 q q cC (J q aa) q q (fun a3 cE => ?_)
     have cF : Holds _ w ay [.ro ty2 a3 a1.2.1, .ro ty2 aF aE.2.1, .bx b1 27 [A0, A1, A2, iV B3, A4], .bx b5 27 [A1_0, A1_1, A1_2, iV p1_3, A1_4]] G := cz _ _ _ _ cE (fun k h => (fun k h => (fun _ h => h) k (cB k h)) k (cD k h))
     obtain ⟨cG, cH, ak⟩ := D ak
     refine QC (J q aa) q c40 (fun w' hb => w_laws_sameTicket w' _ aF aE.2.1 hR1 a3 a1.2.1 hR0 cG cH (cF.grow hb).ctx) (by rfl) <| A (J q aa) (qt_not q) q q <| A q (zf q aa q) q q ?_
     exact hk _ (p (vb ak) (cfn 14 q (u)))
    refine qM q q q ?_
    obtain ⟨cI, al, ae⟩ := D ae
    refine zh 15 116 (.bool cI) ?_ (fun md hmd hk => ?_)
    rotate_left
    ·obtain ⟨K, rfl⟩ := zr hmd
     rcases btf aZ with ab | ab
     ·skip
      refine qS q ab q q <| qS q ab q q <| qS q ab q q <| qS q ab q q <| qS q ab q q <| qS q ab q q <| qS q ab q q <| qS q ab q q <| qS q ab q q <| qS q ab q q ?_
      refine qS q ab q q <| qS q ab q q <| qS q ab q q <| qS q ab q q <| A q (ze q ab q) q q ?_
      exact hk _ (p (vb (if_t ab al)) (cfn 14 q (u)))
     skip
     have al := if_f ab al
     refine qF uf27 fi27_4 nz25 (J q ab) q q ?_
     have cJ := R ai.p0
     refine l u25 q cJ q (J q ab) q q <| qM (J q ab) q q ?_
     obtain ⟨aH, a4, al⟩ := D al
     refine b ai.ctx (C4.c.c) a4 u25 i47 (J q ab) q q q (fun d7 d8 d9 cK => ?_)
     refine qF uf47 fi47_2 nz24 (J q ab) q q ?_
     obtain ⟨ea, cL, cM⟩ := ai.at (C4.c.c) a4 cK
     obtain ⟨eb, cN, cO⟩ := AtP.snd cL
     obtain ⟨ec, cP, cQ⟩ := AtP.snd cN
     refine XL_load (t := (.slice tI)) u24 q q cP (J q ab) q q (fun aI cR => ?_)
     have aJ : Holds _ w ay [.ro tI aI aH.2.2, .bx b1 27 [A0, A1, A2, iV B3, A4], .bx b5 27 [A1_0, A1_1, A1_2, iV p1_3, A1_4]] G := cM _ _ _ _ cR (fun k h => (fun k h => (fun _ h => h) k (cO k h)) k (cQ k h))
     refine qF uf27 fi27_4 nz25 (J q ab) q q ?_
     have cS := R aJ.p2
     refine l u25 q cS q (J q ab) q q <| qM (J q ab) q q ?_
     obtain ⟨a5, a6, al⟩ := D al
     refine b aJ.ctx (hp1_4.c.c.c) a6 u25 i47 (J q ab) q q q (fun ed ee ef cT => ?_)
     refine qF uf47 fi47_2 nz24 (J q ab) q q ?_
     obtain ⟨eg, cU, cV⟩ := aJ.at (hp1_4.c.c.c) a6 cT
     obtain ⟨eh, cW, cX⟩ := AtP.snd cU
     obtain ⟨ei, cY, cZ⟩ := AtP.snd cW
     refine XL_load (t := (.slice tI)) u24 q q cY (J q ab) q q (fun a7 c0 => ?_)
     have c1 : Holds _ w ay [.ro tI a7 a5.2.2, .ro tI aI aH.2.2, .bx b1 27 [A0, A1, A2, iV B3, A4], .bx b5 27 [A1_0, A1_1, A1_2, iV p1_3, A1_4]] G := cV _ _ _ _ c0 (fun k h => (fun k h => (fun _ h => h) k (cX k h)) k (cZ k h))
     obtain ⟨c2, c3, al⟩ := D al
     refine QC (J q ab) q c19 (fun w' hb => w_laws_sameInts w' _ aI aH.2.2 hR1 a7 a5.2.2 hR0 c2 c3 (c1.grow hb).ctx) (by rfl) <| A (J q ab) (qt_not q) q q <| A q (zf q ab q) q q ?_
     exact hk _ (p (vb al) (cfn 14 q (u)))
    refine QL_nil fun a ha ej c4 => ?_
    have a8 := ai.grow c4
    refine X (S ?_ ha)
    refine Y q (fun aK => ?_) (fun aK => ?_)
    ·have ae := if_t aK ae
     refine rR <| qA q q q <| B <| W fun a ha => ?_
     obtain rfl := L ae
     have c5 := a8.q0.q0
     exact zj (m (⟨ret_ne, q, ha.sub ⟨q, trivial⟩, c5⟩))
    have ae := if_f aK ae
    refine WP_skip fun a ha => ?_
    refine zi (X (S ?_ ha))
    refine Z <| qM q q q <| A q (qt_add q q) q q <| qA q q q <| WL_nil fun a ha => ?_
    obtain rfl := L ae
    have da := a8.p1.p1
    exact ⟨q, ha.sub ⟨q, q, q, trivial⟩, da⟩
   have ae := if_f aD ae
   refine WP_exit fun a ha => ?_
   obtain rfl := L ae
   have db := ai.q0.q0
   exact zo (⟨exit_ne, q, ha.sub trivial, db⟩)
  intro e b9 ek a9
  rcases aw with aw | aw
  ·skip
   obtain ⟨rfl, dc⟩ := a9
   obtain ⟨ha, dd⟩ := dc
   refine zn (X (S ?_ ha))
   refine rR <| qA q q q <| B <| W fun a ha => ?_
   obtain rfl := L h
   exact ret1 q ha q ⟨q, dd⟩
  skip
  obtain ⟨el, rfl⟩ : ∃ z, z = aw := ⟨aw, q⟩
  obtain ⟨rfl, de⟩ := a9
  obtain ⟨ha, df⟩ := de
  obtain rfl := L h
  exact zj (m (ret1 q ha q ⟨q, df⟩))
 skip
 obtain ⟨em, rfl⟩ : ∃ z, z = au := ⟨au, q⟩
 obtain ⟨rfl, dg⟩ := aU
 obtain ⟨ha, dh⟩ := dg
 obtain rfl := L h
 exact zj (m (ret1 q ha q ⟨q, dh⟩))
theorem w_impl_HouseWorth (w : World) (G : List Res) (A0 : Value) (B0 : LI) (C0 : Has G ty10 A0 B0) (A1 : Value) (B1 : List Int) (C1 : Has G tI A1 B1) (A2 : Value) (B2 : List Int) (C2 : Has G tI A2 B2) (B3 : Int) (A4 : Value) (B4 : LT) (C4 : Has G ty12 A4 B4) (r : Int) (h : impl_HouseWorthS B0 B1 B2 B3 B4 = some r) (H : Ctx w G) : Calls Tryz.prog 12 #[.agg #[A0, A1, A2, iV B3, A4]] w fun e w' => e = .returned (iV r) ∧ Holds M0 w w' [] G := by
 have H : Holds M0 w w [] G := zb H
 refine zg (args := [.agg #[A0, A1, A2, iV B3, A4]]) (n := 23) Tryz.func12 q q q ?_
 unfold impl_HouseWorthS at h
 refine C <| Z ?_
 refine WL_box (cs := [A0, A1, A2, iV B3, A4]) H q q q q (fun b1 w2 H3 => ?_)
 refine qA q q q <| B <| C <| C <| zk ?_
 have ak := R H3.p0
 refine zm (cs := [A0, A1, A2, iV B3, A4]) us27 uo27 il27 ak q q q ?_
 change XL _ _ _ _ _ ((5, .agg #[A0, A1, A2, iV B3, A4]) :: _) _
 obtain ⟨x6, al, h⟩ := D h
 refine QC q q c10 (fun w' hb => w_impl_HouseValid w' _ A0 B0 (C0.c) A1 B1 (C1.c) A2 B2 (C2.c) B3 A4 B4 (C4.c) x6 al (H3.grow hb).ctx) (by rfl) <| A q (qt_not q) q q <| QL_nil fun a ha w8 am => ?_
 have ab := H3.grow am
 refine X (S ?_ ha)
 refine Y q (fun ae => ?_) (fun ae => ?_)
 ·have h := if_t ae h
  refine rR <| qA q q q <| B <| W fun a ha => ?_
  obtain rfl := L h
  have an := ab.q0
  exact m (ret1 q ha q ⟨q, an⟩)
 have h := if_f ae h
 refine y <| rR <| qF uf27 fi27_3 nz3 q q q ?_
 have ao := R ab.p0
 refine l u3 q ao q q q q <| qA q q q <| B <| C <| rR <| qF uf27 fi27_4 nz25 q q q ?_
 have ap := R ab.p0
 refine l u25 q ap q q q q <| za ab.ctx (t := ty12) (C4.c) u25 q q q <| qM q q q <| B <| g ?_
 obtain ⟨ah, aq, h⟩ := D h
 refine fun ar ai => zp (I := fun s a w2 => match s with | (aj, af) => (Fr a 23 [(1, pB b1), (3, iV aj), (12, iV (List.length B4 : Int)), (13, iV af)] ∧ Holds M0 w w2 [.bx b1 27 [A0, A1, A2, iV B3, A4]] G)) (O := fun o e a w2 => match o with | q0 => e = .exit 0 ∧ (Fr a 23 [(3, iV q0)] ∧ Holds M0 w w2 [] G)) aq ?_ ?_ ?_
 ·exact ⟨ai.sub ⟨q, q, q, q, trivial⟩, ab⟩
 ·clear ai
  intro s aE a aF aa au
  obtain ⟨aj, af⟩ := s
  obtain ⟨ha, ad⟩ := au
  refine S ?_ ha
  clear ha
  refine rR <| A q (qt_lss q q) q q <| B <| C ?_
  refine Y q (fun ag => ?_) (fun ag => ?_)
  ·have aa := if_t ag aa
   refine y <| C <| g <| rR <| qM q q q <| qA q q q <| B <| zk <| qM q q q ?_
   have av := R ad.p0
   refine zm (cs := [A0, A1, A2, iV B3, A4]) us27 uo27 il27 av q q q ?_
   change XL _ _ _ _ _ ((17, .agg #[A0, A1, A2, iV B3, A4]) :: _) _
   refine qM q q q ?_
   obtain ⟨aw, ax, aa⟩ := D aa
   refine QC q q c45 (fun w' hb => w_impl_TableBill w' _ A0 B0 (C0.c) A1 B1 (C1.c) A2 B2 (C2.c) B3 A4 B4 (C4.c) af aw ax (ad.grow hb).ctx) (by rfl) <| A q (qt_add q q) q q <| qA q q q <| QL_nil fun a ha aG ay => ?_
   have az := ad.grow ay
   refine zi (X (S ?_ ha))
   refine Z <| A q (qt_add q q) q q <| qM q q q <| WL_nil fun a ha => ?_
   obtain rfl := L aa
   exact ⟨q, ha.sub ⟨q, q, q, q, trivial⟩, az⟩
  have aa := if_f ag aa
  refine WP_exit fun a ha => ?_
  obtain rfl := L aa
  have aA := ad.q0
  exact zo (⟨exit_ne, q, ha.sub ⟨q, trivial⟩, aA⟩)
 intro e ar aH aB
 obtain ⟨aI, rfl⟩ : ∃ z, z = ah := ⟨ah, q⟩
 obtain ⟨rfl, aC⟩ := aB
 obtain ⟨ha, aD⟩ := aC
 refine zn (X (S ?_ ha))
 refine rR <| qM q q q <| qA q q q <| B <| W fun a ha => ?_
 obtain rfl := L h
 exact ret1 q ha q ⟨q, aD⟩
theorem w_laws_FnHouseDo (w : World) (G : List Res) (hGl : Glob G) (vp0 : Value) (p0 : List Int) (hp0 : HasRo G (.int .u8) vp0 p0) (r : Bool) (h : laws_FnHouseDoS p0 = some r) (H : Ctx w G) : Calls Tryz.prog 3 #[vp0] w fun e w' => e = .returned (.bool r) ∧ Holds M0 w w' [] G := by
 have H : Holds M0 w w [] G := zb H
 refine zg (args := [vp0]) (n := 100) Tryz.func3 q q q ?_
 unfold laws_FnHouseDoS at h
 refine rR <| qA q q q <| B <| C <| rR <| qM q q q <| za H.ctx (t := (.int .u8)) (hp0.has) u22 q q q <| A q (qt_gtr q q) q q ?_
 refine B ?_
 refine Y q (fun aL => ?_) (fun aL => ?_)
 ·have h := if_t aL h
  refine rR <| qA q q q <| B <| W fun a ha => ?_
  obtain rfl := L h
  exact m (ret1 q ha q ⟨q, H⟩)
 have h := if_f aL h
 refine y <| rR <| qM q q q ?_
 obtain ⟨x2, a0, h⟩ := D h
 refine zd q q c6 (w_spec_DrawHouseDo w G vp0 p0 (hp0) x2 a0 H.ctx) (by rfl) ?_
 rintro _ w4 ⟨v6, v7, v8, v9, rfl, H5⟩; refine ⟨_, q, ?_⟩
 have a1 := H.cN4 [] H5
 refine qM q q q <| A q (zv q q) q q <| A q (zv q q) q q ?_
 refine zq (cs := [nS, nS, nS, iV 0, nS]) a1 z27 q q q (fun aR cc a2 => ?_)
 refine zq (cs := [iV 0, iV 0, iV 0, iV 0]) a2 z29 q q q (fun aS cd a3 => ?_)
 have aA := a3.p1
 refine zl (cs' := [v6, v7, v8, iV x2.1.2.2.2.1, v9]) aA q il27 q (T (aA.ctx.sliceOne hS2) (T (aA.ctx.sliceOne hS3) (T (aA.ctx.sliceOne hS4) (T q (T (aA.ctx.sliceOne hS5) q))))) q q q (fun ce a4 => ?_)
 have a5 := a4.p1
 refine zl (cs' := [iV x2.2.1, iV x2.2.2.1, iV x2.2.2.2.1, iV x2.2.2.2.2]) a5 q il29 q q q q q (fun a6 aD => ?_)
 refine B <| C <| Z ?_
 have a7 := R aD.p1
 refine zm (cs := [v6, v7, v8, iV x2.1.2.2.2.1, v9]) us27 uo27 il27 a7 q q q ?_
 change XL _ _ _ _ _ ((19, .agg #[v6, v7, v8, iV x2.1.2.2.2.1, v9]) :: _) _
 have a8 := R aD.p0
 refine zm (cs := [iV x2.2.1, iV x2.2.2.1, iV x2.2.2.2.1, iV x2.2.2.2.2]) us29 uo29 il29 a8 q q q ?_
 change XL _ _ _ _ _ ((20, .agg #[iV x2.2.1, iV x2.2.2.1, iV x2.2.2.2.1, iV x2.2.2.2.2]) :: _) _
 obtain ⟨aa, a9, h⟩ := D h
 refine zd q q c7 (w_impl_HouseDo a6 _ hGl.c.c.c.c.c.c v6 x2.1.1 hS2 v7 x2.1.2.1 hS3 v8 x2.1.2.2.1 hS4 x2.1.2.2.2.1 v9 x2.1.2.2.2.2 hS5 x2.2.1 x2.2.2.1 x2.2.2.2.1 x2.2.2.2.2 aa a9 aD.ctx) (by rfl) ?_
 rintro _ cf ⟨ae, cg, ch, af, ab, ad, ba, bb, rfl, bc⟩; refine ⟨_, q, ?_⟩
 have bd := aD.cN4 [] bc
 refine qM q q q <| A q (zv q q) q q <| A q (zv q q) q q ?_
 refine zq (cs := [nS, nS, nS, iV 0, nS]) bd z27 q q q (fun aT ci aU => ?_)
 have aE := aU.viewG (Vw.c (Vw.d (Vw.c (Vw.c (Vw.d (Vw.c (Vw.c (Vw.c (Vw.c (Vw.c (Vw.c Vw.refl)))))))))))
 refine zl (cs' := [ae, af, ab, iV aa.1.2.2.2.1, ad]) aU q il27 q (T (aE.sliceOne hR1) (T (aE.sliceOne hS2) (T (aE.sliceOne hS3) (T q (T (aE.sliceOne hR4) q))))) q q q (fun aM aN => ?_)
 refine qA q q q <| B <| C <| Z ?_
 have be := R aN.p6
 refine zm (cs := [v6, v7, v8, iV x2.1.2.2.2.1, v9]) us27 uo27 il27 be q q q ?_
 change XL _ _ _ _ _ ((25, .agg #[v6, v7, v8, iV x2.1.2.2.2.1, v9]) :: _) _
 have bf := R aN.p5
 refine zm (cs := [iV x2.2.1, iV x2.2.2.1, iV x2.2.2.2.1, iV x2.2.2.2.2]) us29 uo29 il29 bf q q q ?_
 change XL _ _ _ _ _ ((26, .agg #[iV x2.2.1, iV x2.2.2.1, iV x2.2.2.2.1, iV x2.2.2.2.2]) :: _) _
 have bg := aN.p1
 have bh : Holds _ w aM [.ro ty10 ae aa.1.1, .bx aT 27 [ae, af, ab, iV aa.1.2.2.2.1, ad], .sl 3 tI af aa.1.2.1, .sl 3 tI ab aa.1.2.2.1, dpR 47 dt14 ad ba aa.1.2.2.2.2 bb, .bx aS 29 [iV x2.2.1, iV x2.2.2.1, iV x2.2.2.2.1, iV x2.2.2.2.2], .bx aR 27 [v6, v7, v8, iV x2.1.2.2.2.1, v9], .sl 55 ty10 v6 x2.1.1, .sl 3 tI v7 x2.1.2.1, .sl 3 tI v8 x2.1.2.2.1, .sl 47 ty12 v9 x2.1.2.2.2.2] G := bg.freezeD
 have bi := bh.p4
 have aV : Holds _ w aM [.ro ty12 ad aa.1.2.2.2.2, .ro ty10 ae aa.1.1, .bx aT 27 [ae, af, ab, iV aa.1.2.2.2.1, ad], .sl 3 tI af aa.1.2.1, .sl 3 tI ab aa.1.2.2.1, .bx aS 29 [iV x2.2.1, iV x2.2.2.1, iV x2.2.2.2.1, iV x2.2.2.2.2], .bx aR 27 [v6, v7, v8, iV x2.1.2.2.2.1, v9], .sl 55 ty10 v6 x2.1.1, .sl 3 tI v7 x2.1.2.1, .sl 3 tI v8 x2.1.2.2.1, .sl 47 ty12 v9 x2.1.2.2.2.2] G := bi.freezeD
 obtain ⟨aq, bj, h⟩ := D h
 refine zd q q c8 (w_spec_HouseDo aM _ v6 x2.1.1 hS7 v7 x2.1.2.1 hS8 v8 x2.1.2.2.1 hS9 x2.1.2.2.2.1 v9 x2.1.2.2.2.2 hS10 x2.2.1 x2.2.2.1 x2.2.2.2.1 x2.2.2.2.2 aq bj aV.ctx) (by rfl) ?_
 rintro _ cj ⟨aF, aG, aH, aI, rfl, bk⟩; refine ⟨_, q, ?_⟩
 have bl := aV.cN4 [] bk
 refine qM q q q <| A q (zv q q) q q <| A q (zv q q) q q ?_
 refine zq (cs := [nS, nS, nS, iV 0, nS]) bl z27 q q q (fun ck cl aB => ?_)
 refine zl (cs' := [aF, aG, aH, iV aq.1.2.2.2.1, aI]) aB q il27 q (T (aB.ctx.sliceOne hS1) (T (aB.ctx.sliceOne hS2) (T (aB.ctx.sliceOne hS3) (T q (T (aB.ctx.sliceOne hS4) q))))) q q q (fun cm aJ => ?_)
 refine qA q q q <| B <| C <| C <| zk ?_
 have bm := R aJ.p7
 refine zm (cs := [ae, af, ab, iV aa.1.2.2.2.1, ad]) us27 uo27 il27 bm q q q ?_
 change XL _ _ _ _ _ ((30, .agg #[ae, af, ab, iV aa.1.2.2.2.1, ad]) :: _) _
 have bn := R aJ.p0
 refine zm (cs := [aF, aG, aH, iV aq.1.2.2.2.1, aI]) us27 uo27 il27 bn q q q ?_
 change XL _ _ _ _ _ ((31, .agg #[aF, aG, aH, iV aq.1.2.2.2.1, aI]) :: _) _
 obtain ⟨aO, bo, h⟩ := D h
 refine QC q q c9 (fun w' hb => w_laws_sameHouse w' _ ae aa.1.1 hR6 af aa.1.2.1 hS8 ab aa.1.2.2.1 hS9 aa.1.2.2.2.1 ad aa.1.2.2.2.2 hR5 aF aq.1.1 hS1 aG aq.1.2.1 hS2 aH aq.1.2.2.1 hS3 aq.1.2.2.2.1 aI aq.1.2.2.2.2 hS4 aO bo (aJ.grow hb).ctx) (by rfl) <| A q (qt_not q) q q <| qM q q q ?_
 refine zh 4 38 (.bool ((!aO) || (!(aa.2 == aq.2)))) ?_ (fun md hmd hk => ?_)
 rotate_left
 ·obtain ⟨K, rfl⟩ := zr hmd
  rcases btf (!aO) with an | an
  ·skip
   refine qS q an q q <| qS q an q q <| qS q an q q <| A q (ze q an q) q q ?_
   exact hk _ (p (by rw [an]; rfl) (cfn 3 q (u)))
  skip
  refine qM (J q an) q q <| qM (J q an) q q <| A (J q an) (qt_bneq u4 q q) q q <| A q (zf q an q) q q ?_
  exact hk _ (p (by rw [an]; rfl) (cfn 3 q (u)))
 refine QL_nil fun a ha cn bp => ?_
 have ag := aJ.grow bp
 refine X (S ?_ ha)
 refine Y q (fun aP => ?_) (fun aP => ?_)
 ·have h := if_t aP h
  refine rR <| qA q q q <| B <| W fun a ha => ?_
  obtain rfl := L h
  have bq := ag.q0.q0.q0.q0.q0.q0.q0.q0.q0.q0.q0.q0.q0.q0.q0.q0
  exact m (ret1 q ha q ⟨q, bq⟩)
 have h := if_f aP h
 refine y <| C <| rR <| qM q q q <| A q (qt_not q) q q <| B ?_
 refine Y q (fun aQ => ?_) (fun aQ => ?_)
 ·have h := if_t aQ h
  refine C <| zk ?_
  have br := R ag.p7
  refine zm (cs := [ae, af, ab, iV aa.1.2.2.2.1, ad]) us27 uo27 il27 br q q q ?_
  change XL _ _ _ _ _ ((41, .agg #[ae, af, ab, iV aa.1.2.2.2.1, ad]) :: _) _
  have bs := R ag.p11
  refine zm (cs := [v6, v7, v8, iV x2.1.2.2.2.1, v9]) us27 uo27 il27 bs q q q ?_
  change XL _ _ _ _ _ ((42, .agg #[v6, v7, v8, iV x2.1.2.2.2.1, v9]) :: _) _
  obtain ⟨aW, bt, h⟩ := D h
  refine QC q q c9 (fun w' hb => w_laws_sameHouse w' _ ae aa.1.1 hR6 af aa.1.2.1 hS8 ab aa.1.2.2.1 hS9 aa.1.2.2.2.1 ad aa.1.2.2.2.2 hR5 v6 x2.1.1 hS12 v7 x2.1.2.1 hS13 v8 x2.1.2.2.1 hS14 x2.1.2.2.2.1 v9 x2.1.2.2.2.2 hS15 aW bt (ag.grow hb).ctx) (by rfl) <| qM q q q ?_
  obtain ⟨aX, av, h⟩ := D h
  refine zh 4 48 (.bool aX) ?_ (fun md hmd hk => ?_)
  rotate_left
  ·obtain ⟨K, rfl⟩ := zr hmd
   rcases btf aW with ao | ao
   ·skip
    refine qS q ao q q <| qS q ao q q <| qS q ao q q <| A q (ze q ao q) q q ?_
    exact hk _ (p (vb (if_t ao av)) (cfn 3 q (u)))
   skip
   have av := if_f ao av
   have bu := R ag.p11
   refine zm (cs := [v6, v7, v8, iV x2.1.2.2.2.1, v9]) us27 uo27 il27 bu (J q ao) q q ?_
   change XL _ _ _ _ _ ((45, .agg #[v6, v7, v8, iV x2.1.2.2.2.1, v9]) :: _) _
   obtain ⟨bv, bw, av⟩ := D av
   refine QC (J q ao) q c10 (fun w' hb => w_impl_HouseValid w' _ v6 x2.1.1 hS12 v7 x2.1.2.1 hS13 v8 x2.1.2.2.1 hS14 x2.1.2.2.2.1 v9 x2.1.2.2.2.2 hS15 bv bw (ag.grow hb).ctx) (by rfl) <| A (J q ao) (qt_not q) q q <| A q (zf q ao q) q q ?_
   exact hk _ (p (vb av) (cfn 3 q (u)))
  refine qM q q q ?_
  obtain ⟨bz, aw, h⟩ := D h
  refine zh 2 51 (.bool bz) ?_ (fun md hmd hk => ?_)
  rotate_left
  ·obtain ⟨K, rfl⟩ := zr hmd
   rcases btf aX with au | au
   ·skip
    have aw := if_t au aw
    obtain ⟨bA, bB, aw⟩ := D aw
    refine QC (J q au) q c11 (fun w' hb => w_laws_alive w' _  bA bB (ag.grow hb).ctx) (by rfl) <| A q (ze q au q) q q ?_
    exact hk _ (p (vb aw) (Cov.fresh q (u)))
   skip
   refine qS q au q q <| A q (zf q au q) q q ?_
   exact hk _ (p (vb (if_f au aw)) (Cov.fresh q (u)))
  refine qA q q q <| QL_nil fun a ha co bC => ?_
  have bD := ag.grow bC
  refine X (S ?_ ha)
  refine W fun a ha => ?_
  obtain rfl := L h
  have bE := bD.q0.q0.q0.q0.q0.q0.q0.q0.q0.q0.q0.q0.q0.q0.q0.q0
  exact m (ret1 q ha q ⟨q, bE⟩)
 have h := if_f aQ h
 refine y <| rR <| qF uf27 fi27_0 nz23 q q q ?_
 have bF := R ag.p11
 refine l u23 q bF q q q q <| qF uf27 fi27_1 nz24 q q q ?_
 have bG := R ag.p11
 refine l u24 q bG q q q q <| qF uf27 fi27_2 nz24 q q q ?_
 have bH := R ag.p7
 refine l u24 q bH q q q q <| qF uf27 fi27_3 nz3 q q q ?_
 have bI := R ag.p7
 refine l u3 q bI q q q q <| qF uf27 fi27_4 nz25 q q q ?_
 have bJ := R ag.p7
 refine l u25 q bJ q q q q <| A q (qt_build (args := [(0, .tmp 53), (1, .tmp 55), (2, .tmp 57), (3, .tmp 59), (4, .tmp 61)]) (css := [#[v6], #[v7], #[ab], #[iV aa.1.2.2.2.1], #[ad]]) (cells := #[v6, v7, ab, iV aa.1.2.2.2.1, ad]) q ⟨(ag.ctx.sliceCells hS12), (ag.ctx.sliceCells hS13), (ag.ctx.sliceCells hS9), q, (ag.ctx.sliceCells hR5), trivial⟩ (by kernel_rfl)) q q ?_
 refine zq (cs := [nS, nS, nS, iV 0, nS]) ag z27 q q q (fun cp cq aC => ?_)
 refine zl (cs' := [v6, v7, ab, iV aa.1.2.2.2.1, ad]) aC q il27 q (T (aC.ctx.sliceOne hS13) (T (aC.ctx.sliceOne hS14) (T (aC.ctx.sliceOne hS10) (T q (T (aC.ctx.sliceOne hR6) q))))) q q q (fun cr ah => ?_)
 refine B <| C <| WP_quiet (by kernel_rfl) (by kernel_rfl) ?_
 have bK := R ah.p8
 refine zm (cs := [ae, af, ab, iV aa.1.2.2.2.1, ad]) us27 uo27 il27 bK q q q ?_
 change XL _ _ _ _ _ ((63, .agg #[ae, af, ab, iV aa.1.2.2.2.1, ad]) :: _) _
 obtain ⟨aY, bL, h⟩ := D h
 refine QC q q c10 (fun w' hb => w_impl_HouseValid w' _ ae aa.1.1 hR7 af aa.1.2.1 hS9 ab aa.1.2.2.1 hS10 aa.1.2.2.2.1 ad aa.1.2.2.2.2 hR6 aY bL (ah.grow hb).ctx) (by rfl) <| qM q q q ?_
 obtain ⟨aZ, ax, h⟩ := D h
 refine zh 5 70 (.bool aZ) ?_ (fun md hmd hk => ?_)
 rotate_left
 ·obtain ⟨K, rfl⟩ := zr hmd
  rcases btf aY with am | am
  ·skip
   have ax := if_t am ax
   have bM := R ah.p8
   refine zm (cs := [ae, af, ab, iV aa.1.2.2.2.1, ad]) us27 uo27 il27 bM (J q am) q q ?_
   change XL _ _ _ _ _ ((66, .agg #[ae, af, ab, iV aa.1.2.2.2.1, ad]) :: _) _
   have bN := R ah.p12
   refine zm (cs := [v6, v7, v8, iV x2.1.2.2.2.1, v9]) us27 uo27 il27 bN (J q am) q q ?_
   change XL _ _ _ _ _ ((67, .agg #[v6, v7, v8, iV x2.1.2.2.2.1, v9]) :: _) _
   obtain ⟨bO, bP, ax⟩ := D ax
   refine QC (J q am) q c9 (fun w' hb => w_laws_sameHouse w' _ ae aa.1.1 hR7 af aa.1.2.1 hS9 ab aa.1.2.2.1 hS10 aa.1.2.2.2.1 ad aa.1.2.2.2.2 hR6 v6 x2.1.1 hS13 v7 x2.1.2.1 hS14 v8 x2.1.2.2.1 hS15 x2.1.2.2.2.1 v9 x2.1.2.2.2.2 hS16 bO bP (ah.grow hb).ctx) (by rfl) <| A (J q am) (qt_not q) q q <| A q (ze q am q) q q ?_
   exact hk _ (p (vb ax) (cfn 4 q (u)))
  skip
  refine qS q am q q <| qS q am q q <| qS q am q q <| qS q am q q <| A q (zf q am q) q q ?_
  exact hk _ (p (vb (if_f am ax)) (cfn 4 q (u)))
 refine qM q q q ?_
 obtain ⟨aK, ay, h⟩ := D h
 refine zh 4 75 (.bool aK) ?_ (fun md hmd hk => ?_)
 rotate_left
 ·obtain ⟨K, rfl⟩ := zr hmd
  rcases btf aZ with ap | ap
  ·skip
   have ay := if_t ap ay
   have bQ := R ah.p0
   refine zm (cs := [v6, v7, ab, iV aa.1.2.2.2.1, ad]) us27 uo27 il27 bQ (J q ap) q q ?_
   change XL _ _ _ _ _ ((72, .agg #[v6, v7, ab, iV aa.1.2.2.2.1, ad]) :: _) _
   have bR := R ah.p8
   refine zm (cs := [ae, af, ab, iV aa.1.2.2.2.1, ad]) us27 uo27 il27 bR (J q ap) q q ?_
   change XL _ _ _ _ _ ((73, .agg #[ae, af, ab, iV aa.1.2.2.2.1, ad]) :: _) _
   obtain ⟨bS, bT, ay⟩ := D ay
   refine QC (J q ap) q c9 (fun w' hb => w_laws_sameHouse w' _ v6 x2.1.1 hS13 v7 x2.1.2.1 hS14 ab aa.1.2.2.1 hS10 aa.1.2.2.2.1 ad aa.1.2.2.2.2 hR6 ae aa.1.1 hR7 af aa.1.2.1 hS9 ab aa.1.2.2.1 hS10 aa.1.2.2.2.1 ad aa.1.2.2.2.2 hR6 bS bT (ah.grow hb).ctx) (by rfl) <| A q (ze q ap q) q q ?_
   exact hk _ (p (vb ay) (cfn 3 q (u)))
  skip
  refine qS q ap q q <| qS q ap q q <| qS q ap q q <| A q (zf q ap q) q q ?_
  exact hk _ (p (vb (if_f ap ay)) (cfn 3 q (u)))
 refine qM q q q ?_
 refine zh 11 87 (.bool (aK && ((x2.2.1 == 0) || (decide (aa.1.2.2.2.1 ≥ x2.1.2.2.2.1))))) ?_ (fun md hmd hk => ?_)
 rotate_left
 ·obtain ⟨K, rfl⟩ := zr hmd
  rcases btf aK with ai | ai
  ·skip
   refine qF uf29 fi29_0 nz3 (J q ai) q q ?_
   have bU := R ah.p11
   refine l u3 q bU q (J q ai) q q <| A (J q ai) (qt_eql q q) q q <| qM (J q ai) q q ?_
   refine zh 6 86 (.bool ((x2.2.1 == 0) || (decide (aa.1.2.2.2.1 ≥ x2.1.2.2.2.1)))) ?_ (fun md hmd hk => ?_)
   rotate_left
   ·obtain ⟨K, rfl⟩ := zr hmd
    rcases btf (x2.2.1 == 0) with ak | ak
    ·skip
     refine qS q ak q q <| qS q ak q q <| qS q ak q q <| qS q ak q q <| qS q ak q q <| A (J q ai) (ze q ak q) q q ?_
     exact hk _ (p (by rw [ak]; rfl) (cfn 5 q (u)))
    skip
    refine qF uf27 fi27_3 nz3 (J q ak) q q ?_
    have bV := R ah.p8
    refine l u3 q bV q (J q ak) q q <| qF uf27 fi27_3 nz3 (J q ak) q q ?_
    have bW := R ah.p12
    refine l u3 q bW q (J q ak) q q <| A (J q ak) (qt_geq q q) q q <| A (J q ai) (zf q ak q) q q ?_
    exact hk _ (p (by rw [ak]; rfl) (cfn 5 q (u)))
   refine A q (ze q ai q) q q ?_
   exact hk _ (p (by rw [ai]; rfl) (cfn 5 q (u)))
  skip
  refine qS q ai q q <| qS q ai q q <| qS q ai q q <| qS q ai q q <| XL_skip q q q <| XL_skip q q q <| XL_skip q q q <| XL_skip q q q <| XL_skip q q q <| qS q ai q q ?_
  refine A q (zf q ai q) q q ?_
  exact hk _ (p (by rw [ai]; rfl) (cfn 10 q (u)))
 refine qM q q q ?_
 obtain ⟨bX, az, h⟩ := D h
 refine zh 11 99 (.bool bX) ?_ (fun md hmd hk => ?_)
 rotate_left
 ·obtain ⟨K, rfl⟩ := zr hmd
  rcases btf (aK && ((x2.2.1 == 0) || (decide (aa.1.2.2.2.1 ≥ x2.1.2.2.2.1)))) with aj | aj
  ·skip
   have az := if_t aj az
   refine qF uf29 fi29_0 nz3 (J q aj) q q ?_
   have bY := R ah.p11
   refine l u3 q bY q (J q aj) q q <| A (J q aj) (qt_neq q q) q q <| qM (J q aj) q q ?_
   obtain ⟨bZ, ar, az⟩ := D az
   refine zh 6 98 (.bool bZ) ?_ (fun md hmd hk => ?_)
   rotate_left
   ·obtain ⟨K, rfl⟩ := zr hmd
    rcases btf (x2.2.1 != 5) with al | al
    ·skip
     refine qS q al q q <| qS q al q q <| qS q al q q <| qS q al q q <| qS q al q q <| A (J q aj) (ze q al q) q q ?_
     exact hk _ (p (vb (if_t al ar)) (cfn 5 q (u)))
    skip
    have ar := if_f al ar
    have b0 := R ah.p8
    refine zm (cs := [ae, af, ab, iV aa.1.2.2.2.1, ad]) us27 uo27 il27 b0 (J q al) q q ?_
    change XL _ _ _ _ _ ((93, .agg #[ae, af, ab, iV aa.1.2.2.2.1, ad]) :: _) _
    obtain ⟨b4, b5, ar⟩ := D ar
    refine QC (J q al) q c12 (fun w' hb => w_impl_HouseWorth w' _ ae aa.1.1 hR7 af aa.1.2.1 hS9 ab aa.1.2.2.1 hS10 aa.1.2.2.2.1 ad aa.1.2.2.2.2 hR6 b4 b5 (ah.grow hb).ctx) (by rfl) ?_
    have b6 := R ah.p12
    refine zm (cs := [v6, v7, v8, iV x2.1.2.2.2.1, v9]) us27 uo27 il27 b6 (J q al) q q ?_
    change XL _ _ _ _ _ ((95, .agg #[v6, v7, v8, iV x2.1.2.2.2.1, v9]) :: _) _
    obtain ⟨b7, b8, ar⟩ := D ar
    refine QC (J q al) q c12 (fun w' hb => w_impl_HouseWorth w' _ v6 x2.1.1 hS13 v7 x2.1.2.1 hS14 v8 x2.1.2.2.1 hS15 x2.1.2.2.2.1 v9 x2.1.2.2.2.2 hS16 b7 b8 (ah.grow hb).ctx) (by rfl) <| A (J q al) (qt_eql q q) q q <| A (J q aj) (zf q al q) q q ?_
    exact hk _ (p (vb ar) (cfn 5 q (u)))
   refine A q (ze q aj q) q q ?_
   exact hk _ (p (vb az) (cfn 5 q (u)))
  skip
  refine qS q aj q q <| qS q aj q q <| qS q aj q q <| qS q aj q q <| XL_skip q q q <| XL_skip q q q <| XL_skip q q q <| XL_skip q q q <| XL_skip q q q <| qS q aj q q ?_
  refine A q (zf q aj q) q q ?_
  exact hk _ (p (vb (if_f aj az)) (cfn 10 q (u)))
 refine qA q q q <| QL_nil fun a ha ct b9 => ?_
 have ca := ah.grow b9
 refine X (S ?_ ha)
 refine W fun a ha => ?_
 obtain rfl := L h
 have cb := ca.q0.q0.q0.q0.q0.q0.q0.q0.q0.q0.q0.q0.q0.q0.q0.q0.q0
 exact ret1 q ha q ⟨q, cb⟩
end Go.Proofs.YtpabogkcmbkffaaGreatDoor
