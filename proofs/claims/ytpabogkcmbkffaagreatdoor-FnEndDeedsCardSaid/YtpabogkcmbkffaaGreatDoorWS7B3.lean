/- The walks: each Go function computes its shallow function. Printed by a program. -/
import Derived.Test.YtpabogkcmbkffaaGreatDoorWS7B2
set_option linter.unusedVariables false
set_option maxRecDepth 10000
namespace Go.Proofs.YtpabogkcmbkffaaGreatDoor
open Go Go.RowKit
theorem w_spec_l1In (w : World) (G : List Res) (p0 : Int) (p1 : Int) (p2 : Int) (r : Bool) (h : spec_l1InS p0 p1 p2 = some r) (H : Ctx w G) : Calls Tryz.prog 52 #[iV p0, iV p1, iV p2] w fun e w' => e = .returned (.bool r) ∧ Holds M0 w w' [] G := by
 have H : Holds M0 w w [] G := zb H
 refine zg (args := [iV p0, iV p1, iV p2]) (n := 15) Tryz.func52 q q q ?_
 unfold spec_l1InS at h
 refine rR <| qA q q q <| rN <| qM q q q <| qM q q q <| A q (qt_geq q q) q q <| qM q q q ?_
 refine zh 4 14 (.bool ((decide (p0 ≥ p1)) && (decide (p0 ≤ p2)))) ?_ (fun md hmd hk => ?_)
 rotate_left
 ·obtain ⟨Q, rfl⟩ := Md.seq_of hmd
  rcases btf (decide (p0 ≥ p1)) with aa | aa
  ·skip
   refine qM (J q aa) q q <| qM (J q aa) q q <| A (J q aa) (qt_leq q q) q q <| A q (ze q aa q) q q ?_
   exact hk _ (p (by rw [aa]; rfl) (cfn 3 q (u)))
  skip
  refine qS q aa q q <| qS q aa q q <| qS q aa q q <| A q (zf q aa q) q q ?_
  exact hk _ (p (by rw [aa]; rfl) (cfn 3 q (u)))
 refine qA q q q <| B <| W fun a ha => ?_
 obtain rfl := L h
 exact ret1 q ha q ⟨q, H⟩
theorem w_spec_l1Item (w : World) (G : List Res) (B0 : Int) (A1 : Value) (B1 : LP) (C1 : Has G ty2 A1 B1) (B2 : Int) (p1 : Int) (r : Bool) (h : spec_l1ItemS B0 B1 B2 p1 = some r) (H : Ctx w G) : Calls Tryz.prog 106 #[.agg #[iV B0, A1, iV B2], iV p1] w fun e w' => e = .returned (.bool r) ∧ Holds M0 w w' [] G := by
 have H : Holds M0 w w [] G := zb H
 refine zg (args := [.agg #[iV B0, A1, iV B2], iV p1]) (n := 77) Tryz.func106 q q q ?_
 unfold spec_l1ItemS at h
 refine C <| Z ?_
 refine WL_box (cs := [iV B0, A1, iV B2]) H q q q q (fun b1 w2 H3 => ?_)
 refine qA q q q <| B <| C <| rR <| qA q q q <| B <| g ?_
 obtain ⟨o6, aC, h⟩ := D h
 refine fun a8 ar => zp (I := fun s a w2 => match s with | s5 => (Fr a 77 [(1, iV p1), (2, pB b1), (5, iV s5)] ∧ Holds M0 w w2 [.bx b1 55 [iV B0, A1, iV B2]] G)) (O := fun o e a w2 => match o with | .inl _ => e = .exit 0 ∧ (Fr a 77 [(2, pB b1)] ∧ Holds M0 w w2 [.bx b1 55 [iV B0, A1, iV B2]] G) | .inr q0 => e = .ret ∧ (Fr a 77 [(4, .bool q0)] ∧ Holds M0 w w2 [] G)) aC ?_ ?_ ?_
 ·exact ⟨ar.sub ⟨q, q, q, trivial⟩, H3⟩
 ·clear ar
  intro s bk a bl ae aD
  obtain ⟨s5, rfl⟩ : ∃ z, z = s := ⟨s, q⟩
  obtain ⟨ha, af⟩ := aD
  refine S ?_ ha
  clear ha
  refine C <| rR <| qM q q q <| qF uf55 fi55_1 nz53 q q q ?_
  have aE := R af.p0
  refine l u53 q aE q q q q <| za af.ctx (t := ty2) (C1.c) u53 q q q <| A q (qt_lss q q) q q <| B ?_
  refine Y q (fun ap => ?_) (fun ap => ?_)
  ·have ae := if_t ap ae
   refine y <| C <| g <| C <| WP_quiet (by kernel_rfl) (by kernel_rfl) <| qF uf55 fi55_1 nz53 q q q ?_
   have aF := R af.p0
   refine l u53 q aF q q q q <| qM q q q ?_
   obtain ⟨aG, au, ae⟩ := D ae
   refine b af.ctx (C1.c) au u53 i57 q q q q (fun bm bn bo aH => ?_)
   refine qF uf57 fi57_0 nz3 q q q ?_
   obtain ⟨bp, aI, bq⟩ := af.at (C1.c) au aH
   obtain ⟨br, aJ, bs⟩ := AtP.fst aI
   refine zt (k := .i64) u3 q aJ q q q <| qM q q q <| A q (qt_sub q q) q q ?_
   obtain ⟨av, aK, ae⟩ := D ae
   refine QC q q c52 (fun w' hb => w_spec_l1In w' _ aG.1 0 (IntKind.wrap .i64 (p1 - 1)) av aK (af.grow hb).ctx) (by rfl) <| A q (qt_not q) q q <| qM q q q ?_
   obtain ⟨aw, ak, ae⟩ := D ae
   refine zh 9 32 (.bool aw) ?_ (fun md hmd hk => ?_)
   rotate_left
   ·obtain ⟨K, rfl⟩ := zr hmd
    rcases btf (!av) with ab | ab
    ·skip
     refine qS q ab q q <| qS q ab q q <| qS q ab q q <| qS q ab q q <| qS q ab q q <| qS q ab q q <| qS q ab q q <| qS q ab q q <| A q (ze q ab q) q q ?_
     exact hk _ (p (vb (if_t ab ak)) (cfn 8 q (u)))
    skip
    have ak := if_f ab ak
    refine qF uf55 fi55_1 nz53 (J q ab) q q ?_
    have aL := R af.p0
    refine l u53 q aL q (J q ab) q q <| qM (J q ab) q q ?_
    obtain ⟨aM, ax, ak⟩ := D ak
    refine b af.ctx (C1.c) ax u53 i57 (J q ab) q q q (fun bt bu bv aN => ?_)
    refine qF uf57 fi57_1 nz3 (J q ab) q q ?_
    obtain ⟨bw, aO, bz⟩ := af.at (C1.c) ax aN
    obtain ⟨bA, aP, bB⟩ := AtP.snd aO
    refine zt (k := .i64) u3 q aP (J q ab) q q ?_
    obtain ⟨aQ, aR, ak⟩ := D ak
    refine QC (J q ab) q c52 (fun w' hb => w_spec_l1In w' _ aM.2 1 6 aQ aR (af.grow hb).ctx) (by rfl) <| A (J q ab) (qt_not q) q q <| A q (zf q ab q) q q ?_
    exact hk _ (p (vb ak) (cfn 8 q (u)))
   refine qM q q q ?_
   obtain ⟨aS, am, ae⟩ := D ae
   refine zh 19 52 (.bool aS) ?_ (fun md hmd hk => ?_)
   rotate_left
   ·obtain ⟨K, rfl⟩ := zr hmd
    rcases btf aw with ag | ag
    ·skip
     refine qS q ag q q <| qS q ag q q <| qS q ag q q <| XL_skip q q q <| XL_skip q q q <| XL_skip q q q <| XL_skip q q q <| XL_skip q q q <| XL_skip q q q <| XL_skip q q q ?_
     refine XL_skip q q q <| XL_skip q q q <| XL_skip q q q <| XL_skip q q q <| XL_skip q q q <| XL_skip q q q <| XL_skip q q q <| qS q ag q q <| A q (ze q ag q) q q ?_
     exact hk _ (p (vb (if_t ag am)) (cfn 18 q (u)))
    skip
    have am := if_f ag am
    refine qM (J q ag) q q <| A (J q ag) (qt_gtr q q) q q <| qM (J q ag) q q ?_
    obtain ⟨aT, al, am⟩ := D am
    refine zh 15 51 (.bool aT) ?_ (fun md hmd hk => ?_)
    rotate_left
    ·obtain ⟨K, rfl⟩ := zr hmd
     rcases btf (decide (s5 > 0)) with aa | aa
     ·skip
      have al := if_t aa al
      refine qF uf55 fi55_1 nz53 (J q aa) q q ?_
      have aU := R af.p0
      refine l u53 q aU q (J q aa) q q <| qM (J q aa) q q <| A (J q aa) (qt_sub q q) q q ?_
      obtain ⟨bC, ay, al⟩ := D al
      refine b af.ctx (C1.c) ay u53 i57 (J q aa) q q q (fun bD bE bF aV => ?_)
      refine qF uf57 fi57_0 nz3 (J q aa) q q ?_
      obtain ⟨bG, aW, bH⟩ := af.at (C1.c) ay aV
      obtain ⟨bI, aX, bJ⟩ := AtP.fst aW
      refine zt (k := .i64) u3 q aX (J q aa) q q <| qF uf55 fi55_1 nz53 (J q aa) q q ?_
      have aY := R af.p0
      refine l u53 q aY q (J q aa) q q <| qM (J q aa) q q ?_
      obtain ⟨bK, az, al⟩ := D al
      refine b af.ctx (C1.c) az u53 i57 (J q aa) q q q (fun bL bM bN aZ => ?_)
      refine qF uf57 fi57_0 nz3 (J q aa) q q ?_
      obtain ⟨bO, a0, bP⟩ := af.at (C1.c) az aZ
      obtain ⟨bQ, a1, bR⟩ := AtP.fst a0
      refine zt (k := .i64) u3 q a1 (J q aa) q q <| A (J q aa) (qt_geq q q) q q <| A (J q ag) (ze q aa q) q q ?_
      exact hk _ (p (vb al) (cfn 14 q (u)))
     skip
     refine qS q aa q q <| qS q aa q q <| qS q aa q q <| qS q aa q q <| qS q aa q q <| qS q aa q q <| qS q aa q q <| qS q aa q q <| qS q aa q q <| qS q aa q q ?_
     refine qS q aa q q <| qS q aa q q <| qS q aa q q <| qS q aa q q <| A (J q ag) (zf q aa q) q q ?_
     exact hk _ (p (vb (if_f aa al)) (cfn 14 q (u)))
    refine A q (zf q ag q) q q ?_
    exact hk _ (p (vb am) (cfn 4 q (u)))
   refine QL_nil fun a ha bS a2 => ?_
   have aA := af.grow a2
   refine X (S ?_ ha)
   refine Y q (fun aq => ?_) (fun aq => ?_)
   ·have ae := if_t aq ae
    refine rR <| qA q q q <| B <| W fun a ha => ?_
    obtain rfl := L ae
    have a3 := aA.q0
    exact zj (m (⟨ret_ne, q, ha.sub ⟨q, trivial⟩, a3⟩))
   have ae := if_f aq ae
   refine WP_skip fun a ha => ?_
   refine zi (X (S ?_ ha))
   refine Z <| qM q q q <| A q (qt_add q q) q q <| qA q q q <| WL_nil fun a ha => ?_
   obtain rfl := L ae
   exact ⟨q, ha.sub ⟨q, q, q, trivial⟩, aA⟩
  have ae := if_f ap ae
  refine WP_exit fun a ha => ?_
  obtain rfl := L ae
  exact zo (⟨exit_ne, q, ha.sub ⟨q, trivial⟩, af⟩)
 intro e a8 bT aB
 rcases o6 with o6 | o6
 ·skip
  obtain ⟨rfl, a4⟩ := aB
  obtain ⟨ha, aj⟩ := a4
  refine zn (X (S ?_ ha))
  refine C <| zk <| qF uf55 fi55_0 nz3 q q q ?_
  have a5 := R aj.p0
  refine l u3 q a5 q q q q ?_
  obtain ⟨an, a6, h⟩ := D h
  refine QC q q c52 (fun w' hb => w_spec_l1In w' _ B0 0 6 an a6 (aj.grow hb).ctx) (by rfl) <| qM q q q ?_
  refine zh 5 61 (.bool (an && (decide ((List.length B1 : Int) ≤ 3)))) ?_ (fun md hmd hk => ?_)
  rotate_left
  ·obtain ⟨K, rfl⟩ := zr hmd
   rcases btf an with ah | ah
   ·skip
    refine qF uf55 fi55_1 nz53 (J q ah) q q ?_
    have a7 := R aj.p0
    refine l u53 q a7 q (J q ah) q q <| za aj.ctx (t := ty2) (C1.c) u53 (J q ah) q q <| A (J q ah) (qt_leq q q) q q <| A q (ze q ah q) q q ?_
    exact hk _ (p (by rw [ah]; rfl) (cfn 4 q (u)))
   skip
   refine qS q ah q q <| qS q ah q q <| qS q ah q q <| qS q ah q q <| A q (zf q ah q) q q ?_
   exact hk _ (p (by rw [ah]; rfl) (cfn 4 q (u)))
  refine qM q q q ?_
  refine zh 9 71 (.bool ((an && (decide ((List.length B1 : Int) ≤ 3))) && ((decide (B0 > 0)) == (decide ((List.length B1 : Int) > 0))))) ?_ (fun md hmd hk => ?_)
  rotate_left
  ·obtain ⟨K, rfl⟩ := zr hmd
   rcases btf (an && (decide ((List.length B1 : Int) ≤ 3))) with ad | ad
   ·skip
    refine qF uf55 fi55_0 nz3 (J q ad) q q ?_
    have a9 := R aj.p0
    refine l u3 q a9 q (J q ad) q q <| A (J q ad) (qt_gtr q q) q q <| qF uf55 fi55_1 nz53 (J q ad) q q ?_
    have ba := R aj.p0
    refine l u53 q ba q (J q ad) q q <| za aj.ctx (t := ty2) (C1.c) u53 (J q ad) q q <| A (J q ad) (qt_gtr q q) q q <| A (J q ad) (qt_beql u4 q q) q q <| A q (ze q ad q) q q ?_
    exact hk _ (p (by rw [ad]; rfl) (cfn 8 q (u)))
   skip
   refine qS q ad q q <| qS q ad q q <| qS q ad q q <| qS q ad q q <| qS q ad q q <| qS q ad q q <| qS q ad q q <| qS q ad q q <| A q (zf q ad q) q q ?_
   exact hk _ (p (by rw [ad]; rfl) (cfn 8 q (u)))
  refine qM q q q ?_
  obtain ⟨bb, ao, h⟩ := D h
  refine zh 4 76 (.bool bb) ?_ (fun md hmd hk => ?_)
  rotate_left
  ·obtain ⟨K, rfl⟩ := zr hmd
   rcases btf ((an && (decide ((List.length B1 : Int) ≤ 3))) && ((decide (B0 > 0)) == (decide ((List.length B1 : Int) > 0)))) with ai | ai
   ·skip
    have ao := if_t ai ao
    refine qF uf55 fi55_2 nz3 (J q ai) q q ?_
    have bc := R aj.p0
    refine l u3 q bc q (J q ai) q q ?_
    obtain ⟨bd, be, ao⟩ := D ao
    refine QC (J q ai) q c52 (fun w' hb => w_spec_l1In w' _ B2 0 31 bd be (aj.grow hb).ctx) (by rfl) <| A q (ze q ai q) q q ?_
    exact hk _ (p (vb ao) (cfn 3 q (u)))
   skip
   refine qS q ai q q <| qS q ai q q <| qS q ai q q <| A q (zf q ai q) q q ?_
   exact hk _ (p (vb (if_f ai ao)) (cfn 3 q (u)))
  refine qA q q q <| QL_nil fun a ha bU bf => ?_
  have bg := aj.grow bf
  refine X (S ?_ ha)
  refine W fun a ha => ?_
  obtain rfl := L h
  have bh := bg.q0
  exact ret1 q ha q ⟨q, bh⟩
 skip
 obtain ⟨bV, rfl⟩ : ∃ z, z = o6 := ⟨o6, q⟩
 obtain ⟨rfl, bi⟩ := aB
 obtain ⟨ha, bj⟩ := bi
 obtain rfl := L h
 exact zj (m (ret1 q ha q ⟨q, bj⟩))
theorem w_spec_ItemsValid (w : World) (G : List Res) (vp0 : Value) (p0 : LI) (hp0 : Has G ty12 vp0 p0) (r : Bool) (h : spec_ItemsValidS p0 = some r) (H : Ctx w G) : Calls Tryz.prog 86 #[vp0] w fun e w' => e = .returned (.bool r) ∧ Holds M0 w w' [] G := by
 have H : Holds M0 w w [] G := zb H
 refine zg (args := [vp0]) (n := 20) Tryz.func86 q q q ?_
 unfold spec_ItemsValidS at h
 refine rR <| qA q q q <| B <| C <| rR <| qA q q q <| B <| g ?_
 obtain ⟨o2, an, h⟩ := D h
 refine fun a4 ah => zp (I := fun s a w2 => match s with | s1 => (Fr a 20 [(0, vp0), (3, iV s1)] ∧ Holds M0 w w2 [] G)) (O := fun o e a w2 => match o with | .inl _ => e = .exit 0 ∧ (Fr a 20 [(0, vp0)] ∧ Holds M0 w w2 [] G) | .inr q0 => e = .ret ∧ (Fr a 20 [(2, .bool q0)] ∧ Holds M0 w w2 [] G)) an ?_ ?_ ?_
 ·exact ⟨ah.sub ⟨q, q, trivial⟩, H⟩
 ·clear ah
  intro s o8 a w6 aa ao
  obtain ⟨s1, rfl⟩ : ∃ z, z = s := ⟨s, q⟩
  obtain ⟨ha, ad⟩ := ao
  refine S ?_ ha
  clear ha
  refine C <| rR <| qM q q q <| qM q q q <| za ad.ctx (t := ty12) (hp0) u23 q q q <| A q (qt_lss q q) q q <| B ?_
  refine Y q (fun af => ?_) (fun af => ?_)
  ·have aa := if_t af aa
   refine y <| C <| g <| C <| zk <| qM q q q <| qM q q q ?_
   obtain ⟨ab, ai, aa⟩ := D aa
   refine b ad.ctx (hp0) ai u23 i55 q q q q (fun aK aL aM ap => ?_)
   obtain ⟨aN, aq, ar⟩ := ad.atN (hp0) ai ap
   refine XL_load_agg (t := ty12) us55 uo55 i55 aq q q q (fun aO au => ?_)
   obtain ⟨c23, c24, aP, aQ, rfl, av, aw, ax⟩ := au
   obtain ⟨rfl, _⟩ := aw
   obtain ⟨c30, c31, aR, aS, rfl, ay, az, aA⟩ := ax
   obtain ⟨ae, rfl, aB⟩ := Rep.sl_inv az
   obtain ⟨rfl, _⟩ := aA
   have aj : Holds _ w w6 [.ro ty2 ae ab.2.1] G := ar [.ro ty2 ae ab.2.1] ⟨⟨_, _, _, _, q, aB, (fun k h => (fun k h => (fun _ h => h) k (by rw [av]; exact zx _ h)) k (by rw [ay]; exact List.mem_append_left _ h))⟩, trivial⟩
   change XL _ _ _ _ _ ((13, .agg #[iV ab.1, ae, iV ab.2.2]) :: _) _
   refine qM q q q ?_
   obtain ⟨aC, aD, aa⟩ := D aa
   refine QC q q c106 (fun w' hb => w_spec_l1Item w' _ ab.1 ae ab.2.1 hR0 ab.2.2 s1 aC aD (aj.grow hb).ctx) (by rfl) <| A q (qt_not q) q q <| QL_nil fun a ha aT aE => ?_
   have ak := aj.grow aE
   refine X (S ?_ ha)
   refine Y q (fun ag => ?_) (fun ag => ?_)
   ·have aa := if_t ag aa
    refine rR <| qA q q q <| B <| W fun a ha => ?_
    obtain rfl := L aa
    have aF := ak.q0
    exact zj (m (⟨ret_ne, q, ha.sub ⟨q, trivial⟩, aF⟩))
   have aa := if_f ag aa
   refine WP_skip fun a ha => ?_
   refine zi (X (S ?_ ha))
   refine Z <| qM q q q <| A q (qt_add q q) q q <| qA q q q <| WL_nil fun a ha => ?_
   obtain rfl := L aa
   have aG := ak.q0
   exact ⟨q, ha.sub ⟨q, q, trivial⟩, aG⟩
  have aa := if_f af aa
  refine WP_exit fun a ha => ?_
  obtain rfl := L aa
  exact zo (⟨exit_ne, q, ha.sub ⟨q, trivial⟩, ad⟩)
 intro e a4 aU al
 rcases o2 with o2 | o2
 ·skip
  obtain ⟨rfl, aH⟩ := al
  obtain ⟨ha, am⟩ := aH
  refine zn (X (S ?_ ha))
  refine rR <| qM q q q <| za am.ctx (t := ty12) (hp0) u23 q q q <| A q (qt_leq q q) q q <| qA q q q <| B <| W fun a ha => ?_
  obtain rfl := L h
  exact ret1 q ha q ⟨q, am⟩
 skip
 obtain ⟨aV, rfl⟩ : ∃ z, z = o2 := ⟨o2, q⟩
 obtain ⟨rfl, aI⟩ := al
 obtain ⟨ha, aJ⟩ := aI
 obtain rfl := L h
 exact zj (m (ret1 q ha q ⟨q, aJ⟩))
theorem w_spec_PricesValid (w : World) (G : List Res) (vp0 : Value) (p0 : LI) (hp0 : Has G ty12 vp0 p0) (vp1 : Value) (p1 : List Int) (hp1 : Has G tI vp1 p1) (r : Bool) (h : spec_PricesValidS p0 p1 = some r) (H : Ctx w G) : Calls Tryz.prog 50 #[vp0, vp1] w fun e w' => e = .returned (.bool r) ∧ Holds M0 w w' [] G := by
 have H : Holds M0 w w [] G := zb H
 refine zg (args := [vp0, vp1]) (n := 27) Tryz.func50 q q q ?_
 unfold spec_PricesValidS at h
 refine rR <| qA q q q <| B <| C <| rR <| qA q q q <| B <| g ?_
 obtain ⟨o2, am, h⟩ := D h
 refine fun a4 ai => zp (I := fun s a w2 => match s with | s1 => (Fr a 27 [(0, vp0), (1, vp1), (5, iV s1)] ∧ Holds M0 w w2 [] G)) (O := fun o e a w2 => match o with | .inl _ => e = .exit 0 ∧ (Fr a 27 [(0, vp0), (1, vp1)] ∧ Holds M0 w w2 [] G) | .inr q0 => e = .ret ∧ (Fr a 27 [(4, .bool q0)] ∧ Holds M0 w w2 [] G)) am ?_ ?_ ?_
 ·exact ⟨ai.sub ⟨q, q, q, trivial⟩, H⟩
 ·clear ai
  intro s o8 a w6 aa an
  obtain ⟨s1, rfl⟩ : ∃ z, z = s := ⟨s, q⟩
  obtain ⟨ha, ad⟩ := an
  refine S ?_ ha
  clear ha
  refine C <| rR <| qM q q q <| qM q q q <| za ad.ctx (t := tI) (hp1) u24 q q q <| A q (qt_lss q q) q q <| B ?_
  refine Y q (fun af => ?_) (fun af => ?_)
  ·have aa := if_t af aa
   refine y <| C <| g <| C <| zk <| qM q q q <| qM q q q ?_
   obtain ⟨ao, aj, aa⟩ := D aa
   refine b ad.ctx (hp1) aj u24 i3 q q q q (fun aC aD aE ap => ?_)
   obtain ⟨aF, aq, aG⟩ := ad.at (hp1) aj ap
   refine zt (k := .i64) u3 q aq q q q ?_
   obtain ⟨ar, au, aa⟩ := D aa
   refine QC q q c52 (fun w' hb => w_spec_l1In w' G ao 0 20 ar au (ad.grow hb).ctx) (by rfl) <| A q (qt_not q) q q <| QL_nil fun a ha aH av => ?_
   have ak := ad.grow av
   refine X (S ?_ ha)
   refine Y q (fun ag => ?_) (fun ag => ?_)
   ·have aa := if_t ag aa
    refine rR <| qA q q q <| B <| W fun a ha => ?_
    obtain rfl := L aa
    exact zj (m (⟨ret_ne, q, ha.sub ⟨q, trivial⟩, ak⟩))
   have aa := if_f ag aa
   refine WP_skip fun a ha => ?_
   refine zi (X (S ?_ ha))
   refine Z <| qM q q q <| A q (qt_add q q) q q <| qA q q q <| WL_nil fun a ha => ?_
   obtain rfl := L aa
   exact ⟨q, ha.sub ⟨q, q, q, trivial⟩, ak⟩
  have aa := if_f af aa
  refine WP_exit fun a ha => ?_
  obtain rfl := L aa
  exact zo (⟨exit_ne, q, ha.sub ⟨q, q, trivial⟩, ad⟩)
 intro e a4 aI al
 rcases o2 with o2 | o2
 ·skip
  obtain ⟨rfl, aw⟩ := al
  obtain ⟨ha, ae⟩ := aw
  refine zn (X (S ?_ ha))
  refine C <| zk <| qM q q q ?_
  obtain ⟨ah, ax, h⟩ := D h
  refine QC q q c86 (fun w' hb => w_spec_ItemsValid w' G vp0 p0 (hp0) ah ax (ae.grow hb).ctx) (by rfl) <| qM q q q ?_
  refine zh 6 26 (.bool (ah && ((List.length p1 : Int) == (List.length p0 : Int)))) ?_ (fun md hmd hk => ?_)
  rotate_left
  ·obtain ⟨K, rfl⟩ := zr hmd
   rcases btf ah with ab | ab
   ·skip
    refine qM (J q ab) q q <| za ae.ctx (t := tI) (hp1) u24 (J q ab) q q <| qM (J q ab) q q <| za ae.ctx (t := ty12) (hp0) u23 (J q ab) q q <| A (J q ab) (qt_eql q q) q q <| A q (ze q ab q) q q ?_
    exact hk _ (p (by rw [ab]; rfl) (cfn 5 q (u)))
   skip
   refine qS q ab q q <| qS q ab q q <| qS q ab q q <| qS q ab q q <| qS q ab q q <| A q (zf q ab q) q q ?_
   exact hk _ (p (by rw [ab]; rfl) (cfn 5 q (u)))
  refine qA q q q <| QL_nil fun a ha aJ ay => ?_
  have az := ae.grow ay
  refine X (S ?_ ha)
  refine W fun a ha => ?_
  obtain rfl := L h
  exact ret1 q ha q ⟨q, az⟩
 skip
 obtain ⟨aK, rfl⟩ : ∃ z, z = o2 := ⟨o2, q⟩
 obtain ⟨rfl, aA⟩ := al
 obtain ⟨ha, aB⟩ := aA
 obtain rfl := L h
 exact zj (m (ret1 q ha q ⟨q, aB⟩))
theorem w_spec_l1Amounts (w : World) (G : List Res) (vp0 : Value) (p0 : LI) (hp0 : Has G ty12 vp0 p0) (vp1 : Value) (p1 : List Int) (hp1 : Has G tI vp1 p1) (r : Bool) (h : spec_l1AmountsS p0 p1 = some r) (H : Ctx w G) : Calls Tryz.prog 51 #[vp0, vp1] w fun e w' => e = .returned (.bool r) ∧ Holds M0 w w' [] G := by
 have H : Holds M0 w w [] G := zb H
 refine zg (args := [vp0, vp1]) (n := 23) Tryz.func51 q q q ?_
 unfold spec_l1AmountsS at h
 refine rR <| qA q q q <| B <| C <| rR <| qA q q q <| B <| g ?_
 obtain ⟨o2, ak, h⟩ := D h
 refine fun a4 ag => zp (I := fun s a w2 => match s with | s1 => (Fr a 23 [(0, vp0), (1, vp1), (5, iV s1)] ∧ Holds M0 w w2 [] G)) (O := fun o e a w2 => match o with | .inl _ => e = .exit 0 ∧ (Fr a 23 [(0, vp0), (1, vp1)] ∧ Holds M0 w w2 [] G) | .inr q0 => e = .ret ∧ (Fr a 23 [(4, .bool q0)] ∧ Holds M0 w w2 [] G)) ak ?_ ?_ ?_
 ·exact ⟨ag.sub ⟨q, q, q, trivial⟩, H⟩
 ·clear ag
  intro s o8 a w6 aa al
  obtain ⟨s1, rfl⟩ : ∃ z, z = s := ⟨s, q⟩
  obtain ⟨ha, ab⟩ := al
  refine S ?_ ha
  clear ha
  refine C <| rR <| qM q q q <| qM q q q <| za ab.ctx (t := tI) (hp1) u24 q q q <| A q (qt_lss q q) q q <| B ?_
  refine Y q (fun ad => ?_) (fun ad => ?_)
  ·have aa := if_t ad aa
   refine y <| C <| g <| C <| zk <| qM q q q <| qM q q q ?_
   obtain ⟨am, ah, aa⟩ := D aa
   refine b ab.ctx (hp1) ah u24 i3 q q q q (fun ax ay az an => ?_)
   obtain ⟨aA, ao, aB⟩ := ab.at (hp1) ah an
   refine zt (k := .i64) u3 q ao q q q ?_
   obtain ⟨ap, aq, aa⟩ := D aa
   refine QC q q c52 (fun w' hb => w_spec_l1In w' G am 0 50 ap aq (ab.grow hb).ctx) (by rfl) <| A q (qt_not q) q q <| QL_nil fun a ha aC ar => ?_
   have ai := ab.grow ar
   refine X (S ?_ ha)
   refine Y q (fun ae => ?_) (fun ae => ?_)
   ·have aa := if_t ae aa
    refine rR <| qA q q q <| B <| W fun a ha => ?_
    obtain rfl := L aa
    exact zj (m (⟨ret_ne, q, ha.sub ⟨q, trivial⟩, ai⟩))
   have aa := if_f ae aa
   refine WP_skip fun a ha => ?_
   refine zi (X (S ?_ ha))
   refine Z <| qM q q q <| A q (qt_add q q) q q <| qA q q q <| WL_nil fun a ha => ?_
   obtain rfl := L aa
   exact ⟨q, ha.sub ⟨q, q, q, trivial⟩, ai⟩
  have aa := if_f ad aa
  refine WP_exit fun a ha => ?_
  obtain rfl := L aa
  exact zo (⟨exit_ne, q, ha.sub ⟨q, q, trivial⟩, ab⟩)
 intro e a4 aD aj
 rcases o2 with o2 | o2
 ·skip
  obtain ⟨rfl, au⟩ := aj
  obtain ⟨ha, af⟩ := au
  refine zn (X (S ?_ ha))
  refine rR <| qM q q q <| za af.ctx (t := tI) (hp1) u24 q q q <| qM q q q <| za af.ctx (t := ty12) (hp0) u23 q q q <| A q (qt_eql q q) q q <| qA q q q <| B <| W fun a ha => ?_
  obtain rfl := L h
  exact ret1 q ha q ⟨q, af⟩
 skip
 obtain ⟨p31, rfl⟩ : ∃ z, z = o2 := ⟨o2, q⟩
 obtain ⟨rfl, av⟩ := aj
 obtain ⟨ha, aw⟩ := av
 obtain rfl := L h
 exact zj (m (ret1 q ha q ⟨q, aw⟩))
theorem w_spec_l4Ready (w : World) (G : List Res) (vp0 : Value) (p0 : LP) (hp0 : Has G ty2 vp0 p0) (p1 : Int) (r : Bool) (h : spec_l4ReadyS p0 p1 = some r) (H : Ctx w G) : Calls Tryz.prog 87 #[vp0, iV p1] w fun e w' => e = .returned (.bool r) ∧ Holds M0 w w' [] G := by
 have H : Holds M0 w w [] G := zb H
 refine zg (args := [vp0, iV p1]) (n := 27) Tryz.func87 q q q ?_
 unfold spec_l4ReadyS at h
 refine rR <| qA q q q <| B <| C <| rR <| qA q q q <| B <| g ?_
 obtain ⟨o2, al, h⟩ := D h
 refine fun a4 ah => zp (I := fun s a w2 => match s with | s1 => (Fr a 27 [(0, vp0), (1, iV p1), (5, iV s1)] ∧ Holds M0 w w2 [] G)) (O := fun o e a w2 => match o with | .inl _ => e = .exit 0 ∧ (Fr a 27 [] ∧ Holds M0 w w2 [] G) | .inr q0 => e = .ret ∧ (Fr a 27 [(4, .bool q0)] ∧ Holds M0 w w2 [] G)) al ?_ ?_ ?_
 ·exact ⟨ah.sub ⟨q, q, q, trivial⟩, H⟩
 ·clear ah
  intro s o8 a w6 ab am
  obtain ⟨s1, rfl⟩ : ∃ z, z = s := ⟨s, q⟩
  obtain ⟨ha, ad⟩ := am
  refine S ?_ ha
  clear ha
  refine C <| rR <| qM q q q <| qM q q q <| za ad.ctx (t := ty2) (hp0) u45 q q q <| A q (qt_lss q q) q q <| B ?_
  refine Y q (fun af => ?_) (fun af => ?_)
  ·have ab := if_t af ab
   refine y <| C <| g <| rR <| qM q q q <| qM q q q ?_
   obtain ⟨an, ai, ab⟩ := D ab
   refine b ad.ctx (hp0) ai u45 i49 q q q q (fun aB aC aD ao => ?_)
   refine qF uf49 fi49_0 nz3 q q q ?_
   obtain ⟨aE, ap, aF⟩ := ad.at (hp0) ai ao
   obtain ⟨aG, aq, aH⟩ := AtP.fst ap
   refine zt (k := .i64) u3 q aq q q q <| qM q q q <| A q (qt_lss q q) q q <| qM q q q ?_
   obtain ⟨ar, ae, ab⟩ := D ab
   refine zh 7 26 (.bool ar) ?_ (fun md hmd hk => ?_)
   rotate_left
   ·obtain ⟨Q, rfl⟩ := Md.seq_of hmd
    rcases btf (decide (an.1 < p1)) with aa | aa
    ·skip
     have ae := if_t aa ae
     refine qM (J q aa) q q <| qM (J q aa) q q ?_
     obtain ⟨aI, aj, ae⟩ := D ae
     refine b ad.ctx (hp0) aj u45 i49 (J q aa) q q q (fun aJ aK aL au => ?_)
     refine qF uf49 fi49_1 nz3 (J q aa) q q ?_
     obtain ⟨aM, av, aN⟩ := ad.at (hp0) aj au
     obtain ⟨aO, aw, aP⟩ := AtP.snd av
     refine zt (k := .i64) u3 q aw (J q aa) q q <| A (J q aa) (qt_lss q q) q q <| A q (ze q aa q) q q ?_
     exact hk _ (p (vb ae) (cfn 6 q (u)))
    skip
    refine qS q aa q q <| qS q aa q q <| qS q aa q q <| qS q aa q q <| qS q aa q q <| qS q aa q q <| A q (zf q aa q) q q ?_
    exact hk _ (p (vb (if_f aa ae)) (cfn 6 q (u)))
   refine B ?_
   refine Y q (fun ag => ?_) (fun ag => ?_)
   ·have ab := if_t ag ab
    refine rR <| qA q q q <| B <| W fun a ha => ?_
    obtain rfl := L ab
    exact zj (m (⟨ret_ne, q, ha.sub ⟨q, trivial⟩, ad⟩))
   have ab := if_f ag ab
   refine WP_skip fun a ha => ?_
   refine zi (X (S ?_ ha))
   refine Z <| qM q q q <| A q (qt_add q q) q q <| qA q q q <| WL_nil fun a ha => ?_
   obtain rfl := L ab
   exact ⟨q, ha.sub ⟨q, q, q, trivial⟩, ad⟩
  have ab := if_f af ab
  refine WP_exit fun a ha => ?_
  obtain rfl := L ab
  exact zo (⟨exit_ne, q, ha.sub trivial, ad⟩)
 intro e a4 aQ ak
 rcases o2 with o2 | o2
 ·skip
  obtain ⟨rfl, ax⟩ := ak
  obtain ⟨ha, ay⟩ := ax
  refine zn (X (S ?_ ha))
  refine rR <| qA q q q <| B <| W fun a ha => ?_
  obtain rfl := L h
  exact ret1 q ha q ⟨q, ay⟩
 skip
 obtain ⟨aR, rfl⟩ : ∃ z, z = o2 := ⟨o2, q⟩
 obtain ⟨rfl, az⟩ := ak
 obtain ⟨ha, aA⟩ := az
 obtain rfl := L h
 exact zj (m (ret1 q ha q ⟨q, aA⟩))
theorem w_spec_TicketValid (w : World) (G : List Res) (vp0 : Value) (p0 : LP) (hp0 : Has G ty2 vp0 p0) (r : Bool) (h : spec_TicketValidS p0 = some r) (H : Ctx w G) : Calls Tryz.prog 53 #[vp0] w fun e w' => e = .returned (.bool r) ∧ Holds M0 w w' [] G := by
 have H : Holds M0 w w [] G := zb H
 refine zg (args := [vp0]) (n := 38) Tryz.func53 q q q ?_
 unfold spec_TicketValidS at h
 refine rR <| qA q q q <| B <| C <| rR <| qA q q q <| B <| g ?_
 obtain ⟨o2, aw, h⟩ := D h
 refine fun a4 an => zp (I := fun s a w2 => match s with | s1 => (Fr a 38 [(0, vp0), (3, iV s1)] ∧ Holds M0 w w2 [] G)) (O := fun o e a w2 => match o with | .inl _ => e = .exit 0 ∧ (Fr a 38 [(0, vp0)] ∧ Holds M0 w w2 [] G) | .inr q0 => e = .ret ∧ (Fr a 38 [(2, .bool q0)] ∧ Holds M0 w w2 [] G)) aw ?_ ?_ ?_
 ·exact ⟨an.sub ⟨q, q, trivial⟩, H⟩
 ·clear an
  intro s o8 a w6 aa ax
  obtain ⟨s1, rfl⟩ : ∃ z, z = s := ⟨s, q⟩
  obtain ⟨ha, ai⟩ := ax
  refine S ?_ ha
  clear ha
  refine C <| rR <| qM q q q <| qM q q q <| za ai.ctx (t := ty2) (hp0) u45 q q q <| A q (qt_lss q q) q q <| B ?_
  refine Y q (fun ak => ?_) (fun ak => ?_)
  ·have aa := if_t ak aa
   refine y <| C <| g <| rR <| qM q q q <| qM q q q ?_
   obtain ⟨ae, ao, aa⟩ := D aa
   refine b ai.ctx (hp0) ao u45 i49 q q q q (fun aY aZ a0 ay => ?_)
   obtain ⟨a1, az, a2⟩ := ai.atN (hp0) ao ay
   refine XL_load_agg (t := ty2) us49 uo49 i49 az q q q (fun a3 aA => ?_)
   obtain ⟨c23, c24, a5, a6, rfl, a7, aB, aC⟩ := aA
   obtain ⟨rfl, _⟩ := aB
   obtain ⟨rfl, _⟩ := aC
   change XL _ _ _ _ _ ((14, .agg #[iV ae.1, iV ae.2]) :: _) _
   refine zq (cs := [iV 0, iV 0]) ai z49 q q q (fun a8 a9 aD => ?_)
   refine zl (cs' := [iV ae.1, iV ae.2]) aD q il49 q q q q q (fun ba aj => ?_)
   refine B <| C <| C <| zk <| qF uf49 fi49_0 nz3 q q q ?_
   have aE := R aj.p0
   refine l u3 q aE q q q q ?_
   obtain ⟨ap, aF, aa⟩ := D aa
   refine QC q q c52 (fun w' hb => w_spec_l1In w' _ ae.1 0 2 ap aF (aj.grow hb).ctx) (by rfl) <| A q (qt_not q) q q <| qM q q q ?_
   obtain ⟨aG, af, aa⟩ := D aa
   refine zh 5 24 (.bool aG) ?_ (fun md hmd hk => ?_)
   rotate_left
   ·obtain ⟨K, rfl⟩ := zr hmd
    rcases btf (!ap) with ad | ad
    ·skip
     refine qS q ad q q <| qS q ad q q <| qS q ad q q <| qS q ad q q <| A q (ze q ad q) q q ?_
     exact hk _ (p (vb (if_t ad af)) (cfn 4 q (u)))
    skip
    have af := if_f ad af
    refine qF uf49 fi49_1 nz3 (J q ad) q q ?_
    have aH := R aj.p0
    refine l u3 q aH q (J q ad) q q ?_
    obtain ⟨aI, aJ, af⟩ := D af
    refine QC (J q ad) q c52 (fun w' hb => w_spec_l1In w' _ ae.2 0 4 aI aJ (aj.grow hb).ctx) (by rfl) <| A (J q ad) (qt_not q) q q <| A q (zf q ad q) q q ?_
    exact hk _ (p (vb af) (cfn 4 q (u)))
   refine QL_nil fun a ha bb aK => ?_
   have ag := aj.grow aK
   refine X (S ?_ ha)
   refine Y q (fun al => ?_) (fun al => ?_)
   ·have aa := if_t al aa
    refine rR <| qA q q q <| B <| W fun a ha => ?_
    obtain rfl := L aa
    have aL := ag.q0
    exact m (zj (m (⟨ret_ne, q, ha.sub ⟨q, trivial⟩, aL⟩)))
   have aa := if_f al aa
   refine y <| C <| zk <| qF uf49 fi49_1 nz3 q q q ?_
   have aM := R ag.p0
   refine l u3 q aM q q q q ?_
   obtain ⟨aq, aN, aa⟩ := D aa
   refine QC q q c52 (fun w' hb => w_spec_l1In w' _ ae.2 1 3 aq aN (ag.grow hb).ctx) (by rfl) <| qM q q q ?_
   obtain ⟨aO, ah, aa⟩ := D aa
   refine zh 6 34 (.bool aO) ?_ (fun md hmd hk => ?_)
   rotate_left
   ·obtain ⟨K, rfl⟩ := zr hmd
    rcases btf aq with ab | ab
    ·skip
     have ah := if_t ab ah
     refine qM (J q ab) q q <| qF uf49 fi49_0 nz3 (J q ab) q q ?_
     have aP := R ag.p0
     refine l u3 q aP q (J q ab) q q ?_
     obtain ⟨aQ, aR, ah⟩ := D ah
     refine QC (J q ab) q c87 (fun w' hb => w_spec_l4Ready w' _ vp0 p0 (hp0.c) ae.1 aQ aR (ag.grow hb).ctx) (by rfl) <| A (J q ab) (qt_not q) q q <| A q (ze q ab q) q q ?_
     exact hk _ (p (vb ah) (cfn 5 q (u)))
    skip
    refine qS q ab q q <| qS q ab q q <| qS q ab q q <| qS q ab q q <| qS q ab q q <| A q (zf q ab q) q q ?_
    exact hk _ (p (vb (if_f ab ah)) (cfn 5 q (u)))
   refine QL_nil fun a ha bc aS => ?_
   have ar := ag.grow aS
   refine X (S ?_ ha)
   refine Y q (fun am => ?_) (fun am => ?_)
   ·have aa := if_t am aa
    refine rR <| qA q q q <| B <| W fun a ha => ?_
    obtain rfl := L aa
    have aT := ar.q0
    exact zj (m (⟨ret_ne, q, ha.sub ⟨q, trivial⟩, aT⟩))
   have aa := if_f am aa
   refine WP_skip fun a ha => ?_
   refine zi (X (S ?_ ha))
   refine Z <| qM q q q <| A q (qt_add q q) q q <| qA q q q <| WL_nil fun a ha => ?_
   obtain rfl := L aa
   have aU := ar.q0
   exact ⟨q, ha.sub ⟨q, q, trivial⟩, aU⟩
  have aa := if_f ak aa
  refine WP_exit fun a ha => ?_
  obtain rfl := L aa
  exact zo (⟨exit_ne, q, ha.sub ⟨q, trivial⟩, ai⟩)
 intro e a4 bd au
 rcases o2 with o2 | o2
 ·skip
  obtain ⟨rfl, aV⟩ := au
  obtain ⟨ha, av⟩ := aV
  refine zn (X (S ?_ ha))
  refine rR <| qM q q q <| za av.ctx (t := ty2) (hp0) u45 q q q <| A q (qt_leq q q) q q <| qA q q q <| B <| W fun a ha => ?_
  obtain rfl := L h
  exact ret1 q ha q ⟨q, av⟩
 skip
 obtain ⟨be, rfl⟩ : ∃ z, z = o2 := ⟨o2, q⟩
 obtain ⟨rfl, aW⟩ := au
 obtain ⟨ha, aX⟩ := aW
 obtain rfl := L h
 exact zj (m (ret1 q ha q ⟨q, aX⟩))
theorem w_spec_l1Join (w : World) (G : List Res) (p0 : Int) (p1 : Int) (r : Int) (h : spec_l1JoinS p0 p1 = some r) (H : Ctx w G) : Calls Tryz.prog 107 #[iV p0, iV p1] w fun e w' => e = .returned (iV r) ∧ Holds M0 w w' [] G := by
 have H : Holds M0 w w [] G := zb H
 refine zg (args := [iV p0, iV p1]) (n := 30) Tryz.func107 q q q ?_
 unfold spec_l1JoinS at h
 refine rR <| qA q q q <| rN <| qA q q q <| B <| C <| C ?_
 refine Z <| qA q q q <| B <| g ?_
 obtain ⟨o3, ai, h⟩ := D h
 refine fun a5 ah => zp (I := fun s a w2 => match s with | (s1, s2) => (Fr a 30 [(0, iV p0), (1, iV p1), (5, iV s1), (6, iV s2)] ∧ Holds M0 w w2 [] G)) (O := fun o e a w2 => match o with | q0 => e = .exit 0 ∧ (Fr a 30 [(5, iV q0)] ∧ Holds M0 w w2 [] G)) ai ?_ ?_ ?_
 ·exact ⟨ah.sub ⟨q, q, q, q, trivial⟩, H⟩
 ·clear ah
  intro s o9 a w7 aa aj
  obtain ⟨s1, s2⟩ := s
  obtain ⟨ha, ae⟩ := aj
  refine S ?_ ha
  clear ha
  refine C <| rR <| qM q q q <| qM q q q <| qM q q q <| A q (qt_max q q) q q <| A q (qt_leq q q) q q <| B ?_
  refine Y q (fun af => ?_) (fun af => ?_)
  ·have aa := if_t af aa
   refine y <| C <| g <| rR <| qM q q q <| qM q q q ?_
   obtain ⟨ak, al, aa⟩ := D aa
   refine A q (qt_quoO q q al) q q <| A q (qt_rem q q (by decide)) q q <| A q (qt_eql q q) q q <| qM q q q ?_
   obtain ⟨am, ad, aa⟩ := D aa
   refine zh 6 25 (.bool am) ?_ (fun md hmd hk => ?_)
   rotate_left
   ·obtain ⟨Q, rfl⟩ := Md.seq_of hmd
    rcases btf ((Int.tmod ak 2) == 1) with ab | ab
    ·skip
     refine qS q ab q q <| qS q ab q q <| qS q ab q q <| qS q ab q q <| qS q ab q q <| A q (ze q ab q) q q ?_
     exact hk _ (p (vb (if_t ab ad)) (cfn 5 q (u)))
    skip
    have ad := if_f ab ad
    refine qM (J q ab) q q <| qM (J q ab) q q ?_
    obtain ⟨ar, an, ad⟩ := D ad
    refine A (J q ab) (qt_quoO q q an) q q <| A (J q ab) (qt_rem q q (by decide)) q q <| A (J q ab) (qt_eql q q) q q <| A q (zf q ab q) q q ?_
    exact hk _ (p (vb ad) (cfn 5 q (u)))
   refine B ?_
   refine Y q (fun ag => ?_) (fun ag => ?_)
   ·have aa := if_t ag aa
    refine Z <| qM q q q <| qM q q q <| A q (qt_add q q) q q <| qA q q q <| WL_nil fun a ha => ?_
    refine zi (X (S ?_ ha))
    refine Z <| qM q q q <| A q (qt_mul q q) q q <| qA q q q <| WL_nil fun a ha => ?_
    obtain rfl := L aa
    exact ⟨q, ha.sub ⟨q, q, q, q, trivial⟩, ae⟩
   have aa := if_f ag aa
   refine WP_skip fun a ha => ?_
   refine zi (X (S ?_ ha))
   refine Z <| qM q q q <| A q (qt_mul q q) q q <| qA q q q <| WL_nil fun a ha => ?_
   obtain rfl := L aa
   exact ⟨q, ha.sub ⟨q, q, q, q, trivial⟩, ae⟩
  have aa := if_f af aa
  refine WP_exit fun a ha => ?_
  obtain rfl := L aa
  exact zo (⟨exit_ne, q, ha.sub ⟨q, trivial⟩, ae⟩)
 intro e a5 au ao
 obtain ⟨p23, rfl⟩ : ∃ z, z = o3 := ⟨o3, q⟩
 obtain ⟨rfl, ap⟩ := ao
 obtain ⟨ha, aq⟩ := ap
 refine zn (X (S ?_ ha))
 refine rR <| qM q q q <| qA q q q <| B <| W fun a ha => ?_
 obtain rfl := L h
 exact ret1 q ha q ⟨q, aq⟩
theorem w_spec_UsesOf (w : World) (G : List Res) (vp0 : Value) (p0 : LI) (hp0 : Has G ty12 vp0 p0) (p1 : Int) (r : Int) (h : spec_UsesOfS p0 p1 = some r) (H : Ctx w G) : Calls Tryz.prog 108 #[vp0, iV p1] w fun e w' => e = .returned (iV r) ∧ Holds M0 w w' [] G := by
 have H : Holds M0 w w [] G := zb H
 refine zg (args := [vp0, iV p1]) (n := 56) Tryz.func108 q q q ?_
 unfold spec_UsesOfS at h
 refine rR <| qA q q q <| B <| C <| C <| zk <| qM q q q ?_
 obtain ⟨x1, aF, h⟩ := D h
 refine QC q q c86 (fun w' hb => w_spec_ItemsValid w' G vp0 p0 (hp0) x1 aF (H.grow hb).ctx) (by rfl) <| A q (qt_not q) q q <| qM q q q ?_
 obtain ⟨b3, af, h⟩ := D h
 refine zh 7 18 (.bool b3) ?_ (fun md hmd hk => ?_)
 rotate_left
 ·obtain ⟨K, rfl⟩ := zr hmd
  rcases btf (!x1) with ab | ab
  ·skip
   refine qS q ab q q <| qS q ab q q <| qS q ab q q <| qS q ab q q <| qS q ab q q <| qS q ab q q <| A q (ze q ab q) q q ?_
   exact hk _ (p (vb (if_t ab af)) (cfn 6 q (u)))
  skip
  have af := if_f ab af
  refine qM (J q ab) q q <| qM (J q ab) q q <| za H.ctx (t := ty12) (hp0) u23 (J q ab) q q <| A (J q ab) (qt_sub q q) q q ?_
  obtain ⟨x6, aG, af⟩ := D af
  refine QC (J q ab) q c52 (fun w' hb => w_spec_l1In w' G p1 0 (IntKind.wrap .i64 ((List.length p0 : Int) - 1)) x6 aG (H.grow hb).ctx) (by rfl) <| A (J q ab) (qt_not q) q q <| A q (zf q ab q) q q ?_
  exact hk _ (p (vb af) (cfn 6 q (u)))
 refine QL_nil fun a ha w8 aH => ?_
 have aq := H.grow aH
 refine X (S ?_ ha)
 refine Y q (fun ak => ?_) (fun ak => ?_)
 ·have h := if_t ak h
  refine rR <| qA q q q <| B <| W fun a ha => ?_
  obtain rfl := L h
  exact m (ret1 q ha q ⟨q, aq⟩)
 have h := if_f ak h
 refine y <| rR <| qM q q q ?_
 obtain ⟨bq, aI, h⟩ := D h
 refine A q (qt_shlO q q aI) q q <| qA q q q <| B <| C <| rR <| qM q q q <| qA q q q <| B <| g ?_
 obtain ⟨ar, aJ, h⟩ := D h
 refine fun aK au => zp (I := fun s a w2 => match s with | (av, ah) => (Fr a 56 [(0, vp0), (5, iV av), (6, iV ah)] ∧ Holds M0 w w2 [] G)) (O := fun o e a w2 => match o with | q0 => e = .exit 0 ∧ (Fr a 56 [(5, iV q0)] ∧ Holds M0 w w2 [] G)) aJ ?_ ?_ ?_
 ·exact ⟨au.sub ⟨q, q, q, trivial⟩, aq⟩
 ·clear au
  intro s br a bs ae aL
  obtain ⟨av, ah⟩ := s
  obtain ⟨ha, aw⟩ := aL
  refine S ?_ ha
  clear ha
  refine C <| rR <| qM q q q <| A q (qt_geq q q) q q <| B ?_
  refine Y q (fun al => ?_) (fun al => ?_)
  ·have ae := if_t al ae
   refine y <| C <| g <| rR <| qA q q q <| B <| g ?_
   obtain ⟨ax, aM, ae⟩ := D ae
   refine fun aN ay => zp (I := fun s a w2 => match s with | (am, an) => (Fr a 56 [(0, vp0), (5, iV am), (6, iV ah), (7, iV an)] ∧ Holds M0 w w2 [] G)) (O := fun o e a w2 => match o with | q0 => e = .exit 2 ∧ (Fr a 56 [(0, vp0), (5, iV q0), (6, iV ah)] ∧ Holds M0 w w2 [] G)) aM ?_ ?_ ?_
   ·exact ⟨ay.sub ⟨q, q, q, q, trivial⟩, aw⟩
   ·clear ay
    intro s bt a az aa aO
    obtain ⟨am, an⟩ := s
    obtain ⟨ha, aA⟩ := aO
    refine S ?_ ha
    clear ha
    refine C <| rR <| qM q q q <| qM q q q <| qM q q q ?_
    obtain ⟨ao, aB, aa⟩ := D aa
    refine b aA.ctx (hp0) aB u23 i55 q q q q (fun bu bv bw aP => ?_)
    refine qF uf55 fi55_1 nz53 q q q ?_
    obtain ⟨bz, aQ, aR⟩ := aA.at (hp0) aB aP
    obtain ⟨bA, aS, aT⟩ := AtP.snd aQ
    obtain ⟨bB, aU, aV⟩ := AtP.fst aS
    refine XL_load (t := ty4) u53 q q aU q q q (fun aC aW => ?_)
    have ai : Holds _ w az [.ro ty2 aC ao.2.1] G := aR _ _ _ _ aW (fun k h => (fun k h => (fun _ h => h) k (aT k h)) k (aV k h))
    refine za ai.ctx (t := ty2) hR0 u53 q q q <| A q (qt_lss q q) q q <| qM q q q ?_
    obtain ⟨aX, ag, aa⟩ := D aa
    refine zh 6 40 (.bool aX) ?_ (fun md hmd hk => ?_)
    rotate_left
    ·obtain ⟨Q, rfl⟩ := Md.seq_of hmd
     rcases btf (decide (an < (List.length ao.2.1 : Int))) with ad | ad
     ·skip
      have ag := if_t ad ag
      refine qM (J q ad) q q <| qM (J q ad) q q ?_
      obtain ⟨bC, aY, ag⟩ := D ag
      refine A (J q ad) (qt_shrO q q aY) q q <| A (J q ad) (qt_rem q q (by decide)) q q <| A (J q ad) (qt_eql q q) q q <| A q (ze q ad q) q q ?_
      exact hk _ (p (vb ag) (cfn 5 q (u)))
     skip
     refine qS q ad q q <| qS q ad q q <| qS q ad q q <| qS q ad q q <| qS q ad q q <| A q (zf q ad q) q q ?_
     exact hk _ (p (vb (if_f ad ag)) (cfn 5 q (u)))
    refine B ?_
    refine Y q (fun ap => ?_) (fun ap => ?_)
    ·have aa := if_t ap aa
     refine y <| C <| g <| zk <| qM q q q <| qM q q q <| qM q q q ?_
     obtain ⟨aZ, aD, aa⟩ := D aa
     refine b ai.ctx (hp0.c) aD u23 i55 q q q q (fun bD bE bF a0 => ?_)
     refine qF uf55 fi55_1 nz53 q q q ?_
     obtain ⟨bG, a1, a2⟩ := ai.at (hp0.c) aD a0
     obtain ⟨bH, a3, a4⟩ := AtP.snd a1
     obtain ⟨bI, a5, a6⟩ := AtP.fst a3
     refine XL_load (t := ty4) u53 q q a5 q q q (fun a7 a8 => ?_)
     have aj : Holds _ w az [.ro ty2 a7 aZ.2.1, .ro ty2 aC ao.2.1] G := a2 _ _ _ _ a8 (fun k h => (fun k h => (fun _ h => h) k (a4 k h)) k (a6 k h))
     refine qM q q q ?_
     obtain ⟨bJ, aE, aa⟩ := D aa
     refine b aj.ctx hR0 aE u53 i57 q q q q (fun bK bL bM a9 => ?_)
     refine qF uf57 fi57_0 nz3 q q q ?_
     obtain ⟨bN, ba, bO⟩ := aj.at hR0 aE a9
     obtain ⟨bP, bb, bQ⟩ := AtP.fst ba
     refine zt (k := .i64) u3 q bb q q q ?_
     obtain ⟨bc, bd, aa⟩ := D aa
     refine A q (qt_shlO q q bd) q q ?_
     obtain ⟨be, bf, aa⟩ := D aa
     refine QC q q c107 (fun w' hb => w_spec_l1Join w' _ am bc be bf (aj.grow hb).ctx) (by rfl) <| qA q q q <| QL_nil fun a ha bR bg => ?_
     have bh := aj.grow bg
     refine zi (X (S ?_ ha))
     refine Z <| qM q q q <| A q (qt_add q q) q q <| qA q q q <| WL_nil fun a ha => ?_
     obtain rfl := L aa
     have bi := bh.q0.q0
     exact ⟨q, ha.sub ⟨q, q, q, q, trivial⟩, bi⟩
    have aa := if_f ap aa
    refine WP_exit fun a ha => ?_
    obtain rfl := L aa
    have bj := ai.q0
    exact zo (⟨exit_ne, q, ha.sub ⟨q, q, q, trivial⟩, bj⟩)
   intro e aN bS bk
   obtain ⟨bT, rfl⟩ : ∃ z, z = ax := ⟨ax, q⟩
   obtain ⟨rfl, bl⟩ := bk
   obtain ⟨ha, bm⟩ := bl
   refine zn (zi (X (S ?_ ha)))
   refine Z <| qM q q q <| A q (qt_sub q q) q q <| qA q q q <| WL_nil fun a ha => ?_
   obtain rfl := L ae
   exact ⟨q, ha.sub ⟨q, q, q, trivial⟩, bm⟩
  have ae := if_f al ae
  refine WP_exit fun a ha => ?_
  obtain rfl := L ae
  exact zo (⟨exit_ne, q, ha.sub ⟨q, trivial⟩, aw⟩)
 intro e aK bU bn
 obtain ⟨bV, rfl⟩ : ∃ z, z = ar := ⟨ar, q⟩
 obtain ⟨rfl, bo⟩ := bn
 obtain ⟨ha, bp⟩ := bo
 refine zn (X (S ?_ ha))
 refine rR <| qM q q q <| qA q q q <| B <| W fun a ha => ?_
 obtain rfl := L h
 exact ret1 q ha q ⟨q, bp⟩
theorem w_spec_MarksOf (w : World) (G : List Res) (vp0 : Value) (p0 : LI) (hp0 : Has G ty12 vp0 p0) (p1 : Int) (r : Int) (h : spec_MarksOfS p0 p1 = some r) (H : Ctx w G) : Calls Tryz.prog 89 #[vp0, iV p1] w fun e w' => e = .returned (iV r) ∧ Holds M0 w w' [] G := by
 have H : Holds M0 w w [] G := zb H
 refine zg (args := [vp0, iV p1]) (n := 31) Tryz.func89 q q q ?_
 unfold spec_MarksOfS at h
 refine rR <| qA q q q <| B <| C <| zk <| qM q q q <| qM q q q ?_
 obtain ⟨x1, ai, h⟩ := D h
 refine QC q q c108 (fun w' hb => w_spec_UsesOf w' G vp0 p0 (hp0) p1 x1 ai (H.grow hb).ctx) (by rfl) <| qA q q q <| QL_nil fun a ha w3 aj => ?_
 have H5 := H.grow aj
 refine X (S ?_ ha)
 refine C <| rR <| qM q q q <| A q (qt_lss q q) q q <| B ?_
 refine Y q (fun ad => ?_) (fun ad => ?_)
 ·have h := if_t ad h
  refine rR <| qA q q q <| B <| W fun a ha => ?_
  obtain rfl := L h
  exact m (ret1 q ha q ⟨q, H5⟩)
 have h := if_f ad h
 refine y <| rR <| qA q q q <| B <| C <| rR <| qA q q q <| B ?_
 refine g ?_
 obtain ⟨o9, ak, h⟩ := D h
 refine fun al ag => zp (I := fun s a w2 => match s with | (s7, s8) => (Fr a 31 [(0, vp0), (1, iV p1), (5, iV x1), (6, iV s7), (7, iV s8)] ∧ Holds M0 w w2 [] G)) (O := fun o e a w2 => match o with | q0 => e = .exit 0 ∧ (Fr a 31 [(6, iV q0)] ∧ Holds M0 w w2 [] G)) ak ?_ ?_ ?_
 ·exact ⟨ag.sub ⟨q, q, q, q, q, trivial⟩, H5⟩
 ·clear ag
  intro s aC a aD aa am
  obtain ⟨s7, s8⟩ := s
  obtain ⟨ha, ab⟩ := am
  refine S ?_ ha
  clear ha
  refine C <| rR <| qM q q q <| qM q q q <| A q (qt_leq q q) q q <| B ?_
  refine Y q (fun ae => ?_) (fun ae => ?_)
  ·have aa := if_t ae aa
   refine y <| C <| g <| rR <| qM q q q <| qM q q q ?_
   obtain ⟨aE, an, aa⟩ := D aa
   refine A q (qt_shrO q q an) q q <| A q (qt_rem q q (by decide)) q q <| A q (qt_eql q q) q q <| B ?_
   refine Y q (fun af => ?_) (fun af => ?_)
   ·have aa := if_t af aa
    refine zk <| qM q q q <| qM q q q <| qM q q q ?_
    obtain ⟨ao, ah, aa⟩ := D aa
    refine b ab.ctx (hp0) ah u23 i55 q q q q (fun aF aG aH ap => ?_)
    refine qF uf55 fi55_2 nz3 q q q ?_
    obtain ⟨aI, aq, aJ⟩ := ab.at (hp0) ah ap
    obtain ⟨aK, ar, aL⟩ := AtP.snd aq
    obtain ⟨aM, au, aN⟩ := AtP.snd ar
    refine zt (k := .i64) u3 q au q q q ?_
    obtain ⟨av, aw, aa⟩ := D aa
    refine QC q q c107 (fun w' hb => w_spec_l1Join w' G s7 ao.2.2 av aw (ab.grow hb).ctx) (by rfl) <| qA q q q <| QL_nil fun a ha aO ax => ?_
    have ay := ab.grow ax
    refine zi (X (S ?_ ha))
    refine Z <| qM q q q <| A q (qt_add q q) q q <| qA q q q <| WL_nil fun a ha => ?_
    obtain rfl := L aa
    exact ⟨q, ha.sub ⟨q, q, q, q, q, trivial⟩, ay⟩
   have aa := if_f af aa
   refine WP_skip fun a ha => ?_
   refine zi (X (S ?_ ha))
   refine Z <| qM q q q <| A q (qt_add q q) q q <| qA q q q <| WL_nil fun a ha => ?_
   obtain rfl := L aa
   exact ⟨q, ha.sub ⟨q, q, q, q, q, trivial⟩, ab⟩
  have aa := if_f ae aa
  refine WP_exit fun a ha => ?_
  obtain rfl := L aa
  exact zo (⟨exit_ne, q, ha.sub ⟨q, trivial⟩, ab⟩)
 intro e al aP az
 obtain ⟨aQ, rfl⟩ : ∃ z, z = o9 := ⟨o9, q⟩
 obtain ⟨rfl, aA⟩ := az
 obtain ⟨ha, aB⟩ := aA
 refine zn (X (S ?_ ha))
 refine rR <| qM q q q <| qA q q q <| B <| W fun a ha => ?_
 obtain rfl := L h
 exact ret1 q ha q ⟨q, aB⟩
theorem w_spec_l1Meet (w : World) (G : List Res) (p0 : Int) (p1 : Int) (r : Int) (h : spec_l1MeetS p0 p1 = some r) (H : Ctx w G) : Calls Tryz.prog 88 #[iV p0, iV p1] w fun e w' => e = .returned (iV r) ∧ Holds M0 w w' [] G := by
 have H : Holds M0 w w [] G := zb H
 refine zg (args := [iV p0, iV p1]) (n := 12) Tryz.func88 q q q ?_
 unfold spec_l1MeetS at h
 refine rR <| qA q q q <| B <| C <| zk <| qM q q q <| qM q q q <| A q (qt_add q q) q q <| qM q q q ?_
 refine qM q q q ?_
 obtain ⟨x1, aa, h⟩ := D h
 refine QC q q c107 (fun w' hb => w_spec_l1Join w' G p0 p1 x1 aa (H.grow hb).ctx) (by rfl) <| A q (qt_sub q q) q q <| qA q q q <| QL_nil fun a ha w3 ab => ?_
 have H5 := H.grow ab
 refine X (S ?_ ha)
 refine W fun a ha => ?_
 obtain rfl := L h
 exact ret1 q ha q ⟨q, H5⟩
theorem w_spec_FreeOf (w : World) (G : List Res) (vp0 : Value) (p0 : LI) (hp0 : Has G ty12 vp0 p0) (p1 : Int) (r : (List Int)) (h : spec_FreeOfS p0 p1 = some r) (H : Ctx w G) : Calls Tryz.prog 54 #[vp0, iV p1] w fun e w' => ∃ (v1 : Value), e = .returned (v1) ∧ Holds M0 w w' [.sl 3 tI v1 r] G := by
 have H : Holds M0 w w [] G := zb H
 refine zg (args := [vp0, iV p1]) (n := 41) Tryz.func54 q q q ?_
 unfold spec_FreeOfS at h
 refine rR <| qA q q q <| B <| C <| Z ?_
 refine zs (t := tI) (args := []) (xs := ([] : List Int)) H (BltL.nil) u24 j3 q q q q q q (fun v1 w2 H3 => ?_)
 refine qA q q q <| B <| C <| rR <| qA q q q <| B <| g ?_
 obtain ⟨o7, av, h⟩ := D h
 refine fun a9 an => zp (I := fun s a w2 => match s with | (s5, s6) => ∃ aj, Fr a 41 [(0, vp0), (1, iV p1), (5, aj), (6, iV s6)] ∧ Holds M0 w w2 [.sl 3 tI aj s5] G) (O := fun o e a w2 => match o with | q0 => e = .exit 0 ∧ ∃ ao, Fr a 41 [(5, ao)] ∧ Holds M0 w w2 [.sl 3 tI ao q0] G) av ?_ ?_ ?_
 ·exact ⟨v1, an.sub ⟨q, q, q, q, trivial⟩, H3⟩
 ·clear an
  intro s aW a aX aa aw
  obtain ⟨s5, s6⟩ := s
  obtain ⟨aj, ha, ak⟩ := aw
  refine S ?_ ha
  clear ha
  refine C <| C <| zk <| qM q q q <| qM q q q <| za ak.ctx (t := ty12) (hp0.c) u23 q q q <| A q (qt_lss q q) q q <| qM q q q ?_
  obtain ⟨ap, ag, aa⟩ := D aa
  refine zh 3 15 (.bool ap) ?_ (fun md hmd hk => ?_)
  rotate_left
  ·obtain ⟨K, rfl⟩ := zr hmd
   rcases btf (decide (s6 < (List.length p0 : Int))) with ad | ad
   ·skip
    have ag := if_t ad ag
    refine qM (J q ad) q q ?_
    obtain ⟨ax, ay, ag⟩ := D ag
    refine QC (J q ad) q c86 (fun w' hb => w_spec_ItemsValid w' _ vp0 p0 (hp0.c) ax ay (ak.grow hb).ctx) (by rfl) <| A q (ze q ad q) q q ?_
    exact hk _ (p (vb ag) (cfn 2 q (u)))
   skip
   refine qS q ad q q <| qS q ad q q <| A q (zf q ad q) q q ?_
   exact hk _ (p (vb (if_f ad ag)) (cfn 2 q (u)))
  refine qM q q q ?_
  obtain ⟨az, ah, aa⟩ := D aa
  refine zh 3 19 (.bool az) ?_ (fun md hmd hk => ?_)
  rotate_left
  ·obtain ⟨K, rfl⟩ := zr hmd
   rcases btf ap with ae | ae
   ·skip
    have ah := if_t ae ah
    refine qM (J q ae) q q ?_
    obtain ⟨aA, aB, ah⟩ := D ah
    refine QC (J q ae) q c52 (fun w' hb => w_spec_l1In w' _ p1 0 31 aA aB (ak.grow hb).ctx) (by rfl) <| A q (ze q ae q) q q ?_
    exact hk _ (p (vb ah) (cfn 2 q (u)))
   skip
   refine qS q ae q q <| qS q ae q q <| A q (zf q ae q) q q ?_
   exact hk _ (p (vb (if_f ae ah)) (cfn 2 q (u)))
  refine QL_nil fun a ha aY aC => ?_
  have ai := ak.grow aC
  refine X (S ?_ ha)
  refine Y q (fun al => ?_) (fun al => ?_)
  ·have aa := if_t al aa
   refine y <| C <| g <| C <| zk <| qM q q q <| qM q q q ?_
   obtain ⟨aD, aq, aa⟩ := D aa
   refine b ai.ctx (hp0.c) aq u23 i55 q q q q (fun aZ a0 a1 aE => ?_)
   refine qF uf55 fi55_0 nz3 q q q ?_
   obtain ⟨a2, aF, a3⟩ := ai.at (hp0.c) aq aE
   obtain ⟨a4, aG, a5⟩ := AtP.fst aF
   refine zt (k := .i64) u3 q aG q q q <| A q (qt_gtr q q) q q <| qM q q q ?_
   obtain ⟨aH, af, aa⟩ := D aa
   refine zh 7 35 (.bool aH) ?_ (fun md hmd hk => ?_)
   rotate_left
   ·obtain ⟨K, rfl⟩ := zr hmd
    rcases btf (decide (aD.1 > 0)) with ab | ab
    ·skip
     have af := if_t ab af
     refine qM (J q ab) q q <| qM (J q ab) q q ?_
     obtain ⟨ar, aI, af⟩ := D af
     refine QC (J q ab) q c89 (fun w' hb => w_spec_MarksOf w' _ vp0 p0 (hp0.c) s6 ar aI (ai.grow hb).ctx) (by rfl) <| qM (J q ab) q q ?_
     obtain ⟨aJ, aK, af⟩ := D af
     refine QC (J q ab) q c88 (fun w' hb => w_spec_l1Meet w' _ ar p1 aJ aK (ai.grow hb).ctx) (by rfl) <| A (J q ab) (qt_eql q q) q q <| A q (ze q ab q) q q ?_
     exact hk _ (p (vb af) (cfn 6 q (u)))
    skip
    refine qS q ab q q <| qS q ab q q <| qS q ab q q <| qS q ab q q <| qS q ab q q <| qS q ab q q <| A q (zf q ab q) q q ?_
    exact hk _ (p (vb (if_f ab af)) (cfn 6 q (u)))
   refine QL_nil fun a ha a6 aL => ?_
   have au := ai.grow aL
   refine X (S ?_ ha)
   refine Y q (fun am => ?_) (fun am => ?_)
   ·have aa := if_t am aa
    refine Z <| qM q q q <| qM q q q ?_
    refine zs (t := tI) (args := [.tmp 37]) (xs := ([s6] : List Int)) au (BltL.cons (Blt.int) q (BltL.nil)) u24 j3 q q q q q q (fun a7 a8 aM => ?_)
    have aN := aM.p1
    obtain ⟨ba, aO, aa⟩ := D aa
    refine zw aN hS1 aO u24 j3 q q q q q q (fun aP bb aQ => ?_)
    refine qA q q q <| WL_nil fun a ha => ?_
    refine zi (X (S ?_ ha))
    refine Z <| qM q q q <| A q (qt_add q q) q q <| qA q q q <| WL_nil fun a ha => ?_
    obtain rfl := L aa
    have aR := aQ.q1
    exact ⟨q, aP, ha.sub ⟨q, q, q, q, trivial⟩, aR⟩
   have aa := if_f am aa
   refine WP_skip fun a ha => ?_
   refine zi (X (S ?_ ha))
   refine Z <| qM q q q <| A q (qt_add q q) q q <| qA q q q <| WL_nil fun a ha => ?_
   obtain rfl := L aa
   exact ⟨q, aj, ha.sub ⟨q, q, q, q, trivial⟩, au⟩
  have aa := if_f al aa
  refine WP_exit fun a ha => ?_
  obtain rfl := L aa
  exact zo (⟨exit_ne, q, aj, ha.sub ⟨q, trivial⟩, ai⟩)
 intro e a9 bc aS
 obtain ⟨bd, rfl⟩ : ∃ z, z = o7 := ⟨o7, q⟩
 obtain ⟨rfl, aT⟩ := aS
 obtain ⟨aU, ha, aV⟩ := aT
 refine zn (X (S ?_ ha))
 refine rR <| qM q q q <| qA q q q <| B <| W fun a ha => ?_
 obtain rfl := L h
 exact ret1 q ha q ⟨aU, q, aV⟩
theorem w_spec_l1Has (w : World) (G : List Res) (vp0 : Value) (p0 : List Int) (hp0 : Has G tI vp0 p0) (p1 : Int) (r : Bool) (h : spec_l1HasS p0 p1 = some r) (H : Ctx w G) : Calls Tryz.prog 55 #[vp0, iV p1] w fun e w' => e = .returned (.bool r) ∧ Holds M0 w w' [] G := by
 have H : Holds M0 w w [] G := zb H
 refine zg (args := [vp0, iV p1]) (n := 18) Tryz.func55 q q q ?_
 unfold spec_l1HasS at h
 refine rR <| qA q q q <| B <| C <| rR <| qA q q q <| B <| g ?_
 obtain ⟨o2, ai, h⟩ := D h
 refine fun a4 af => zp (I := fun s a w2 => match s with | s1 => (Fr a 18 [(0, vp0), (1, iV p1), (5, iV s1)] ∧ Holds M0 w w2 [] G)) (O := fun o e a w2 => match o with | .inl _ => e = .exit 0 ∧ (Fr a 18 [] ∧ Holds M0 w w2 [] G) | .inr q0 => e = .ret ∧ (Fr a 18 [(4, .bool q0)] ∧ Holds M0 w w2 [] G)) ai ?_ ?_ ?_
 ·exact ⟨af.sub ⟨q, q, q, trivial⟩, H⟩
 ·clear af
  intro s o8 a w6 aa aj
  obtain ⟨s1, rfl⟩ : ∃ z, z = s := ⟨s, q⟩
  obtain ⟨ha, ab⟩ := aj
  refine S ?_ ha
  clear ha
  refine C <| rR <| qM q q q <| qM q q q <| za ab.ctx (t := tI) (hp0) u24 q q q <| A q (qt_lss q q) q q <| B ?_
  refine Y q (fun ad => ?_) (fun ad => ?_)
  ·have aa := if_t ad aa
   refine y <| C <| g <| rR <| qM q q q <| qM q q q ?_
   obtain ⟨aq, ag, aa⟩ := D aa
   refine b ab.ctx (hp0) ag u24 i3 q q q q (fun ar au av ak => ?_)
   obtain ⟨aw, al, ax⟩ := ab.at (hp0) ag ak
   refine zt (k := .i64) u3 q al q q q <| qM q q q <| A q (qt_eql q q) q q <| B ?_
   refine Y q (fun ae => ?_) (fun ae => ?_)
   ·have aa := if_t ae aa
    refine rR <| qA q q q <| B <| W fun a ha => ?_
    obtain rfl := L aa
    exact zj (m (⟨ret_ne, q, ha.sub ⟨q, trivial⟩, ab⟩))
   have aa := if_f ae aa
   refine WP_skip fun a ha => ?_
   refine zi (X (S ?_ ha))
   refine Z <| qM q q q <| A q (qt_add q q) q q <| qA q q q <| WL_nil fun a ha => ?_
   obtain rfl := L aa
   exact ⟨q, ha.sub ⟨q, q, q, trivial⟩, ab⟩
  have aa := if_f ad aa
  refine WP_exit fun a ha => ?_
  obtain rfl := L aa
  exact zo (⟨exit_ne, q, ha.sub trivial, ab⟩)
 intro e a4 ay ah
 rcases o2 with o2 | o2
 ·skip
  obtain ⟨rfl, am⟩ := ah
  obtain ⟨ha, an⟩ := am
  refine zn (X (S ?_ ha))
  refine rR <| qA q q q <| B <| W fun a ha => ?_
  obtain rfl := L h
  exact ret1 q ha q ⟨q, an⟩
 skip
 obtain ⟨p26, rfl⟩ : ∃ z, z = o2 := ⟨o2, q⟩
 obtain ⟨rfl, ao⟩ := ah
 obtain ⟨ha, ap⟩ := ao
 obtain rfl := L h
 exact zj (m (ret1 q ha q ⟨q, ap⟩))
theorem w_spec_HouseValid (w : World) (G : List Res) (A0 : Value) (B0 : LI) (C0 : Has G ty12 A0 B0) (A1 : Value) (B1 : List Int) (C1 : Has G tI A1 B1) (A2 : Value) (B2 : List Int) (C2 : Has G tI A2 B2) (B3 : Int) (A4 : Value) (B4 : LT) (C4 : Has G ty14 A4 B4) (r : Bool) (h : spec_HouseValidS B0 B1 B2 B3 B4 = some r) (H : Ctx w G) : Calls Tryz.prog 17 #[.agg #[A0, A1, A2, iV B3, A4]] w fun e w' => e = .returned (.bool r) ∧ Holds M0 w w' [] G := by
 have H : Holds M0 w w [] G := zb H
 refine zg (args := [.agg #[A0, A1, A2, iV B3, A4]]) (n := 84) Tryz.func17 q q q ?_
 unfold spec_HouseValidS at h
 refine C <| Z ?_
 refine WL_box (cs := [A0, A1, A2, iV B3, A4]) H q q q q (fun b1 w2 H3 => ?_)
 refine qA q q q <| B <| C <| C <| zk <| qF uf27 fi27_0 nz23 q q q ?_
 have aU := R H3.p0
 refine l u23 q aU q q q q <| qF uf27 fi27_1 nz24 q q q ?_
 have aV := R H3.p0
 refine l u24 q aV q q q q ?_
 obtain ⟨x7, aW, h⟩ := D h
 refine QC q q c50 (fun w' hb => w_spec_PricesValid w' _ A0 B0 (C0.c) A1 B1 (C1.c) x7 aW (H3.grow hb).ctx) (by rfl) <| A q (qt_not q) q q <| qM q q q ?_
 obtain ⟨b9, am, h⟩ := D h
 refine zh 7 20 (.bool b9) ?_ (fun md hmd hk => ?_)
 rotate_left
 ·obtain ⟨K, rfl⟩ := zr hmd
  rcases btf (!x7) with ad | ad
  ·skip
   refine qS q ad q q <| qS q ad q q <| qS q ad q q <| qS q ad q q <| qS q ad q q <| qS q ad q q <| A q (ze q ad q) q q ?_
   exact hk _ (p (vb (if_t ad am)) (cfn 6 q (u)))
  skip
  have am := if_f ad am
  refine qF uf27 fi27_0 nz23 (J q ad) q q ?_
  have aX := R H3.p0
  refine l u23 q aX q (J q ad) q q <| qF uf27 fi27_2 nz24 (J q ad) q q ?_
  have aY := R H3.p0
  refine l u24 q aY q (J q ad) q q ?_
  obtain ⟨aZ, a0, am⟩ := D am
  refine QC (J q ad) q c51 (fun w' hb => w_spec_l1Amounts w' _ A0 B0 (C0.c) A2 B2 (C2.c) aZ a0 (H3.grow hb).ctx) (by rfl) <| A (J q ad) (qt_not q) q q <| A q (zf q ad q) q q ?_
  exact hk _ (p (vb am) (cfn 6 q (u)))
 refine qM q q q ?_
 obtain ⟨ax, an, h⟩ := D h
 refine zh 5 26 (.bool ax) ?_ (fun md hmd hk => ?_)
 rotate_left
 ·obtain ⟨K, rfl⟩ := zr hmd
  rcases btf b9 with ag | ag
  ·skip
   refine qS q ag q q <| qS q ag q q <| qS q ag q q <| qS q ag q q <| A q (ze q ag q) q q ?_
   exact hk _ (p (vb (if_t ag an)) (cfn 4 q (u)))
  skip
  have an := if_f ag an
  refine qF uf27 fi27_3 nz3 (J q ag) q q ?_
  have a1 := R H3.p0
  refine l u3 q a1 q (J q ag) q q ?_
  obtain ⟨a2, a3, an⟩ := D an
  refine QC (J q ag) q c52 (fun w' hb => w_spec_l1In w' _ B3 0 99999 a2 a3 (H3.grow hb).ctx) (by rfl) <| A (J q ag) (qt_not q) q q <| A q (zf q ag q) q q ?_
  exact hk _ (p (vb an) (cfn 4 q (u)))
 refine qM q q q ?_
 refine zh 5 32 (.bool (ax || (decide ((List.length B4 : Int) > 4)))) ?_ (fun md hmd hk => ?_)
 rotate_left
 ·obtain ⟨K, rfl⟩ := zr hmd
  rcases btf ax with ah | ah
  ·skip
   refine qS q ah q q <| qS q ah q q <| qS q ah q q <| qS q ah q q <| A q (ze q ah q) q q ?_
   exact hk _ (p (by rw [ah]; rfl) (cfn 4 q (u)))
  skip
  refine qF uf27 fi27_4 nz25 (J q ah) q q ?_
  have a4 := R H3.p0
  refine l u25 q a4 q (J q ah) q q <| za H3.ctx (t := ty14) (C4.c) u25 (J q ah) q q <| A (J q ah) (qt_gtr q q) q q <| A q (zf q ah q) q q ?_
  exact hk _ (p (by rw [ah]; rfl) (cfn 4 q (u)))
 refine QL_nil fun a ha b6 a5 => ?_
 have aH := H3.grow a5
 refine X (S ?_ ha)
 refine Y q (fun ay => ?_) (fun ay => ?_)
 ·have h := if_t ay h
  refine rR <| qA q q q <| B <| W fun a ha => ?_
  obtain rfl := L h
  have a6 := aH.q0
  exact m (ret1 q ha q ⟨q, a6⟩)
 have h := if_f ay h
 refine y <| C <| rR <| qA q q q <| B <| g ?_
 obtain ⟨ar, a7, h⟩ := D h
 refine fun a8 aI => zp (I := fun s a w2 => match s with | aw => (Fr a 84 [(1, pB b1), (3, iV aw)] ∧ Holds M0 w w2 [.bx b1 27 [A0, A1, A2, iV B3, A4]] G)) (O := fun o e a w2 => match o with | .inl _ => e = .exit 0 ∧ (Fr a 84 [] ∧ Holds M0 w w2 [] G) | .inr q0 => e = .ret ∧ (Fr a 84 [(2, .bool q0)] ∧ Holds M0 w w2 [] G)) a7 ?_ ?_ ?_
 ·exact ⟨aI.sub ⟨q, q, trivial⟩, aH⟩
 ·clear aI
  intro s b7 a a9 aa ba
  obtain ⟨aw, rfl⟩ : ∃ z, z = s := ⟨s, q⟩
  obtain ⟨ha, ao⟩ := ba
  refine S ?_ ha
  clear ha
  refine C <| rR <| qM q q q <| qF uf27 fi27_4 nz25 q q q ?_
  have bb := R ao.p0
  refine l u25 q bb q q q q <| za ao.ctx (t := ty14) (C4.c) u25 q q q <| A q (qt_lss q q) q q <| B ?_
  refine Y q (fun az => ?_) (fun az => ?_)
  ·have aa := if_t az aa
   refine y <| C <| g <| rR <| qF uf27 fi27_4 nz25 q q q ?_
   have bc := R ao.p0
   refine l u25 q bc q q q q <| qM q q q ?_
   obtain ⟨af, aJ, aa⟩ := D aa
   refine b ao.ctx (C4.c) aJ u25 i47 q q q q (fun b8 ca cb bd => ?_)
   obtain ⟨cc, be, bf⟩ := ao.atN (C4.c) aJ bd
   refine XL_load_agg (t := ty14) us47 uo47 i47 be q q q (fun cd bg => ?_)
   obtain ⟨c53, c54, ce, cf, rfl, aK, bh, bi⟩ := bg
   obtain ⟨rfl, _⟩ := bh
   obtain ⟨c60, c61, cg, ch, rfl, aL, bj, bk⟩ := bi
   obtain ⟨al, rfl, bl⟩ := Rep.sl_inv bj
   obtain ⟨ap, rfl, bm⟩ := Rep.sl_inv bk
   have bn : Holds _ w a9 [.ro ty2 al af.2.1, .ro tI ap af.2.2, .bx b1 27 [A0, A1, A2, iV B3, A4]] G := bf [.ro ty2 al af.2.1, .ro tI ap af.2.2] ⟨⟨_, _, _, _, q, bl, (fun k h => (fun k h => (fun _ h => h) k (by rw [aK]; exact zx _ h)) k (by rw [aL]; exact List.mem_append_left _ h))⟩, ⟨_, _, _, _, q, bm, (fun k h => (fun k h => (fun _ h => h) k (by rw [aK]; exact zx _ h)) k (by rw [aL]; exact zx _ h))⟩, trivial⟩
   change XL _ _ _ _ _ ((44, .agg #[iV af.1, al, ap]) :: _) _
   refine zq (cs := [iV 0, nS, nS]) bn z47 q q q (fun aM ci aA => ?_)
   refine zl (cs' := [iV af.1, al, ap]) aA q il47 q (T q (T (aA.ctx.sliceOne hR1) (T (aA.ctx.sliceOne hR2) q))) q q q (fun cj aj => ?_)
   refine B <| C <| C <| zk <| qF uf47 fi47_0 nz3 q q q ?_
   have bo := R aj.p0
   refine l u3 q bo q q q q ?_
   obtain ⟨aN, bp, aa⟩ := D aa
   refine QC q q c52 (fun w' hb => w_spec_l1In w' _ af.1 0 31 aN bp (aj.grow hb).ctx) (by rfl) <| A q (qt_not q) q q <| qM q q q ?_
   obtain ⟨aB, aq, aa⟩ := D aa
   refine zh 5 54 (.bool aB) ?_ (fun md hmd hk => ?_)
   rotate_left
   ·obtain ⟨K, rfl⟩ := zr hmd
    rcases btf (!aN) with ai | ai
    ·skip
     refine qS q ai q q <| qS q ai q q <| qS q ai q q <| qS q ai q q <| A q (ze q ai q) q q ?_
     exact hk _ (p (vb (if_t ai aq)) (cfn 4 q (u)))
    skip
    have aq := if_f ai aq
    refine qF uf47 fi47_1 nz45 (J q ai) q q ?_
    have bq := R aj.p0
    refine l u45 q bq q (J q ai) q q ?_
    obtain ⟨br, bs, aq⟩ := D aq
    refine QC (J q ai) q c53 (fun w' hb => w_spec_TicketValid w' _ al af.2.1 hR1 br bs (aj.grow hb).ctx) (by rfl) <| A (J q ai) (qt_not q) q q <| A q (zf q ai q) q q ?_
    exact hk _ (p (vb aq) (cfn 4 q (u)))
   refine qM q q q ?_
   refine zh 8 63 (.bool (aB || ((List.length af.2.2 : Int) != (List.length af.2.1 : Int)))) ?_ (fun md hmd hk => ?_)
   rotate_left
   ·obtain ⟨K, rfl⟩ := zr hmd
    rcases btf aB with ab | ab
    ·skip
     refine qS q ab q q <| qS q ab q q <| qS q ab q q <| qS q ab q q <| qS q ab q q <| qS q ab q q <| qS q ab q q <| A q (ze q ab q) q q ?_
     exact hk _ (p (by rw [ab]; rfl) (cfn 7 q (u)))
    skip
    refine qF uf47 fi47_2 nz24 (J q ab) q q ?_
    have bt := R aj.p0
    refine l u24 q bt q (J q ab) q q <| za aj.ctx (t := tI) hR2 u24 (J q ab) q q <| qF uf47 fi47_1 nz45 (J q ab) q q ?_
    have bu := R aj.p0
    refine l u45 q bu q (J q ab) q q <| za aj.ctx (t := ty2) hR1 u45 (J q ab) q q <| A (J q ab) (qt_neq q q) q q <| A q (zf q ab q) q q ?_
    exact hk _ (p (by rw [ab]; rfl) (cfn 7 q (u)))
   refine QL_nil fun a ha bv bw => ?_
   have au := aj.grow bw
   refine X (S ?_ ha)
   refine Y q (fun aC => ?_) (fun aC => ?_)
   ·have aa := if_t aC aa
    refine rR <| qA q q q <| B <| W fun a ha => ?_
    obtain rfl := L aa
    have bz := au.q0.q0.q0.q0
    exact m (zj (m (⟨ret_ne, q, ha.sub ⟨q, trivial⟩, bz⟩)))
   have aa := if_f aC aa
   refine y <| rR <| qF uf27 fi27_0 nz23 q q q ?_
   have bA := R au.p3
   refine l u23 q bA q q q q <| qF uf47 fi47_0 nz3 q q q ?_
   have bB := R au.p0
   refine l u3 q bB q q q q ?_
   obtain ⟨aD, bC, aa⟩ := D aa
   refine zd q q c54 (w_spec_FreeOf bv _ A0 B0 (C0.c.c.c.c) af.1 aD bC au.ctx) (by rfl) ?_
   rintro _ ck ⟨aE, rfl, bD⟩; refine ⟨_, q, ?_⟩
   have bE := au.cN1 [] bD
   refine qA q q q <| rN <| qA q q q <| B <| g ?_
   obtain ⟨av, bF, aa⟩ := D aa
   have bG := bE.p3.p3.p3.p4
   refine fun bH aO => zp (I := fun s a w2 => match s with | aP => (Fr a 84 [(1, pB b1), (3, iV aw), (4, pB aM), (5, aE), (6, iV aP)] ∧ Holds M0 w w2 [.bx b1 27 [A0, A1, A2, iV B3, A4], .bx aM 47 [iV af.1, al, ap], .ro ty2 al af.2.1, .ro tI ap af.2.2, .sl 3 tI aE aD] G)) (O := fun o e a w2 => match o with | .inl _ => e = .exit 2 ∧ (Fr a 84 [(1, pB b1), (3, iV aw)] ∧ Holds M0 w w2 [.bx b1 27 [A0, A1, A2, iV B3, A4]] G) | .inr q0 => e = .ret ∧ (Fr a 84 [(2, .bool q0)] ∧ Holds M0 w w2 [] G)) bF ?_ ?_ ?_
   ·exact ⟨aO.sub ⟨q, q, q, q, q, trivial⟩, bG⟩
   ·clear aO
    intro s cl a cm ae bI
    obtain ⟨aP, rfl⟩ : ∃ z, z = s := ⟨s, q⟩
    obtain ⟨ha, ak⟩ := bI
    refine S ?_ ha
    clear ha
    refine C <| rR <| qM q q q <| qF uf47 fi47_2 nz24 q q q ?_
    have bJ := R ak.p1
    refine l u24 q bJ q q q q <| za ak.ctx (t := tI) hR3 u24 q q q <| A q (qt_lss q q) q q <| B ?_
    refine Y q (fun aF => ?_) (fun aF => ?_)
    ·have ae := if_t aF ae
     refine y <| C <| g <| C <| zk <| qM q q q <| qF uf47 fi47_2 nz24 q q q ?_
     have bK := R ak.p1
     refine l u24 q bK q q q q <| qM q q q ?_
     obtain ⟨bL, aQ, ae⟩ := D ae
     refine b ak.ctx hR3 aQ u24 i3 q q q q (fun cn co cp bM => ?_)
     obtain ⟨cq, bN, cr⟩ := ak.at hR3 aQ bM
     refine zt (k := .i64) u3 q bN q q q ?_
     obtain ⟨bO, bP, ae⟩ := D ae
     refine QC q q c55 (fun w' hb => w_spec_l1Has w' _ aE aD hS4 bL bO bP (ak.grow hb).ctx) (by rfl) <| A q (qt_not q) q q <| QL_nil fun a ha ct bQ => ?_
     have aR := ak.grow bQ
     refine X (S ?_ ha)
     refine Y q (fun aG => ?_) (fun aG => ?_)
     ·have ae := if_t aG ae
      refine rR <| qA q q q <| B <| W fun a ha => ?_
      obtain rfl := L ae
      have bR := aR.q0.q0.q0.q0.q0
      exact zj (m (⟨ret_ne, q, ha.sub ⟨q, trivial⟩, bR⟩))
     have ae := if_f aG ae
     refine WP_skip fun a ha => ?_
     refine zi (X (S ?_ ha))
     refine Z <| qM q q q <| A q (qt_add q q) q q <| qA q q q <| WL_nil fun a ha => ?_
     obtain rfl := L ae
     have bS := aR.p4.p4.p4.p4.p4
     exact ⟨q, ha.sub ⟨q, q, q, q, q, trivial⟩, bS⟩
    have ae := if_f aF ae
    refine WP_exit fun a ha => ?_
    obtain rfl := L ae
    have bT := ak.q1.q1.q1.q1
    exact zo (⟨exit_ne, q, ha.sub ⟨q, q, trivial⟩, bT⟩)
   intro e bH cu aS
   rcases av with av | av
   ·skip
    obtain ⟨rfl, bU⟩ := aS
    obtain ⟨ha, bV⟩ := bU
    refine zn (zi (X (S ?_ ha)))
    refine Z <| qM q q q <| A q (qt_add q q) q q <| qA q q q <| WL_nil fun a ha => ?_
    obtain rfl := L aa
    exact ⟨q, ha.sub ⟨q, q, trivial⟩, bV⟩
   skip
   obtain ⟨cv, rfl⟩ : ∃ z, z = av := ⟨av, q⟩
   obtain ⟨rfl, bW⟩ := aS
   obtain ⟨ha, bX⟩ := bW
   obtain rfl := L aa
   exact zj (zj (m (⟨ret_ne, q, ha.sub ⟨q, trivial⟩, bX⟩)))
  have aa := if_f az aa
  refine WP_exit fun a ha => ?_
  obtain rfl := L aa
  have bY := ao.q0
  exact zo (⟨exit_ne, q, ha.sub trivial, bY⟩)
 intro e a8 cw aT
 rcases ar with ar | ar
 ·skip
  obtain ⟨rfl, bZ⟩ := aT
  obtain ⟨ha, b0⟩ := bZ
  refine zn (X (S ?_ ha))
  refine rR <| qA q q q <| B <| W fun a ha => ?_
  obtain rfl := L h
  exact ret1 q ha q ⟨q, b0⟩
 skip
 obtain ⟨cx, rfl⟩ : ∃ z, z = ar := ⟨ar, q⟩
 obtain ⟨rfl, b4⟩ := aT
 obtain ⟨ha, b5⟩ := b4
 obtain rfl := L h
 exact zj (m (ret1 q ha q ⟨q, b5⟩))
end Go.Proofs.YtpabogkcmbkffaaGreatDoor
