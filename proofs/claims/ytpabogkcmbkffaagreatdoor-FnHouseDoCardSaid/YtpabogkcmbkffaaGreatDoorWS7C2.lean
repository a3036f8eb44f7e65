/- The walks: each Go function computes its shallow function. Printed by a program. -/
import Derived.Test.YtpabogkcmbkffaaGreatDoorWS7C1
set_option linter.unusedVariables false
set_option maxRecDepth 10000
set_option maxHeartbeats 8000000
namespace Go.Proofs.YtpabogkcmbkffaaGreatDoor
open Go Go.RowKit
theorem w_spec_UsesOf (w : World) (G : List Res) (vp0 : Value) (p0 : LI) (hp0 : Has G ty10 vp0 p0) (p1 : Int) (r : Int) (h : spec_UsesOfS p0 p1 = some r) (H : Ctx w G) : Calls Tryz.prog 108 #[vp0, iV p1] w fun e w' => e = .returned (iV r) ∧ Holds M0 w w' [] G := by
 have H : Holds M0 w w [] G := zb H
 refine zg (args := [vp0, iV p1]) (n := 56) Tryz.func108 q q q ?_
 unfold spec_UsesOfS at h
 refine rR <| qA q q q <| B <| C <| C <| zk <| qM q q q ?_
 obtain ⟨x1, aF, h⟩ := D h
 refine QC q q c86 (fun w' hb => w_spec_ItemsValid w' G vp0 p0 (hp0) x1 aF (H.grow hb).ctx) (by rfl) <| A q (qt_not q) q q <| qM q q q ?_
 obtain ⟨b3, af, h⟩ := D h
 refine zh 7 18 (.bool b3) ?_ (fun md hmd hk => ?_)
 rotate_left
 ·obtain ⟨K, rfl⟩ := zr hmd
  rcases btf (!x1) with ab | ab
  ·skip
   refine qS q ab q q <| qS q ab q q <| qS q ab q q <| qS q ab q q <| qS q ab q q <| qS q ab q q <| A q (ze q ab q) q q ?_
   exact hk _ (p (vb (if_t ab af)) (cfn 6 q (u)))
  skip
  have af := if_f ab af
  refine qM (J q ab) q q <| qM (J q ab) q q <| za H.ctx (t := ty10) (hp0) u23 (J q ab) q q <| A (J q ab) (qt_sub q q) q q ?_
  obtain ⟨x6, aG, af⟩ := D af
  refine QC (J q ab) q c52 (fun w' hb => w_spec_l1In w' G p1 0 (IntKind.wrap .i64 ((List.length p0 : Int) - 1)) x6 aG (H.grow hb).ctx) (by rfl) <| A (J q ab) (qt_not q) q q <| A q (zf q ab q) q q ?_
  exact hk _ (p (vb af) (cfn 6 q (u)))
 refine QL_nil fun a ha w8 aH => ?_
 have aq := H.grow aH
 refine X (S ?_ ha)
 refine Y q (fun ak => ?_) (fun ak => ?_)
 ·have h := if_t ak h
  refine rR <| qA q q q <| B <| W fun a ha => ?_
  obtain rfl := L h
  exact m (ret1 q ha q ⟨q, aq⟩)
 have h := if_f ak h
 refine y <| rR <| qM q q q ?_
 obtain ⟨bq, aI, h⟩ := D h
 refine A q (qt_shlO q q aI) q q <| qA q q q <| B <| C <| rR <| qM q q q <| qA q q q <| B <| g ?_
 obtain ⟨ar, aJ, h⟩ := D h
 refine fun aK au => zp (I := fun s a w2 => match s with | (av, ah) => (Fr a 56 [(0, vp0), (5, iV av), (6, iV ah)] ∧ Holds M0 w w2 [] G)) (O := fun o e a w2 => match o with | q0 => e = .exit 0 ∧ (Fr a 56 [(5, iV q0)] ∧ Holds M0 w w2 [] G)) aJ ?_ ?_ ?_
 ·exact ⟨au.sub ⟨q, q, q, trivial⟩, aq⟩
 ·clear au
  intro s br a bs ae aL
  obtain ⟨av, ah⟩ := s
  obtain ⟨ha, aw⟩ := aL
  refine S ?_ ha
  clear ha
  refine C <| rR <| qM q q q <| A q (qt_geq q q) q q <| B ?_
  refine Y q (fun al => ?_) (fun al => ?_)
  ·have ae := if_t al ae
   refine y <| C <| g <| rR <| qA q q q <| B <| g ?_
   obtain ⟨ax, aM, ae⟩ := D ae
   refine fun aN ay => zp (I := fun s a w2 => match s with | (am, an) => (Fr a 56 [(0, vp0), (5, iV am), (6, iV ah), (7, iV an)] ∧ Holds M0 w w2 [] G)) (O := fun o e a w2 => match o with | q0 => e = .exit 2 ∧ (Fr a 56 [(0, vp0), (5, iV q0), (6, iV ah)] ∧ Holds M0 w w2 [] G)) aM ?_ ?_ ?_
   ·exact ⟨ay.sub ⟨q, q, q, q, trivial⟩, aw⟩
   ·clear ay
    intro s bt a az aa aO
    obtain ⟨am, an⟩ := s
    obtain ⟨ha, aA⟩ := aO
    refine S ?_ ha
    clear ha
    refine C <| rR <| qM q q q <| qM q q q <| qM q q q ?_
    obtain ⟨ao, aB, aa⟩ := D aa
    refine b aA.ctx (hp0) aB u23 i55 q q q q (fun bu bv bw aP => ?_)
    refine qF uf55 fi55_1 nz53 q q q ?_
    obtain ⟨bz, aQ, aR⟩ := aA.at (hp0) aB aP
    obtain ⟨bA, aS, aT⟩ := AtP.snd aQ
    obtain ⟨bB, aU, aV⟩ := AtP.fst aS
    refine XL_load (t := ty4) u53 q q aU q q q (fun aC aW => ?_)
    have ai : Holds _ w az [.ro ty2 aC ao.2.1] G := aR _ _ _ _ aW (fun k h => (fun k h => (fun _ h => h) k (aT k h)) k (aV k h))
    refine za ai.ctx (t := ty2) hR0 u53 q q q <| A q (qt_lss q q) q q <| qM q q q ?_
    obtain ⟨aX, ag, aa⟩ := D aa
    refine zh 6 40 (.bool aX) ?_ (fun md hmd hk => ?_)
    rotate_left
    ·obtain ⟨Q, rfl⟩ := Md.seq_of hmd
     rcases btf (decide (an < (List.length ao.2.1 : Int))) with ad | ad
     ·skip
      have ag := if_t ad ag
      refine qM (J q ad) q q <| qM (J q ad) q q ?_
      obtain ⟨bC, aY, ag⟩ := D ag
      refine A (J q ad) (qt_shrO q q aY) q q <| A (J q ad) (qt_rem q q (by decide)) q q <| A (J q ad) (qt_eql q q) q q <| A q (ze q ad q) q q ?_
      exact hk _ (p (vb ag) (cfn 5 q (u)))
     skip
     refine qS q ad q q <| qS q ad q q <| qS q ad q q <| qS q ad q q <| qS q ad q q <| A q (zf q ad q) q q ?_
     exact hk _ (p (vb (if_f ad ag)) (cfn 5 q (u)))
    refine B ?_
    refine Y q (fun ap => ?_) (fun ap => ?_)
    ·have aa := if_t ap aa
     refine y <| C <| g <| zk <| qM q q q <| qM q q q <| qM q q q ?_
     obtain ⟨aZ, aD, aa⟩ := D aa
     refine b ai.ctx (hp0.c) aD u23 i55 q q q q (fun bD bE bF a0 => ?_)
     refine qF uf55 fi55_1 nz53 q q q ?_
     obtain ⟨bG, a1, a2⟩ := ai.at (hp0.c) aD a0
     obtain ⟨bH, a3, a4⟩ := AtP.snd a1
     obtain ⟨bI, a5, a6⟩ := AtP.fst a3
     refine XL_load (t := ty4) u53 q q a5 q q q (fun a7 a8 => ?_)
     have aj : Holds _ w az [.ro ty2 a7 aZ.2.1, .ro ty2 aC ao.2.1] G := a2 _ _ _ _ a8 (fun k h => (fun k h => (fun _ h => h) k (a4 k h)) k (a6 k h))
     refine qM q q q ?_
     obtain ⟨bJ, aE, aa⟩ := D aa
     refine b aj.ctx hR0 aE u53 i57 q q q q (fun bK bL bM a9 => ?_)
     refine qF uf57 fi57_0 nz3 q q q ?_
     obtain ⟨bN, ba, bO⟩ := aj.at hR0 aE a9
     obtain ⟨bP, bb, bQ⟩ := AtP.fst ba
     refine zt (k := .i64) u3 q bb q q q ?_
     obtain ⟨bc, bd, aa⟩ := D aa
     refine A q (qt_shlO q q bd) q q ?_
     obtain ⟨be, bf, aa⟩ := D aa
     refine QC q q c107 (fun w' hb => w_spec_l1Join w' _ am bc be bf (aj.grow hb).ctx) (by rfl) <| qA q q q <| QL_nil fun a ha bR bg => ?_
     have bh := aj.grow bg
     refine zi (X (S ?_ ha))
     refine Z <| qM q q q <| A q (qt_add q q) q q <| qA q q q <| WL_nil fun a ha => ?_
     obtain rfl := L aa
     have bi := bh.q0.q0
     exact ⟨q, ha.sub ⟨q, q, q, q, trivial⟩, bi⟩
    have aa := if_f ap aa
    refine WP_exit fun a ha => ?_
    obtain rfl := L aa
    have bj := ai.q0
    exact zo (⟨exit_ne, q, ha.sub ⟨q, q, q, trivial⟩, bj⟩)
   intro e aN bS bk
   obtain ⟨bT, rfl⟩ : ∃ z, z = ax := ⟨ax, q⟩
   obtain ⟨rfl, bl⟩ := bk
   obtain ⟨ha, bm⟩ := bl
   refine zn (zi (X (S ?_ ha)))
   refine Z <| qM q q q <| A q (qt_sub q q) q q <| qA q q q <| WL_nil fun a ha => ?_
   obtain rfl := L ae
   exact ⟨q, ha.sub ⟨q, q, q, trivial⟩, bm⟩
  have ae := if_f al ae
  refine WP_exit fun a ha => ?_
  obtain rfl := L ae
  exact zo (⟨exit_ne, q, ha.sub ⟨q, trivial⟩, aw⟩)
 intro e aK bU bn
 obtain ⟨bV, rfl⟩ : ∃ z, z = ar := ⟨ar, q⟩
 obtain ⟨rfl, bo⟩ := bn
 obtain ⟨ha, bp⟩ := bo
 refine zn (X (S ?_ ha))
 refine rR <| qM q q q <| qA q q q <| B <| W fun a ha => ?_
 obtain rfl := L h
 exact ret1 q ha q ⟨q, bp⟩
theorem w_spec_MarksOf (w : World) (G : List Res) (vp0 : Value) (p0 : LI) (hp0 : Has G ty10 vp0 p0) (p1 : Int) (r : Int) (h : spec_MarksOfS p0 p1 = some r) (H : Ctx w G) : Calls Tryz.prog 89 #[vp0, iV p1] w fun e w' => e = .returned (iV r) ∧ Holds M0 w w' [] G := by
 have H : Holds M0 w w [] G := zb H
 refine zg (args := [vp0, iV p1]) (n := 31) Tryz.func89 q q q ?_
 unfold spec_MarksOfS at h
 refine rR <| qA q q q <| B <| C <| zk <| qM q q q <| qM q q q ?_
 obtain ⟨x1, ai, h⟩ := D h
 refine QC q q c108 (fun w' hb => w_spec_UsesOf w' G vp0 p0 (hp0) p1 x1 ai (H.grow hb).ctx) (by rfl) <| qA q q q <| QL_nil fun a ha w3 aj => ?_
 have H5 := H.grow aj
 refine X (S ?_ ha)
 refine C <| rR <| qM q q q <| A q (qt_lss q q) q q <| B ?_
 refine Y q (fun ad => ?_) (fun ad => ?_)
 ·have h := if_t ad h
  refine rR <| qA q q q <| B <| W fun a ha => ?_
  obtain rfl := L h
  exact m (ret1 q ha q ⟨q, H5⟩)
 have h := if_f ad h
 refine y <| rR <| qA q q q <| B <| C <| rR <| qA q q q <| B ?_
 refine g ?_
 obtain ⟨o9, ak, h⟩ := D h
 refine fun al ag => zp (I := fun s a w2 => match s with | (s7, s8) => (Fr a 31 [(0, vp0), (1, iV p1), (5, iV x1), (6, iV s7), (7, iV s8)] ∧ Holds M0 w w2 [] G)) (O := fun o e a w2 => match o with | q0 => e = .exit 0 ∧ (Fr a 31 [(6, iV q0)] ∧ Holds M0 w w2 [] G)) ak ?_ ?_ ?_
 ·exact ⟨ag.sub ⟨q, q, q, q, q, trivial⟩, H5⟩
 ·clear ag
  intro s aC a aD aa am
  obtain ⟨s7, s8⟩ := s
  obtain ⟨ha, ab⟩ := am
  refine S ?_ ha
  clear ha
  refine C <| rR <| qM q q q <| qM q q q <| A q (qt_leq q q) q q <| B ?_
  refine Y q (fun ae => ?_) (fun ae => ?_)
  ·have aa := if_t ae aa
   refine y <| C <| g <| rR <| qM q q q <| qM q q q ?_
   obtain ⟨aE, an, aa⟩ := D aa
   refine A q (qt_shrO q q an) q q <| A q (qt_rem q q (by decide)) q q <| A q (qt_eql q q) q q <| B ?_
   refine Y q (fun af => ?_) (fun af => ?_)
   ·have aa := if_t af aa
    refine zk <| qM q q q <| qM q q q <| qM q q q ?_
    obtain ⟨ao, ah, aa⟩ := D aa
    refine b ab.ctx (hp0) ah u23 i55 q q q q (fun aF aG aH ap => ?_)
    refine qF uf55 fi55_2 nz3 q q q ?_
    obtain ⟨aI, aq, aJ⟩ := ab.at (hp0) ah ap
    obtain ⟨aK, ar, aL⟩ := AtP.snd aq
    obtain ⟨aM, au, aN⟩ := AtP.snd ar
    refine zt (k := .i64) u3 q au q q q ?_
    obtain ⟨av, aw, aa⟩ := D aa
    refine QC q q c107 (fun w' hb => w_spec_l1Join w' G s7 ao.2.2 av aw (ab.grow hb).ctx) (by rfl) <| qA q q q <| QL_nil fun a ha aO ax => ?_
    have ay := ab.grow ax
    refine zi (X (S ?_ ha))
    refine Z <| qM q q q <| A q (qt_add q q) q q <| qA q q q <| WL_nil fun a ha => ?_
    obtain rfl := L aa
    exact ⟨q, ha.sub ⟨q, q, q, q, q, trivial⟩, ay⟩
   have aa := if_f af aa
   refine WP_skip fun a ha => ?_
   refine zi (X (S ?_ ha))
   refine Z <| qM q q q <| A q (qt_add q q) q q <| qA q q q <| WL_nil fun a ha => ?_
   obtain rfl := L aa
   exact ⟨q, ha.sub ⟨q, q, q, q, q, trivial⟩, ab⟩
  have aa := if_f ae aa
  refine WP_exit fun a ha => ?_
  obtain rfl := L aa
  exact zo (⟨exit_ne, q, ha.sub ⟨q, trivial⟩, ab⟩)
 intro e al aP az
 obtain ⟨aQ, rfl⟩ : ∃ z, z = o9 := ⟨o9, q⟩
 obtain ⟨rfl, aA⟩ := az
 obtain ⟨ha, aB⟩ := aA
 refine zn (X (S ?_ ha))
 refine rR <| qM q q q <| qA q q q <| B <| W fun a ha => ?_
 obtain rfl := L h
 exact ret1 q ha q ⟨q, aB⟩
theorem w_spec_l1Meet (w : World) (G : List Res) (p0 : Int) (p1 : Int) (r : Int) (h : spec_l1MeetS p0 p1 = some r) (H : Ctx w G) : Calls Tryz.prog 88 #[iV p0, iV p1] w fun e w' => e = .returned (iV r) ∧ Holds M0 w w' [] G := by
 have H : Holds M0 w w [] G := zb H
 refine zg (args := [iV p0, iV p1]) (n := 12) Tryz.func88 q q q ?_
 unfold spec_l1MeetS at h
 refine rR <| qA q q q <| B <| C <| zk <| qM q q q <| qM q q q <| A q (qt_add q q) q q <| qM q q q ?_
 refine qM q q q ?_
 obtain ⟨x1, aa, h⟩ := D h
 refine QC q q c107 (fun w' hb => w_spec_l1Join w' G p0 p1 x1 aa (H.grow hb).ctx) (by rfl) <| A q (qt_sub q q) q q <| qA q q q <| QL_nil fun a ha w3 ab => ?_
 have H5 := H.grow ab
 refine X (S ?_ ha)
 refine W fun a ha => ?_
 obtain rfl := L h
 exact ret1 q ha q ⟨q, H5⟩
theorem w_spec_FreeOf (w : World) (G : List Res) (vp0 : Value) (p0 : LI) (hp0 : Has G ty10 vp0 p0) (p1 : Int) (r : (List Int)) (h : spec_FreeOfS p0 p1 = some r) (H : Ctx w G) : Calls Tryz.prog 54 #[vp0, iV p1] w fun e w' => ∃ (v1 : Value), e = .returned (v1) ∧ Holds M0 w w' [.sl 3 tI v1 r] G := by
 have H : Holds M0 w w [] G := zb H
 refine zg (args := [vp0, iV p1]) (n := 41) Tryz.func54 q q q ?_
 unfold spec_FreeOfS at h
 refine rR <| qA q q q <| B <| C <| Z ?_
 refine zs (t := tI) (args := []) (xs := ([] : List Int)) H (BltL.nil) u24 j3 q q q q q q (fun v1 w2 H3 => ?_)
 refine qA q q q <| B <| C <| rR <| qA q q q <| B <| g ?_
 obtain ⟨o7, av, h⟩ := D h
 refine fun a9 an => zp (I := fun s a w2 => match s with | (s5, s6) => ∃ aj, Fr a 41 [(0, vp0), (1, iV p1), (5, aj), (6, iV s6)] ∧ Holds M0 w w2 [.sl 3 tI aj s5] G) (O := fun o e a w2 => match o with | q0 => e = .exit 0 ∧ ∃ ao, Fr a 41 [(5, ao)] ∧ Holds M0 w w2 [.sl 3 tI ao q0] G) av ?_ ?_ ?_
 ·exact ⟨v1, an.sub ⟨q, q, q, q, trivial⟩, H3⟩
 ·clear an
  intro s aW a aX aa aw
  obtain ⟨s5, s6⟩ := s
  obtain ⟨aj, ha, ak⟩ := aw
  refine S ?_ ha
  clear ha
  refine C <| C <| zk <| qM q q q <| qM q q q <| za ak.ctx (t := ty10) (hp0.c) u23 q q q <| A q (qt_lss q q) q q <| qM q q q ?_
  obtain ⟨ap, ag, aa⟩ := D aa
  refine zh 3 15 (.bool ap) ?_ (fun md hmd hk => ?_)
  rotate_left
  ·obtain ⟨K, rfl⟩ := zr hmd
   rcases btf (decide (s6 < (List.length p0 : Int))) with ad | ad
   ·skip
    have ag := if_t ad ag
    refine qM (J q ad) q q ?_
    obtain ⟨ax, ay, ag⟩ := D ag
    refine QC (J q ad) q c86 (fun w' hb => w_spec_ItemsValid w' _ vp0 p0 (hp0.c) ax ay (ak.grow hb).ctx) (by rfl) <| A q (ze q ad q) q q ?_
    exact hk _ (p (vb ag) (cfn 2 q (u)))
   skip
   refine qS q ad q q <| qS q ad q q <| A q (zf q ad q) q q ?_
   exact hk _ (p (vb (if_f ad ag)) (cfn 2 q (u)))
  refine qM q q q ?_
  obtain ⟨az, ah, aa⟩ := D aa
  refine zh 3 19 (.bool az) ?_ (fun md hmd hk => ?_)
  rotate_left
  ·obtain ⟨K, rfl⟩ := zr hmd
   rcases btf ap with ae | ae
   ·skip
    have ah := if_t ae ah
    refine qM (J q ae) q q ?_
    obtain ⟨aA, aB, ah⟩ := D ah
    refine QC (J q ae) q c52 (fun w' hb => w_spec_l1In w' _ p1 0 31 aA aB (ak.grow hb).ctx) (by rfl) <| A q (ze q ae q) q q ?_
    exact hk _ (p (vb ah) (cfn 2 q (u)))
   skip
   refine qS q ae q q <| qS q ae q q <| A q (zf q ae q) q q ?_
   exact hk _ (p (vb (if_f ae ah)) (cfn 2 q (u)))
  refine QL_nil fun a ha aY aC => ?_
  have ai := ak.grow aC
  refine X (S ?_ ha)
  refine Y q (fun al => ?_) (fun al => ?_)
  ·have aa := if_t al aa
   refine y <| C <| g <| C <| zk <| qM q q q <| qM q q q ?_
   obtain ⟨aD, aq, aa⟩ := D aa
   refine b ai.ctx (hp0.c) aq u23 i55 q q q q (fun aZ a0 a1 aE => ?_)
   refine qF uf55 fi55_0 nz3 q q q ?_
   obtain ⟨a2, aF, a3⟩ := ai.at (hp0.c) aq aE
   obtain ⟨a4, aG, a5⟩ := AtP.fst aF
   refine zt (k := .i64) u3 q aG q q q <| A q (qt_gtr q q) q q <| qM q q q ?_
   obtain ⟨aH, af, aa⟩ := D aa
   refine zh 7 35 (.bool aH) ?_ (fun md hmd hk => ?_)
   rotate_left
   ·obtain ⟨K, rfl⟩ := zr hmd
    rcases btf (decide (aD.1 > 0)) with ab | ab
    ·skip
     have af := if_t ab af
     refine qM (J q ab) q q <| qM (J q ab) q q ?_
     obtain ⟨ar, aI, af⟩ := D af
     refine QC (J q ab) q c89 (fun w' hb => w_spec_MarksOf w' _ vp0 p0 (hp0.c) s6 ar aI (ai.grow hb).ctx) (by rfl) <| qM (J q ab) q q ?_
     obtain ⟨aJ, aK, af⟩ := D af
     refine QC (J q ab) q c88 (fun w' hb => w_spec_l1Meet w' _ ar p1 aJ aK (ai.grow hb).ctx) (by rfl) <| A (J q ab) (qt_eql q q) q q <| A q (ze q ab q) q q ?_
     exact hk _ (p (vb af) (cfn 6 q (u)))
    skip
    refine qS q ab q q <| qS q ab q q <| qS q ab q q <| qS q ab q q <| qS q ab q q <| qS q ab q q <| A q (zf q ab q) q q ?_
    exact hk _ (p (vb (if_f ab af)) (cfn 6 q (u)))
   refine QL_nil fun a ha a6 aL => ?_
   have au := ai.grow aL
   refine X (S ?_ ha)
   refine Y q (fun am => ?_) (fun am => ?_)
   ·have aa := if_t am aa
    refine Z <| qM q q q <| qM q q q ?_
    refine zs (t := tI) (args := [.tmp 37]) (xs := ([s6] : List Int)) au (BltL.cons (Blt.int) q (BltL.nil)) u24 j3 q q q q q q (fun a7 a8 aM => ?_)
    have aN := aM.p1
    obtain ⟨ba, aO, aa⟩ := D aa
    refine zw aN hS1 aO u24 j3 q q q q q q (fun aP bb aQ => ?_)
    refine qA q q q <| WL_nil fun a ha => ?_
    refine zi (X (S ?_ ha))
    refine Z <| qM q q q <| A q (qt_add q q) q q <| qA q q q <| WL_nil fun a ha => ?_
    obtain rfl := L aa
    have aR := aQ.q1
    exact ⟨q, aP, ha.sub ⟨q, q, q, q, trivial⟩, aR⟩
   have aa := if_f am aa
   refine WP_skip fun a ha => ?_
   refine zi (X (S ?_ ha))
   refine Z <| qM q q q <| A q (qt_add q q) q q <| qA q q q <| WL_nil fun a ha => ?_
   obtain rfl := L aa
   exact ⟨q, aj, ha.sub ⟨q, q, q, q, trivial⟩, au⟩
  have aa := if_f al aa
  refine WP_exit fun a ha => ?_
  obtain rfl := L aa
  exact zo (⟨exit_ne, q, aj, ha.sub ⟨q, trivial⟩, ai⟩)
 intro e a9 bc aS
 obtain ⟨bd, rfl⟩ : ∃ z, z = o7 := ⟨o7, q⟩
 obtain ⟨rfl, aT⟩ := aS
 obtain ⟨aU, ha, aV⟩ := aT
 refine zn (X (S ?_ ha))
 refine rR <| qM q q q <| qA q q q <| B <| W fun a ha => ?_
 obtain rfl := L h
 exact ret1 q ha q ⟨aU, q, aV⟩
theorem w_spec_l1Has (w : World) (G : List Res) (vp0 : Value) (p0 : List Int) (hp0 : Has G tI vp0 p0) (p1 : Int) (r : Bool) (h : spec_l1HasS p0 p1 = some r) (H : Ctx w G) : Calls Tryz.prog 55 #[vp0, iV p1] w fun e w' => e = .returned (.bool r) ∧ Holds M0 w w' [] G := by
 have H : Holds M0 w w [] G := zb H
 refine zg (args := [vp0, iV p1]) (n := 18) Tryz.func55 q q q ?_
 unfold spec_l1HasS at h
 refine rR <| qA q q q <| B <| C <| rR <| qA q q q <| B <| g ?_
 obtain ⟨o2, ai, h⟩ := D h
 refine fun a4 af => zp (I := fun s a w2 => match s with | s1 => (Fr a 18 [(0, vp0), (1, iV p1), (5, iV s1)] ∧ Holds M0 w w2 [] G)) (O := fun o e a w2 => match o with | .inl _ => e = .exit 0 ∧ (Fr a 18 [] ∧ Holds M0 w w2 [] G) | .inr q0 => e = .ret ∧ (Fr a 18 [(4, .bool q0)] ∧ Holds M0 w w2 [] G)) ai ?_ ?_ ?_
 ·exact ⟨af.sub ⟨q, q, q, trivial⟩, H⟩
 ·clear af
  intro s o8 a w6 aa aj
  obtain ⟨s1, rfl⟩ : ∃ z, z = s := ⟨s, q⟩
  obtain ⟨ha, ab⟩ := aj
  refine S ?_ ha
  clear ha
  refine C <| rR <| qM q q q <| qM q q q <| za ab.ctx (t := tI) (hp0) u24 q q q <| A q (qt_lss q q) q q <| B ?_
  refine Y q (fun ad => ?_) (fun ad => ?_)
  ·have aa := if_t ad aa
   refine y <| C <| g <| rR <| qM q q q <| qM q q q ?_
   obtain ⟨aq, ag, aa⟩ := D aa
   refine b ab.ctx (hp0) ag u24 i3 q q q q (fun ar au av ak => ?_)
   obtain ⟨aw, al, ax⟩ := ab.at (hp0) ag ak
   refine zt (k := .i64) u3 q al q q q <| qM q q q <| A q (qt_eql q q) q q <| B ?_
   refine Y q (fun ae => ?_) (fun ae => ?_)
   ·have aa := if_t ae aa
    refine rR <| qA q q q <| B <| W fun a ha => ?_
    obtain rfl := L aa
    exact zj (m (⟨ret_ne, q, ha.sub ⟨q, trivial⟩, ab⟩))
   have aa := if_f ae aa
   refine WP_skip fun a ha => ?_
   refine zi (X (S ?_ ha))
   refine Z <| qM q q q <| A q (qt_add q q) q q <| qA q q q <| WL_nil fun a ha => ?_
   obtain rfl := L aa
   exact ⟨q, ha.sub ⟨q, q, q, trivial⟩, ab⟩
  have aa := if_f ad aa
  refine WP_exit fun a ha => ?_
  obtain rfl := L aa
  exact zo (⟨exit_ne, q, ha.sub trivial, ab⟩)
 intro e a4 ay ah
 rcases o2 with o2 | o2
 ·skip
  obtain ⟨rfl, am⟩ := ah
  obtain ⟨ha, an⟩ := am
  refine zn (X (S ?_ ha))
  refine rR <| qA q q q <| B <| W fun a ha => ?_
  obtain rfl := L h
  exact ret1 q ha q ⟨q, an⟩
 skip
 obtain ⟨p26, rfl⟩ : ∃ z, z = o2 := ⟨o2, q⟩
 obtain ⟨rfl, ao⟩ := ah
 obtain ⟨ha, ap⟩ := ao
 obtain rfl := L h
 exact zj (m (ret1 q ha q ⟨q, ap⟩))
theorem w_spec_HouseValid (w : World) (G : List Res) (A0 : Value) (B0 : LI) (C0 : Has G ty10 A0 B0) (A1 : Value) (B1 : List Int) (C1 : Has G tI A1 B1) (A2 : Value) (B2 : List Int) (C2 : Has G tI A2 B2) (B3 : Int) (A4 : Value) (B4 : LT) (C4 : Has G ty12 A4 B4) (r : Bool) (h : spec_HouseValidS B0 B1 B2 B3 B4 = some r) (H : Ctx w G) : Calls Tryz.prog 17 #[.agg #[A0, A1, A2, iV B3, A4]] w fun e w' => e = .returned (.bool r) ∧ Holds M0 w w' [] G := by
 have H : Holds M0 w w [] G := zb H
 refine zg (args := [.agg #[A0, A1, A2, iV B3, A4]]) (n := 84) Tryz.func17 q q q ?_
 unfold spec_HouseValidS at h
 refine C <| Z ?_
 refine WL_box (cs := [A0, A1, A2, iV B3, A4]) H q q q q (fun b1 w2 H3 => ?_)
 refine qA q q q <| B <| C <| C <| zk <| qF uf27 fi27_0 nz23 q q q ?_
 have aU := R H3.p0
 refine l u23 q aU q q q q <| qF uf27 fi27_1 nz24 q q q ?_
 have aV := R H3.p0
 refine l u24 q aV q q q q ?_
 obtain ⟨x7, aW, h⟩ := D h
 refine QC q q c50 (fun w' hb => w_spec_PricesValid w' _ A0 B0 (C0.c) A1 B1 (C1.c) x7 aW (H3.grow hb).ctx) (by rfl) <| A q (qt_not q) q q <| qM q q q ?_
 obtain ⟨b9, am, h⟩ := D h
 refine zh 7 20 (.bool b9) ?_ (fun md hmd hk => ?_)
 rotate_left
 ·obtain ⟨K, rfl⟩ := zr hmd
  rcases btf (!x7) with ad | ad
  ·skip
   refine qS q ad q q <| qS q ad q q <| qS q ad q q <| qS q ad q q <| qS q ad q q <| qS q ad q q <| A q (ze q ad q) q q ?_
   exact hk _ (p (vb (if_t ad am)) (cfn 6 q (u)))
  skip
  have am := if_f ad am
  refine qF uf27 fi27_0 nz23 (J q ad) q q ?_
  have aX := R H3.p0
  refine l u23 q aX q (J q ad) q q <| qF uf27 fi27_2 nz24 (J q ad) q q ?_
  have aY := R H3.p0
  refine l u24 q aY q (J q ad) q q ?_
  obtain ⟨aZ, a0, am⟩ := D am
  refine QC (J q ad) q c51 (fun w' hb => w_spec_l1Amounts w' _ A0 B0 (C0.c) A2 B2 (C2.c) aZ a0 (H3.grow hb).ctx) (by rfl) <| A (J q ad) (qt_not q) q q <| A q (zf q ad q) q q ?_
  exact hk _ (p (vb am) (cfn 6 q (u)))
 refine qM q q q ?_
 obtain ⟨ax, an, h⟩ := D h
 refine zh 5 26 (.bool ax) ?_ (fun md hmd hk => ?_)
 rotate_left
 ·obtain ⟨K, rfl⟩ := zr hmd
  rcases btf b9 with ag | ag
  ·skip
   refine qS q ag q q <| qS q ag q q <| qS q ag q q <| qS q ag q q <| A q (ze q ag q) q q ?_
   exact hk _ (p (vb (if_t ag an)) (cfn 4 q (u)))
  skip
  have an := if_f ag an
  refine qF uf27 fi27_3 nz3 (J q ag) q q ?_
  have a1 := R H3.p0
  refine l u3 q a1 q (J q ag) q q ?_
  obtain ⟨a2, a3, an⟩ := D an
  refine QC (J q ag) q c52 (fun w' hb => w_spec_l1In w' _ B3 0 99999 a2 a3 (H3.grow hb).ctx) (by rfl) <| A (J q ag) (qt_not q) q q <| A q (zf q ag q) q q ?_
  exact hk _ (p (vb an) (cfn 4 q (u)))
 refine qM q q q ?_
 refine zh 5 32 (.bool (ax || (decide ((List.length B4 : Int) > 4)))) ?_ (fun md hmd hk => ?_)
 rotate_left
 ·obtain ⟨K, rfl⟩ := zr hmd
  rcases btf ax with ah | ah
  ·skip
   refine qS q ah q q <| qS q ah q q <| qS q ah q q <| qS q ah q q <| A q (ze q ah q) q q ?_
   exact hk _ (p (by rw [ah]; rfl) (cfn 4 q (u)))
  skip
  refine qF uf27 fi27_4 nz25 (J q ah) q q ?_
  have a4 := R H3.p0
  refine l u25 q a4 q (J q ah) q q <| za H3.ctx (t := ty12) (C4.c) u25 (J q ah) q q <| A (J q ah) (qt_gtr q q) q q <| A q (zf q ah q) q q ?_
  exact hk _ (p (by rw [ah]; rfl) (cfn 4 q (u)))
 refine QL_nil fun a ha b6 a5 => ?_
 have aH := H3.grow a5
 refine X (S ?_ ha)
 refine Y q (fun ay => ?_) (fun ay => ?_)
 ·have h := if_t ay h
  refine rR <| qA q q q <| B <| W fun a ha => ?_
  obtain rfl := L h
  have a6 := aH.q0
  exact m (ret1 q ha q ⟨q, a6⟩)
 have h := if_f ay h
 refine y <| C <| rR <| qA q q q <| B <| g ?_
 obtain ⟨ar, a7, h⟩ := D h
 refine fun a8 aI => zp (I := fun s a w2 => match s with | aw => (Fr a 84 [(1, pB b1), (3, iV aw)] ∧ Holds M0 w w2 [.bx b1 27 [A0, A1, A2, iV B3, A4]] G)) (O := fun o e a w2 => match o with | .inl _ => e = .exit 0 ∧ (Fr a 84 [] ∧ Holds M0 w w2 [] G) | .inr q0 => e = .ret ∧ (Fr a 84 [(2, .bool q0)] ∧ Holds M0 w w2 [] G)) a7 ?_ ?_ ?_
 ·exact ⟨aI.sub ⟨q, q, trivial⟩, aH⟩
 ·clear aI
  intro s b7 a a9 aa ba
  obtain ⟨aw, rfl⟩ : ∃ z, z = s := ⟨s, q⟩
  obtain ⟨ha, ao⟩ := ba
  refine S ?_ ha
  clear ha
  refine C <| rR <| qM q q q <| qF uf27 fi27_4 nz25 q q q ?_
  have bb := R ao.p0
  refine l u25 q bb q q q q <| za ao.ctx (t := ty12) (C4.c) u25 q q q <| A q (qt_lss q q) q q <| B ?_
  refine Y q (fun az => ?_) (fun az => ?_)
  ·have aa := if_t az aa
   refine y <| C <| g <| rR <| qF uf27 fi27_4 nz25 q q q ?_
   have bc := R ao.p0
   refine l u25 q bc q q q q <| qM q q q ?_
   obtain ⟨af, aJ, aa⟩ := D aa
   refine b ao.ctx (C4.c) aJ u25 i47 q q q q (fun b8 ca cb bd => ?_)
   obtain ⟨cc, be, bf⟩ := ao.atN (C4.c) aJ bd
   refine XL_load_agg (t := ty12) us47 uo47 i47 be q q q (fun cd bg => ?_)
   obtain ⟨c53, c54, ce, cf, rfl, aK, bh, bi⟩ := bg
   obtain ⟨rfl, _⟩ := bh
   obtain ⟨c60, c61, cg, ch, rfl, aL, bj, bk⟩ := bi
   obtain ⟨al, rfl, bl⟩ := Rep.sl_inv bj
   obtain ⟨ap, rfl, bm⟩ := Rep.sl_inv bk
   have bn : Holds _ w a9 [.ro ty2 al af.2.1, .ro tI ap af.2.2, .bx b1 27 [A0, A1, A2, iV B3, A4]] G := bf [.ro ty2 al af.2.1, .ro tI ap af.2.2] ⟨⟨_, _, _, _, q, bl, (fun k h => (fun k h => (fun _ h => h) k (by rw [aK]; exact zx _ h)) k (by rw [aL]; exact List.mem_append_left _ h))⟩, ⟨_, _, _, _, q, bm, (fun k h => (fun k h => (fun _ h => h) k (by rw [aK]; exact zx _ h)) k (by rw [aL]; exact zx _ h))⟩, trivial⟩
   change XL _ _ _ _ _ ((44, .agg #[iV af.1, al, ap]) :: _) _
   refine zq (cs := [iV 0, nS, nS]) bn z47 q q q (fun aM ci aA => ?_)
   refine zl (cs' := [iV af.1, al, ap]) aA q il47 q (T q (T (aA.ctx.sliceOne hR1) (T (aA.ctx.sliceOne hR2) q))) q q q (fun cj aj => ?_)
   refine B <| C <| C <| zk <| qF uf47 fi47_0 nz3 q q q ?_
   have bo := R aj.p0
   refine l u3 q bo q q q q ?_
   obtain ⟨aN, bp, aa⟩ := D aa
   refine QC q q c52 (fun w' hb => w_spec_l1In w' _ af.1 0 31 aN bp (aj.grow hb).ctx) (by rfl) <| A q (qt_not q) q q <| qM q q q ?_
   obtain ⟨aB, aq, aa⟩ := D aa
   refine zh 5 54 (.bool aB) ?_ (fun md hmd hk => ?_)
   rotate_left
   ·obtain ⟨K, rfl⟩ := zr hmd
    rcases btf (!aN) with ai | ai
    ·skip
     refine qS q ai q q <| qS q ai q q <| qS q ai q q <| qS q ai q q <| A q (ze q ai q) q q ?_
     exact hk _ (p (vb (if_t ai aq)) (cfn 4 q (u)))
    skip
    have aq := if_f ai aq
    refine qF uf47 fi47_1 nz45 (J q ai) q q ?_
    have bq := R aj.p0
    refine l u45 q bq q (J q ai) q q ?_
    obtain ⟨br, bs, aq⟩ := D aq
    refine QC (J q ai) q c53 (fun w' hb => w_spec_TicketValid w' _ al af.2.1 hR1 br bs (aj.grow hb).ctx) (by rfl) <| A (J q ai) (qt_not q) q q <| A q (zf q ai q) q q ?_
    exact hk _ (p (vb aq) (cfn 4 q (u)))
   refine qM q q q ?_
   refine zh 8 63 (.bool (aB || ((List.length af.2.2 : Int) != (List.length af.2.1 : Int)))) ?_ (fun md hmd hk => ?_)
   rotate_left
   ·obtain ⟨K, rfl⟩ := zr hmd
    rcases btf aB with ab | ab
    ·skip
     refine qS q ab q q <| qS q ab q q <| qS q ab q q <| qS q ab q q <| qS q ab q q <| qS q ab q q <| qS q ab q q <| A q (ze q ab q) q q ?_
     exact hk _ (p (by rw [ab]; rfl) (cfn 7 q (u)))
    skip
    refine qF uf47 fi47_2 nz24 (J q ab) q q ?_
    have bt := R aj.p0
    refine l u24 q bt q (J q ab) q q <| za aj.ctx (t := tI) hR2 u24 (J q ab) q q <| qF uf47 fi47_1 nz45 (J q ab) q q ?_
    have bu := R aj.p0
    refine l u45 q bu q (J q ab) q q <| za aj.ctx (t := ty2) hR1 u45 (J q ab) q q <| A (J q ab) (qt_neq q q) q q <| A q (zf q ab q) q q ?_
    exact hk _ (p (by rw [ab]; rfl) (cfn 7 q (u)))
   refine QL_nil fun a ha bv bw => ?_
   have au := aj.grow bw
   refine X (S ?_ ha)
   refine Y q (fun aC => ?_) (fun aC => ?_)
   ·have aa := if_t aC aa
    refine rR <| qA q q q <| B <| W fun a ha => ?_
    obtain rfl := L aa
    have bz := au.q0.q0.q0.q0
    exact m (zj (m (⟨ret_ne, q, ha.sub ⟨q, trivial⟩, bz⟩)))
   have aa := if_f aC aa
   refine y <| rR <| qF uf27 fi27_0 nz23 q q q ?_
   have bA := R au.p3
   refine l u23 q bA q q q q <| qF uf47 fi47_0 nz3 q q q ?_
   have bB := R au.p0
   refine l u3 q bB q q q q ?_
   obtain ⟨aD, bC, aa⟩ := D aa
   refine zd q q c54 (w_spec_FreeOf bv _ A0 B0 (C0.c.c.c.c) af.1 aD bC au.ctx) (by rfl) ?_
   rintro _ ck ⟨aE, rfl, bD⟩; refine ⟨_, q, ?_⟩
   have bE := au.cN1 [] bD
   refine qA q q q <| rN <| qA q q q <| B <| g ?_
   obtain ⟨av, bF, aa⟩ := D aa
   have bG := bE.p3.p3.p3.p4
   refine fun bH aO => zp (I := fun s a w2 => match s with | aP => (Fr a 84 [(1, pB b1), (3, iV aw), (4, pB aM), (5, aE), (6, iV aP)] ∧ Holds M0 w w2 [.bx b1 27 [A0, A1, A2, iV B3, A4], .bx aM 47 [iV af.1, al, ap], .ro ty2 al af.2.1, .ro tI ap af.2.2, .sl 3 tI aE aD] G)) (O := fun o e a w2 => match o with | .inl _ => e = .exit 2 ∧ (Fr a 84 [(1, pB b1), (3, iV aw)] ∧ Holds M0 w w2 [.bx b1 27 [A0, A1, A2, iV B3, A4]] G) | .inr q0 => e = .ret ∧ (Fr a 84 [(2, .bool q0)] ∧ Holds M0 w w2 [] G)) bF ?_ ?_ ?_
   ·exact ⟨aO.sub ⟨q, q, q, q, q, trivial⟩, bG⟩
   ·clear aO
    intro s cl a cm ae bI
    obtain ⟨aP, rfl⟩ : ∃ z, z = s := ⟨s, q⟩
    obtain ⟨ha, ak⟩ := bI
    refine S ?_ ha
    clear ha
    refine C <| rR <| qM q q q <| qF uf47 fi47_2 nz24 q q q ?_
    have bJ := R ak.p1
    refine l u24 q bJ q q q q <| za ak.ctx (t := tI) hR3 u24 q q q <| A q (qt_lss q q) q q <| B ?_
    refine Y q (fun aF => ?_) (fun aF => ?_)
    ·have ae := if_t aF ae
     refine y <| C <| g <| C <| zk <| qM q q q <| qF uf47 fi47_2 nz24 q q q ?_
     have bK := R ak.p1
     refine l u24 q bK q q q q <| qM q q q ?_
     obtain ⟨bL, aQ, ae⟩ := D ae
     refine b ak.ctx hR3 aQ u24 i3 q q q q (fun cn co cp bM => ?_)
     obtain ⟨cq, bN, cr⟩ := ak.at hR3 aQ bM
     refine zt (k := .i64) u3 q bN q q q ?_
     obtain ⟨bO, bP, ae⟩ := D ae
     refine QC q q c55 (fun w' hb => w_spec_l1Has w' _ aE aD hS4 bL bO bP (ak.grow hb).ctx) (by rfl) <| A q (qt_not q) q q <| QL_nil fun a ha ct bQ => ?_
     have aR := ak.grow bQ
     refine X (S ?_ ha)
     refine Y q (fun aG => ?_) (fun aG => ?_)
     ·have ae := if_t aG ae
      refine rR <| qA q q q <| B <| W fun a ha => ?_
      obtain rfl := L ae
      have bR := aR.q0.q0.q0.q0.q0
      exact zj (m (⟨ret_ne, q, ha.sub ⟨q, trivial⟩, bR⟩))
     have ae := if_f aG ae
     refine WP_skip fun a ha => ?_
     refine zi (X (S ?_ ha))
     refine Z <| qM q q q <| A q (qt_add q q) q q <| qA q q q <| WL_nil fun a ha => ?_
     obtain rfl := L ae
     have bS := aR.p4.p4.p4.p4.p4
     exact ⟨q, ha.sub ⟨q, q, q, q, q, trivial⟩, bS⟩
    have ae := if_f aF ae
    refine WP_exit fun a ha => ?_
    obtain rfl := L ae
    have bT := ak.q1.q1.q1.q1
    exact zo (⟨exit_ne, q, ha.sub ⟨q, q, trivial⟩, bT⟩)
   intro e bH cu aS
   rcases av with av | av
   ·skip
    obtain ⟨rfl, bU⟩ := aS
    obtain ⟨ha, bV⟩ := bU
    refine zn (zi (X (S ?_ ha)))
    refine Z <| qM q q q <| A q (qt_add q q) q q <| qA q q q <| WL_nil fun a ha => ?_
    obtain rfl := L aa
    exact ⟨q, ha.sub ⟨q, q, trivial⟩, bV⟩
   skip
   obtain ⟨cv, rfl⟩ : ∃ z, z = av := ⟨av, q⟩
   obtain ⟨rfl, bW⟩ := aS
   obtain ⟨ha, bX⟩ := bW
   obtain rfl := L aa
   exact zj (zj (m (⟨ret_ne, q, ha.sub ⟨q, trivial⟩, bX⟩)))
  have aa := if_f az aa
  refine WP_exit fun a ha => ?_
  obtain rfl := L aa
  have bY := ao.q0
  exact zo (⟨exit_ne, q, ha.sub trivial, bY⟩)
 intro e a8 cw aT
 rcases ar with ar | ar
 ·skip
  obtain ⟨rfl, bZ⟩ := aT
  obtain ⟨ha, b0⟩ := bZ
  refine zn (X (S ?_ ha))
  refine rR <| qA q q q <| B <| W fun a ha => ?_
  obtain rfl := L h
  exact ret1 q ha q ⟨q, b0⟩
 skip
 obtain ⟨cx, rfl⟩ : ∃ z, z = ar := ⟨ar, q⟩
 obtain ⟨rfl, b4⟩ := aT
 obtain ⟨ha, b5⟩ := b4
 obtain rfl := L h
 exact zj (m (ret1 q ha q ⟨q, b5⟩))
theorem w_spec_l7Copy (w : World) (G : List Res) (A0 : Value) (B0 : LI) (C0 : Has G ty10 A0 B0) (A1 : Value) (B1 : List Int) (C1 : Has G tI A1 B1) (A2 : Value) (B2 : List Int) (C2 : Has G tI A2 B2) (B3 : Int) (A4 : Value) (B4 : LT) (C4 : Has G ty12 A4 B4) (r : (LI × (List Int) × (List Int) × Int × LT)) (h : spec_l7CopyS B0 B1 B2 B3 B4 = some r) (H : Ctx w G) : Calls Tryz.prog 33 #[.agg #[A0, A1, A2, iV B3, A4]] w fun e w' => ∃ (v1 : Value) (v2 : Value) (v3 : Value) (v4 : Value), e = .returned (.agg #[v1, v2, v3, iV r.2.2.2.1, v4]) ∧ Holds M0 w w' [.sl 55 ty10 v1 r.1, .sl 3 tI v2 r.2.1, .sl 3 tI v3 r.2.2.1, .sl 47 ty12 v4 r.2.2.2.2] G := by
 have H : Holds M0 w w [] G := zb H
 refine zg (args := [.agg #[A0, A1, A2, iV B3, A4]]) (n := 82) Tryz.func33 q q q ?_
 unfold spec_l7CopyS at h
 refine C <| Z ?_
 refine WL_box (cs := [A0, A1, A2, iV B3, A4]) H q q q q (fun b1 w2 H3 => ?_)
 refine zq (cs := [nS, nS, nS, iV 0, nS]) H3 z27 q q q (fun b5 w6 H7 => ?_)
 refine B <| C <| Z ?_
 refine zs (t := ty10) (args := []) (xs := ([] : LI)) H7 (BltL.nil) u23 j55 q q q q q q (fun v9 cW bo => ?_)
 refine qA q q q <| B <| C <| rR <| qA q q q <| B <| g ?_
 obtain ⟨a8, bp, h⟩ := D h
 have bq := bo.p1.p2
 refine fun br a9 => zp (I := fun s a w2 => match s with | (ay, aT) => ∃ ar, Fr a 82 [(1, pB b1), (2, pB b5), (3, ar), (4, iV aT)] ∧ Holds M0 w w2 [.bx b1 27 [A0, A1, A2, iV B3, A4], .bx b5 27 [nS, nS, nS, iV 0, nS], .sl 55 ty10 ar ay] G) (O := fun o e a w2 => match o with | q0 => e = .exit 0 ∧ ∃ aF, Fr a 82 [(1, pB b1), (2, pB b5), (3, aF)] ∧ Holds M0 w w2 [.bx b1 27 [A0, A1, A2, iV B3, A4], .bx b5 27 [nS, nS, nS, iV 0, nS], .sl 55 ty10 aF q0] G) bp ?_ ?_ ?_
 ·exact ⟨v9, a9.sub ⟨q, q, q, q, trivial⟩, bq⟩
 ·clear a9
  intro s cX a cY aj bs
  obtain ⟨ay, aT⟩ := s
  obtain ⟨ar, ha, aJ⟩ := bs
  refine S ?_ ha
  clear ha
  refine C <| rR <| qM q q q <| qF uf27 fi27_0 nz23 q q q ?_
  have bt := R aJ.p0
  refine l u23 q bt q q q q <| za aJ.ctx (t := ty10) (C0.c.c.c) u23 q q q <| A q (qt_lss q q) q q <| B ?_
  refine Y q (fun aU => ?_) (fun aU => ?_)
  ·have aj := if_t aU aj
   refine y <| C <| g ?_
   obtain ⟨aV, aK, aj⟩ := D aj
   obtain ⟨bu, aL, aj⟩ := D aj
   obtain ⟨bv, bw, aj⟩ := D aj
   obtain ⟨aW, aM, aj⟩ := D aj
   obtain ⟨bz, bA, aj⟩ := D aj
   refine WP_mid (Mid := fun a w2 => ∃ aN, Fr a 82 [(1, pB b1), (2, pB b5), (3, aN), (4, iV aT)] ∧ Holds M0 w w2 [.bx b1 27 [A0, A1, A2, iV B3, A4], .bx b5 27 [nS, nS, nS, iV 0, nS], .sl 55 ty10 aN bz] G) ?_ ?_
   ·refine WP_ordersT (fun w1 w2 => Chg (([.sl 55 ty10 ar ay] : List Res).flatMap Res.own) w1 w2) 24 (by kernel_rfl) (fun aG bB => ?_)
    have bC := aJ.grow bB
    have ba := bC.p2
    have az : Ctx aG ([.sl 55 ty10 ar ay] ++ ([.bx b1 27 [A0, A1, A2, iV B3, A4], .bx b5 27 [nS, nS, nS, iV 0, nS]] ++ G)) := ba.ctx
    have af : Holds _ aG aG [.sl 55 ty10 ar ay] ([.bx b1 27 [A0, A1, A2, iV B3, A4], .bx b5 27 [nS, nS, nS, iV 0, nS]] ++ G) := zb (Rs := [.sl 55 ty10 ar ay]) az
    refine XQ (i := 0) q (by kernel_rfl) q af.chg q (fun _ => qt_move q) q q <| XQ (i := 1) q (by kernel_rfl) q af.chg q (fun _ => qt_fieldAddr uf27 fi27_0 nz23 q) q q ?_
    have bD := HasB.bx (HasB.c (HasB.hd)) af.ctx
    refine XT (i := 2) q (by kernel_rfl) q af.chg q (qs_cell u23 q q (bD.cell (i := 0) q) af.chg (Ctx.outB az (HasB.hd))) q q <| XQ (i := 3) q (by kernel_rfl) q af.chg q (fun _ => qt_move q) q q ?_
    obtain ⟨cZ, c0, c1, aX⟩ := Ctx.isAt af.ctx (C0.c.c.c) aK
    refine XT (i := 4) q (by kernel_rfl) q af.chg q (qs_index aK aX u23 i55 q q) q q <| XQ (i := 5) q (by kernel_rfl) q af.chg q (fun _ => qt_fieldAddr uf55 fi55_0 nz3 q) q q ?_
    obtain ⟨c2, bE, c3⟩ := af.at (C0.c.c.c) aK aX
    obtain ⟨c4, bF, c5⟩ := AtP.fst bE
    refine XT (i := 6) q (by kernel_rfl) q af.chg q (qs_cell u3 q q (AtP.cInt bF) af.chg (Ctx.outHas az (C0.c.c) aK aX)) q q <| XQ (i := 8) q (by kernel_rfl) q af.chg q (fun _ => qt_fieldAddr uf27 fi27_0 nz23 q) q q ?_
    have bG := HasB.bx (HasB.c (HasB.hd)) af.ctx
    refine XT (i := 9) q (by kernel_rfl) q af.chg q (qs_cell u23 q q (bG.cell (i := 0) q) af.chg (Ctx.outB az (HasB.hd))) q q <| XQ (i := 10) q (by kernel_rfl) q af.chg q (fun _ => qt_move q) q q ?_
    obtain ⟨da, db, dc, aY⟩ := Ctx.isAt af.ctx (C0.c.c.c) aL
    refine XT (i := 11) q (by kernel_rfl) q af.chg q (qs_index aL aY u23 i55 q q) q q <| XQ (i := 12) q (by kernel_rfl) q af.chg q (fun _ => qt_fieldAddr uf55 fi55_1 nz53 q) q q ?_
    obtain ⟨dd, bH, bI⟩ := af.at (C0.c.c.c) aL aY
    obtain ⟨de, bJ, bK⟩ := AtP.snd bH
    obtain ⟨df, bL, bM⟩ := AtP.fst bJ
    obtain ⟨bN, bO, bP⟩ := AtP.one (t := ty4) bL q
    refine XT (i := 13) q (by kernel_rfl) q af.chg q (qs_cell u53 q q bO af.chg (Ctx.outHas az (C0.c.c) aL aY)) q q ?_
    have an : Holds _ aG aG [.ro ty2 bN bu.2.1, .sl 55 ty10 ar ay] ([.bx b1 27 [A0, A1, A2, iV B3, A4], .bx b5 27 [nS, nS, nS, iV 0, nS]] ++ G) := bI _ _ _ _ bP (fun k h => (fun k h => (fun _ h => h) k (bK k h)) k (bM k h))
    refine XQ (i := 15) q (by kernel_rfl) q an.chg q (fun _ => qt_fieldAddr uf27 fi27_0 nz23 q) q q ?_
    have bQ := HasB.bx (HasB.c (HasB.c (HasB.hd))) an.ctx
    refine XT (i := 16) q (by kernel_rfl) q an.chg q (qs_cell u23 q q (bQ.cell (i := 0) q) an.chg (Ctx.outB az (HasB.hd))) q q <| XQ (i := 17) q (by kernel_rfl) q an.chg q (fun _ => qt_move q) q q ?_
    obtain ⟨dg, dh, di, aZ⟩ := Ctx.isAt an.ctx (C0.c.c.c.c) aM
    refine XT (i := 18) q (by kernel_rfl) q an.chg q (qs_index aM aZ u23 i55 q q) q q <| XQ (i := 19) q (by kernel_rfl) q an.chg q (fun _ => qt_fieldAddr uf55 fi55_2 nz3 q) q q ?_
    obtain ⟨dj, bR, dk⟩ := an.at (C0.c.c.c.c) aM aZ
    obtain ⟨dl, bS, dm⟩ := AtP.snd bR
    obtain ⟨dn, bT, dq⟩ := AtP.snd bS
    refine XT (i := 20) q (by kernel_rfl) q an.chg q (qs_cell u3 q q (AtP.cInt bT) an.chg (Ctx.outHas az (C0.c.c) aM aZ)) q q <| X1 7 (by kernel_rfl) q ?_
    refine zs (t := ty2) (args := []) (xs := ([] : LP)) an (BltL.nil) u53 j57 q q q q q q (fun dr ds bb => ?_)
    refine XN bb.chg <| X1 14 (by kernel_rfl) q ?_
    refine zw bb hR1 bw u53 j57 q q q q q q (fun bc dt aO => ?_)
    refine XN aO.chg <| XQ (i := 21) q (by kernel_rfl) q aO.chg q (fun _ => qt_build (args := [(0, .tmp 22), (1, .tmp 30), (2, .tmp 36)]) (css := [#[iV aV.1], #[bc], #[iV aW.2.2]]) (cells := #[iV aV.1, bc, iV aW.2.2]) q ⟨q, (aO.ctx.sliceCells hS0), q, trivial⟩ (by kernel_rfl)) q q <| X1 22 (by kernel_rfl) q ?_
    have bU := aO.freeze
    refine zs (t := ty10) (args := [.tmp 37]) (xs := ([(aV.1, bv, aW.2.2)] : LI)) bU (BltL.cons (Blt.pair (Blt.int) (Blt.pair (Blt.slice hO0) (Blt.int))) q (BltL.nil)) u23 j55 q q q q q q (fun du dv bd => ?_)
    refine XN bd.chg <| X1 23 (by kernel_rfl) q ?_
    have bV := bd.p3
    refine zw bV hS1 bA u23 j55 q q q q q q (fun bW dw be => ?_)
    refine XN be.chg ?_
    have bX := ba.cN4 [_] be
    refine X1 24 (by kernel_rfl) q <| qA q q q <| XE q ?_
    refine XC_done (by kernel_rfl) (fun a ha => ?_)
    have bY := bX.q1.q1.q1.p2.p2
    exact ⟨bW, ha.sub ⟨q, q, q, q, trivial⟩, bY⟩
   intro a dx bZ
   obtain ⟨aN, ha, b0⟩ := bZ
   refine zi (X (S ?_ ha))
   refine Z <| qM q q q <| A q (qt_add q q) q q <| qA q q q <| WL_nil fun a ha => ?_
   obtain rfl := L aj
   have b4 := b0.p2.p2.p2
   exact ⟨q, aN, ha.sub ⟨q, q, q, q, trivial⟩, b4⟩
  have aj := if_f aU aj
  refine WP_exit fun a ha => ?_
  obtain rfl := L aj
  have b6 := aJ.p2.p2.p2
  exact zo (⟨exit_ne, q, ar, ha.sub ⟨q, q, q, trivial⟩, b6⟩)
 intro e br dy b7
 obtain ⟨au, rfl⟩ : ∃ z, z = a8 := ⟨a8, q⟩
 obtain ⟨rfl, b8⟩ := b7
 obtain ⟨ad, ha, b9⟩ := b8
 refine zn (X (S ?_ ha))
 refine C ?_
 obtain ⟨aA, aq, h⟩ := D h
 obtain ⟨aB, av, h⟩ := D h
 refine WP_join (M := fun a w2 => ∃ ao ag ah ai aP, Fr a 82 [(1, pB b1), (2, pB b5), (5, pB ao)] ∧ Holds M0 w w2 [.bx b1 27 [A0, A1, A2, iV B3, A4], .bx b5 27 [nS, nS, nS, iV 0, nS], .bx ao 27 [ag, ah, ai, iV B3, aP], .sl 55 ty10 ag au, .sl 3 tI ah aA, .sl 3 tI ai aB, .sl 47 ty12 aP ([])] G) ?_ ?_
 ·refine WP_ordersT (fun w1 w2 => Chg M0 w1 w2) 14 (by kernel_rfl) (fun a0 ca => ?_)
  have am := b9.grow ca
  have aQ : Ctx a0 ([] ++ ([.bx b1 27 [A0, A1, A2, iV B3, A4], .bx b5 27 [nS, nS, nS, iV 0, nS], .sl 55 ty10 ad au] ++ G)) := am.ctx
  have cb : Holds _ a0 a0 [] ([.bx b1 27 [A0, A1, A2, iV B3, A4], .bx b5 27 [nS, nS, nS, iV 0, nS], .sl 55 ty10 ad au] ++ G) := zb (Rs := []) aQ
  have Hc := cb
  repeat' first
   | refine XDo 1 q ?_; refine zs (t := tI) (args := []) (xs := ([] : List Int)) Hc (BltL.nil) u24 j3 q q q q q q (fun dz _ Hc => ?_); refine XN Hc.chg ?_
   | refine XDo 4 q ?_; refine zw Hc (C1.c.c.c.c) aq u24 j3 q q q q q q (fun aa _ Hc => ?_); refine XN Hc.chg ?_
   | refine XDo 4 q ?_; have Hc := Hc.p1; refine zw Hc (C1.c.c.c.c.c) aq u24 j3 q q q q q q (fun aa _ Hc => ?_); refine XN Hc.chg ?_
   | refine XDo 4 q ?_; have Hc := Hc.p2; refine zw Hc (C1.c.c.c.c.c.c) aq u24 j3 q q q q q q (fun aa _ Hc => ?_); refine XN Hc.chg ?_
   | refine XDo 4 q ?_; have Hc := Hc.p3; refine zw Hc (C1.c.c.c.c.c.c.c) aq u24 j3 q q q q q q (fun aa _ Hc => ?_); refine XN Hc.chg ?_
   | refine XDo 4 q ?_; refine zw Hc (C1.c.c.c.c.c) aq u24 j3 q q q q q q (fun aa _ Hc => ?_); refine XN Hc.chg ?_
   | refine XDo 4 q ?_; have Hc := Hc.p1; refine zw Hc (C1.c.c.c.c.c.c) aq u24 j3 q q q q q q (fun aa _ Hc => ?_); refine XN Hc.chg ?_
   | refine XDo 4 q ?_; have Hc := Hc.p2; refine zw Hc (C1.c.c.c.c.c.c.c) aq u24 j3 q q q q q q (fun aa _ Hc => ?_); refine XN Hc.chg ?_
   | refine XDo 4 q ?_; refine zw Hc (C1.c.c.c.c.c.c) aq u24 j3 q q q q q q (fun aa _ Hc => ?_); refine XN Hc.chg ?_
   | refine XDo 4 q ?_; have Hc := Hc.p1; refine zw Hc (C1.c.c.c.c.c.c.c) aq u24 j3 q q q q q q (fun aa _ Hc => ?_); refine XN Hc.chg ?_
   | refine XDo 4 q ?_; refine zw Hc (C1.c.c.c.c.c.c.c) aq u24 j3 q q q q q q (fun aa _ Hc => ?_); refine XN Hc.chg ?_
   | refine XDo 5 q ?_; refine zs (t := tI) (args := []) (xs := ([] : List Int)) Hc (BltL.nil) u24 j3 q q q q q q (fun dA _ Hc => ?_); refine XN Hc.chg ?_
   | refine XDo 8 q ?_; refine zw Hc (C2.c.c.c.c.c) av u24 j3 q q q q q q (fun ab _ Hc => ?_); refine XN Hc.chg ?_
   | refine XDo 8 q ?_; have Hc := Hc.p1; refine zw Hc (C2.c.c.c.c.c.c) av u24 j3 q q q q q q (fun ab _ Hc => ?_); refine XN Hc.chg ?_
   | refine XDo 8 q ?_; have Hc := Hc.p2; refine zw Hc (C2.c.c.c.c.c.c.c) av u24 j3 q q q q q q (fun ab _ Hc => ?_); refine XN Hc.chg ?_
   | refine XDo 8 q ?_; refine zw Hc (C2.c.c.c.c.c.c) av u24 j3 q q q q q q (fun ab _ Hc => ?_); refine XN Hc.chg ?_
   | refine XDo 8 q ?_; have Hc := Hc.p1; refine zw Hc (C2.c.c.c.c.c.c.c) av u24 j3 q q q q q q (fun ab _ Hc => ?_); refine XN Hc.chg ?_
   | refine XDo 8 q ?_; refine zw Hc (C2.c.c.c.c.c.c.c) av u24 j3 q q q q q q (fun ab _ Hc => ?_); refine XN Hc.chg ?_
   | refine XDo 8 q ?_; have Hc := Hc.p1; refine zw Hc (C2.c.c.c.c.c) av u24 j3 q q q q q q (fun ab _ Hc => ?_); refine XN Hc.chg ?_
   | refine XDo 8 q ?_; have Hc := Hc.p2; refine zw Hc (C2.c.c.c.c.c.c) av u24 j3 q q q q q q (fun ab _ Hc => ?_); refine XN Hc.chg ?_
   | refine XDo 8 q ?_; have Hc := Hc.p3; refine zw Hc (C2.c.c.c.c.c.c.c) av u24 j3 q q q q q q (fun ab _ Hc => ?_); refine XN Hc.chg ?_
   | refine XDo 11 q ?_; refine zs (t := ty12) (args := []) (xs := ([] : LT)) Hc (BltL.nil) u25 j47 q q q q q q (fun ae _ Hc => ?_); refine XN Hc.chg ?_
   | refine XDo 13 q ?_; refine zq (cs := [nS, nS, nS, iV 0, nS]) Hc z27 q q q (fun a1 _ Hc => ?_); refine XN Hc.chg ?_
   | have Hc := am.cN4 [] Hc; refine XDo 14 q ?_; refine zl (cs' := [ad, aa, ab, iV B3, ae]) Hc q il27 q (T (Hc.ctx.sliceOne hS6) (T (Hc.ctx.sliceOne hS3) (T (Hc.ctx.sliceOne hS2) (T q (T (Hc.ctx.sliceOne hS1) q))))) q q q (fun _ Hc => ?_); refine XE q ?_
   | have Hc := am.cN4 [] Hc; refine XDo 14 q ?_; have Hc := Hc.p1; refine zl (cs' := [ad, aa, ab, iV B3, ae]) Hc q il27 q (T (Hc.ctx.sliceOne hS6) (T (Hc.ctx.sliceOne hS3) (T (Hc.ctx.sliceOne hS2) (T q (T (Hc.ctx.sliceOne hS1) q))))) q q q (fun _ Hc => ?_); refine XE q ?_
   | have Hc := am.cN4 [] Hc; refine XDo 14 q ?_; refine zl (cs' := [ad, aa, ab, iV B3, ae]) Hc q il27 q (T (Hc.ctx.sliceOne hS6) (T (Hc.ctx.sliceOne hS3) (T (Hc.ctx.sliceOne hS1) (T q (T (Hc.ctx.sliceOne hS2) q))))) q q q (fun _ Hc => ?_); refine XE q ?_
   | have Hc := am.cN4 [] Hc; refine XDo 14 q ?_; have Hc := Hc.p1; refine zl (cs' := [ad, aa, ab, iV B3, ae]) Hc q il27 q (T (Hc.ctx.sliceOne hS6) (T (Hc.ctx.sliceOne hS3) (T (Hc.ctx.sliceOne hS1) (T q (T (Hc.ctx.sliceOne hS2) q))))) q q q (fun _ Hc => ?_); refine XE q ?_
   | have Hc := am.cN4 [] Hc; refine XDo 14 q ?_; have Hc := Hc.p2; refine zl (cs' := [ad, aa, ab, iV B3, ae]) Hc q il27 q (T (Hc.ctx.sliceOne hS6) (T (Hc.ctx.sliceOne hS3) (T (Hc.ctx.sliceOne hS2) (T q (T (Hc.ctx.sliceOne hS1) q))))) q q q (fun _ Hc => ?_); refine XE q ?_
   | have Hc := am.cN4 [] Hc; refine XDo 14 q ?_; have Hc := Hc.p2; refine zl (cs' := [ad, aa, ab, iV B3, ae]) Hc q il27 q (T (Hc.ctx.sliceOne hS6) (T (Hc.ctx.sliceOne hS3) (T (Hc.ctx.sliceOne hS1) (T q (T (Hc.ctx.sliceOne hS2) q))))) q q q (fun _ Hc => ?_); refine XE q ?_
   | have Hc := am.cN4 [] Hc; refine XDo 14 q ?_; refine zl (cs' := [ad, aa, ab, iV B3, ae]) Hc q il27 q (T (Hc.ctx.sliceOne hS6) (T (Hc.ctx.sliceOne hS2) (T (Hc.ctx.sliceOne hS1) (T q (T (Hc.ctx.sliceOne hS3) q))))) q q q (fun _ Hc => ?_); refine XE q ?_
   | have Hc := am.cN4 [] Hc; refine XDo 14 q ?_; have Hc := Hc.p1; refine zl (cs' := [ad, aa, ab, iV B3, ae]) Hc q il27 q (T (Hc.ctx.sliceOne hS6) (T (Hc.ctx.sliceOne hS2) (T (Hc.ctx.sliceOne hS1) (T q (T (Hc.ctx.sliceOne hS3) q))))) q q q (fun _ Hc => ?_); refine XE q ?_
   | have Hc := am.cN4 [] Hc; refine XDo 14 q ?_; have Hc := Hc.p2; refine zl (cs' := [ad, aa, ab, iV B3, ae]) Hc q il27 q (T (Hc.ctx.sliceOne hS6) (T (Hc.ctx.sliceOne hS2) (T (Hc.ctx.sliceOne hS1) (T q (T (Hc.ctx.sliceOne hS3) q))))) q q q (fun _ Hc => ?_); refine XE q ?_
   | have Hc := am.cN4 [] Hc; refine XDo 14 q ?_; have Hc := Hc.p3; refine zl (cs' := [ad, aa, ab, iV B3, ae]) Hc q il27 q (T (Hc.ctx.sliceOne hS6) (T (Hc.ctx.sliceOne hS3) (T (Hc.ctx.sliceOne hS2) (T q (T (Hc.ctx.sliceOne hS1) q))))) q q q (fun _ Hc => ?_); refine XE q ?_
   | have Hc := am.cN4 [] Hc; refine XDo 14 q ?_; have Hc := Hc.p3; refine zl (cs' := [ad, aa, ab, iV B3, ae]) Hc q il27 q (T (Hc.ctx.sliceOne hS6) (T (Hc.ctx.sliceOne hS3) (T (Hc.ctx.sliceOne hS1) (T q (T (Hc.ctx.sliceOne hS2) q))))) q q q (fun _ Hc => ?_); refine XE q ?_
   | have Hc := am.cN4 [] Hc; refine XDo 14 q ?_; have Hc := Hc.p3; refine zl (cs' := [ad, aa, ab, iV B3, ae]) Hc q il27 q (T (Hc.ctx.sliceOne hS6) (T (Hc.ctx.sliceOne hS2) (T (Hc.ctx.sliceOne hS1) (T q (T (Hc.ctx.sliceOne hS3) q))))) q q q (fun _ Hc => ?_); refine XE q ?_
   | refine XQ (i := 0) q (by decide +kernel) q Hc.chg q (fun _ => qt_move q) q q ?_
   | refine XQ (i := 2) q (by decide +kernel) q Hc.chg q (fun _ => qt_fieldAddr uf27 fi27_1 nz24 q) q q ?_
   | have cc := HasB.bx (HasB.hd) Hc.ctx; refine XT (i := 3) q (by decide +kernel) q Hc.chg q (qs_cell u24 q q (cc.cell (i := 1) q) Hc.chg (Ctx.outB aQ (HasB.hd))) q q ?_
   | refine XQ (i := 6) q (by decide +kernel) q Hc.chg q (fun _ => qt_fieldAddr uf27 fi27_2 nz24 q) q q ?_
   | have cd := HasB.bx (HasB.hd) Hc.ctx; refine XT (i := 7) q (by decide +kernel) q Hc.chg q (qs_cell u24 q q (cd.cell (i := 2) q) Hc.chg (Ctx.outB aQ (HasB.hd))) q q ?_
   | refine XQ (i := 9) q (by decide +kernel) q Hc.chg q (fun _ => qt_fieldAddr uf27 fi27_3 nz3 q) q q ?_
   | have ce := HasB.bx (HasB.hd) Hc.ctx; refine XT (i := 10) q (by decide +kernel) q Hc.chg q (qs_cell u3 q q (ce.cell (i := 3) q) Hc.chg (Ctx.outB aQ (HasB.hd))) q q ?_
   | refine XQ (i := 12) q (by decide +kernel) q Hc.chg q (fun _ => qt_build (args := [(0, .tmp 40), (1, .tmp 44), (2, .tmp 48), (3, .tmp 50), (4, .tmp 51)]) (css := [#[ad], #[aa], #[ab], #[iV B3], #[ae]]) (cells := #[ad, aa, ab, iV B3, ae]) q ⟨(Hc.ctx.sliceCells hS5), (Hc.ctx.sliceCells hS2), (Hc.ctx.sliceCells hS1), q, (Hc.ctx.sliceCells hS0), trivial⟩ (by kernel_rfl)) q q ?_
   | refine XQ (i := 12) q (by decide +kernel) q Hc.chg q (fun _ => qt_build (args := [(0, .tmp 40), (1, .tmp 44), (2, .tmp 48), (3, .tmp 50), (4, .tmp 51)]) (css := [#[ad], #[aa], #[ab], #[iV B3], #[ae]]) (cells := #[ad, aa, ab, iV B3, ae]) q ⟨(Hc.ctx.sliceCells hS6), (Hc.ctx.sliceCells hS3), (Hc.ctx.sliceCells hS2), q, (Hc.ctx.sliceCells hS0), trivial⟩ (by kernel_rfl)) q q ?_
   | refine XQ (i := 12) q (by decide +kernel) q Hc.chg q (fun _ => qt_build (args := [(0, .tmp 40), (1, .tmp 44), (2, .tmp 48), (3, .tmp 50), (4, .tmp 51)]) (css := [#[ad], #[aa], #[ab], #[iV B3], #[ae]]) (cells := #[ad, aa, ab, iV B3, ae]) q ⟨(Hc.ctx.sliceCells hS5), (Hc.ctx.sliceCells hS2), (Hc.ctx.sliceCells hS0), q, (Hc.ctx.sliceCells hS1), trivial⟩ (by kernel_rfl)) q q ?_
   | refine XQ (i := 12) q (by decide +kernel) q Hc.chg q (fun _ => qt_build (args := [(0, .tmp 40), (1, .tmp 44), (2, .tmp 48), (3, .tmp 50), (4, .tmp 51)]) (css := [#[ad], #[aa], #[ab], #[iV B3], #[ae]]) (cells := #[ad, aa, ab, iV B3, ae]) q ⟨(Hc.ctx.sliceCells hS6), (Hc.ctx.sliceCells hS3), (Hc.ctx.sliceCells hS0), q, (Hc.ctx.sliceCells hS2), trivial⟩ (by kernel_rfl)) q q ?_
   | refine XQ (i := 12) q (by decide +kernel) q Hc.chg q (fun _ => qt_build (args := [(0, .tmp 40), (1, .tmp 44), (2, .tmp 48), (3, .tmp 50), (4, .tmp 51)]) (css := [#[ad], #[aa], #[ab], #[iV B3], #[ae]]) (cells := #[ad, aa, ab, iV B3, ae]) q ⟨(Hc.ctx.sliceCells hS6), (Hc.ctx.sliceCells hS3), (Hc.ctx.sliceCells hS1), q, (Hc.ctx.sliceCells hS0), trivial⟩ (by kernel_rfl)) q q ?_
   | refine XQ (i := 12) q (by decide +kernel) q Hc.chg q (fun _ => qt_build (args := [(0, .tmp 40), (1, .tmp 44), (2, .tmp 48), (3, .tmp 50), (4, .tmp 51)]) (css := [#[ad], #[aa], #[ab], #[iV B3], #[ae]]) (cells := #[ad, aa, ab, iV B3, ae]) q ⟨(Hc.ctx.sliceCells hS6), (Hc.ctx.sliceCells hS3), (Hc.ctx.sliceCells hS0), q, (Hc.ctx.sliceCells hS1), trivial⟩ (by kernel_rfl)) q q ?_
   | refine XQ (i := 12) q (by decide +kernel) q Hc.chg q (fun _ => qt_build (args := [(0, .tmp 40), (1, .tmp 44), (2, .tmp 48), (3, .tmp 50), (4, .tmp 51)]) (css := [#[ad], #[aa], #[ab], #[iV B3], #[ae]]) (cells := #[ad, aa, ab, iV B3, ae]) q ⟨(Hc.ctx.sliceCells hS5), (Hc.ctx.sliceCells hS1), (Hc.ctx.sliceCells hS0), q, (Hc.ctx.sliceCells hS2), trivial⟩ (by kernel_rfl)) q q ?_
   | refine XQ (i := 12) q (by decide +kernel) q Hc.chg q (fun _ => qt_build (args := [(0, .tmp 40), (1, .tmp 44), (2, .tmp 48), (3, .tmp 50), (4, .tmp 51)]) (css := [#[ad], #[aa], #[ab], #[iV B3], #[ae]]) (cells := #[ad, aa, ab, iV B3, ae]) q ⟨(Hc.ctx.sliceCells hS6), (Hc.ctx.sliceCells hS2), (Hc.ctx.sliceCells hS0), q, (Hc.ctx.sliceCells hS3), trivial⟩ (by kernel_rfl)) q q ?_
   | refine XQ (i := 12) q (by decide +kernel) q Hc.chg q (fun _ => qt_build (args := [(0, .tmp 40), (1, .tmp 44), (2, .tmp 48), (3, .tmp 50), (4, .tmp 51)]) (css := [#[ad], #[aa], #[ab], #[iV B3], #[ae]]) (cells := #[ad, aa, ab, iV B3, ae]) q ⟨(Hc.ctx.sliceCells hS6), (Hc.ctx.sliceCells hS1), (Hc.ctx.sliceCells hS0), q, (Hc.ctx.sliceCells hS3), trivial⟩ (by kernel_rfl)) q q ?_
   | refine XQ (i := 12) q (by decide +kernel) q Hc.chg q (fun _ => qt_build (args := [(0, .tmp 40), (1, .tmp 44), (2, .tmp 48), (3, .tmp 50), (4, .tmp 51)]) (css := [#[ad], #[aa], #[ab], #[iV B3], #[ae]]) (cells := #[ad, aa, ab, iV B3, ae]) q ⟨(Hc.ctx.sliceCells hS6), (Hc.ctx.sliceCells hS2), (Hc.ctx.sliceCells hS1), q, (Hc.ctx.sliceCells hS0), trivial⟩ (by kernel_rfl)) q q ?_
   | refine XQ (i := 12) q (by decide +kernel) q Hc.chg q (fun _ => qt_build (args := [(0, .tmp 40), (1, .tmp 44), (2, .tmp 48), (3, .tmp 50), (4, .tmp 51)]) (css := [#[ad], #[aa], #[ab], #[iV B3], #[ae]]) (cells := #[ad, aa, ab, iV B3, ae]) q ⟨(Hc.ctx.sliceCells hS6), (Hc.ctx.sliceCells hS2), (Hc.ctx.sliceCells hS0), q, (Hc.ctx.sliceCells hS1), trivial⟩ (by kernel_rfl)) q q ?_
   | refine XQ (i := 12) q (by decide +kernel) q Hc.chg q (fun _ => qt_build (args := [(0, .tmp 40), (1, .tmp 44), (2, .tmp 48), (3, .tmp 50), (4, .tmp 51)]) (css := [#[ad], #[aa], #[ab], #[iV B3], #[ae]]) (cells := #[ad, aa, ab, iV B3, ae]) q ⟨(Hc.ctx.sliceCells hS6), (Hc.ctx.sliceCells hS1), (Hc.ctx.sliceCells hS0), q, (Hc.ctx.sliceCells hS2), trivial⟩ (by kernel_rfl)) q q ?_
   | refine XV [1, 5, 11, 13] (by decide +kernel) q (allc ?_ (allc ?_ (allc ?_ (allc ?_ alln))))
   | refine XV [4, 5, 11, 13] (by decide +kernel) q (allc ?_ (allc ?_ (allc ?_ (allc ?_ alln))))
   | refine XV [5, 11, 13] (by decide +kernel) q (allc ?_ (allc ?_ (allc ?_ alln)))
   | refine XV [8, 11, 13] (by decide +kernel) q (allc ?_ (allc ?_ (allc ?_ alln)))
   | refine XV [11, 13] (by decide +kernel) q (allc ?_ (allc ?_ alln))
   | refine XV [13] (by decide +kernel) q (allc ?_ alln)
   | refine XV [14] (by decide +kernel) q (allc ?_ alln)
   | refine XV [11] (by decide +kernel) q (allc ?_ alln)
   | refine XV [8, 13] (by decide +kernel) q (allc ?_ (allc ?_ alln))
   | refine XV [8] (by decide +kernel) q (allc ?_ alln)
   | refine XV [8, 11] (by decide +kernel) q (allc ?_ (allc ?_ alln))
   | refine XV [5, 13] (by decide +kernel) q (allc ?_ (allc ?_ alln))
   | refine XV [5] (by decide +kernel) q (allc ?_ alln)
   | refine XV [5, 11] (by decide +kernel) q (allc ?_ (allc ?_ alln))
   | refine XV [4, 11, 13] (by decide +kernel) q (allc ?_ (allc ?_ (allc ?_ alln)))
   | refine XV [4, 13] (by decide +kernel) q (allc ?_ (allc ?_ alln))
   | refine XV [4] (by decide +kernel) q (allc ?_ alln)
   | refine XV [4, 11] (by decide +kernel) q (allc ?_ (allc ?_ alln))
   | refine XV [4, 5, 13] (by decide +kernel) q (allc ?_ (allc ?_ (allc ?_ alln)))
   | refine XV [4, 5] (by decide +kernel) q (allc ?_ (allc ?_ alln))
   | refine XV [4, 5, 11] (by decide +kernel) q (allc ?_ (allc ?_ (allc ?_ alln)))
   | refine XV [1, 11, 13] (by decide +kernel) q (allc ?_ (allc ?_ (allc ?_ alln)))
   | refine XV [1, 13] (by decide +kernel) q (allc ?_ (allc ?_ alln))
   | refine XV [1] (by decide +kernel) q (allc ?_ alln)
   | refine XV [1, 11] (by decide +kernel) q (allc ?_ (allc ?_ alln))
   | refine XV [1, 5, 13] (by decide +kernel) q (allc ?_ (allc ?_ (allc ?_ alln)))
   | refine XV [1, 5] (by decide +kernel) q (allc ?_ (allc ?_ alln))
   | refine XV [1, 5, 11] (by decide +kernel) q (allc ?_ (allc ?_ (allc ?_ alln)))
   | refine XC_done (by decide +kernel) (fun a ha => ?_); have Hc := (((((((Hc.p1).p2).p3).p6).p4).p6).p6); exact ⟨a1, ad, aa, ab, ae, ha.sub ⟨q, q, q, trivial⟩, Hc⟩
   | refine XC_done (by decide +kernel) (fun a ha => ?_); have Hc := (((((((Hc.p2).p2).p3).p6).p4).p6).p6); exact ⟨a1, ad, aa, ab, ae, ha.sub ⟨q, q, q, trivial⟩, Hc⟩
   | refine XC_done (by decide +kernel) (fun a ha => ?_); have Hc := (((((((Hc.p3).p2).p3).p6).p4).p6).p6); exact ⟨a1, ad, aa, ab, ae, ha.sub ⟨q, q, q, trivial⟩, Hc⟩
 intro a dB cf
 obtain ⟨ao, ag, ah, ai, aP, ha, cg⟩ := cf
 refine S ?_ ha
 clear ha
 refine C <| rR <| qA q q q <| B <| g ?_
 obtain ⟨bf, ch, h⟩ := D h
 have ci := cg.p6.p6.p6.p6.p6.p6.p6
 refine fun cj bg => zp (I := fun s a w2 => match s with | (a2, aC) => ∃ ap, Fr a 82 [(1, pB b1), (2, pB b5), (5, pB ao), (6, iV a2)] ∧ Holds M0 w w2 [.bx b1 27 [A0, A1, A2, iV B3, A4], .bx b5 27 [nS, nS, nS, iV 0, nS], .bx ao 27 [ag, ah, ai, iV B3, ap], .sl 55 ty10 ag au, .sl 3 tI ah aA, .sl 3 tI ai aB, .sl 47 ty12 ap aC] G) (O := fun o e a w2 => match o with | q0 => e = .exit 2 ∧ ∃ aF, Fr a 82 [(2, pB b5), (5, pB ao)] ∧ Holds M0 w w2 [.bx b5 27 [nS, nS, nS, iV 0, nS], .bx ao 27 [ag, ah, ai, iV B3, aF], .sl 55 ty10 ag au, .sl 3 tI ah aA, .sl 3 tI ai aB, .sl 47 ty12 aF q0] G) ch ?_ ?_ ?_
 ·exact ⟨aP, bg.sub ⟨q, q, q, q, trivial⟩, ci⟩
 ·clear bg
  intro s dC a ck al cl
  obtain ⟨a2, aC⟩ := s
  obtain ⟨ap, ha, aD⟩ := cl
  refine S ?_ ha
  clear ha
  refine C <| rR <| qM q q q <| qF uf27 fi27_4 nz25 q q q ?_
  have cm := R aD.p0
  refine l u25 q cm q q q q <| za aD.ctx (t := ty12) (C4.c.c.c.c.c.c.c) u25 q q q <| A q (qt_lss q q) q q <| B ?_
  refine Y q (fun a3 => ?_) (fun a3 => ?_)
  ·have al := if_t a3 al
   refine y <| C <| g <| rR <| qF uf27 fi27_4 nz25 q q q ?_
   have cn := R aD.p0
   refine l u25 q cn q q q q <| qM q q q ?_
   obtain ⟨ak, bh, al⟩ := D al
   refine b aD.ctx (C4.c.c.c.c.c.c.c) bh u25 i47 q q q q (fun dD dE dF co => ?_)
   obtain ⟨dG, cp, cq⟩ := aD.atN (C4.c.c.c.c.c.c.c) bh co
   refine XL_load_agg (t := ty12) us47 uo47 i47 cp q q q (fun dH cr => ?_)
   obtain ⟨dI, dJ, dK, dL, rfl, bi, ct, cu⟩ := cr
   obtain ⟨rfl, _⟩ := ct
   obtain ⟨dM, dN, dO, dP, rfl, bj, cv, cw⟩ := cu
   obtain ⟨aw, rfl, cx⟩ := Rep.sl_inv cv
   obtain ⟨ax, rfl, cy⟩ := Rep.sl_inv cw
   have cz : Holds _ w ck [.ro ty2 aw ak.2.1, .ro tI ax ak.2.2, .bx b1 27 [A0, A1, A2, iV B3, A4], .bx b5 27 [nS, nS, nS, iV 0, nS], .bx ao 27 [ag, ah, ai, iV B3, ap], .sl 55 ty10 ag au, .sl 3 tI ah aA, .sl 3 tI ai aB, .sl 47 ty12 ap aC] G := cq [.ro ty2 aw ak.2.1, .ro tI ax ak.2.2] ⟨⟨_, _, _, _, q, cx, (fun k h => (fun k h => (fun _ h => h) k (by rw [bi]; exact zx _ h)) k (by rw [bj]; exact List.mem_append_left _ h))⟩, ⟨_, _, _, _, q, cy, (fun k h => (fun k h => (fun _ h => h) k (by rw [bi]; exact zx _ h)) k (by rw [bj]; exact zx _ h))⟩, trivial⟩
   change XL _ _ _ _ _ ((64, .agg #[iV ak.1, aw, ax]) :: _) _
   refine zq (cs := [iV 0, nS, nS]) cz z47 q q q (fun bk dQ a4 => ?_)
   refine zl (cs' := [iV ak.1, aw, ax]) a4 q il47 q (T q (T (a4.ctx.sliceOne hR1) (T (a4.ctx.sliceOne hR2) q))) q q q (fun dR cA => ?_)
   refine B ?_
   obtain ⟨cB, a5, al⟩ := D al
   obtain ⟨cC, bl, al⟩ := D al
   obtain ⟨cD, cE, al⟩ := D al
   refine WP_mid (Mid := fun a w2 => ∃ aR, Fr a 82 [(1, pB b1), (2, pB b5), (5, pB ao), (6, iV a2)] ∧ Holds M0 w w2 [.bx b1 27 [A0, A1, A2, iV B3, A4], .bx b5 27 [nS, nS, nS, iV 0, nS], .bx ao 27 [ag, ah, ai, iV B3, aR], .sl 55 ty10 ag au, .sl 3 tI ah aA, .sl 3 tI ai aB, .sl 47 ty12 aR cD] G) ?_ ?_
   ·refine WP_ordersT (fun w1 w2 => Chg (([.sl 47 ty12 ap aC] : List Res).flatMap Res.own) w1 w2) 15 (by kernel_rfl) (fun a6 cF => ?_)
    have cG := cA.grow cF
    have bm := cG.p9
    have aH : Ctx a6 ([.sl 47 ty12 ap aC] ++ ([.bx bk 47 [iV ak.1, aw, ax], .ro ty2 aw ak.2.1, .ro tI ax ak.2.2, .bx b1 27 [A0, A1, A2, iV B3, A4], .bx b5 27 [nS, nS, nS, iV 0, nS], .bx ao 27 [ag, ah, ai, iV B3, ap], .sl 55 ty10 ag au, .sl 3 tI ah aA, .sl 3 tI ai aB] ++ G)) := bm.ctx
    have cH : Holds _ a6 a6 [.sl 47 ty12 ap aC] ([.bx bk 47 [iV ak.1, aw, ax], .ro ty2 aw ak.2.1, .ro tI ax ak.2.2, .bx b1 27 [A0, A1, A2, iV B3, A4], .bx b5 27 [nS, nS, nS, iV 0, nS], .bx ao 27 [ag, ah, ai, iV B3, ap], .sl 55 ty10 ag au, .sl 3 tI ah aA, .sl 3 tI ai aB] ++ G) := zb (Rs := [.sl 47 ty12 ap aC]) aH
    have Hc := cH
    repeat' first
     | refine XDo 4 q ?_; refine zs (t := ty2) (args := []) (xs := ([] : LP)) Hc (BltL.nil) u45 j49 q q q q q q (fun dS _ Hc => ?_); refine XN Hc.chg ?_
     | refine XDo 7 q ?_; refine zw Hc hR3 a5 u45 j49 q q q q q q (fun aS _ Hc => ?_); refine XN Hc.chg ?_
     | refine XDo 7 q ?_; have Hc := Hc.p1; refine zw Hc hR4 a5 u45 j49 q q q q q q (fun aS _ Hc => ?_); refine XN Hc.chg ?_
     | refine XDo 7 q ?_; refine zw Hc hR4 a5 u45 j49 q q q q q q (fun aS _ Hc => ?_); refine XN Hc.chg ?_
     | refine XDo 8 q ?_; refine zs (t := tI) (args := []) (xs := ([] : List Int)) Hc (BltL.nil) u24 j3 q q q q q q (fun dT _ Hc => ?_); refine XN Hc.chg ?_
     | refine XDo 11 q ?_; refine zw Hc hR5 bl u24 j3 q q q q q q (fun a7 _ Hc => ?_); refine XN Hc.chg ?_
     | refine XDo 11 q ?_; have Hc := Hc.p1; refine zw Hc hR5 bl u24 j3 q q q q q q (fun a7 _ Hc => ?_); refine XN Hc.chg ?_
     | refine XDo 13 q ?_; have Hc := Hc.p1; have Hc := Hc.freeze; have Hc := Hc.p1; have Hc := Hc.freeze; refine zs (t := ty12) (args := [.tmp 77]) (xs := ([(ak.1, cB, cC)] : LT)) Hc (BltL.cons (Blt.pair (Blt.int) (Blt.pair (Blt.slice hO1) (Blt.slice hO0))) q (BltL.nil)) u25 j47 q q q q q q (fun dU _ Hc => ?_); refine XN Hc.chg ?_
     | refine XDo 14 q ?_; have Hc := Hc.p3; refine zw Hc hS1 cE u25 j47 q q q q q q (fun cI _ Hc => ?_); refine XN Hc.chg ?_
     | have Hc := bm.cN4 [_] Hc; refine XDo 15 q <| qF uf27 fi27_4 nz25 q q q <| XE q ?_
     | refine XDo 16 q ?_; have Hc := Hc.p9; refine WL_store_bx Hc q il25 (Hc.ctx.sliceCells hS1) (Hc.ctx.sliceOne hS1) q q q (fun _ Hc => ?_); refine XE q ?_
     | refine XQ (i := 0) q (by decide +kernel) q Hc.chg q (fun _ => qt_fieldAddr uf27 fi27_4 nz25 q) q q ?_
     | have cJ := HasB.bx (HasB.c (HasB.c (HasB.c (HasB.c (HasB.c (HasB.c (HasB.hd))))))) Hc.ctx; refine XT (i := 1) q (by decide +kernel) q Hc.chg q (qs_cell u25 q q (cJ.cell (i := 4) q) Hc.chg (Ctx.outB aH (HasB.c (HasB.c (HasB.c (HasB.c (HasB.c (HasB.hd)))))))) q q ?_
     | refine XQ (i := 2) q (by decide +kernel) q Hc.chg q (fun _ => qt_fieldAddr uf47 fi47_0 nz3 q) q q ?_
     | have cK := HasB.bx (HasB.c (HasB.hd)) Hc.ctx; refine XT (i := 3) q (by decide +kernel) q Hc.chg q (qs_cell u3 q q (cK.cell (i := 0) q) Hc.chg (Ctx.outB aH (HasB.hd))) q q ?_
     | refine XQ (i := 5) q (by decide +kernel) q Hc.chg q (fun _ => qt_fieldAddr uf47 fi47_1 nz45 q) q q ?_
     | have cL := HasB.bx (HasB.c (HasB.hd)) Hc.ctx; refine XT (i := 6) q (by decide +kernel) q Hc.chg q (qs_cell u45 q q (cL.cell (i := 1) q) Hc.chg (Ctx.outB aH (HasB.hd))) q q ?_
     | refine XQ (i := 9) q (by decide +kernel) q Hc.chg q (fun _ => qt_fieldAddr uf47 fi47_2 nz24 q) q q ?_
     | have cM := HasB.bx (HasB.c (HasB.hd)) Hc.ctx; refine XT (i := 10) q (by decide +kernel) q Hc.chg q (qs_cell u24 q q (cM.cell (i := 2) q) Hc.chg (Ctx.outB aH (HasB.hd))) q q ?_
     | refine XQ (i := 12) q (by decide +kernel) q Hc.chg q (fun _ => qt_build (args := [(0, .tmp 68), (1, .tmp 72), (2, .tmp 76)]) (css := [#[iV ak.1], #[aS], #[a7]]) (cells := #[iV ak.1, aS, a7]) q ⟨q, (Hc.ctx.sliceCells hS1), (Hc.ctx.sliceCells hS0), trivial⟩ (by kernel_rfl)) q q ?_
     | refine XV [4, 8] (by decide +kernel) q (allc ?_ (allc ?_ alln))
     | refine XV [7, 8] (by decide +kernel) q (allc ?_ (allc ?_ alln))
     | refine XV [8] (by decide +kernel) q (allc ?_ alln)
     | refine XV [11] (by decide +kernel) q (allc ?_ alln)
     | refine XV [13] (by decide +kernel) q (allc ?_ alln)
     | refine XV [14] (by decide +kernel) q (allc ?_ alln)
     | refine XV [15] (by decide +kernel) q (allc ?_ alln)
     | refine XV [16] (by decide +kernel) q (allc ?_ alln)
     | refine XV [7] (by decide +kernel) q (allc ?_ alln)
     | refine XV [4] (by decide +kernel) q (allc ?_ alln)
     | refine XC_done (by decide +kernel) (fun a ha => ?_); have Hc := (((((((((((((Hc.q2).q2).q2).q2).q2).q2).p1).p6).p6).p6).p4).p6).p6); exact ⟨cI, ha.sub ⟨q, q, q, q, trivial⟩, Hc⟩
   intro a dV cN
   obtain ⟨aR, ha, cO⟩ := cN
   refine zi (X (S ?_ ha))
   refine Z <| qM q q q <| A q (qt_add q q) q q <| qA q q q <| WL_nil fun a ha => ?_
   obtain rfl := L al
   have cP := cO.p6.p6.p6.p6.p6.p6.p6
   exact ⟨q, aR, ha.sub ⟨q, q, q, q, trivial⟩, cP⟩
  have al := if_f a3 al
  refine WP_exit fun a ha => ?_
  obtain rfl := L al
  have cQ := aD.q0.p5.p5.p5.p5.p5.p5
  exact zo (⟨exit_ne, q, ap, ha.sub ⟨q, q, trivial⟩, cQ⟩)
 intro e cj dW cR
 obtain ⟨dX, rfl⟩ : ∃ z, z = bf := ⟨bf, q⟩
 obtain ⟨rfl, cS⟩ := cR
 obtain ⟨aI, ha, aE⟩ := cS
 refine zn (X (S ?_ ha))
 refine C <| Z ?_
 have cT := R aE.p1
 refine zm (cs := [ag, ah, ai, iV B3, aI]) us27 uo27 il27 cT q q q ?_
 change XL _ _ _ _ _ ((81, .agg #[ag, ah, ai, iV B3, aI]) :: _) _
 refine zl (cs' := [ag, ah, ai, iV B3, aI]) aE q il27 q (T (aE.ctx.sliceOne hS2) (T (aE.ctx.sliceOne hS3) (T (aE.ctx.sliceOne hS4) (T q (T (aE.ctx.sliceOne hS5) q))))) q q q (fun dY bn => ?_)
 refine B <| W fun a ha => ?_
 obtain rfl := L h
 have cU := R bn.p0
 have cV := bn.q0.q0.p3.p3.p3.p3
 exact retc q ha q (run_loadVar_bx (cs := [ag, ah, ai, iV B3, aI]) us27 uo27 il27 cU) ⟨ag, ah, ai, aI, q, cV⟩
theorem w_spec_l7Buy (w : World) (G : List Res) (A0 : Value) (B0 : LI) (A1 : Value) (B1 : List Int) (A2 : Value) (B2 : List Int) (B3 : Int) (A4 : Value) (B4 : LT) (p1 : Int) (p2 : Int) (r : (LI × (List Int) × (List Int) × Int × LT) × Bool) (h : spec_l7BuyS B0 B1 B2 B3 B4 p1 p2 = some r) (H : Ctx w ([.sl 55 ty10 A0 B0, .sl 3 tI A1 B1, .sl 3 tI A2 B2, .sl 47 ty12 A4 B4] ++ G)) : Calls Tryz.prog 34 #[.agg #[A0, A1, A2, iV B3, A4], iV p1, iV p2] w fun e w' => ∃ (v1 : Value) (v2 : Value) (v3 : Value) (v4 : Value), e = .returned (.tuple #[.agg #[v1, v2, v3, iV r.1.2.2.2.1, v4], .bool r.2]) ∧ Holds (([.sl 55 ty10 A0 B0, .sl 3 tI A1 B1, .sl 3 tI A2 B2, .sl 47 ty12 A4 B4] : List Res).flatMap Res.own) w w' [.sl 55 ty10 v1 r.1.1, .sl 3 tI v2 r.1.2.1, .sl 3 tI v3 r.1.2.2.1, .sl 47 ty12 v4 r.1.2.2.2.2] G := by
 have H : Holds (([.sl 55 ty10 A0 B0, .sl 3 tI A1 B1, .sl 3 tI A2 B2, .sl 47 ty12 A4 B4] : List Res).flatMap Res.own) w w [.sl 55 ty10 A0 B0, .sl 3 tI A1 B1, .sl 3 tI A2 B2, .sl 47 ty12 A4 B4] G := zb H
 refine zg (args := [.agg #[A0, A1, A2, iV B3, A4], iV p1, iV p2]) (n := 75) Tryz.func34 q q q ?_
 unfold spec_l7BuyS at h
 refine C <| Z ?_
 refine WL_box (cs := [A0, A1, A2, iV B3, A4]) H q q q q (fun b1 w2 H3 => ?_)
 refine zq (cs := [nS, nS, nS, iV 0, nS]) H3 z27 q q q (fun b5 w6 H7 => ?_)
 refine qA q q q <| B <| C <| C <| WP_quiet (by kernel_rfl) (by kernel_rfl) <| qM q q q <| qF uf27 fi27_0 nz23 q q q ?_
 have aE := R H7.p1
 refine l u23 q aE q q q q <| za H7.ctx (t := ty10) hS2 u23 q q q <| A q (qt_sub q q) q q ?_
 obtain ⟨ap, aF, h⟩ := D h
 refine QC q q c52 (fun w' hb => w_spec_l1In w' _ p1 0 (IntKind.wrap .i64 ((List.length B0 : Int) - 1)) ap aF (H7.grow hb).ctx) (by rfl) <| A q (qt_not q) q q <| qM q q q ?_
 obtain ⟨aq, ag, h⟩ := D h
 refine zh 8 23 (.bool aq) ?_ (fun md hmd hk => ?_)
 rotate_left
 ·obtain ⟨K, rfl⟩ := zr hmd
  rcases btf (!ap) with ad | ad
  ·skip
   refine qS q ad q q <| qS q ad q q <| qS q ad q q <| qS q ad q q <| qS q ad q q <| qS q ad q q <| qS q ad q q <| A q (ze q ad q) q q ?_
   exact hk _ (p (vb (if_t ad ag)) (cfn 7 q (u)))
  skip
  have ag := if_f ad ag
  refine qF uf27 fi27_0 nz23 (J q ad) q q ?_
  have aG := R H7.p1
  refine l u23 q aG q (J q ad) q q <| qM (J q ad) q q ?_
  obtain ⟨bg, ar, ag⟩ := D ag
  refine b H7.ctx hS2 ar u23 i55 (J q ad) q q q (fun bh bi bj aH => ?_)
  refine qF uf55 fi55_0 nz3 (J q ad) q q ?_
  obtain ⟨bk, aI, bl⟩ := H7.at hS2 ar aH
  obtain ⟨bm, aJ, bn⟩ := AtP.fst aI
  refine zt (k := .i64) u3 q aJ (J q ad) q q <| A (J q ad) (qt_gtr q q) q q <| A q (zf q ad q) q q ?_
  exact hk _ (p (vb ag) (cfn 7 q (u)))
 refine qM q q q ?_
 obtain ⟨au, ah, h⟩ := D h
 refine zh 4 28 (.bool au) ?_ (fun md hmd hk => ?_)
 rotate_left
 ·obtain ⟨K, rfl⟩ := zr hmd
  rcases btf aq with ae | ae
  ·skip
   refine qS q ae q q <| qS q ae q q <| qS q ae q q <| A q (ze q ae q) q q ?_
   exact hk _ (p (vb (if_t ae ah)) (cfn 3 q (u)))
  skip
  have ah := if_f ae ah
  refine qM (J q ae) q q ?_
  obtain ⟨aK, aL, ah⟩ := D ah
  refine QC (J q ae) q c52 (fun w' hb => w_spec_l1In w' _ p2 1 50 aK aL (H7.grow hb).ctx) (by rfl) <| A (J q ae) (qt_not q) q q <| A q (zf q ae q) q q ?_
  exact hk _ (p (vb ah) (cfn 3 q (u)))
 refine qM q q q ?_
 obtain ⟨av, ai, h⟩ := D h
 refine zh 9 38 (.bool av) ?_ (fun md hmd hk => ?_)
 rotate_left
 ·obtain ⟨K, rfl⟩ := zr hmd
  rcases btf au with ab | ab
  ·skip
   refine qS q ab q q <| qS q ab q q <| qS q ab q q <| qS q ab q q <| qS q ab q q <| qS q ab q q <| qS q ab q q <| qS q ab q q <| A q (ze q ab q) q q ?_
   exact hk _ (p (vb (if_t ab ai)) (cfn 8 q (u)))
  skip
  have ai := if_f ab ai
  refine qF uf27 fi27_2 nz24 (J q ab) q q ?_
  have aM := R H7.p1
  refine l u24 q aM q (J q ab) q q <| qM (J q ab) q q ?_
  obtain ⟨bo, aw, ai⟩ := D ai
  refine b H7.ctx hS4 aw u24 i3 (J q ab) q q q (fun bp bq br aN => ?_)
  obtain ⟨bs, aO, bt⟩ := H7.at hS4 aw aN
  refine zt (k := .i64) u3 q aO (J q ab) q q <| qM (J q ab) q q <| A (J q ab) (qt_add q q) q q <| A (J q ab) (qt_gtr q q) q q <| A q (zf q ab q) q q ?_
  exact hk _ (p (vb ai) (cfn 8 q (u)))
 refine qM q q q ?_
 obtain ⟨aP, aj, h⟩ := D h
 refine zh 11 50 (.bool aP) ?_ (fun md hmd hk => ?_)
 rotate_left
 ·obtain ⟨K, rfl⟩ := zr hmd
  rcases btf av with aa | aa
  ·skip
   refine qS q aa q q <| qS q aa q q <| qS q aa q q <| qS q aa q q <| qS q aa q q <| qS q aa q q <| qS q aa q q <| qS q aa q q <| qS q aa q q <| qS q aa q q ?_
   refine A q (ze q aa q) q q ?_
   exact hk _ (p (vb (if_t aa aj)) (cfn 10 q (u)))
  skip
  have aj := if_f aa aj
  refine qM (J q aa) q q <| qF uf27 fi27_1 nz24 (J q aa) q q ?_
  have aQ := R H7.p1
  refine l u24 q aQ q (J q aa) q q <| qM (J q aa) q q ?_
  obtain ⟨bu, ax, aj⟩ := D aj
  refine b H7.ctx hS3 ax u24 i3 (J q aa) q q q (fun bv bw bz aR => ?_)
  obtain ⟨bA, aS, bB⟩ := H7.at hS3 ax aR
  refine zt (k := .i64) u3 q aS (J q aa) q q <| A (J q aa) (qt_mul q q) q q <| qF uf27 fi27_3 nz3 (J q aa) q q ?_
  have aT := R H7.p1
  refine l u3 q aT q (J q aa) q q <| A (J q aa) (qt_gtr q q) q q <| A q (zf q aa q) q q ?_
  exact hk _ (p (vb aj) (cfn 10 q (u)))
 refine QL_nil fun a ha bC aU => ?_
 have af := H7.grow aU
 refine X (S ?_ ha)
 refine Y q (fun ao => ?_) (fun ao => ?_)
 ·have h := if_t ao h
  refine C <| Z ?_
  have aV := R af.p1
  refine zm (cs := [A0, A1, A2, iV B3, A4]) us27 uo27 il27 aV q q q ?_
  change XL _ _ _ _ _ ((51, .agg #[A0, A1, A2, iV B3, A4]) :: _) _
  refine zl (cs' := [A0, A1, A2, iV B3, A4]) af q il27 q (T (af.ctx.sliceOne hS2) (T (af.ctx.sliceOne hS3) (T (af.ctx.sliceOne hS4) (T q (T (af.ctx.sliceOne hS5) q))))) q q q (fun bD ay => ?_)
  refine qA q q q <| B <| W fun a ha => ?_
  obtain rfl := L h
  have aW := R ay.p0
  have aX := ay.q0.q0.p3.p3.p3.p3
  exact m (retct q ha q q (run_loadVar_bx (cs := [A0, A1, A2, iV B3, A4]) us27 uo27 il27 aW) ⟨A0, A1, A2, A4, q, aX⟩)
 have h := if_f ao h
 refine y <| C ?_
 refine WP_tail 10 (by kernel_rfl) (by kernel_rfl) (fun bE aY => ?_)
 have ak := af.grow aY
 refine qF uf27 fi27_2 nz24 q q q ?_
 have aZ := R ak.p1
 refine l u24 q aZ q q q q <| qM q q q <| qF uf27 fi27_2 nz24 q q q ?_
 have a0 := R ak.p1
 refine l u24 q a0 q q q q <| qM q q q ?_
 obtain ⟨a1, az, h⟩ := D h
 refine b ak.ctx hS4 az u24 i3 q q q q (fun bF bG bH a2 => ?_)
 obtain ⟨bI, a3, bJ⟩ := ak.at hS4 az a2
 refine zt (k := .i64) u3 q a3 q q q <| qM q q q <| A q (qt_add q q) q q <| SL_nil ?_
 obtain ⟨bK, aA, h⟩ := D h
 refine b ak.ctx hS4 aA u24 i3 q q q q (fun bL bM bN a4 => ?_)
 have a5 := ak.p4
 refine WL_storeH (fo := 0) (cs' := [iV (IntKind.wrap .i64 (a1 + p2))]) a5 aA a4 (Upd.whole (Blt.int)) q il3 q q q q (fun bO a6 => ?_)
 refine B <| C ?_
 refine WP_tail 9 (by kernel_rfl) (by kernel_rfl) (fun bP a7 => ?_)
 have al := a6.grow a7
 refine qF uf27 fi27_3 nz3 q q q ?_
 have a8 := R al.p2
 refine l u3 q a8 q q q q <| qM q q q <| qF uf27 fi27_1 nz24 q q q ?_
 have a9 := R al.p2
 refine l u24 q a9 q q q q <| qM q q q ?_
 obtain ⟨an, aB, h⟩ := D h
 refine b al.ctx hS4 aB u24 i3 q q q q (fun bQ bR bS ba => ?_)
 obtain ⟨bT, bb, bU⟩ := al.at hS4 aB ba
 refine zt (k := .i64) u3 q bb q q q <| A q (qt_mul q q) q q <| SL_nil <| A q (qt_sub q q) q q <| qF uf27 fi27_3 nz3 q q q ?_
 have bc := al.p2
 refine WL_store_bx bc q il3 q q q q q (fun bV aC => ?_)
 refine B <| C <| Z ?_
 have bd := R aC.p0
 refine zm (cs := [A0, A1, A2, iV (IntKind.wrap .i64 (B3 - (IntKind.wrap .i64 (p2 * an)))), A4]) us27 uo27 il27 bd q q q ?_
 change XL _ _ _ _ _ ((74, .agg #[A0, A1, A2, iV (IntKind.wrap .i64 (B3 - (IntKind.wrap .i64 (p2 * an)))), A4]) :: _) _
 have am := aC.p2
 refine zl (cs' := [A0, A1, A2, iV (IntKind.wrap .i64 (B3 - (IntKind.wrap .i64 (p2 * an)))), A4]) am q il27 q (T (am.ctx.sliceOne hS3) (T (am.ctx.sliceOne hS4) (T (am.ctx.sliceOne hS2) (T q (T (am.ctx.sliceOne hS5) q))))) q q q (fun bW aD => ?_)
 refine qA q q q <| B <| W fun a ha => ?_
 obtain rfl := L h
 have be := R aD.p0
 have bf := aD.q0.q0.p3.p1.p3.p3
 exact retct q ha q q (run_loadVar_bx (cs := [A0, A1, A2, iV (IntKind.wrap .i64 (B3 - (IntKind.wrap .i64 (p2 * an)))), A4]) us27 uo27 il27 be) ⟨A0, A1, A2, A4, q, bf⟩
theorem w_spec_MakeRun (w : World) (G : List Res) (vp0 : Value) (p0 : LI) (hp0 : Has G ty10 vp0 p0) (vp1 : Value) (p1 : List Int) (hp1 : Has G tI vp1 p1) (A2_0 : Value) (p2_0 : List Int) (hp2_0 : Has G tI A2_0 p2_0) (A2_1 : Value) (p2_1 : List Int) (hp2_1 : Has G tI A2_1 p2_1) (r : (List Int) × Bool) (h : spec_MakeRunS p0 p1 p2_0 p2_1 = some r) (H : Ctx w G) : Calls Tryz.prog 72 #[vp0, vp1, .agg #[A2_0, A2_1]] w fun e w' => ∃ (v1 : Value), e = .returned (.tuple #[v1, .bool r.2]) ∧ Holds M0 w w' [.sl 3 tI v1 r.1] G := by
 have H : Holds M0 w w [] G := zb H
 refine zg (args := [vp0, vp1, .agg #[A2_0, A2_1]]) (n := 111) Tryz.func72 q q q ?_
 unfold spec_MakeRunS at h
 refine C <| Z ?_
 refine WL_box (cs := [A2_0, A2_1]) H q q q q (fun b1 w2 H3 => ?_)
 refine qA q q q <| qA q q q <| B <| C <| C <| zk <| qM q q q ?_
 obtain ⟨x5, aZ, h⟩ := D h
 refine QC q q c86 (fun w' hb => w_spec_ItemsValid w' _ vp0 p0 (hp0.c) x5 aZ (H3.grow hb).ctx) (by rfl) <| A q (qt_not q) q q <| qM q q q ?_
 obtain ⟨b7, aj, h⟩ := D h
 refine zh 5 20 (.bool b7) ?_ (fun md hmd hk => ?_)
 rotate_left
 ·obtain ⟨K, rfl⟩ := zr hmd
  rcases btf (!x5) with ae | ae
  ·skip
   refine qS q ae q q <| qS q ae q q <| qS q ae q q <| qS q ae q q <| A q (ze q ae q) q q ?_
   exact hk _ (p (vb (if_t ae aj)) (cfn 4 q (u)))
  skip
  have aj := if_f ae aj
  refine qM (J q ae) q q <| qM (J q ae) q q ?_
  obtain ⟨a0, a1, aj⟩ := D aj
  refine QC (J q ae) q c51 (fun w' hb => w_spec_l1Amounts w' _ vp0 p0 (hp0.c) vp1 p1 (hp1.c) a0 a1 (H3.grow hb).ctx) (by rfl) <| A (J q ae) (qt_not q) q q <| A q (zf q ae q) q q ?_
  exact hk _ (p (vb aj) (cfn 4 q (u)))
 refine qM q q q ?_
 refine zh 7 28 (.bool (b7 || ((List.length p2_0 : Int) != (List.length p0 : Int)))) ?_ (fun md hmd hk => ?_)
 rotate_left
 ·obtain ⟨K, rfl⟩ := zr hmd
  rcases btf b7 with ad | ad
  ·skip
   refine qS q ad q q <| qS q ad q q <| qS q ad q q <| qS q ad q q <| qS q ad q q <| qS q ad q q <| A q (ze q ad q) q q ?_
   exact hk _ (p (by rw [ad]; rfl) (cfn 6 q (u)))
  skip
  refine qF uf101 fi101_0 nz24 (J q ad) q q ?_
  have a2 := R H3.p0
  refine l u24 q a2 q (J q ad) q q <| za H3.ctx (t := tI) (hp2_0.c) u24 (J q ad) q q <| qM (J q ad) q q <| za H3.ctx (t := ty10) (hp0.c) u23 (J q ad) q q <| A (J q ad) (qt_neq q q) q q <| A q (zf q ad q) q q ?_
  exact hk _ (p (by rw [ad]; rfl) (cfn 6 q (u)))
 refine QL_nil fun a ha cJ a3 => ?_
 have aA := H3.grow a3
 refine X (S ?_ ha)
 refine Y q (fun au => ?_) (fun au => ?_)
 ·have h := if_t au h
  refine C <| Z ?_
  refine zs (t := tI) (args := []) (xs := ([] : List Int)) aA (BltL.nil) u24 j3 q q q q q q (fun a4 cK a5 => ?_)
  refine qA q q q <| qA q q q <| B <| W fun a ha => ?_
  obtain rfl := L h
  have a6 := a5.q1
  exact m (ret2 q ha q q ⟨a4, q, a6⟩)
 have h := if_f au h
 refine y <| C <| Z ?_
 refine zs (t := tI) (args := []) (xs := ([] : List Int)) aA (BltL.nil) u24 j3 q q q q q q (fun cL cM a7 => ?_)
 refine qM q q q ?_
 obtain ⟨cN, a8, h⟩ := D h
 refine zw a7 (hp1.c.c) a8 u24 j3 q q q q q q (fun af cO a9 => ?_)
 refine qA q q q <| B <| C <| rR <| qA q q q <| B <| g ?_
 obtain ⟨ak, ba, h⟩ := D h
 have bb := a9.p1
 refine fun bc aB => zp (I := fun s a w2 => match s with | (ap, aC) => (Fr a 111 [(0, vp0), (5, pB b1), (8, af), (9, iV ap)] ∧ Holds M0 w w2 [.bx b1 101 [A2_0, A2_1], .sl 3 tI af aC] G)) (O := fun o e a w2 => match o with | .inl q0 => e = .exit 0 ∧ (Fr a 111 [(8, af)] ∧ Holds M0 w w2 [.sl 3 tI af q0] G) | .inr (q0, q1, q2) => e = .ret ∧ ∃ am, Fr a 111 [(6, am), (7, .bool q1)] ∧ Holds M0 w w2 [.sl 3 tI am q0] G) ba ?_ ?_ ?_
 ·exact ⟨aB.sub ⟨q, q, q, q, trivial⟩, bb⟩
 ·clear aB
  intro s cP a cQ aa bd
  obtain ⟨ap, aC⟩ := s
  obtain ⟨ha, ai⟩ := bd
  refine S ?_ ha
  clear ha
  refine C <| rR <| qM q q q <| qM q q q <| za ai.ctx (t := ty10) (hp0.c.c) u23 q q q <| A q (qt_lss q q) q q <| B ?_
  refine Y q (fun av => ?_) (fun av => ?_)
  ·have aa := if_t av aa
   refine y <| C <| g <| C <| C <| zk <| qF uf101 fi101_0 nz24 q q q ?_
   have be := R ai.p0
   refine l u24 q be q q q q <| qM q q q ?_
   obtain ⟨bf, aD, aa⟩ := D aa
   refine b ai.ctx (hp2_0.c.c) aD u24 i3 q q q q (fun cR cS cT bg => ?_)
   obtain ⟨cU, bh, cV⟩ := ai.at (hp2_0.c.c) aD bg
   refine zt (k := .i64) u3 q bh q q q ?_
   obtain ⟨bi, bj, aa⟩ := D aa
   refine QC q q c52 (fun w' hb => w_spec_l1In w' _ bf 0 9999999 bi bj (ai.grow hb).ctx) (by rfl) <| A q (qt_not q) q q <| QL_nil fun a ha cW bk => ?_
   have aE := ai.grow bk
   refine X (S ?_ ha)
   refine Y q (fun aw => ?_) (fun aw => ?_)
   ·have aa := if_t aw aa
    refine C <| Z ?_
    refine zs (t := tI) (args := []) (xs := ([] : List Int)) aE (BltL.nil) u24 j3 q q q q q q (fun bl cX bm => ?_)
    refine qA q q q <| qA q q q <| B <| W fun a ha => ?_
    obtain rfl := L aa
    have bn := bm.q1.q1
    exact m (zj (m (⟨ret_ne, q, bl, ha.sub ⟨q, q, trivial⟩, bn⟩)))
   have aa := if_f aw aa
   refine y <| C <| rR <| qA q q q <| B <| g ?_
   obtain ⟨al, bo, aa⟩ := D aa
   have bp := aE.p1.p1
   refine fun bq aF => zp (I := fun s a w2 => match s with | (aG, aq) => (Fr a 111 [(0, vp0), (5, pB b1), (8, af), (9, iV ap), (10, iV aG)] ∧ Holds M0 w w2 [.bx b1 101 [A2_0, A2_1], .sl 3 tI af aq] G)) (O := fun o e a w2 => match o with | .inl q0 => e = .exit 2 ∧ (Fr a 111 [(0, vp0), (5, pB b1), (8, af), (9, iV ap)] ∧ Holds M0 w w2 [.bx b1 101 [A2_0, A2_1], .sl 3 tI af q0] G) | .inr (q0, q1, q2) => e = .ret ∧ ∃ am, Fr a 111 [(6, am), (7, .bool q1)] ∧ Holds M0 w w2 [.sl 3 tI am q0] G) bo ?_ ?_ ?_
   ·exact ⟨aF.sub ⟨q, q, q, q, q, trivial⟩, bp⟩
   ·clear aF
    intro s cY a aH ab br
    obtain ⟨aG, aq⟩ := s
    obtain ⟨ha, aI⟩ := br
    refine S ?_ ha
    clear ha
    refine C <| rR <| qM q q q <| qM q q q <| qM q q q ?_
    obtain ⟨aJ, aK, ab⟩ := D ab
    refine b aI.ctx (hp0.c.c) aK u23 i55 q q q q (fun cZ c0 c1 bs => ?_)
    refine qF uf55 fi55_1 nz53 q q q ?_
    obtain ⟨c2, bt, bu⟩ := aI.at (hp0.c.c) aK bs
    obtain ⟨c3, bv, bw⟩ := AtP.snd bt
    obtain ⟨c4, bz, bA⟩ := AtP.fst bv
    refine XL_load (t := ty4) u53 q q bz q q q (fun aL bB => ?_)
    have ar : Holds _ w aH [.ro ty2 aL aJ.2.1, .bx b1 101 [A2_0, A2_1], .sl 3 tI af aq] G := bu _ _ _ _ bB (fun k h => (fun k h => (fun _ h => h) k (bw k h)) k (bA k h))
    refine za ar.ctx (t := ty2) hR0 u53 q q q <| A q (qt_lss q q) q q <| B ?_
    refine Y q (fun ax => ?_) (fun ax => ?_)
    ·have ab := if_t ax ab
     refine y <| C <| g <| rR <| qM q q q <| qM q q q ?_
     obtain ⟨bC, aM, ab⟩ := D ab
     refine b ar.ctx (hp0.c.c.c) aM u23 i55 q q q q (fun c5 da db bD => ?_)
     refine qF uf55 fi55_1 nz53 q q q ?_
     obtain ⟨dc, bE, bF⟩ := ar.at (hp0.c.c.c) aM bD
     obtain ⟨dd, bG, bH⟩ := AtP.snd bE
     obtain ⟨de, bI, bJ⟩ := AtP.fst bG
     refine XL_load (t := ty4) u53 q q bI q q q (fun bK bL => ?_)
     have ay : Holds _ w aH [.ro ty2 bK bC.2.1, .ro ty2 aL aJ.2.1, .bx b1 101 [A2_0, A2_1], .sl 3 tI af aq] G := bF _ _ _ _ bL (fun k h => (fun k h => (fun _ h => h) k (bH k h)) k (bJ k h))
     refine qM q q q ?_
     obtain ⟨an, aN, ab⟩ := D ab
     refine b ay.ctx hR0 aN u53 i57 q q q q (fun df dg dh bM => ?_)
     obtain ⟨di, bN, dj⟩ := ay.atN hR0 aN bM
     refine XL_load_agg (t := ty2) us57 uo57 i57 bN q q q (fun dk bO => ?_)
     obtain ⟨dl, dm, dn, dq, rfl, dr, bP, bQ⟩ := bO
     obtain ⟨rfl, _⟩ := bP
     obtain ⟨rfl, _⟩ := bQ
     change XL _ _ _ _ _ ((64, .agg #[iV an.1, iV an.2]) :: _) _
     refine zq (cs := [iV 0, iV 0]) ay z57 q q q (fun ds dt bR => ?_)
     refine zl (cs' := [iV an.1, iV an.2]) bR q il57 q q q q q (fun du bS => ?_)
     refine B <| C ?_
     refine WP_tail 17 (by kernel_rfl) (by kernel_rfl) (fun dv bT => ?_)
     have ag := bS.grow bT
     refine qM q q q <| qF uf57 fi57_0 nz3 q q q ?_
     have bU := R ag.p0
     refine l u3 q bU q q q q <| qM q q q <| qF uf57 fi57_0 nz3 q q q ?_
     have bV := R ag.p0
     refine l u3 q bV q q q q ?_
     obtain ⟨bW, aO, ab⟩ := D ab
     refine b ag.ctx hS4 aO u24 i3 q q q q (fun dw dx dy bX => ?_)
     obtain ⟨dz, bY, dA⟩ := ag.at hS4 aO bX
     refine zt (k := .i64) u3 q bY q q q <| qF uf101 fi101_0 nz24 q q q ?_
     have bZ := R ag.p3
     refine l u24 q bZ q q q q <| qM q q q ?_
     obtain ⟨b0, aP, ab⟩ := D ab
     refine b ag.ctx (hp2_0.c.c.c.c.c) aP u24 i3 q q q q (fun dB dC dD b4 => ?_)
     obtain ⟨dE, b5, dF⟩ := ag.at (hp2_0.c.c.c.c.c) aP b4
     refine zt (k := .i64) u3 q b5 q q q <| qF uf57 fi57_1 nz3 q q q ?_
     have b6 := R ag.p0
     refine l u3 q b6 q q q q <| A q (qt_mul q q) q q <| A q (qt_sub q q) q q <| SL_nil ?_
     obtain ⟨dG, aQ, ab⟩ := D ab
     refine b ag.ctx hS4 aQ u24 i3 q q q q (fun dH dI dJ b8 => ?_)
     have b9 := ag.p4
     refine WL_storeH (fo := 0) (cs' := [iV (IntKind.wrap .i64 (bW - (IntKind.wrap .i64 (b0 * an.2))))]) b9 aQ b8 (Upd.whole (Blt.int)) q il3 q q q q (fun dK ao => ?_)
     refine rN <| qM q q q <| qF uf57 fi57_0 nz3 q q q ?_
     have ca := R ao.p1
     refine l u3 q ca q q q q ?_
     obtain ⟨dL, aR, ab⟩ := D ab
     refine b ao.ctx hS0 aR u24 i3 q q q q (fun dM dN dO cb => ?_)
     obtain ⟨dP, cc, dQ⟩ := ao.at hS0 aR cb
     refine zt (k := .i64) u3 q cc q q q <| A q (qt_lss q q) q q <| B ?_
     refine Y q (fun az => ?_) (fun az => ?_)
     ·have ab := if_t az ab
      refine C <| Z ?_
      refine zs (t := tI) (args := []) (xs := ([] : List Int)) ao (BltL.nil) u24 j3 q q q q q q (fun cd dR ce => ?_)
      refine qA q q q <| qA q q q <| B <| W fun a ha => ?_
      obtain rfl := L ab
      have cf := ce.q1.q1.q1.q1.q1
      exact zj (m (⟨ret_ne, q, cd, ha.sub ⟨q, q, trivial⟩, cf⟩))
     have ab := if_f az ab
     refine WP_skip fun a ha => ?_
     refine zi (X (S ?_ ha))
     refine Z <| qM q q q <| A q (qt_add q q) q q <| qA q q q <| WL_nil fun a ha => ?_
     obtain rfl := L ab
     have cg := ao.q1.q1.q1.p1
     exact ⟨q, ha.sub ⟨q, q, q, q, q, trivial⟩, cg⟩
    have ab := if_f ax ab
    refine WP_exit fun a ha => ?_
    obtain rfl := L ab
    have ch := ar.q0.p1.p1
    exact zo (⟨exit_ne, q, ha.sub ⟨q, q, q, q, trivial⟩, ch⟩)
   intro e bq dS aS
   rcases al with al | al
   ·skip
    obtain ⟨dT, rfl⟩ : ∃ z, z = al := ⟨al, q⟩
    obtain ⟨rfl, ci⟩ := aS
    obtain ⟨ha, cj⟩ := ci
    refine zn (X (S ?_ ha))
    refine WP_tail 19 (by kernel_rfl) (by kernel_rfl) (fun dU ck => ?_)
    have ah := cj.grow ck
    refine qM q q q <| qM q q q <| qM q q q <| qM q q q ?_
    obtain ⟨cl, aT, aa⟩ := D aa
    refine b ah.ctx hS1 aT u24 i3 q q q q (fun dV dW dX cm => ?_)
    obtain ⟨dY, cn, dZ⟩ := ah.at hS1 aT cm
    refine zt (k := .i64) u3 q cn q q q <| qF uf101 fi101_0 nz24 q q q ?_
    have co := R ah.p0
    refine l u24 q co q q q q <| qM q q q ?_
    obtain ⟨cp, aU, aa⟩ := D aa
    refine b ah.ctx (hp2_0.c.c) aU u24 i3 q q q q (fun d0 d1 d2 cq => ?_)
    obtain ⟨d3, cr, d4⟩ := ah.at (hp2_0.c.c) aU cq
    refine zt (k := .i64) u3 q cr q q q <| qM q q q <| qM q q q ?_
    obtain ⟨aV, aW, aa⟩ := D aa
    refine b ah.ctx (hp0.c.c) aW u23 i55 q q q q (fun d5 d6 d7 ct => ?_)
    refine qF uf55 fi55_0 nz3 q q q ?_
    obtain ⟨d8, cu, d9⟩ := ah.at (hp0.c.c) aW ct
    obtain ⟨ea, cv, eb⟩ := AtP.fst cu
    refine zt (k := .i64) u3 q cv q q q <| A q (qt_max q q) q q <| A q (qt_mul q q) q q <| A q (qt_add q q) q q <| SL_nil ?_
    obtain ⟨ec, aX, aa⟩ := D aa
    refine b ah.ctx hS1 aX u24 i3 q q q q (fun ed ee ef cw => ?_)
    have cx := ah.p1
    refine WL_storeH (fo := 0) (cs' := [iV (IntKind.wrap .i64 (cl + (IntKind.wrap .i64 (cp * (if 1 > aV.1 then 1 else aV.1)))))]) cx aX cw (Upd.whole (Blt.int)) q il3 q q q q (fun eg cy => ?_)
    refine WL_nil fun a ha => ?_
    refine zi (X (S ?_ ha))
    refine Z <| qM q q q <| A q (qt_add q q) q q <| qA q q q <| WL_nil fun a ha => ?_
    obtain rfl := L aa
    have cz := cy.p1
    exact ⟨q, ha.sub ⟨q, q, q, q, trivial⟩, cz⟩
   skip
   obtain ⟨eh, ei, ej⟩ := al
   obtain ⟨rfl, cA⟩ := aS
   obtain ⟨cB, ha, cC⟩ := cA
   obtain rfl := L aa
   exact zj (m (zj (m (⟨ret_ne, q, cB, ha.sub ⟨q, q, trivial⟩, cC⟩))))
  have aa := if_f av aa
  refine WP_exit fun a ha => ?_
  obtain rfl := L aa
  have cD := ai.q0
  exact zo (⟨exit_ne, q, ha.sub ⟨q, trivial⟩, cD⟩)
 intro e bc ek aY
 rcases ak with ak | ak
 ·skip
  obtain ⟨el, rfl⟩ : ∃ z, z = ak := ⟨ak, q⟩
  obtain ⟨rfl, cE⟩ := aY
  obtain ⟨ha, cF⟩ := cE
  refine zn (X (S ?_ ha))
  refine rR <| qM q q q <| qA q q q <| qA q q q <| B <| W fun a ha => ?_
  obtain rfl := L h
  exact ret2 q ha q q ⟨af, q, cF⟩
 skip
 obtain ⟨em, en, eo⟩ := ak
 obtain ⟨rfl, cG⟩ := aY
 obtain ⟨cH, ha, cI⟩ := cG
 obtain rfl := L h
 exact zj (m (ret2 q ha q q ⟨cH, q, cI⟩))
theorem w_spec_l7Make (w : World) (G : List Res) (A0 : Value) (B0 : LI) (A1 : Value) (B1 : List Int) (A2 : Value) (B2 : List Int) (B3 : Int) (A4 : Value) (B4 : LT) (p1 : Int) (p2 : Int) (r : (LI × (List Int) × (List Int) × Int × LT) × Bool) (h : spec_l7MakeS B0 B1 B2 B3 B4 p1 p2 = some r) (H : Ctx w ([.sl 55 ty10 A0 B0, .sl 3 tI A1 B1, .sl 3 tI A2 B2, .sl 47 ty12 A4 B4] ++ G)) : Calls Tryz.prog 35 #[.agg #[A0, A1, A2, iV B3, A4], iV p1, iV p2] w fun e w' => ∃ (v1 : Value) (v2 : Value) (v3 : Value) (v4 : Value), e = .returned (.tuple #[.agg #[v1, v2, v3, iV r.1.2.2.2.1, v4], .bool r.2]) ∧ Holds (([.sl 55 ty10 A0 B0, .sl 3 tI A1 B1, .sl 3 tI A2 B2, .sl 47 ty12 A4 B4] : List Res).flatMap Res.own) w w' [.sl 55 ty10 v1 r.1.1, .sl 3 tI v2 r.1.2.1, .sl 3 tI v3 r.1.2.2.1, .sl 47 ty12 v4 r.1.2.2.2.2] G := by
 have H : Holds (([.sl 55 ty10 A0 B0, .sl 3 tI A1 B1, .sl 3 tI A2 B2, .sl 47 ty12 A4 B4] : List Res).flatMap Res.own) w w [.sl 55 ty10 A0 B0, .sl 3 tI A1 B1, .sl 3 tI A2 B2, .sl 47 ty12 A4 B4] G := zb H
 refine zg (args := [.agg #[A0, A1, A2, iV B3, A4], iV p1, iV p2]) (n := 64) Tryz.func35 q q q ?_
 unfold spec_l7MakeS at h
 refine C <| Z ?_
 refine WL_box (cs := [A0, A1, A2, iV B3, A4]) H q q q q (fun b1 w2 H3 => ?_)
 refine zq (cs := [nS, nS, nS, iV 0, nS]) H3 z27 q q q (fun b5 w6 H7 => ?_)
 refine qA q q q <| B <| C <| C <| zk <| qM q q q <| qF uf27 fi27_0 nz23 q q q ?_
 have aE := R H7.p1
 refine l u23 q aE q q q q <| za H7.ctx (t := ty10) hS2 u23 q q q <| A q (qt_sub q q) q q ?_
 obtain ⟨ar, aF, h⟩ := D h
 refine QC q q c52 (fun w' hb => w_spec_l1In w' _ p1 0 (IntKind.wrap .i64 ((List.length B0 : Int) - 1)) ar aF (H7.grow hb).ctx) (by rfl) <| A q (qt_not q) q q <| qM q q q ?_
 obtain ⟨au, af, h⟩ := D h
 refine zh 8 26 (.bool au) ?_ (fun md hmd hk => ?_)
 rotate_left
 ·obtain ⟨K, rfl⟩ := zr hmd
  rcases btf (!ar) with aa | aa
  ·skip
   refine qS q aa q q <| qS q aa q q <| qS q aa q q <| qS q aa q q <| qS q aa q q <| qS q aa q q <| qS q aa q q <| A q (ze q aa q) q q ?_
   exact hk _ (p (vb (if_t aa af)) (cfn 7 q (u)))
  skip
  have af := if_f aa af
  refine qF uf27 fi27_0 nz23 (J q aa) q q ?_
  have aG := R H7.p1
  refine l u23 q aG q (J q aa) q q <| qM (J q aa) q q ?_
  obtain ⟨a9, av, af⟩ := D af
  refine b H7.ctx hS2 av u23 i55 (J q aa) q q q (fun ba bb bc aH => ?_)
  refine qF uf55 fi55_0 nz3 (J q aa) q q ?_
  obtain ⟨bd, aI, be⟩ := H7.at hS2 av aH
  obtain ⟨bf, aJ, bg⟩ := AtP.fst aI
  refine zt (k := .i64) u3 q aJ (J q aa) q q <| A (J q aa) (qt_eql q q) q q <| A q (zf q aa q) q q ?_
  exact hk _ (p (vb af) (cfn 7 q (u)))
 refine qM q q q ?_
 obtain ⟨aK, ag, h⟩ := D h
 refine zh 4 31 (.bool aK) ?_ (fun md hmd hk => ?_)
 rotate_left
 ·obtain ⟨K, rfl⟩ := zr hmd
  rcases btf au with ad | ad
  ·skip
   refine qS q ad q q <| qS q ad q q <| qS q ad q q <| A q (ze q ad q) q q ?_
   exact hk _ (p (vb (if_t ad ag)) (cfn 3 q (u)))
  skip
  have ag := if_f ad ag
  refine qM (J q ad) q q ?_
  obtain ⟨aL, aM, ag⟩ := D ag
  refine QC (J q ad) q c52 (fun w' hb => w_spec_l1In w' _ p2 1 50 aL aM (H7.grow hb).ctx) (by rfl) <| A (J q ad) (qt_not q) q q <| A q (zf q ad q) q q ?_
  exact hk _ (p (vb ag) (cfn 3 q (u)))
 refine QL_nil fun a ha bh aN => ?_
 have ae := H7.grow aN
 refine X (S ?_ ha)
 refine Y q (fun an => ?_) (fun an => ?_)
 ·have h := if_t an h
  refine C <| Z ?_
  have aO := R ae.p1
  refine zm (cs := [A0, A1, A2, iV B3, A4]) us27 uo27 il27 aO q q q ?_
  change XL _ _ _ _ _ ((32, .agg #[A0, A1, A2, iV B3, A4]) :: _) _
  refine zl (cs' := [A0, A1, A2, iV B3, A4]) ae q il27 q (T (ae.ctx.sliceOne hS2) (T (ae.ctx.sliceOne hS3) (T (ae.ctx.sliceOne hS4) (T q (T (ae.ctx.sliceOne hS5) q))))) q q q (fun bi aw => ?_)
  refine qA q q q <| B <| W fun a ha => ?_
  obtain rfl := L h
  have aP := R aw.p0
  have aQ := aw.q0.q0.p3.p3.p3.p3
  exact m (retct q ha q q (run_loadVar_bx (cs := [A0, A1, A2, iV B3, A4]) us27 uo27 il27 aP) ⟨A0, A1, A2, A4, q, aQ⟩)
 have h := if_f an h
 refine y <| rR <| qF uf27 fi27_0 nz23 q q q ?_
 have aR := R ae.p1
 refine l u23 q aR q q q q <| za ae.ctx (t := ty10) hS2 u23 q q q ?_
 obtain ⟨aS, aT, h⟩ := D h
 refine WL_makeH ae aT u24 j3 q (fun _ => ⟨q, q⟩) q q q q q (fun ao bj ax => ?_)
 refine qA q q q <| rN <| qM q q q <| qM q q q <| qM q q q ?_
 obtain ⟨bk, ay, h⟩ := D h
 refine b ax.ctx hS0 ay u24 i3 q q q q (fun bl bm bn aU => ?_)
 refine WL_storeH (fo := 0) (cs' := [iV p2]) ax ay aU (Upd.whole (Blt.int)) q il3 q q q q (fun aV ai => ?_)
 refine rN <| qF uf27 fi27_0 nz23 q q q ?_
 have aW := R ai.p2
 refine l u23 q aW q q q q <| qF uf27 fi27_2 nz24 q q q ?_
 have aX := R ai.p2
 refine l u24 q aX q q q q <| qM q q q <| A q (qt_build (args := [(0, .tmp 46)]) (css := [#[ao]]) (cells := #[ao, nS]) q ⟨(ai.ctx.sliceCells hS0), trivial⟩ (by kernel_rfl)) q q ?_
 obtain ⟨az, aY, h⟩ := D h
 refine zd q q c72 (w_spec_MakeRun aV _ A0 B0 hS3 A2 B2 hS5 ao (List.set aS (Int.toNat p1) p2) hS0 (nS) ([] : List Int) (HasRo.has HasRo.nil) az aY ai.ctx) (by rfl) ?_
 rintro _ bo ⟨aj, rfl, aZ⟩; refine ⟨_, q, ?_⟩
 have ak := ai.cN1 [] aZ
 refine qM q q q <| A q (zv q q) q q <| A q (zv q q) q q <| qA q q q <| qA q q q <| B <| C <| rR <| qM q q q ?_
 refine A q (qt_not q) q q <| qM q q q ?_
 obtain ⟨a0, ah, h⟩ := D h
 refine zh 6 59 (.bool a0) ?_ (fun md hmd hk => ?_)
 rotate_left
 ·obtain ⟨Q, rfl⟩ := Md.seq_of hmd
  rcases btf (!az.2) with ab | ab
  ·skip
   refine qS q ab q q <| qS q ab q q <| qS q ab q q <| qS q ab q q <| qS q ab q q <| A q (ze q ab q) q q ?_
   exact hk _ (p (vb (if_t ab ah)) (cfn 5 q (u)))
  skip
  have ah := if_f ab ah
  refine qM (J q ab) q q <| qM (J q ab) q q ?_
  obtain ⟨bp, aA, ah⟩ := D ah
  refine b ak.ctx hS0 aA u24 i3 (J q ab) q q q (fun bq br bs a1 => ?_)
  obtain ⟨bt, a2, bu⟩ := ak.at hS0 aA a1
  refine zt (k := .i64) u3 q a2 (J q ab) q q <| A (J q ab) (qt_gtr q q) q q <| A q (zf q ab q) q q ?_
  exact hk _ (p (vb ah) (cfn 5 q (u)))
 refine B ?_
 refine Y q (fun ap => ?_) (fun ap => ?_)
 ·have h := if_t ap h
  refine C <| Z ?_
  have a3 := R ak.p3
  refine zm (cs := [A0, A1, A2, iV B3, A4]) us27 uo27 il27 a3 q q q ?_
  change XL _ _ _ _ _ ((60, .agg #[A0, A1, A2, iV B3, A4]) :: _) _
  have al := ak.p2
  refine zl (cs' := [A0, A1, A2, iV B3, A4]) al q il27 q (T (al.ctx.sliceOne hS4) (T (al.ctx.sliceOne hS5) (T (al.ctx.sliceOne hS6) (T q (T (al.ctx.sliceOne hS7) q))))) q q q (fun bv aB => ?_)
  refine qA q q q <| B <| W fun a ha => ?_
  obtain rfl := L h
  have a4 := R aB.p0
  have a5 := aB.q0.q0.q0.q0.p3.p3.p3.p3
  exact m (retct q ha q q (run_loadVar_bx (cs := [A0, A1, A2, iV B3, A4]) us27 uo27 il27 a4) ⟨A0, A1, A2, A4, q, a5⟩)
 have h := if_f ap h
 refine y <| rR <| qM q q q <| qF uf27 fi27_2 nz24 q q q ?_
 have aq := ak.p3
 refine WL_store_bx aq q il24 (aq.ctx.sliceCells hS1) (aq.ctx.sliceOne hS1) q q q (fun bw aC => ?_)
 refine B <| C <| Z ?_
 have a6 := R aC.p0
 refine zm (cs := [A0, A1, aj, iV B3, A4]) us27 uo27 il27 a6 q q q ?_
 change XL _ _ _ _ _ ((63, .agg #[A0, A1, aj, iV B3, A4]) :: _) _
 have am := aC.p3
 refine zl (cs' := [A0, A1, aj, iV B3, A4]) am q il27 q (T (am.ctx.sliceOne hS4) (T (am.ctx.sliceOne hS5) (T (am.ctx.sliceOne hS2) (T q (T (am.ctx.sliceOne hS7) q))))) q q q (fun bz aD => ?_)
 refine qA q q q <| B <| W fun a ha => ?_
 obtain rfl := L h
 have a7 := R aD.p0
 have a8 := aD.q0.q0.q1.q3.p3.p1.p3.p3
 exact retct q ha q q (run_loadVar_bx (cs := [A0, A1, aj, iV B3, A4]) us27 uo27 il27 a7) ⟨A0, A1, aj, A4, q, a8⟩
end Go.Proofs.YtpabogkcmbkffaaGreatDoor
