/- The walks: each Go function computes its shallow function. Printed by a program. -/
import Derived.Test.YtpabogkcmbkffaaGreatDoorWS7B4
set_option linter.unusedVariables false
set_option maxRecDepth 10000
namespace Go.Proofs.YtpabogkcmbkffaaGreatDoor
open Go Go.RowKit
theorem w_spec_l7Buy (w : World) (G : List Res) (A0 : Value) (B0 : LI) (A1 : Value) (B1 : List Int) (A2 : Value) (B2 : List Int) (B3 : Int) (A4 : Value) (B4 : LT) (p1 : Int) (p2 : Int) (r : (LI × (List Int) × (List Int) × Int × LT) × Bool) (h : spec_l7BuyS B0 B1 B2 B3 B4 p1 p2 = some r) (H : Ctx w ([.sl 55 ty12 A0 B0, .sl 3 tI A1 B1, .sl 3 tI A2 B2, .sl 47 ty14 A4 B4] ++ G)) : Calls Tryz.prog 34 #[.agg #[A0, A1, A2, iV B3, A4], iV p1, iV p2] w fun e w' => ∃ (v1 : Value) (v2 : Value) (v3 : Value) (v4 : Value), e = .returned (.tuple #[.agg #[v1, v2, v3, iV r.1.2.2.2.1, v4], .bool r.2]) ∧ Holds (([.sl 55 ty12 A0 B0, .sl 3 tI A1 B1, .sl 3 tI A2 B2, .sl 47 ty14 A4 B4] : List Res).flatMap Res.own) w w' [.sl 55 ty12 v1 r.1.1, .sl 3 tI v2 r.1.2.1, .sl 3 tI v3 r.1.2.2.1, .sl 47 ty14 v4 r.1.2.2.2.2] G := by
 have H : Holds (([.sl 55 ty12 A0 B0, .sl 3 tI A1 B1, .sl 3 tI A2 B2, .sl 47 ty14 A4 B4] : List Res).flatMap Res.own) w w [.sl 55 ty12 A0 B0, .sl 3 tI A1 B1, .sl 3 tI A2 B2, .sl 47 ty14 A4 B4] G := zb H
 refine zg (args := [.agg #[A0, A1, A2, iV B3, A4], iV p1, iV p2]) (n := 75) Tryz.func34 q q q ?_
 unfold spec_l7BuyS at h
 refine C <| Z ?_
 refine WL_box (cs := [A0, A1, A2, iV B3, A4]) H q q q q (fun b1 w2 H3 => ?_)
 refine zq (cs := [nS, nS, nS, iV 0, nS]) H3 z27 q q q (fun b5 w6 H7 => ?_)
 refine qA q q q <| B <| C <| C <| WP_quiet (by kernel_rfl) (by kernel_rfl) <| qM q q q <| qF uf27 fi27_0 nz23 q q q ?_
 have aE := R H7.p1
 refine l u23 q aE q q q q <| za H7.ctx (t := ty12) hS2 u23 q q q <| A q (qt_sub q q) q q ?_
 obtain ⟨ap, aF, h⟩ := D h
 refine QC q q c52 (fun w' hb => w_spec_l1In w' _ p1 0 (IntKind.wrap .i64 ((List.length B0 : Int) - 1)) ap aF (H7.grow hb).ctx) (by rfl) <| A q (qt_not q) q q <| qM q q q ?_
 obtain ⟨aq, ag, h⟩ := D h
 refine zh 8 23 (.bool aq) ?_ (fun md hmd hk => ?_)
 rotate_left
 ·obtain ⟨K, rfl⟩ := zr hmd
  rcases btf (!ap) with ad | ad
  ·skip
   refine qS q ad q q <| qS q ad q q <| qS q ad q q <| qS q ad q q <| qS q ad q q <| qS q ad q q <| qS q ad q q <| A q (ze q ad q) q q ?_
   exact hk _ (p (vb (if_t ad ag)) (cfn 7 q (u)))
  skip
  have ag := if_f ad ag
  refine qF uf27 fi27_0 nz23 (J q ad) q q ?_
  have aG := R H7.p1
  refine l u23 q aG q (J q ad) q q <| qM (J q ad) q q ?_
  obtain ⟨bg, ar, ag⟩ := D ag
  refine b H7.ctx hS2 ar u23 i55 (J q ad) q q q (fun bh bi bj aH => ?_)
  refine qF uf55 fi55_0 nz3 (J q ad) q q ?_
  obtain ⟨bk, aI, bl⟩ := H7.at hS2 ar aH
  obtain ⟨bm, aJ, bn⟩ := AtP.fst aI
  refine zt (k := .i64) u3 q aJ (J q ad) q q <| A (J q ad) (qt_gtr q q) q q <| A q (zf q ad q) q q ?_
  exact hk _ (p (vb ag) (cfn 7 q (u)))
 refine qM q q q ?_
 obtain ⟨au, ah, h⟩ := D h
 refine zh 4 28 (.bool au) ?_ (fun md hmd hk => ?_)
 rotate_left
 ·obtain ⟨K, rfl⟩ := zr hmd
  rcases btf aq with ae | ae
  ·skip
   refine qS q ae q q <| qS q ae q q <| qS q ae q q <| A q (ze q ae q) q q ?_
   exact hk _ (p (vb (if_t ae ah)) (cfn 3 q (u)))
  skip
  have ah := if_f ae ah
  refine qM (J q ae) q q ?_
  obtain ⟨aK, aL, ah⟩ := D ah
  refine QC (J q ae) q c52 (fun w' hb => w_spec_l1In w' _ p2 1 50 aK aL (H7.grow hb).ctx) (by rfl) <| A (J q ae) (qt_not q) q q <| A q (zf q ae q) q q ?_
  exact hk _ (p (vb ah) (cfn 3 q (u)))
 refine qM q q q ?_
 obtain ⟨av, ai, h⟩ := D h
 refine zh 9 38 (.bool av) ?_ (fun md hmd hk => ?_)
 rotate_left
 ·obtain ⟨K, rfl⟩ := zr hmd
  rcases btf au with ab | ab
  ·skip
   refine qS q ab q q <| qS q ab q q <| qS q ab q q <| qS q ab q q <| qS q ab q q <| qS q ab q q <| qS q ab q q <| qS q ab q q <| A q (ze q ab q) q q ?_
   exact hk _ (p (vb (if_t ab ai)) (cfn 8 q (u)))
  skip
  have ai := if_f ab ai
  refine qF uf27 fi27_2 nz24 (J q ab) q q ?_
  have aM := R H7.p1
  refine l u24 q aM q (J q ab) q q <| qM (J q ab) q q ?_
  obtain ⟨bo, aw, ai⟩ := D ai
  refine b H7.ctx hS4 aw u24 i3 (J q ab) q q q (fun bp bq br aN => ?_)
  obtain ⟨bs, aO, bt⟩ := H7.at hS4 aw aN
  refine zt (k := .i64) u3 q aO (J q ab) q q <| qM (J q ab) q q <| A (J q ab) (qt_add q q) q q <| A (J q ab) (qt_gtr q q) q q <| A q (zf q ab q) q q ?_
  exact hk _ (p (vb ai) (cfn 8 q (u)))
 refine qM q q q ?_
 obtain ⟨aP, aj, h⟩ := D h
 refine zh 11 50 (.bool aP) ?_ (fun md hmd hk => ?_)
 rotate_left
 ·obtain ⟨K, rfl⟩ := zr hmd
  rcases btf av with aa | aa
  ·skip
   refine qS q aa q q <| qS q aa q q <| qS q aa q q <| qS q aa q q <| qS q aa q q <| qS q aa q q <| qS q aa q q <| qS q aa q q <| qS q aa q q <| qS q aa q q ?_
   refine A q (ze q aa q) q q ?_
   exact hk _ (p (vb (if_t aa aj)) (cfn 10 q (u)))
  skip
  have aj := if_f aa aj
  refine qM (J q aa) q q <| qF uf27 fi27_1 nz24 (J q aa) q q ?_
  have aQ := R H7.p1
  refine l u24 q aQ q (J q aa) q q <| qM (J q aa) q q ?_
  obtain ⟨bu, ax, aj⟩ := D aj
  refine b H7.ctx hS3 ax u24 i3 (J q aa) q q q (fun bv bw bz aR => ?_)
  obtain ⟨bA, aS, bB⟩ := H7.at hS3 ax aR
  refine zt (k := .i64) u3 q aS (J q aa) q q <| A (J q aa) (qt_mul q q) q q <| qF uf27 fi27_3 nz3 (J q aa) q q ?_
  have aT := R H7.p1
  refine l u3 q aT q (J q aa) q q <| A (J q aa) (qt_gtr q q) q q <| A q (zf q aa q) q q ?_
  exact hk _ (p (vb aj) (cfn 10 q (u)))
 refine QL_nil fun a ha bC aU => ?_
 have af := H7.grow aU
 refine X (S ?_ ha)
 refine Y q (fun ao => ?_) (fun ao => ?_)
 ·have h := if_t ao h
  refine C <| Z ?_
  have aV := R af.p1
  refine zm (cs := [A0, A1, A2, iV B3, A4]) us27 uo27 il27 aV q q q ?_
  change XL _ _ _ _ _ ((51, .agg #[A0, A1, A2, iV B3, A4]) :: _) _
  refine zl (cs' := [A0, A1, A2, iV B3, A4]) af q il27 q (T (af.ctx.sliceOne hS2) (T (af.ctx.sliceOne hS3) (T (af.ctx.sliceOne hS4) (T q (T (af.ctx.sliceOne hS5) q))))) q q q (fun bD ay => ?_)
  refine qA q q q <| B <| W fun a ha => ?_
  obtain rfl := L h
  have aW := R ay.p0
  have aX := ay.q0.q0.p3.p3.p3.p3
  exact m (retct q ha q q (run_loadVar_bx (cs := [A0, A1, A2, iV B3, A4]) us27 uo27 il27 aW) ⟨A0, A1, A2, A4, q, aX⟩)
 have h := if_f ao h
 refine y <| C ?_
 refine WP_tail 10 (by kernel_rfl) (by kernel_rfl) (fun bE aY => ?_)
 have ak := af.grow aY
 refine qF uf27 fi27_2 nz24 q q q ?_
 have aZ := R ak.p1
 refine l u24 q aZ q q q q <| qM q q q <| qF uf27 fi27_2 nz24 q q q ?_
 have a0 := R ak.p1
 refine l u24 q a0 q q q q <| qM q q q ?_
 obtain ⟨a1, az, h⟩ := D h
 refine b ak.ctx hS4 az u24 i3 q q q q (fun bF bG bH a2 => ?_)
 obtain ⟨bI, a3, bJ⟩ := ak.at hS4 az a2
 refine zt (k := .i64) u3 q a3 q q q <| qM q q q <| A q (qt_add q q) q q <| SL_nil ?_
 obtain ⟨bK, aA, h⟩ := D h
 refine b ak.ctx hS4 aA u24 i3 q q q q (fun bL bM bN a4 => ?_)
 have a5 := ak.p4
 refine WL_storeH (fo := 0) (cs' := [iV (IntKind.wrap .i64 (a1 + p2))]) a5 aA a4 (Upd.whole (Blt.int)) q il3 q q q q (fun bO a6 => ?_)
 refine B <| C ?_
 refine WP_tail 9 (by kernel_rfl) (by kernel_rfl) (fun bP a7 => ?_)
 have al := a6.grow a7
 refine qF uf27 fi27_3 nz3 q q q ?_
 have a8 := R al.p2
 refine l u3 q a8 q q q q <| qM q q q <| qF uf27 fi27_1 nz24 q q q ?_
 have a9 := R al.p2
 refine l u24 q a9 q q q q <| qM q q q ?_
 obtain ⟨an, aB, h⟩ := D h
 refine b al.ctx hS4 aB u24 i3 q q q q (fun bQ bR bS ba => ?_)
 obtain ⟨bT, bb, bU⟩ := al.at hS4 aB ba
 refine zt (k := .i64) u3 q bb q q q <| A q (qt_mul q q) q q <| SL_nil <| A q (qt_sub q q) q q <| qF uf27 fi27_3 nz3 q q q ?_
 have bc := al.p2
 refine WL_store_bx bc q il3 q q q q q (fun bV aC => ?_)
 refine B <| C <| Z ?_
 have bd := R aC.p0
 refine zm (cs := [A0, A1, A2, iV (IntKind.wrap .i64 (B3 - (IntKind.wrap .i64 (p2 * an)))), A4]) us27 uo27 il27 bd q q q ?_
 change XL _ _ _ _ _ ((74, .agg #[A0, A1, A2, iV (IntKind.wrap .i64 (B3 - (IntKind.wrap .i64 (p2 * an)))), A4]) :: _) _
 have am := aC.p2
 refine zl (cs' := [A0, A1, A2, iV (IntKind.wrap .i64 (B3 - (IntKind.wrap .i64 (p2 * an)))), A4]) am q il27 q (T (am.ctx.sliceOne hS3) (T (am.ctx.sliceOne hS4) (T (am.ctx.sliceOne hS2) (T q (T (am.ctx.sliceOne hS5) q))))) q q q (fun bW aD => ?_)
 refine qA q q q <| B <| W fun a ha => ?_
 obtain rfl := L h
 have be := R aD.p0
 have bf := aD.q0.q0.p3.p1.p3.p3
 exact retct q ha q q (run_loadVar_bx (cs := [A0, A1, A2, iV (IntKind.wrap .i64 (B3 - (IntKind.wrap .i64 (p2 * an)))), A4]) us27 uo27 il27 be) ⟨A0, A1, A2, A4, q, bf⟩
theorem w_spec_MakeRun (w : World) (G : List Res) (vp0 : Value) (p0 : LI) (hp0 : Has G ty12 vp0 p0) (vp1 : Value) (p1 : List Int) (hp1 : Has G tI vp1 p1) (A2_0 : Value) (p2_0 : List Int) (hp2_0 : Has G tI A2_0 p2_0) (A2_1 : Value) (p2_1 : List Int) (hp2_1 : Has G tI A2_1 p2_1) (r : (List Int) × Bool) (h : spec_MakeRunS p0 p1 p2_0 p2_1 = some r) (H : Ctx w G) : Calls Tryz.prog 72 #[vp0, vp1, .agg #[A2_0, A2_1]] w fun e w' => ∃ (v1 : Value), e = .returned (.tuple #[v1, .bool r.2]) ∧ Holds M0 w w' [.sl 3 tI v1 r.1] G := by
 have H : Holds M0 w w [] G := zb H
 refine zg (args := [vp0, vp1, .agg #[A2_0, A2_1]]) (n := 111) Tryz.func72 q q q ?_
 unfold spec_MakeRunS at h
 refine C <| Z ?_
 refine WL_box (cs := [A2_0, A2_1]) H q q q q (fun b1 w2 H3 => ?_)
 refine qA q q q <| qA q q q <| B <| C <| C <| zk <| qM q q q ?_
 obtain ⟨x5, aZ, h⟩ := D h
 refine QC q q c86 (fun w' hb => w_spec_ItemsValid w' _ vp0 p0 (hp0.c) x5 aZ (H3.grow hb).ctx) (by rfl) <| A q (qt_not q) q q <| qM q q q ?_
 obtain ⟨b7, aj, h⟩ := D h
 refine zh 5 20 (.bool b7) ?_ (fun md hmd hk => ?_)
 rotate_left
 ·obtain ⟨K, rfl⟩ := zr hmd
  rcases btf (!x5) with ae | ae
  ·skip
   refine qS q ae q q <| qS q ae q q <| qS q ae q q <| qS q ae q q <| A q (ze q ae q) q q ?_
   exact hk _ (p (vb (if_t ae aj)) (cfn 4 q (u)))
  skip
  have aj := if_f ae aj
  refine qM (J q ae) q q <| qM (J q ae) q q ?_
  obtain ⟨a0, a1, aj⟩ := D aj
  refine QC (J q ae) q c51 (fun w' hb => w_spec_l1Amounts w' _ vp0 p0 (hp0.c) vp1 p1 (hp1.c) a0 a1 (H3.grow hb).ctx) (by rfl) <| A (J q ae) (qt_not q) q q <| A q (zf q ae q) q q ?_
  exact hk _ (p (vb aj) (cfn 4 q (u)))
 refine qM q q q ?_
 refine zh 7 28 (.bool (b7 || ((List.length p2_0 : Int) != (List.length p0 : Int)))) ?_ (fun md hmd hk => ?_)
 rotate_left
 ·obtain ⟨K, rfl⟩ := zr hmd
  rcases btf b7 with ad | ad
  ·skip
   refine qS q ad q q <| qS q ad q q <| qS q ad q q <| qS q ad q q <| qS q ad q q <| qS q ad q q <| A q (ze q ad q) q q ?_
   exact hk _ (p (by rw [ad]; rfl) (cfn 6 q (u)))
  skip
  refine qF uf101 fi101_0 nz24 (J q ad) q q ?_
  have a2 := R H3.p0
  refine l u24 q a2 q (J q ad) q q <| za H3.ctx (t := tI) (hp2_0.c) u24 (J q ad) q q <| qM (J q ad) q q <| za H3.ctx (t := ty12) (hp0.c) u23 (J q ad) q q <| A (J q ad) (qt_neq q q) q q <| A q (zf q ad q) q q ?_
  exact hk _ (p (by rw [ad]; rfl) (cfn 6 q (u)))
 refine QL_nil fun a ha cJ a3 => ?_
 have aA := H3.grow a3
 refine X (S ?_ ha)
 refine Y q (fun au => ?_) (fun au => ?_)
 ·have h := if_t au h
  refine C <| Z ?_
  refine zs (t := tI) (args := []) (xs := ([] : List Int)) aA (BltL.nil) u24 j3 q q q q q q (fun a4 cK a5 => ?_)
  refine qA q q q <| qA q q q <| B <| W fun a ha => ?_
  obtain rfl := L h
  have a6 := a5.q1
  exact m (ret2 q ha q q ⟨a4, q, a6⟩)
 have h := if_f au h
 refine y <| C <| Z ?_
 refine zs (t := tI) (args := []) (xs := ([] : List Int)) aA (BltL.nil) u24 j3 q q q q q q (fun cL cM a7 => ?_)
 refine qM q q q ?_
 obtain ⟨cN, a8, h⟩ := D h
 refine zw a7 (hp1.c.c) a8 u24 j3 q q q q q q (fun af cO a9 => ?_)
 refine qA q q q <| B <| C <| rR <| qA q q q <| B <| g ?_
 obtain ⟨ak, ba, h⟩ := D h
 have bb := a9.p1
 refine fun bc aB => zp (I := fun s a w2 => match s with | (ap, aC) => (Fr a 111 [(0, vp0), (5, pB b1), (8, af), (9, iV ap)] ∧ Holds M0 w w2 [.bx b1 101 [A2_0, A2_1], .sl 3 tI af aC] G)) (O := fun o e a w2 => match o with | .inl q0 => e = .exit 0 ∧ (Fr a 111 [(8, af)] ∧ Holds M0 w w2 [.sl 3 tI af q0] G) | .inr (q0, q1, q2) => e = .ret ∧ ∃ am, Fr a 111 [(6, am), (7, .bool q1)] ∧ Holds M0 w w2 [.sl 3 tI am q0] G) ba ?_ ?_ ?_
 ·exact ⟨aB.sub ⟨q, q, q, q, trivial⟩, bb⟩
 ·clear aB
  intro s cP a cQ aa bd
  obtain ⟨ap, aC⟩ := s
  obtain ⟨ha, ai⟩ := bd
  refine S ?_ ha
  clear ha
  refine C <| rR <| qM q q q <| qM q q q <| za ai.ctx (t := ty12) (hp0.c.c) u23 q q q <| A q (qt_lss q q) q q <| B ?_
  refine Y q (fun av => ?_) (fun av => ?_)
  ·have aa := if_t av aa
   refine y <| C <| g <| C <| C <| zk <| qF uf101 fi101_0 nz24 q q q ?_
   have be := R ai.p0
   refine l u24 q be q q q q <| qM q q q ?_
   obtain ⟨bf, aD, aa⟩ := D aa
   refine b ai.ctx (hp2_0.c.c) aD u24 i3 q q q q (fun cR cS cT bg => ?_)
   obtain ⟨cU, bh, cV⟩ := ai.at (hp2_0.c.c) aD bg
   refine zt (k := .i64) u3 q bh q q q ?_
   obtain ⟨bi, bj, aa⟩ := D aa
   refine QC q q c52 (fun w' hb => w_spec_l1In w' _ bf 0 9999999 bi bj (ai.grow hb).ctx) (by rfl) <| A q (qt_not q) q q <| QL_nil fun a ha cW bk => ?_
   have aE := ai.grow bk
   refine X (S ?_ ha)
   refine Y q (fun aw => ?_) (fun aw => ?_)
   ·have aa := if_t aw aa
    refine C <| Z ?_
    refine zs (t := tI) (args := []) (xs := ([] : List Int)) aE (BltL.nil) u24 j3 q q q q q q (fun bl cX bm => ?_)
    refine qA q q q <| qA q q q <| B <| W fun a ha => ?_
    obtain rfl := L aa
    have bn := bm.q1.q1
    exact m (zj (m (⟨ret_ne, q, bl, ha.sub ⟨q, q, trivial⟩, bn⟩)))
   have aa := if_f aw aa
   refine y <| C <| rR <| qA q q q <| B <| g ?_
   obtain ⟨al, bo, aa⟩ := D aa
   have bp := aE.p1.p1
   refine fun bq aF => zp (I := fun s a w2 => match s with | (aG, aq) => (Fr a 111 [(0, vp0), (5, pB b1), (8, af), (9, iV ap), (10, iV aG)] ∧ Holds M0 w w2 [.bx b1 101 [A2_0, A2_1], .sl 3 tI af aq] G)) (O := fun o e a w2 => match o with | .inl q0 => e = .exit 2 ∧ (Fr a 111 [(0, vp0), (5, pB b1), (8, af), (9, iV ap)] ∧ Holds M0 w w2 [.bx b1 101 [A2_0, A2_1], .sl 3 tI af q0] G) | .inr (q0, q1, q2) => e = .ret ∧ ∃ am, Fr a 111 [(6, am), (7, .bool q1)] ∧ Holds M0 w w2 [.sl 3 tI am q0] G) bo ?_ ?_ ?_
   ·exact ⟨aF.sub ⟨q, q, q, q, q, trivial⟩, bp⟩
   ·clear aF
    intro s cY a aH ab br
    obtain ⟨aG, aq⟩ := s
    obtain ⟨ha, aI⟩ := br
    refine S ?_ ha
    clear ha
    refine C <| rR <| qM q q q <| qM q q q <| qM q q q ?_
    obtain ⟨aJ, aK, ab⟩ := D ab
    refine b aI.ctx (hp0.c.c) aK u23 i55 q q q q (fun cZ c0 c1 bs => ?_)
    refine qF uf55 fi55_1 nz53 q q q ?_
    obtain ⟨c2, bt, bu⟩ := aI.at (hp0.c.c) aK bs
    obtain ⟨c3, bv, bw⟩ := AtP.snd bt
    obtain ⟨c4, bz, bA⟩ := AtP.fst bv
    refine XL_load (t := ty4) u53 q q bz q q q (fun aL bB => ?_)
    have ar : Holds _ w aH [.ro ty2 aL aJ.2.1, .bx b1 101 [A2_0, A2_1], .sl 3 tI af aq] G := bu _ _ _ _ bB (fun k h => (fun k h => (fun _ h => h) k (bw k h)) k (bA k h))
    refine za ar.ctx (t := ty2) hR0 u53 q q q <| A q (qt_lss q q) q q <| B ?_
    refine Y q (fun ax => ?_) (fun ax => ?_)
    ·have ab := if_t ax ab
     refine y <| C <| g <| rR <| qM q q q <| qM q q q ?_
     obtain ⟨bC, aM, ab⟩ := D ab
     refine b ar.ctx (hp0.c.c.c) aM u23 i55 q q q q (fun c5 c6 da bD => ?_)
     refine qF uf55 fi55_1 nz53 q q q ?_
     obtain ⟨db, bE, bF⟩ := ar.at (hp0.c.c.c) aM bD
     obtain ⟨dc, bG, bH⟩ := AtP.snd bE
     obtain ⟨dd, bI, bJ⟩ := AtP.fst bG
     refine XL_load (t := ty4) u53 q q bI q q q (fun bK bL => ?_)
     have ay : Holds _ w aH [.ro ty2 bK bC.2.1, .ro ty2 aL aJ.2.1, .bx b1 101 [A2_0, A2_1], .sl 3 tI af aq] G := bF _ _ _ _ bL (fun k h => (fun k h => (fun _ h => h) k (bH k h)) k (bJ k h))
     refine qM q q q ?_
     obtain ⟨an, aN, ab⟩ := D ab
     refine b ay.ctx hR0 aN u53 i57 q q q q (fun de df dg bM => ?_)
     obtain ⟨dh, bN, di⟩ := ay.atN hR0 aN bM
     refine XL_load_agg (t := ty2) us57 uo57 i57 bN q q q (fun dj bO => ?_)
     obtain ⟨dk, dl, dm, dn, rfl, dq, bP, bQ⟩ := bO
     obtain ⟨rfl, _⟩ := bP
     obtain ⟨rfl, _⟩ := bQ
     change XL _ _ _ _ _ ((64, .agg #[iV an.1, iV an.2]) :: _) _
     refine zq (cs := [iV 0, iV 0]) ay z57 q q q (fun dr ds bR => ?_)
     refine zl (cs' := [iV an.1, iV an.2]) bR q il57 q q q q q (fun dt bS => ?_)
     refine B <| C ?_
     refine WP_tail 17 (by kernel_rfl) (by kernel_rfl) (fun du bT => ?_)
     have ag := bS.grow bT
     refine qM q q q <| qF uf57 fi57_0 nz3 q q q ?_
     have bU := R ag.p0
     refine l u3 q bU q q q q <| qM q q q <| qF uf57 fi57_0 nz3 q q q ?_
     have bV := R ag.p0
     refine l u3 q bV q q q q ?_
     obtain ⟨bW, aO, ab⟩ := D ab
     refine b ag.ctx hS4 aO u24 i3 q q q q (fun dv dw dx bX => ?_)
     obtain ⟨dy, bY, dz⟩ := ag.at hS4 aO bX
     refine zt (k := .i64) u3 q bY q q q <| qF uf101 fi101_0 nz24 q q q ?_
     have bZ := R ag.p3
     refine l u24 q bZ q q q q <| qM q q q ?_
     obtain ⟨b0, aP, ab⟩ := D ab
     refine b ag.ctx (hp2_0.c.c.c.c.c) aP u24 i3 q q q q (fun dA dB dC b4 => ?_)
     obtain ⟨dD, b5, dE⟩ := ag.at (hp2_0.c.c.c.c.c) aP b4
     refine zt (k := .i64) u3 q b5 q q q <| qF uf57 fi57_1 nz3 q q q ?_
     have b6 := R ag.p0
     refine l u3 q b6 q q q q <| A q (qt_mul q q) q q <| A q (qt_sub q q) q q <| SL_nil ?_
     obtain ⟨dF, aQ, ab⟩ := D ab
     refine b ag.ctx hS4 aQ u24 i3 q q q q (fun dG dH dI b8 => ?_)
     have b9 := ag.p4
     refine WL_storeH (fo := 0) (cs' := [iV (IntKind.wrap .i64 (bW - (IntKind.wrap .i64 (b0 * an.2))))]) b9 aQ b8 (Upd.whole (Blt.int)) q il3 q q q q (fun dJ ao => ?_)
     refine rN <| qM q q q <| qF uf57 fi57_0 nz3 q q q ?_
     have ca := R ao.p1
     refine l u3 q ca q q q q ?_
     obtain ⟨dK, aR, ab⟩ := D ab
     refine b ao.ctx hS0 aR u24 i3 q q q q (fun dL dM dN cb => ?_)
     obtain ⟨dO, cc, dP⟩ := ao.at hS0 aR cb
     refine zt (k := .i64) u3 q cc q q q <| A q (qt_lss q q) q q <| B ?_
     refine Y q (fun az => ?_) (fun az => ?_)
     ·have ab := if_t az ab
      refine C <| Z ?_
      refine zs (t := tI) (args := []) (xs := ([] : List Int)) ao (BltL.nil) u24 j3 q q q q q q (fun cd dQ ce => ?_)
      refine qA q q q <| qA q q q <| B <| W fun a ha => ?_
      obtain rfl := L ab
      have cf := ce.q1.q1.q1.q1.q1
      exact zj (m (⟨ret_ne, q, cd, ha.sub ⟨q, q, trivial⟩, cf⟩))
     have ab := if_f az ab
     refine WP_skip fun a ha => ?_
     refine zi (X (S ?_ ha))
     refine Z <| qM q q q <| A q (qt_add q q) q q <| qA q q q <| WL_nil fun a ha => ?_
     obtain rfl := L ab
     have cg := ao.q1.q1.q1.p1
     exact ⟨q, ha.sub ⟨q, q, q, q, q, trivial⟩, cg⟩
    have ab := if_f ax ab
    refine WP_exit fun a ha => ?_
    obtain rfl := L ab
    have ch := ar.q0.p1.p1
    exact zo (⟨exit_ne, q, ha.sub ⟨q, q, q, q, trivial⟩, ch⟩)
   intro e bq dR aS
   rcases al with al | al
   ·skip
    obtain ⟨dS, rfl⟩ : ∃ z, z = al := ⟨al, q⟩
    obtain ⟨rfl, ci⟩ := aS
    obtain ⟨ha, cj⟩ := ci
    refine zn (X (S ?_ ha))
    refine WP_tail 19 (by kernel_rfl) (by kernel_rfl) (fun dT ck => ?_)
    have ah := cj.grow ck
    refine qM q q q <| qM q q q <| qM q q q <| qM q q q ?_
    obtain ⟨cl, aT, aa⟩ := D aa
    refine b ah.ctx hS1 aT u24 i3 q q q q (fun dU dV dW cm => ?_)
    obtain ⟨dX, cn, dY⟩ := ah.at hS1 aT cm
    refine zt (k := .i64) u3 q cn q q q <| qF uf101 fi101_0 nz24 q q q ?_
    have co := R ah.p0
    refine l u24 q co q q q q <| qM q q q ?_
    obtain ⟨cp, aU, aa⟩ := D aa
    refine b ah.ctx (hp2_0.c.c) aU u24 i3 q q q q (fun dZ d0 d1 cq => ?_)
    obtain ⟨d2, cr, d3⟩ := ah.at (hp2_0.c.c) aU cq
    refine zt (k := .i64) u3 q cr q q q <| qM q q q <| qM q q q ?_
    obtain ⟨aV, aW, aa⟩ := D aa
    refine b ah.ctx (hp0.c.c) aW u23 i55 q q q q (fun d4 d5 d6 ct => ?_)
    refine qF uf55 fi55_0 nz3 q q q ?_
    obtain ⟨d7, cu, d8⟩ := ah.at (hp0.c.c) aW ct
    obtain ⟨d9, cv, ea⟩ := AtP.fst cu
    refine zt (k := .i64) u3 q cv q q q <| A q (qt_max q q) q q <| A q (qt_mul q q) q q <| A q (qt_add q q) q q <| SL_nil ?_
    obtain ⟨eb, aX, aa⟩ := D aa
    refine b ah.ctx hS1 aX u24 i3 q q q q (fun ec ed ee cw => ?_)
    have cx := ah.p1
    refine WL_storeH (fo := 0) (cs' := [iV (IntKind.wrap .i64 (cl + (IntKind.wrap .i64 (cp * (if 1 > aV.1 then 1 else aV.1)))))]) cx aX cw (Upd.whole (Blt.int)) q il3 q q q q (fun ef cy => ?_)
    refine WL_nil fun a ha => ?_
    refine zi (X (S ?_ ha))
    refine Z <| qM q q q <| A q (qt_add q q) q q <| qA q q q <| WL_nil fun a ha => ?_
    obtain rfl := L aa
    have cz := cy.p1
    exact ⟨q, ha.sub ⟨q, q, q, q, trivial⟩, cz⟩
   skip
   obtain ⟨eg, eh, ei⟩ := al
   obtain ⟨rfl, cA⟩ := aS
   obtain ⟨cB, ha, cC⟩ := cA
   obtain rfl := L aa
   exact zj (m (zj (m (⟨ret_ne, q, cB, ha.sub ⟨q, q, trivial⟩, cC⟩))))
  have aa := if_f av aa
  refine WP_exit fun a ha => ?_
  obtain rfl := L aa
  have cD := ai.q0
  exact zo (⟨exit_ne, q, ha.sub ⟨q, trivial⟩, cD⟩)
 intro e bc ej aY
 rcases ak with ak | ak
 ·skip
  obtain ⟨ek, rfl⟩ : ∃ z, z = ak := ⟨ak, q⟩
  obtain ⟨rfl, cE⟩ := aY
  obtain ⟨ha, cF⟩ := cE
  refine zn (X (S ?_ ha))
  refine rR <| qM q q q <| qA q q q <| qA q q q <| B <| W fun a ha => ?_
  obtain rfl := L h
  exact ret2 q ha q q ⟨af, q, cF⟩
 skip
 obtain ⟨el, em, en⟩ := ak
 obtain ⟨rfl, cG⟩ := aY
 obtain ⟨cH, ha, cI⟩ := cG
 obtain rfl := L h
 exact zj (m (ret2 q ha q q ⟨cH, q, cI⟩))
theorem w_spec_l7Make (w : World) (G : List Res) (A0 : Value) (B0 : LI) (A1 : Value) (B1 : List Int) (A2 : Value) (B2 : List Int) (B3 : Int) (A4 : Value) (B4 : LT) (p1 : Int) (p2 : Int) (r : (LI × (List Int) × (List Int) × Int × LT) × Bool) (h : spec_l7MakeS B0 B1 B2 B3 B4 p1 p2 = some r) (H : Ctx w ([.sl 55 ty12 A0 B0, .sl 3 tI A1 B1, .sl 3 tI A2 B2, .sl 47 ty14 A4 B4] ++ G)) : Calls Tryz.prog 35 #[.agg #[A0, A1, A2, iV B3, A4], iV p1, iV p2] w fun e w' => ∃ (v1 : Value) (v2 : Value) (v3 : Value) (v4 : Value), e = .returned (.tuple #[.agg #[v1, v2, v3, iV r.1.2.2.2.1, v4], .bool r.2]) ∧ Holds (([.sl 55 ty12 A0 B0, .sl 3 tI A1 B1, .sl 3 tI A2 B2, .sl 47 ty14 A4 B4] : List Res).flatMap Res.own) w w' [.sl 55 ty12 v1 r.1.1, .sl 3 tI v2 r.1.2.1, .sl 3 tI v3 r.1.2.2.1, .sl 47 ty14 v4 r.1.2.2.2.2] G := by
 have H : Holds (([.sl 55 ty12 A0 B0, .sl 3 tI A1 B1, .sl 3 tI A2 B2, .sl 47 ty14 A4 B4] : List Res).flatMap Res.own) w w [.sl 55 ty12 A0 B0, .sl 3 tI A1 B1, .sl 3 tI A2 B2, .sl 47 ty14 A4 B4] G := zb H
 refine zg (args := [.agg #[A0, A1, A2, iV B3, A4], iV p1, iV p2]) (n := 64) Tryz.func35 q q q ?_
 unfold spec_l7MakeS at h
 refine C <| Z ?_
 refine WL_box (cs := [A0, A1, A2, iV B3, A4]) H q q q q (fun b1 w2 H3 => ?_)
 refine zq (cs := [nS, nS, nS, iV 0, nS]) H3 z27 q q q (fun b5 w6 H7 => ?_)
 refine qA q q q <| B <| C <| C <| zk <| qM q q q <| qF uf27 fi27_0 nz23 q q q ?_
 have aE := R H7.p1
 refine l u23 q aE q q q q <| za H7.ctx (t := ty12) hS2 u23 q q q <| A q (qt_sub q q) q q ?_
 obtain ⟨ar, aF, h⟩ := D h
 refine QC q q c52 (fun w' hb => w_spec_l1In w' _ p1 0 (IntKind.wrap .i64 ((List.length B0 : Int) - 1)) ar aF (H7.grow hb).ctx) (by rfl) <| A q (qt_not q) q q <| qM q q q ?_
 obtain ⟨au, af, h⟩ := D h
 refine zh 8 26 (.bool au) ?_ (fun md hmd hk => ?_)
 rotate_left
 ·obtain ⟨K, rfl⟩ := zr hmd
  rcases btf (!ar) with aa | aa
  ·skip
   refine qS q aa q q <| qS q aa q q <| qS q aa q q <| qS q aa q q <| qS q aa q q <| qS q aa q q <| qS q aa q q <| A q (ze q aa q) q q ?_
   exact hk _ (p (vb (if_t aa af)) (cfn 7 q (u)))
  skip
  have af := if_f aa af
  refine qF uf27 fi27_0 nz23 (J q aa) q q ?_
  have aG := R H7.p1
  refine l u23 q aG q (J q aa) q q <| qM (J q aa) q q ?_
  obtain ⟨a9, av, af⟩ := D af
  refine b H7.ctx hS2 av u23 i55 (J q aa) q q q (fun ba bb bc aH => ?_)
  refine qF uf55 fi55_0 nz3 (J q aa) q q ?_
  obtain ⟨bd, aI, be⟩ := H7.at hS2 av aH
  obtain ⟨bf, aJ, bg⟩ := AtP.fst aI
  refine zt (k := .i64) u3 q aJ (J q aa) q q <| A (J q aa) (qt_eql q q) q q <| A q (zf q aa q) q q ?_
  exact hk _ (p (vb af) (cfn 7 q (u)))
 refine qM q q q ?_
 obtain ⟨aK, ag, h⟩ := D h
 refine zh 4 31 (.bool aK) ?_ (fun md hmd hk => ?_)
 rotate_left
 ·obtain ⟨K, rfl⟩ := zr hmd
  rcases btf au with ad | ad
  ·skip
   refine qS q ad q q <| qS q ad q q <| qS q ad q q <| A q (ze q ad q) q q ?_
   exact hk _ (p (vb (if_t ad ag)) (cfn 3 q (u)))
  skip
  have ag := if_f ad ag
  refine qM (J q ad) q q ?_
  obtain ⟨aL, aM, ag⟩ := D ag
  refine QC (J q ad) q c52 (fun w' hb => w_spec_l1In w' _ p2 1 50 aL aM (H7.grow hb).ctx) (by rfl) <| A (J q ad) (qt_not q) q q <| A q (zf q ad q) q q ?_
  exact hk _ (p (vb ag) (cfn 3 q (u)))
 refine QL_nil fun a ha bh aN => ?_
 have ae := H7.grow aN
 refine X (S ?_ ha)
 refine Y q (fun an => ?_) (fun an => ?_)
 ·have h := if_t an h
  refine C <| Z ?_
  have aO := R ae.p1
  refine zm (cs := [A0, A1, A2, iV B3, A4]) us27 uo27 il27 aO q q q ?_
  change XL _ _ _ _ _ ((32, .agg #[A0, A1, A2, iV B3, A4]) :: _) _
  refine zl (cs' := [A0, A1, A2, iV B3, A4]) ae q il27 q (T (ae.ctx.sliceOne hS2) (T (ae.ctx.sliceOne hS3) (T (ae.ctx.sliceOne hS4) (T q (T (ae.ctx.sliceOne hS5) q))))) q q q (fun bi aw => ?_)
  refine qA q q q <| B <| W fun a ha => ?_
  obtain rfl := L h
  have aP := R aw.p0
  have aQ := aw.q0.q0.p3.p3.p3.p3
  exact m (retct q ha q q (run_loadVar_bx (cs := [A0, A1, A2, iV B3, A4]) us27 uo27 il27 aP) ⟨A0, A1, A2, A4, q, aQ⟩)
 have h := if_f an h
 refine y <| rR <| qF uf27 fi27_0 nz23 q q q ?_
 have aR := R ae.p1
 refine l u23 q aR q q q q <| za ae.ctx (t := ty12) hS2 u23 q q q ?_
 obtain ⟨aS, aT, h⟩ := D h
 refine WL_makeH ae aT u24 j3 q (fun _ => ⟨q, q⟩) q q q q q (fun ao bj ax => ?_)
 refine qA q q q <| rN <| qM q q q <| qM q q q <| qM q q q ?_
 obtain ⟨bk, ay, h⟩ := D h
 refine b ax.ctx hS0 ay u24 i3 q q q q (fun bl bm bn aU => ?_)
 refine WL_storeH (fo := 0) (cs' := [iV p2]) ax ay aU (Upd.whole (Blt.int)) q il3 q q q q (fun aV ai => ?_)
 refine rN <| qF uf27 fi27_0 nz23 q q q ?_
 have aW := R ai.p2
 refine l u23 q aW q q q q <| qF uf27 fi27_2 nz24 q q q ?_
 have aX := R ai.p2
 refine l u24 q aX q q q q <| qM q q q <| A q (qt_build (args := [(0, .tmp 46)]) (css := [#[ao]]) (cells := #[ao, nS]) q ⟨(ai.ctx.sliceCells hS0), trivial⟩ (by kernel_rfl)) q q ?_
 obtain ⟨az, aY, h⟩ := D h
 refine zd q q c72 (w_spec_MakeRun aV _ A0 B0 hS3 A2 B2 hS5 ao (List.set aS (Int.toNat p1) p2) hS0 (nS) ([] : List Int) (HasRo.has HasRo.nil) az aY ai.ctx) (by rfl) ?_
 rintro _ bo ⟨aj, rfl, aZ⟩; refine ⟨_, q, ?_⟩
 have ak := ai.cN1 [] aZ
 refine qM q q q <| A q (zv q q) q q <| A q (zv q q) q q <| qA q q q <| qA q q q <| B <| C <| rR <| qM q q q ?_
 refine A q (qt_not q) q q <| qM q q q ?_
 obtain ⟨a0, ah, h⟩ := D h
 refine zh 6 59 (.bool a0) ?_ (fun md hmd hk => ?_)
 rotate_left
 ·obtain ⟨Q, rfl⟩ := Md.seq_of hmd
  rcases btf (!az.2) with ab | ab
  ·skip
   refine qS q ab q q <| qS q ab q q <| qS q ab q q <| qS q ab q q <| qS q ab q q <| A q (ze q ab q) q q ?_
   exact hk _ (p (vb (if_t ab ah)) (cfn 5 q (u)))
  skip
  have ah := if_f ab ah
  refine qM (J q ab) q q <| qM (J q ab) q q ?_
  obtain ⟨bp, aA, ah⟩ := D ah
  refine b ak.ctx hS0 aA u24 i3 (J q ab) q q q (fun bq br bs a1 => ?_)
  obtain ⟨bt, a2, bu⟩ := ak.at hS0 aA a1
  refine zt (k := .i64) u3 q a2 (J q ab) q q <| A (J q ab) (qt_gtr q q) q q <| A q (zf q ab q) q q ?_
  exact hk _ (p (vb ah) (cfn 5 q (u)))
 refine B ?_
 refine Y q (fun ap => ?_) (fun ap => ?_)
 ·have h := if_t ap h
  refine C <| Z ?_
  have a3 := R ak.p3
  refine zm (cs := [A0, A1, A2, iV B3, A4]) us27 uo27 il27 a3 q q q ?_
  change XL _ _ _ _ _ ((60, .agg #[A0, A1, A2, iV B3, A4]) :: _) _
  have al := ak.p2
  refine zl (cs' := [A0, A1, A2, iV B3, A4]) al q il27 q (T (al.ctx.sliceOne hS4) (T (al.ctx.sliceOne hS5) (T (al.ctx.sliceOne hS6) (T q (T (al.ctx.sliceOne hS7) q))))) q q q (fun bv aB => ?_)
  refine qA q q q <| B <| W fun a ha => ?_
  obtain rfl := L h
  have a4 := R aB.p0
  have a5 := aB.q0.q0.q0.q0.p3.p3.p3.p3
  exact m (retct q ha q q (run_loadVar_bx (cs := [A0, A1, A2, iV B3, A4]) us27 uo27 il27 a4) ⟨A0, A1, A2, A4, q, a5⟩)
 have h := if_f ap h
 refine y <| rR <| qM q q q <| qF uf27 fi27_2 nz24 q q q ?_
 have aq := ak.p3
 refine WL_store_bx aq q il24 (aq.ctx.sliceCells hS1) (aq.ctx.sliceOne hS1) q q q (fun bw aC => ?_)
 refine B <| C <| Z ?_
 have a6 := R aC.p0
 refine zm (cs := [A0, A1, aj, iV B3, A4]) us27 uo27 il27 a6 q q q ?_
 change XL _ _ _ _ _ ((63, .agg #[A0, A1, aj, iV B3, A4]) :: _) _
 have am := aC.p3
 refine zl (cs' := [A0, A1, aj, iV B3, A4]) am q il27 q (T (am.ctx.sliceOne hS4) (T (am.ctx.sliceOne hS5) (T (am.ctx.sliceOne hS2) (T q (T (am.ctx.sliceOne hS7) q))))) q q q (fun bz aD => ?_)
 refine qA q q q <| B <| W fun a ha => ?_
 obtain rfl := L h
 have a7 := R aD.p0
 have a8 := aD.q0.q0.q1.q3.p3.p1.p3.p3
 exact retct q ha q q (run_loadVar_bx (cs := [A0, A1, aj, iV B3, A4]) us27 uo27 il27 a7) ⟨A0, A1, aj, A4, q, a8⟩
theorem w_spec_l7Order (w : World) (G : List Res) (A0 : Value) (B0 : LI) (A1 : Value) (B1 : List Int) (A2 : Value) (B2 : List Int) (B3 : Int) (A4 : Value) (B4 : LT) (p1 : Int) (p2 : Int) (p3 : Int) (r : (LI × (List Int) × (List Int) × Int × LT) × Bool) (h : spec_l7OrderS B0 B1 B2 B3 B4 p1 p2 p3 = some r) (H : Ctx w ([.sl 55 ty12 A0 B0, .sl 3 tI A1 B1, .sl 3 tI A2 B2, .sl 47 ty14 A4 B4] ++ G)) : Calls Tryz.prog 36 #[.agg #[A0, A1, A2, iV B3, A4], iV p1, iV p2, iV p3] w fun e w' => ∃ (v1 : Value) (v2 : Value) (v3 : Value) (v4 : Value), e = .returned (.tuple #[.agg #[v1, v2, v3, iV r.1.2.2.2.1, v4], .bool r.2]) ∧ Holds (([.sl 55 ty12 A0 B0, .sl 3 tI A1 B1, .sl 3 tI A2 B2, .sl 47 ty14 A4 B4] : List Res).flatMap Res.own) w w' [.sl 55 ty12 v1 r.1.1, .sl 3 tI v2 r.1.2.1, .sl 3 tI v3 r.1.2.2.1, .sl 47 ty14 v4 r.1.2.2.2.2] G := by
 have H : Holds (([.sl 55 ty12 A0 B0, .sl 3 tI A1 B1, .sl 3 tI A2 B2, .sl 47 ty14 A4 B4] : List Res).flatMap Res.own) w w [.sl 55 ty12 A0 B0, .sl 3 tI A1 B1, .sl 3 tI A2 B2, .sl 47 ty14 A4 B4] G := zb H
 refine zg (args := [.agg #[A0, A1, A2, iV B3, A4], iV p1, iV p2, iV p3]) (n := 93) Tryz.func36 q q q ?_
 unfold spec_l7OrderS at h
 refine C <| Z ?_
 refine WL_box (cs := [A0, A1, A2, iV B3, A4]) H q q q q (fun b1 w2 H3 => ?_)
 refine zq (cs := [nS, nS, nS, iV 0, nS]) H3 z27 q q q (fun b5 w6 H7 => ?_)
 refine qA q q q <| B <| C <| C ?_
 obtain ⟨ay, aE, h⟩ := D h
 obtain ⟨de, a1, h⟩ := D h
 obtain ⟨df, aM, h⟩ := D h
 obtain ⟨bf, aF, h⟩ := D h
 refine WP_join (M := fun a w2 => (Fr a 93 [(1, iV p1), (2, iV p2), (3, iV p3), (4, pB b1), (8, pB b5), (48, .bool bf)] ∧ Holds (([.sl 55 ty12 A0 B0, .sl 3 tI A1 B1, .sl 3 tI A2 B2, .sl 47 ty14 A4 B4] : List Res).flatMap Res.own) w w2 [.bx b1 27 [A0, A1, A2, iV B3, A4], .sl 55 ty12 A0 B0, .sl 3 tI A1 B1, .sl 3 tI A2 B2, .sl 47 ty14 A4 B4, .bx b5 27 [nS, nS, nS, iV 0, nS]] G)) ?_ ?_
 ·refine WP_ordersT (fun w1 w2 => Chg M0 w1 w2) 38 (by kernel_rfl) (fun au bg => ?_)
  have az := H7.grow bg
  have aj : Ctx au ([] ++ ([.bx b5 27 [nS, nS, nS, iV 0, nS], .bx b1 27 [A0, A1, A2, iV B3, A4], .sl 55 ty12 A0 B0, .sl 3 tI A1 B1, .sl 3 tI A2 B2, .sl 47 ty14 A4 B4] ++ G)) := az.ctx
  have aa : Holds _ au au [] ([.bx b5 27 [nS, nS, nS, iV 0, nS], .bx b1 27 [A0, A1, A2, iV B3, A4], .sl 55 ty12 A0 B0, .sl 3 tI A1 B1, .sl 3 tI A2 B2, .sl 47 ty14 A4 B4] ++ G) := zb (Rs := []) aj
  rcases btf (!ay) with ab | ab
  ·skip
   have bh := if_t ab a1
   obtain rfl := L bh
   have aq : true = true := q
   have bi := if_t aq aM
   obtain rfl := L bi
   have ak : true = true := q
   have bj := if_t ak aF
   obtain rfl := L bj
   refine XQ (i := 0) q (by kernel_rfl) q aa.chg q (fun _ => qt_move q) q q <| XQ (i := 1) q (by kernel_rfl) q aa.chg q (fun _ => qt_fieldAddr uf27 fi27_4 nz25 q) q q ?_
   have bk := HasB.bx (HasB.c (HasB.hd)) aa.ctx
   refine XT (i := 2) q (by kernel_rfl) q aa.chg q (qs_cell u25 q q (bk.cell (i := 4) q) aa.chg (Ctx.outB aj (HasB.c (HasB.hd)))) q q <| XT (i := 3) q (by kernel_rfl) q aa.chg q (qs_len (t := ty14) aa.ctx hS5 u25 q) q q <| XQ (i := 4) q (by kernel_rfl) q aa.chg q (fun _ => qt_sub q q) q q <| X1 5 (by kernel_rfl) q <| zd q q c52 (w_spec_l1In au _ p1 0 (IntKind.wrap .i64 ((List.length B4 : Int) - 1)) ay aE aa.ctx) (by rfl) ?_
   rintro _ dg ⟨rfl, bl⟩; refine ⟨_, q, ?_⟩
   have ae := aa.cN0 [] bl
   refine XN ae.chg <| XQ (i := 6) q (by kernel_rfl) q ae.chg q (fun _ => qt_not q) q q <| XQ (i := 7) q (by kernel_rfl) q ae.chg q (fun _ => qt_move q) q q <| XS (i := 8) q (by kernel_rfl) q ae.chg q ab q q <| XS (i := 9) q (by kernel_rfl) q ae.chg q ab q q <| XS (i := 10) q (by kernel_rfl) q ae.chg q ab q q <| XS (i := 11) q (by kernel_rfl) q ae.chg q ab q q <| XS (i := 12) q (by kernel_rfl) q ae.chg q ab q q <| XS (i := 13) q (by kernel_rfl) q ae.chg q ab q q <| XS (i := 14) q (by kernel_rfl) q ae.chg q ab q q ?_
   refine XQ (i := 15) q (by kernel_rfl) q ae.chg q (fun _ => ze q ab q) q q <| XQ (i := 16) q (by kernel_rfl) q ae.chg q (fun _ => qt_move q) q q <| XS (i := 17) q (by kernel_rfl) q ae.chg q aq q q <| XS (i := 18) q (by kernel_rfl) q ae.chg q aq q q <| XS (i := 19) q (by kernel_rfl) q ae.chg q aq q q <| XS (i := 20) q (by kernel_rfl) q ae.chg q aq q q <| XS (i := 21) q (by kernel_rfl) q ae.chg q aq q q <| XS (i := 22) q (by kernel_rfl) q ae.chg q aq q q <| XQ (i := 23) q (by kernel_rfl) q ae.chg q (fun _ => ze q aq q) q q <| XQ (i := 24) q (by kernel_rfl) q ae.chg q (fun _ => qt_move q) q q ?_
   refine XS (i := 25) q (by kernel_rfl) q ae.chg q ak q q <| XS (i := 26) q (by kernel_rfl) q ae.chg q ak q q <| XS (i := 27) q (by kernel_rfl) q ae.chg q ak q q <| XS (i := 28) q (by kernel_rfl) q ae.chg q ak q q <| XS (i := 29) q (by kernel_rfl) q ae.chg q ak q q <| XS (i := 30) q (by kernel_rfl) q ae.chg q ak q q <| XS (i := 31) q (by kernel_rfl) q ae.chg q ak q q <| XS (i := 32) q (by kernel_rfl) q ae.chg q ak q q <| XS (i := 33) q (by kernel_rfl) q ae.chg q ak q q <| XS (i := 34) q (by kernel_rfl) q ae.chg q ak q q ?_
   refine XS (i := 35) q (by kernel_rfl) q ae.chg q ak q q <| XS (i := 36) q (by kernel_rfl) q ae.chg q ak q q <| XQ (i := 37) q (by kernel_rfl) q ae.chg q (fun _ => ze q ak q) q q ?_
   have bm := az.cN0 [] ae
   refine XC_done (by kernel_rfl) (fun a ha => ?_)
   have bn := bm.p5.p5.p5.p5.p5
   exact ⟨ha.sub ⟨q, q, q, q, q, q, trivial⟩, bn⟩
  skip
  have aN := if_f ab a1
  obtain ⟨aG, aO, aN⟩ := D aN
  obtain rfl := L aN
  rcases btf (!aG) with ai | ai
  ·skip
   have bo := if_t ai aM
   obtain rfl := L bo
   have al : true = true := q
   have bp := if_t al aF
   obtain rfl := L bp
   refine XQ (i := 0) q (by kernel_rfl) q aa.chg q (fun _ => qt_move q) q q <| XQ (i := 1) q (by kernel_rfl) q aa.chg q (fun _ => qt_fieldAddr uf27 fi27_4 nz25 q) q q ?_
   have bq := HasB.bx (HasB.c (HasB.hd)) aa.ctx
   refine XT (i := 2) q (by kernel_rfl) q aa.chg q (qs_cell u25 q q (bq.cell (i := 4) q) aa.chg (Ctx.outB aj (HasB.c (HasB.hd)))) q q <| XT (i := 3) q (by kernel_rfl) q aa.chg q (qs_len (t := ty14) aa.ctx hS5 u25 q) q q <| XQ (i := 4) q (by kernel_rfl) q aa.chg q (fun _ => qt_sub q q) q q <| X1 5 (by kernel_rfl) q <| zd q q c52 (w_spec_l1In au _ p1 0 (IntKind.wrap .i64 ((List.length B4 : Int) - 1)) ay aE aa.ctx) (by rfl) ?_
   rintro _ br ⟨rfl, bs⟩; refine ⟨_, q, ?_⟩
   have am := aa.cN0 [] bs
   refine XN am.chg <| XQ (i := 6) q (by kernel_rfl) q am.chg q (fun _ => qt_not q) q q <| XQ (i := 7) q (by kernel_rfl) q am.chg q (fun _ => qt_move q) q q <| XQ (i := 8) q (by kernel_rfl) q am.chg (J q ab) (fun _ => qt_move q) q q <| XQ (i := 9) q (by kernel_rfl) q am.chg (J q ab) (fun _ => qt_fieldAddr uf27 fi27_0 nz23 q) q q ?_
   have bt := HasB.bx (HasB.c (HasB.hd)) am.ctx
   refine XT (i := 10) q (by kernel_rfl) q am.chg (J q ab) (qs_cell u23 q q (bt.cell (i := 0) q) am.chg (Ctx.outB aj (HasB.c (HasB.hd)))) q q <| XT (i := 11) q (by kernel_rfl) q am.chg (J q ab) (qs_len (t := ty12) am.ctx hS2 u23 q) q q <| XQ (i := 12) q (by kernel_rfl) q am.chg (J q ab) (fun _ => qt_sub q q) q q <| X1 13 (by kernel_rfl) q <| zd (J q ab) q c52 (w_spec_l1In br _ p2 0 (IntKind.wrap .i64 ((List.length B0 : Int) - 1)) aG aO am.ctx) (by rfl) ?_
   rintro _ dh ⟨rfl, bu⟩; refine ⟨_, q, ?_⟩
   have ah := am.cN0 [] bu
   refine XN ah.chg <| XQ (i := 14) q (by kernel_rfl) q ah.chg (J q ab) (fun _ => qt_not q) q q <| XQ (i := 15) q (by kernel_rfl) q ah.chg q (fun _ => zf q ab q) q q <| XQ (i := 16) q (by kernel_rfl) q ah.chg q (fun _ => qt_move q) q q <| XS (i := 17) q (by kernel_rfl) q ah.chg q ai q q <| XS (i := 18) q (by kernel_rfl) q ah.chg q ai q q <| XS (i := 19) q (by kernel_rfl) q ah.chg q ai q q <| XS (i := 20) q (by kernel_rfl) q ah.chg q ai q q <| XS (i := 21) q (by kernel_rfl) q ah.chg q ai q q <| XS (i := 22) q (by kernel_rfl) q ah.chg q ai q q ?_
   refine XQ (i := 23) q (by kernel_rfl) q ah.chg q (fun _ => ze q ai q) q q <| XQ (i := 24) q (by kernel_rfl) q ah.chg q (fun _ => qt_move q) q q <| XS (i := 25) q (by kernel_rfl) q ah.chg q al q q <| XS (i := 26) q (by kernel_rfl) q ah.chg q al q q <| XS (i := 27) q (by kernel_rfl) q ah.chg q al q q <| XS (i := 28) q (by kernel_rfl) q ah.chg q al q q <| XS (i := 29) q (by kernel_rfl) q ah.chg q al q q <| XS (i := 30) q (by kernel_rfl) q ah.chg q al q q <| XS (i := 31) q (by kernel_rfl) q ah.chg q al q q <| XS (i := 32) q (by kernel_rfl) q ah.chg q al q q ?_
   refine XS (i := 33) q (by kernel_rfl) q ah.chg q al q q <| XS (i := 34) q (by kernel_rfl) q ah.chg q al q q <| XS (i := 35) q (by kernel_rfl) q ah.chg q al q q <| XS (i := 36) q (by kernel_rfl) q ah.chg q al q q <| XQ (i := 37) q (by kernel_rfl) q ah.chg q (fun _ => ze q al q) q q ?_
   have bv := az.cN0 [] ah
   refine XC_done (by kernel_rfl) (fun a ha => ?_)
   have bw := bv.p5.p5.p5.p5.p5
   exact ⟨ha.sub ⟨q, q, q, q, q, q, trivial⟩, bw⟩
  skip
  have aP := if_f ai aM
  obtain ⟨bz, ar, aP⟩ := D aP
  obtain rfl := L aP
  rcases btf (decide (bz < 1)) with ag | ag
  ·skip
   have bA := if_t ag aF
   obtain rfl := L bA
   refine XQ (i := 0) q (by kernel_rfl) q aa.chg q (fun _ => qt_move q) q q <| XQ (i := 1) q (by kernel_rfl) q aa.chg q (fun _ => qt_fieldAddr uf27 fi27_4 nz25 q) q q ?_
   have bB := HasB.bx (HasB.c (HasB.hd)) aa.ctx
   refine XT (i := 2) q (by kernel_rfl) q aa.chg q (qs_cell u25 q q (bB.cell (i := 4) q) aa.chg (Ctx.outB aj (HasB.c (HasB.hd)))) q q <| XT (i := 3) q (by kernel_rfl) q aa.chg q (qs_len (t := ty14) aa.ctx hS5 u25 q) q q <| XQ (i := 4) q (by kernel_rfl) q aa.chg q (fun _ => qt_sub q q) q q <| X1 5 (by kernel_rfl) q <| zd q q c52 (w_spec_l1In au _ p1 0 (IntKind.wrap .i64 ((List.length B4 : Int) - 1)) ay aE aa.ctx) (by rfl) ?_
   rintro _ bC ⟨rfl, bD⟩; refine ⟨_, q, ?_⟩
   have an := aa.cN0 [] bD
   refine XN an.chg <| XQ (i := 6) q (by kernel_rfl) q an.chg q (fun _ => qt_not q) q q <| XQ (i := 7) q (by kernel_rfl) q an.chg q (fun _ => qt_move q) q q <| XQ (i := 8) q (by kernel_rfl) q an.chg (J q ab) (fun _ => qt_move q) q q <| XQ (i := 9) q (by kernel_rfl) q an.chg (J q ab) (fun _ => qt_fieldAddr uf27 fi27_0 nz23 q) q q ?_
   have bE := HasB.bx (HasB.c (HasB.hd)) an.ctx
   refine XT (i := 10) q (by kernel_rfl) q an.chg (J q ab) (qs_cell u23 q q (bE.cell (i := 0) q) an.chg (Ctx.outB aj (HasB.c (HasB.hd)))) q q <| XT (i := 11) q (by kernel_rfl) q an.chg (J q ab) (qs_len (t := ty12) an.ctx hS2 u23 q) q q <| XQ (i := 12) q (by kernel_rfl) q an.chg (J q ab) (fun _ => qt_sub q q) q q <| X1 13 (by kernel_rfl) q <| zd (J q ab) q c52 (w_spec_l1In bC _ p2 0 (IntKind.wrap .i64 ((List.length B0 : Int) - 1)) aG aO an.ctx) (by rfl) ?_
   rintro _ di ⟨rfl, bF⟩; refine ⟨_, q, ?_⟩
   have af := an.cN0 [] bF
   refine XN af.chg <| XQ (i := 14) q (by kernel_rfl) q af.chg (J q ab) (fun _ => qt_not q) q q <| XQ (i := 15) q (by kernel_rfl) q af.chg q (fun _ => zf q ab q) q q <| XQ (i := 16) q (by kernel_rfl) q af.chg q (fun _ => qt_move q) q q <| XQ (i := 17) q (by kernel_rfl) q af.chg (J q ai) (fun _ => qt_fieldAddr uf27 fi27_2 nz24 q) q q ?_
   have bG := HasB.bx (HasB.c (HasB.hd)) af.ctx
   refine XT (i := 18) q (by kernel_rfl) q af.chg (J q ai) (qs_cell u24 q q (bG.cell (i := 2) q) af.chg (Ctx.outB aj (HasB.c (HasB.hd)))) q q <| XQ (i := 19) q (by kernel_rfl) q af.chg (J q ai) (fun _ => qt_move q) q q ?_
   obtain ⟨dj, dk, dl, aQ⟩ := Ctx.isAt af.ctx hS4 ar
   refine XT (i := 20) q (by kernel_rfl) q af.chg (J q ai) (qs_index ar aQ u24 i3 q q) q q ?_
   obtain ⟨dm, bH, dn⟩ := af.at hS4 ar aQ
   refine XT (i := 21) q (by kernel_rfl) q af.chg (J q ai) (qs_cell u3 q q (AtP.cInt bH) af.chg (Ctx.outHas aj hS4 ar aQ)) q q <| XQ (i := 22) q (by kernel_rfl) q af.chg (J q ai) (fun _ => qt_lss q q) q q <| XQ (i := 23) q (by kernel_rfl) q af.chg q (fun _ => zf q ai q) q q <| XQ (i := 24) q (by kernel_rfl) q af.chg q (fun _ => qt_move q) q q <| XS (i := 25) q (by kernel_rfl) q af.chg q ag q q <| XS (i := 26) q (by kernel_rfl) q af.chg q ag q q <| XS (i := 27) q (by kernel_rfl) q af.chg q ag q q <| XS (i := 28) q (by kernel_rfl) q af.chg q ag q q <| XS (i := 29) q (by kernel_rfl) q af.chg q ag q q <| XS (i := 30) q (by kernel_rfl) q af.chg q ag q q ?_
   refine XS (i := 31) q (by kernel_rfl) q af.chg q ag q q <| XS (i := 32) q (by kernel_rfl) q af.chg q ag q q <| XS (i := 33) q (by kernel_rfl) q af.chg q ag q q <| XS (i := 34) q (by kernel_rfl) q af.chg q ag q q <| XS (i := 35) q (by kernel_rfl) q af.chg q ag q q <| XS (i := 36) q (by kernel_rfl) q af.chg q ag q q <| XQ (i := 37) q (by kernel_rfl) q af.chg q (fun _ => ze q ag q) q q ?_
   have bI := az.cN0 [] af
   refine XC_done (by kernel_rfl) (fun a ha => ?_)
   have bJ := bI.p5.p5.p5.p5.p5
   exact ⟨ha.sub ⟨q, q, q, q, q, q, trivial⟩, bJ⟩
  skip
  have av := if_f ag aF
  obtain ⟨bK, aH, av⟩ := D av
  obtain ⟨a2, bL, av⟩ := D av
  obtain ⟨bM, bN, av⟩ := D av
  obtain rfl := L av
  refine XQ (i := 0) q (by kernel_rfl) q aa.chg q (fun _ => qt_move q) q q <| XQ (i := 1) q (by kernel_rfl) q aa.chg q (fun _ => qt_fieldAddr uf27 fi27_4 nz25 q) q q ?_
  have bO := HasB.bx (HasB.c (HasB.hd)) aa.ctx
  refine XT (i := 2) q (by kernel_rfl) q aa.chg q (qs_cell u25 q q (bO.cell (i := 4) q) aa.chg (Ctx.outB aj (HasB.c (HasB.hd)))) q q <| XT (i := 3) q (by kernel_rfl) q aa.chg q (qs_len (t := ty14) aa.ctx hS5 u25 q) q q <| XQ (i := 4) q (by kernel_rfl) q aa.chg q (fun _ => qt_sub q q) q q <| X1 5 (by kernel_rfl) q <| zd q q c52 (w_spec_l1In au _ p1 0 (IntKind.wrap .i64 ((List.length B4 : Int) - 1)) ay aE aa.ctx) (by rfl) ?_
  rintro _ bP ⟨rfl, bQ⟩; refine ⟨_, q, ?_⟩
  have ao := aa.cN0 [] bQ
  refine XN ao.chg <| XQ (i := 6) q (by kernel_rfl) q ao.chg q (fun _ => qt_not q) q q <| XQ (i := 7) q (by kernel_rfl) q ao.chg q (fun _ => qt_move q) q q <| XQ (i := 8) q (by kernel_rfl) q ao.chg (J q ab) (fun _ => qt_move q) q q <| XQ (i := 9) q (by kernel_rfl) q ao.chg (J q ab) (fun _ => qt_fieldAddr uf27 fi27_0 nz23 q) q q ?_
  have bR := HasB.bx (HasB.c (HasB.hd)) ao.ctx
  refine XT (i := 10) q (by kernel_rfl) q ao.chg (J q ab) (qs_cell u23 q q (bR.cell (i := 0) q) ao.chg (Ctx.outB aj (HasB.c (HasB.hd)))) q q <| XT (i := 11) q (by kernel_rfl) q ao.chg (J q ab) (qs_len (t := ty12) ao.ctx hS2 u23 q) q q <| XQ (i := 12) q (by kernel_rfl) q ao.chg (J q ab) (fun _ => qt_sub q q) q q <| X1 13 (by kernel_rfl) q <| zd (J q ab) q c52 (w_spec_l1In bP _ p2 0 (IntKind.wrap .i64 ((List.length B0 : Int) - 1)) aG aO ao.ctx) (by rfl) ?_
  rintro _ bS ⟨rfl, bT⟩; refine ⟨_, q, ?_⟩
  have ad := ao.cN0 [] bT
  refine XN ad.chg <| XQ (i := 14) q (by kernel_rfl) q ad.chg (J q ab) (fun _ => qt_not q) q q <| XQ (i := 15) q (by kernel_rfl) q ad.chg q (fun _ => zf q ab q) q q <| XQ (i := 16) q (by kernel_rfl) q ad.chg q (fun _ => qt_move q) q q <| XQ (i := 17) q (by kernel_rfl) q ad.chg (J q ai) (fun _ => qt_fieldAddr uf27 fi27_2 nz24 q) q q ?_
  have bU := HasB.bx (HasB.c (HasB.hd)) ad.ctx
  refine XT (i := 18) q (by kernel_rfl) q ad.chg (J q ai) (qs_cell u24 q q (bU.cell (i := 2) q) ad.chg (Ctx.outB aj (HasB.c (HasB.hd)))) q q <| XQ (i := 19) q (by kernel_rfl) q ad.chg (J q ai) (fun _ => qt_move q) q q ?_
  obtain ⟨dq, dr, ds, aR⟩ := Ctx.isAt ad.ctx hS4 ar
  refine XT (i := 20) q (by kernel_rfl) q ad.chg (J q ai) (qs_index ar aR u24 i3 q q) q q ?_
  obtain ⟨dt, bV, du⟩ := ad.at hS4 ar aR
  refine XT (i := 21) q (by kernel_rfl) q ad.chg (J q ai) (qs_cell u3 q q (AtP.cInt bV) ad.chg (Ctx.outHas aj hS4 ar aR)) q q <| XQ (i := 22) q (by kernel_rfl) q ad.chg (J q ai) (fun _ => qt_lss q q) q q <| XQ (i := 23) q (by kernel_rfl) q ad.chg q (fun _ => zf q ai q) q q <| XQ (i := 24) q (by kernel_rfl) q ad.chg q (fun _ => qt_move q) q q <| XQ (i := 25) q (by kernel_rfl) q ad.chg (J q ag) (fun _ => qt_fieldAddr uf27 fi27_0 nz23 q) q q ?_
  have bW := HasB.bx (HasB.c (HasB.hd)) ad.ctx
  refine XT (i := 26) q (by kernel_rfl) q ad.chg (J q ag) (qs_cell u23 q q (bW.cell (i := 0) q) ad.chg (Ctx.outB aj (HasB.c (HasB.hd)))) q q <| XQ (i := 27) q (by kernel_rfl) q ad.chg (J q ag) (fun _ => qt_fieldAddr uf27 fi27_4 nz25 q) q q ?_
  have bX := HasB.bx (HasB.c (HasB.hd)) ad.ctx
  refine XT (i := 28) q (by kernel_rfl) q ad.chg (J q ag) (qs_cell u25 q q (bX.cell (i := 4) q) ad.chg (Ctx.outB aj (HasB.c (HasB.hd)))) q q <| XQ (i := 29) q (by kernel_rfl) q ad.chg (J q ag) (fun _ => qt_move q) q q ?_
  obtain ⟨dv, dw, dx, aS⟩ := Ctx.isAt ad.ctx hS5 aH
  refine XT (i := 30) q (by kernel_rfl) q ad.chg (J q ag) (qs_index aH aS u25 i47 q q) q q <| XQ (i := 31) q (by kernel_rfl) q ad.chg (J q ag) (fun _ => qt_fieldAddr uf47 fi47_0 nz3 q) q q ?_
  obtain ⟨dy, bY, dz⟩ := ad.at hS5 aH aS
  obtain ⟨dA, bZ, dB⟩ := AtP.fst bY
  refine XT (i := 32) q (by kernel_rfl) q ad.chg (J q ag) (qs_cell u3 q q (AtP.cInt bZ) ad.chg (Ctx.outHas aj hS5 aH aS)) q q <| XQ (i := 34) q (by kernel_rfl) q ad.chg (J q ag) (fun _ => qt_move q) q q <| X1 33 (by kernel_rfl) q <| zd (J q ag) q c54 (w_spec_FreeOf bS _ A0 B0 hS2 bK.1 a2 bL ad.ctx) (by rfl) ?_
  rintro _ b0 ⟨b4, rfl, b6⟩; refine ⟨_, q, ?_⟩
  have aT := ad.cN1 [] b6
  refine XN aT.chg <| X1 35 (by kernel_rfl) q <| zd (J q ag) q c55 (w_spec_l1Has b0 _ b4 a2 hS0 p2 bM bN aT.ctx) (by rfl) ?_
  rintro _ dC ⟨rfl, b7⟩; refine ⟨_, q, ?_⟩
  have aI := aT.cN0 [] b7
  refine XN aI.chg <| XQ (i := 36) q (by kernel_rfl) q aI.chg (J q ag) (fun _ => qt_not q) q q <| XQ (i := 37) q (by kernel_rfl) q aI.chg q (fun _ => zf q ag q) q q ?_
  have b8 := az.cN1 [] aI
  refine XC_done (by kernel_rfl) (fun a ha => ?_)
  have b9 := b8.q0.p5.p5.p5.p5.p5
  exact ⟨ha.sub ⟨q, q, q, q, q, q, trivial⟩, b9⟩
 intro a ca cb
 obtain ⟨ha, aA⟩ := cb
 refine S ?_ ha
 clear ha
 refine Y q (fun aU => ?_) (fun aU => ?_)
 ·have h := if_t aU h
  refine C <| Z ?_
  have cc := R aA.p0
  refine zm (cs := [A0, A1, A2, iV B3, A4]) us27 uo27 il27 cc q q q ?_
  change XL _ _ _ _ _ ((49, .agg #[A0, A1, A2, iV B3, A4]) :: _) _
  have aB := aA.p5
  refine zl (cs' := [A0, A1, A2, iV B3, A4]) aB q il27 q (T (aB.ctx.sliceOne hS2) (T (aB.ctx.sliceOne hS3) (T (aB.ctx.sliceOne hS4) (T q (T (aB.ctx.sliceOne hS5) q))))) q q q (fun dD a3 => ?_)
  refine qA q q q <| B <| W fun a ha => ?_
  obtain rfl := L h
  have cd := R a3.p0
  have ce := a3.q0.q0.p3.p3.p3.p3
  exact m (retct q ha q q (run_loadVar_bx (cs := [A0, A1, A2, iV B3, A4]) us27 uo27 il27 cd) ⟨A0, A1, A2, A4, q, ce⟩)
 have h := if_f aU h
 refine y <| rR <| qF uf27 fi27_4 nz25 q q q ?_
 have cf := R aA.p0
 refine l u25 q cf q q q q <| qM q q q ?_
 obtain ⟨ap, a4, h⟩ := D h
 refine b aA.ctx hS4 a4 u25 i47 q q q q (fun dE dF dG cg => ?_)
 obtain ⟨dH, ch, ci⟩ := aA.atN hS4 a4 cg
 refine XL_load_agg (t := ty14) us47 uo47 i47 ch q q q (fun dI cj => ?_)
 obtain ⟨dJ, dK, dL, dM, rfl, a5, ck, cl⟩ := cj
 obtain ⟨rfl, _⟩ := ck
 obtain ⟨dN, dO, dP, dQ, rfl, a6, cm, cn⟩ := cl
 obtain ⟨aJ, rfl, co⟩ := Rep.sl_inv cm
 obtain ⟨aK, rfl, cp⟩ := Rep.sl_inv cn
 have cq : Holds _ w ca [.ro ty2 aJ ap.2.1, .ro tI aK ap.2.2, .bx b1 27 [A0, A1, A2, iV B3, A4], .sl 55 ty12 A0 B0, .sl 3 tI A1 B1, .sl 3 tI A2 B2, .sl 47 ty14 A4 B4, .bx b5 27 [nS, nS, nS, iV 0, nS]] G := ci [.ro ty2 aJ ap.2.1, .ro tI aK ap.2.2] ⟨⟨_, _, _, _, q, co, (fun k h => (fun k h => (fun _ h => h) k (by rw [a5]; exact zx _ h)) k (by rw [a6]; exact List.mem_append_left _ h))⟩, ⟨_, _, _, _, q, cp, (fun k h => (fun k h => (fun _ h => h) k (by rw [a5]; exact zx _ h)) k (by rw [a6]; exact zx _ h))⟩, trivial⟩
 change XL _ _ _ _ _ ((54, .agg #[iV ap.1, aJ, aK]) :: _) _
 refine zq (cs := [iV 0, nS, nS]) cq z47 q q q (fun dR dS aV => ?_)
 refine zl (cs' := [iV ap.1, aJ, aK]) aV q il47 q (T q (T (aV.ctx.sliceOne hR1) (T (aV.ctx.sliceOne hR2) q))) q q q (fun dT cr => ?_)
 refine B <| C <| Z ?_
 refine zs (t := ty2) (args := []) (xs := ([] : LP)) cr (BltL.nil) u45 j49 q q q q q q (fun dU dV a7 => ?_)
 refine qF uf47 fi47_1 nz45 q q q ?_
 have ct := R a7.p1
 refine l u45 q ct q q q q ?_
 obtain ⟨dW, cu, h⟩ := D h
 refine zw a7 hR2 cu u45 j49 q q q q q q (fun dX dY cv => ?_)
 refine qM q q q <| A q (qt_build (args := [(0, .tmp 59)]) (css := [#[iV p3]]) (cells := #[iV p3, iV 0]) q ⟨q, trivial⟩ (by kernel_rfl)) q q ?_
 refine zs (t := ty2) (args := [.tmp 60]) (xs := ([(p3, 0)] : LP)) cv (BltL.cons (Blt.pair (Blt.int) (Blt.int)) q (BltL.nil)) u45 j49 q q q q q q (fun dZ d0 cw => ?_)
 have cx := cw.p1
 obtain ⟨cy, cz, h⟩ := D h
 refine zw cx hS1 cz u45 j49 q q q q q q (fun aL d1 cA => ?_)
 refine qF uf47 fi47_1 nz45 q q q ?_
 have aW := cA.p2
 refine WL_store_bx aW q il45 (aW.ctx.sliceCells hS1) (aW.ctx.sliceOne hS1) q q q (fun d2 cB => ?_)
 refine B <| C <| Z ?_
 refine zs (t := tI) (args := []) (xs := ([] : List Int)) cB (BltL.nil) u24 j3 q q q q q q (fun d3 d4 a8 => ?_)
 refine qF uf47 fi47_2 nz24 q q q ?_
 have cC := R a8.p1
 refine l u24 q cC q q q q ?_
 obtain ⟨d5, cD, h⟩ := D h
 refine zw a8 hR5 cD u24 j3 q q q q q q (fun d6 d7 cE => ?_)
 refine qM q q q ?_
 refine zs (t := tI) (args := [.tmp 68]) (xs := ([p2] : List Int)) cE (BltL.cons (Blt.int) q (BltL.nil)) u24 j3 q q q q q q (fun d8 d9 cF => ?_)
 have cG := cF.p1
 obtain ⟨ea, cH, h⟩ := D h
 refine zw cG hS1 cH u24 j3 q q q q q q (fun aX eb cI => ?_)
 refine qF uf47 fi47_2 nz24 q q q ?_
 have aY := cI.p2
 refine WL_store_bx aY q il24 (aY.ctx.sliceCells hS1) (aY.ctx.sliceOne hS1) q q q (fun ec aZ => ?_)
 refine B <| C <| C <| zk <| qF uf47 fi47_1 nz45 q q q ?_
 have cJ := R aZ.p0
 refine l u45 q cJ q q q q ?_
 obtain ⟨cK, cL, h⟩ := D h
 refine QC q q c53 (fun w' hb => w_spec_TicketValid w' _ aL cy hS3 cK cL (aZ.grow hb).ctx) (by rfl) <| A q (qt_not q) q q <| QL_nil fun a ha ed cM => ?_
 have aw := aZ.grow cM
 refine X (S ?_ ha)
 refine Y q (fun a0 => ?_) (fun a0 => ?_)
 ·have h := if_t a0 h
  refine C <| Z ?_
  have cN := R aw.p7
  refine zm (cs := [A0, A1, A2, iV B3, A4]) us27 uo27 il27 cN q q q ?_
  change XL _ _ _ _ _ ((76, .agg #[A0, A1, A2, iV B3, A4]) :: _) _
  have aC := aw.p12
  refine zl (cs' := [A0, A1, A2, iV B3, A4]) aC q il27 q (T (aC.ctx.sliceOne hS9) (T (aC.ctx.sliceOne hS10) (T (aC.ctx.sliceOne hS11) (T q (T (aC.ctx.sliceOne hS12) q))))) q q q (fun ee a9 => ?_)
  refine qA q q q <| B <| W fun a ha => ?_
  obtain rfl := L h
  have cO := R a9.p0
  have cP := a9.q0.q0.q0.q0.q0.q0.q0.q0.q0.p3.p3.p3.p3
  exact m (retct q ha q q (run_loadVar_bx (cs := [A0, A1, A2, iV B3, A4]) us27 uo27 il27 cO) ⟨A0, A1, A2, A4, q, cP⟩)
 have h := if_f a0 h
 refine y <| rR <| qF uf27 fi27_4 nz25 q q q ?_
 have cQ := R aw.p7
 refine l u25 q cQ q q q q <| qM q q q ?_
 have cR := R aw.p0
 refine zm (cs := [iV ap.1, aL, aX]) us47 uo47 il47 cR q q q ?_
 change XL _ _ _ _ _ ((80, .agg #[iV ap.1, aL, aX]) :: _) _
 obtain ⟨ef, ba, h⟩ := D h
 refine b aw.ctx hS11 ba u25 i47 q q q q (fun eg eh ei cS => ?_)
 have cT := aw.p11
 have cU := cT.p4
 have cV := cU.freeze
 have cW := cV.p3
 have cX := cW.freeze
 have cY := cX.p2
 refine WL_storeH (fo := 0) (cs' := [iV ap.1, aL, aX]) cY ba cS (Upd.whole (Blt.pair (Blt.int) (Blt.pair (Blt.slice hO2) (Blt.slice hO1)))) q il47 q q q q (fun ej cZ => ?_)
 refine B <| C ?_
 refine WP_tail 9 (by kernel_rfl) (by kernel_rfl) (fun ek c0 => ?_)
 have ax := cZ.grow c0
 refine qF uf27 fi27_2 nz24 q q q ?_
 have c1 := R ax.p8
 refine l u24 q c1 q q q q <| qM q q q <| qF uf27 fi27_2 nz24 q q q ?_
 have c2 := R ax.p8
 refine l u24 q c2 q q q q <| qM q q q ?_
 obtain ⟨c3, bb, h⟩ := D h
 refine b ax.ctx hS11 bb u24 i3 q q q q (fun el em en c4 => ?_)
 obtain ⟨eo, c5, ep⟩ := ax.at hS11 bb c4
 refine zt (k := .i64) u3 q c5 q q q <| A q (qt_sub q q) q q <| SL_nil ?_
 obtain ⟨er, bc, h⟩ := D h
 refine b ax.ctx hS11 bc u24 i3 q q q q (fun es et eu c6 => ?_)
 have da := ax.p11
 refine WL_storeH (fo := 0) (cs' := [iV (IntKind.wrap .i64 (c3 - 1))]) da bc c6 (Upd.whole (Blt.int)) q il3 q q q q (fun ew bd => ?_)
 refine B <| C <| Z ?_
 have db := R bd.p9
 refine zm (cs := [A0, A1, A2, iV B3, A4]) us27 uo27 il27 db q q q ?_
 change XL _ _ _ _ _ ((92, .agg #[A0, A1, A2, iV B3, A4]) :: _) _
 have aD := bd.p12
 refine zl (cs' := [A0, A1, A2, iV B3, A4]) aD q il27 q (T (aD.ctx.sliceOne hS11) (T (aD.ctx.sliceOne hS12) (T (aD.ctx.sliceOne hS1) (T q (T (aD.ctx.sliceOne hS2) q))))) q q q (fun ey be => ?_)
 refine qA q q q <| B <| W fun a ha => ?_
 obtain rfl := L h
 have dc := R be.p0
 have dd := be.q0.q2.q2.q2.q2.q2.q2.q2.q2.p1.p1.p3.p3
 exact retct q ha q q (run_loadVar_bx (cs := [A0, A1, A2, iV B3, A4]) us27 uo27 il27 dc) ⟨A0, A1, A2, A4, q, dd⟩
theorem w_spec_l7Tickets (w : World) (G : List Res) (A0 : Value) (B0 : LI) (C0 : Has G ty12 A0 B0) (A1 : Value) (B1 : List Int) (C1 : Has G tI A1 B1) (A2 : Value) (B2 : List Int) (C2 : Has G tI A2 B2) (B3 : Int) (A4 : Value) (B4 : LT) (C4 : Has G ty14 A4 B4) (r : (List LP)) (h : spec_l7TicketsS B0 B1 B2 B3 B4 = some r) (H : Ctx w G) : Calls Tryz.prog 49 #[.agg #[A0, A1, A2, iV B3, A4]] w fun e w' => ∃ (v1 : Value), e = .returned (v1) ∧ Holds M0 w w' [.sl 45 ty4 v1 r] G := by
 have H : Holds M0 w w [] G := zb H
 refine zg (args := [.agg #[A0, A1, A2, iV B3, A4]]) (n := 23) Tryz.func49 q q q ?_
 unfold spec_l7TicketsS at h
 refine C <| Z ?_
 refine WL_box (cs := [A0, A1, A2, iV B3, A4]) H q q q q (fun b1 w2 H3 => ?_)
 refine qA q q q <| B <| C <| Z ?_
 refine zs (t := ty4) (args := []) (xs := ([] : List LP)) H3 (BltL.nil) u81 j45 q q q q q q (fun v5 w6 H7 => ?_)
 refine qA q q q <| B <| C <| rR <| qA q q q <| B <| g ?_
 obtain ⟨af, am, h⟩ := D h
 have an := H7.p1
 refine fun ao ag => zp (I := fun s a w2 => match s with | (s9, ah) => ∃ ad, Fr a 23 [(1, pB b1), (3, ad), (4, iV ah)] ∧ Holds M0 w w2 [.bx b1 27 [A0, A1, A2, iV B3, A4], .sl 45 ty4 ad s9] G) (O := fun o e a w2 => match o with | q0 => e = .exit 0 ∧ ∃ ai, Fr a 23 [(3, ai)] ∧ Holds M0 w w2 [.sl 45 ty4 ai q0] G) am ?_ ?_ ?_
 ·exact ⟨v5, ag.sub ⟨q, q, q, trivial⟩, an⟩
 ·clear ag
  intro s aP a ap aa aq
  obtain ⟨s9, ah⟩ := s
  obtain ⟨ad, ha, ab⟩ := aq
  refine S ?_ ha
  clear ha
  refine C <| rR <| qM q q q <| qF uf27 fi27_4 nz25 q q q ?_
  have ar := R ab.p0
  refine l u25 q ar q q q q <| za ab.ctx (t := ty14) (C4.c.c) u25 q q q <| A q (qt_lss q q) q q <| B ?_
  refine Y q (fun ae => ?_) (fun ae => ?_)
  ·have aa := if_t ae aa
   refine y <| C <| g <| Z <| qM q q q <| qF uf27 fi27_4 nz25 q q q ?_
   have au := R ab.p0
   refine l u25 q au q q q q <| qM q q q ?_
   obtain ⟨aj, ak, aa⟩ := D aa
   refine b ab.ctx (C4.c.c) ak u25 i47 q q q q (fun aQ aR aS av => ?_)
   refine qF uf47 fi47_1 nz45 q q q ?_
   obtain ⟨aT, aw, ax⟩ := ab.at (C4.c.c) ak av
   obtain ⟨aU, ay, az⟩ := AtP.snd aw
   obtain ⟨aV, aA, aB⟩ := AtP.fst ay
   refine XL_load (t := ty4) u45 q q aA q q q (fun aC aD => ?_)
   have al : Holds _ w ap [.ro ty2 aC aj.2.1, .bx b1 27 [A0, A1, A2, iV B3, A4], .sl 45 ty4 ad s9] G := ax _ _ _ _ aD (fun k h => (fun k h => (fun _ h => h) k (az k h)) k (aB k h))
   refine zs (t := ty4) (args := [.tmp 19]) (xs := ([aj.2.1] : List LP)) al (BltL.cons (Blt.slice hO0) (al.ctx.sliceList hR0) (BltL.nil)) u81 j45 q q q q q q (fun aW aX aE => ?_)
   have aF := aE.p3
   obtain ⟨aY, aG, aa⟩ := D aa
   refine zw aF hS1 aG u81 j45 q q q q q q (fun aH aZ aI => ?_)
   refine qA q q q <| WL_nil fun a ha => ?_
   refine zi (X (S ?_ ha))
   refine Z <| qM q q q <| A q (qt_add q q) q q <| qA q q q <| WL_nil fun a ha => ?_
   obtain rfl := L aa
   have aJ := aI.q1.q1.p1
   exact ⟨q, aH, ha.sub ⟨q, q, q, trivial⟩, aJ⟩
  have aa := if_f ae aa
  refine WP_exit fun a ha => ?_
  obtain rfl := L aa
  have aK := ab.q0
  exact zo (⟨exit_ne, q, ad, ha.sub ⟨q, trivial⟩, aK⟩)
 intro e ao a0 aL
 obtain ⟨a1, rfl⟩ : ∃ z, z = af := ⟨af, q⟩
 obtain ⟨rfl, aM⟩ := aL
 obtain ⟨aN, ha, aO⟩ := aM
 refine zn (X (S ?_ ha))
 refine rR <| qM q q q <| qA q q q <| B <| W fun a ha => ?_
 obtain rfl := L h
 exact ret1 q ha q ⟨aN, q, aO⟩
theorem w_spec_KitchenValid (w : World) (G : List Res) (vp0 : Value) (p0 : List LP) (hp0 : Has G ty4 vp0 p0) (r : Bool) (h : spec_KitchenValidS p0 = some r) (H : Ctx w G) : Calls Tryz.prog 85 #[vp0] w fun e w' => e = .returned (.bool r) ∧ Holds M0 w w' [] G := by
 have H : Holds M0 w w [] G := zb H
 refine zg (args := [vp0]) (n := 19) Tryz.func85 q q q ?_
 unfold spec_KitchenValidS at h
 refine rR <| qA q q q <| B <| C <| rR <| qA q q q <| B <| g ?_
 obtain ⟨o2, an, h⟩ := D h
 refine fun a4 af => zp (I := fun s a w2 => match s with | s1 => (Fr a 19 [(0, vp0), (3, iV s1)] ∧ Holds M0 w w2 [] G)) (O := fun o e a w2 => match o with | .inl _ => e = .exit 0 ∧ (Fr a 19 [(0, vp0)] ∧ Holds M0 w w2 [] G) | .inr q0 => e = .ret ∧ (Fr a 19 [(2, .bool q0)] ∧ Holds M0 w w2 [] G)) an ?_ ?_ ?_
 ·exact ⟨af.sub ⟨q, q, trivial⟩, H⟩
 ·clear af
  intro s o8 a w6 aa ao
  obtain ⟨s1, rfl⟩ : ∃ z, z = s := ⟨s, q⟩
  obtain ⟨ha, ab⟩ := ao
  refine S ?_ ha
  clear ha
  refine C <| rR <| qM q q q <| qM q q q <| za ab.ctx (t := ty4) (hp0) u81 q q q <| A q (qt_lss q q) q q <| B ?_
  refine Y q (fun ad => ?_) (fun ad => ?_)
  ·have aa := if_t ad aa
   refine y <| C <| g <| C <| zk <| qM q q q <| qM q q q ?_
   obtain ⟨ag, ah, aa⟩ := D aa
   refine b ab.ctx (hp0) ah u81 i45 q q q q (fun aD aE aF ap => ?_)
   obtain ⟨aG, aq, ar⟩ := ab.at (hp0) ah ap
   refine XL_load (t := ty4) u45 q q aq q q q (fun ai au => ?_)
   have aj : Holds _ w w6 [.ro ty2 ai ag] G := ar _ _ _ _ au (fun _ h => h)
   obtain ⟨av, aw, aa⟩ := D aa
   refine QC q q c53 (fun w' hb => w_spec_TicketValid w' _ ai ag hR0 av aw (aj.grow hb).ctx) (by rfl) <| A q (qt_not q) q q <| QL_nil fun a ha aH ax => ?_
   have ak := aj.grow ax
   refine X (S ?_ ha)
   refine Y q (fun ae => ?_) (fun ae => ?_)
   ·have aa := if_t ae aa
    refine rR <| qA q q q <| B <| W fun a ha => ?_
    obtain rfl := L aa
    have ay := ak.q0
    exact zj (m (⟨ret_ne, q, ha.sub ⟨q, trivial⟩, ay⟩))
   have aa := if_f ae aa
   refine WP_skip fun a ha => ?_
   refine zi (X (S ?_ ha))
   refine Z <| qM q q q <| A q (qt_add q q) q q <| qA q q q <| WL_nil fun a ha => ?_
   obtain rfl := L aa
   have az := ak.q0
   exact ⟨q, ha.sub ⟨q, q, trivial⟩, az⟩
  have aa := if_f ad aa
  refine WP_exit fun a ha => ?_
  obtain rfl := L aa
  exact zo (⟨exit_ne, q, ha.sub ⟨q, trivial⟩, ab⟩)
 intro e a4 aI al
 rcases o2 with o2 | o2
 ·skip
  obtain ⟨rfl, aA⟩ := al
  obtain ⟨ha, am⟩ := aA
  refine zn (X (S ?_ ha))
  refine rR <| qM q q q <| za am.ctx (t := ty4) (hp0) u81 q q q <| A q (qt_leq q q) q q <| qA q q q <| B <| W fun a ha => ?_
  obtain rfl := L h
  exact ret1 q ha q ⟨q, am⟩
 skip
 obtain ⟨aJ, rfl⟩ : ∃ z, z = o2 := ⟨o2, q⟩
 obtain ⟨rfl, aB⟩ := al
 obtain ⟨ha, aC⟩ := aB
 obtain rfl := L h
 exact zj (m (ret1 q ha q ⟨q, aC⟩))
theorem w_spec_l4Copy (w : World) (G : List Res) (vp0 : Value) (p0 : List LP) (hp0 : Has G ty4 vp0 p0) (r : (List LP)) (h : spec_l4CopyS p0 = some r) (H : Ctx w G) : Calls Tryz.prog 98 #[vp0] w fun e w' => ∃ (v1 : Value), e = .returned (v1) ∧ Holds M0 w w' [.sl 45 ty4 v1 r] G := by
 have H : Holds M0 w w [] G := zb H
 refine zg (args := [vp0]) (n := 22) Tryz.func98 q q q ?_
 unfold spec_l4CopyS at h
 refine rR <| qA q q q <| B <| C <| Z ?_
 refine zs (t := ty4) (args := []) (xs := ([] : List LP)) H (BltL.nil) u81 j45 q q q q q q (fun v1 w2 H3 => ?_)
 refine qA q q q <| B <| C <| rR <| qA q q q <| B <| g ?_
 obtain ⟨o7, ak, h⟩ := D h
 refine fun a9 af => zp (I := fun s a w2 => match s with | (s5, s6) => ∃ ab, Fr a 22 [(0, vp0), (3, ab), (4, iV s6)] ∧ Holds M0 w w2 [.sl 45 ty4 ab s5] G) (O := fun o e a w2 => match o with | q0 => e = .exit 0 ∧ ∃ ag, Fr a 22 [(3, ag)] ∧ Holds M0 w w2 [.sl 45 ty4 ag q0] G) ak ?_ ?_ ?_
 ·exact ⟨v1, af.sub ⟨q, q, q, trivial⟩, H3⟩
 ·clear af
  intro s aL a aM aa al
  obtain ⟨s5, s6⟩ := s
  obtain ⟨ab, ha, ad⟩ := al
  refine S ?_ ha
  clear ha
  refine C <| rR <| qM q q q <| qM q q q <| za ad.ctx (t := ty4) (hp0.c) u81 q q q <| A q (qt_lss q q) q q <| B ?_
  refine Y q (fun ae => ?_) (fun ae => ?_)
  ·have aa := if_t ae aa
   refine y <| C <| g <| Z <| qM q q q ?_
   refine zs (t := ty2) (args := []) (xs := ([] : LP)) ad (BltL.nil) u45 j49 q q q q q q (fun am an ah => ?_)
   refine qM q q q <| qM q q q ?_
   obtain ⟨ao, ai, aa⟩ := D aa
   refine b ah.ctx (hp0.c.c) ai u81 i45 q q q q (fun aN aO aP ap => ?_)
   obtain ⟨aQ, aq, ar⟩ := ah.at (hp0.c.c) ai ap
   refine XL_load (t := ty4) u45 q q aq q q q (fun au av => ?_)
   have aw : Holds _ w an [.ro ty2 au ao, .sl 49 ty2 am ([]), .sl 45 ty4 ab s5] G := ar _ _ _ _ av (fun _ h => h)
   have ax := aw.p1
   obtain ⟨ay, az, aa⟩ := D aa
   refine zw ax hR1 az u45 j49 q q q q q q (fun aR aS aA => ?_)
   have aj := aA.freeze
   refine zs (t := ty4) (args := [.tmp 18]) (xs := ([ay] : List LP)) aj (BltL.cons (Blt.slice hO0) (aj.ctx.sliceList hR0) (BltL.nil)) u81 j45 q q q q q q (fun aT aU aB => ?_)
   have aC := aB.p3
   obtain ⟨aV, aD, aa⟩ := D aa
   refine zw aC hS1 aD u81 j45 q q q q q q (fun aE aW aF => ?_)
   refine qA q q q <| WL_nil fun a ha => ?_
   refine zi (X (S ?_ ha))
   refine Z <| qM q q q <| A q (qt_add q q) q q <| qA q q q <| WL_nil fun a ha => ?_
   obtain rfl := L aa
   have aG := aF.q1.q1.q1
   exact ⟨q, aE, ha.sub ⟨q, q, q, trivial⟩, aG⟩
  have aa := if_f ae aa
  refine WP_exit fun a ha => ?_
  obtain rfl := L aa
  exact zo (⟨exit_ne, q, ab, ha.sub ⟨q, trivial⟩, ad⟩)
 intro e a9 aX aH
 obtain ⟨aY, rfl⟩ : ∃ z, z = o7 := ⟨o7, q⟩
 obtain ⟨rfl, aI⟩ := aH
 obtain ⟨aJ, ha, aK⟩ := aI
 refine zn (X (S ?_ ha))
 refine rR <| qM q q q <| qA q q q <| B <| W fun a ha => ?_
 obtain rfl := L h
 exact ret1 q ha q ⟨aJ, q, aK⟩
theorem w_spec_l4Next (w : World) (G : List Res) (p0 : Int) (p1 : Int) (r : Int) (h : spec_l4NextS p0 p1 = some r) (H : Ctx w G) : Calls Tryz.prog 111 #[iV p0, iV p1] w fun e w' => e = .returned (iV r) ∧ Holds M0 w w' [] G := by
 have H : Holds M0 w w [] G := zb H
 refine zg (args := [iV p0, iV p1]) (n := 33) Tryz.func111 q q q ?_
 unfold spec_l4NextS at h
 refine rR <| qA q q q <| B <| C <| g <| rR <| qM q q q <| A q (qt_eql q q) q q ?_
 refine qM q q q ?_
 refine zh 3 11 (.bool ((p1 == 0) && (p0 == 0))) ?_ (fun md hmd hk => ?_)
 rotate_left
 ·obtain ⟨Q, rfl⟩ := Md.seq_of hmd
  rcases btf (p1 == 0) with aa | aa
  ·skip
   refine qM (J q aa) q q <| A (J q aa) (qt_eql q q) q q <| A q (ze q aa q) q q ?_
   exact hk _ (p (by rw [aa]; rfl) (cfn 2 q (u)))
  skip
  refine qS q aa q q <| qS q aa q q <| A q (zf q aa q) q q ?_
  exact hk _ (p (by rw [aa]; rfl) (cfn 2 q (u)))
 refine qA q q q <| B ?_
 refine Y q (fun af => ?_) (fun af => ?_)
 ·have h := if_t af h
  refine rR <| qA q q q <| B <| W fun a ha => ?_
  obtain rfl := L h
  exact zj (m (ret1 q ha q ⟨q, H⟩))
 have h := if_f af h
 refine rR <| qM q q q <| A q (qt_eql q q) q q <| qM q q q ?_
 refine zh 3 18 (.bool ((p1 == 1) && (p0 == 1))) ?_ (fun md hmd hk => ?_)
 rotate_left
 ·obtain ⟨Q, rfl⟩ := Md.seq_of hmd
  rcases btf (p1 == 1) with ab | ab
  ·skip
   refine qM (J q ab) q q <| A (J q ab) (qt_eql q q) q q <| A q (ze q ab q) q q ?_
   exact hk _ (p (by rw [ab]; rfl) (cfn 2 q (u)))
  skip
  refine qS q ab q q <| qS q ab q q <| A q (zf q ab q) q q ?_
  exact hk _ (p (by rw [ab]; rfl) (cfn 2 q (u)))
 refine qA q q q <| B ?_
 refine Y q (fun ag => ?_) (fun ag => ?_)
 ·have h := if_t ag h
  refine rR <| qA q q q <| B <| W fun a ha => ?_
  obtain rfl := L h
  exact zj (m (ret1 q ha q ⟨q, H⟩))
 have h := if_f ag h
 refine rR <| qM q q q <| A q (qt_eql q q) q q <| qM q q q ?_
 refine zh 3 25 (.bool ((p1 == 2) && (p0 == 2))) ?_ (fun md hmd hk => ?_)
 rotate_left
 ·obtain ⟨Q, rfl⟩ := Md.seq_of hmd
  rcases btf (p1 == 2) with ad | ad
  ·skip
   refine qM (J q ad) q q <| A (J q ad) (qt_eql q q) q q <| A q (ze q ad q) q q ?_
   exact hk _ (p (by rw [ad]; rfl) (cfn 2 q (u)))
  skip
  refine qS q ad q q <| qS q ad q q <| A q (zf q ad q) q q ?_
  exact hk _ (p (by rw [ad]; rfl) (cfn 2 q (u)))
 refine qA q q q <| B ?_
 refine Y q (fun ah => ?_) (fun ah => ?_)
 ·have h := if_t ah h
  refine rR <| qA q q q <| B <| W fun a ha => ?_
  obtain rfl := L h
  exact zj (m (ret1 q ha q ⟨q, H⟩))
 have h := if_f ah h
 refine rR <| qM q q q <| A q (qt_eql q q) q q <| qM q q q ?_
 refine zh 3 32 (.bool ((p1 == 3) && (decide (p0 < 3)))) ?_ (fun md hmd hk => ?_)
 rotate_left
 ·obtain ⟨Q, rfl⟩ := Md.seq_of hmd
  rcases btf (p1 == 3) with ae | ae
  ·skip
   refine qM (J q ae) q q <| A (J q ae) (qt_lss q q) q q <| A q (ze q ae q) q q ?_
   exact hk _ (p (by rw [ae]; rfl) (cfn 2 q (u)))
  skip
  refine qS q ae q q <| qS q ae q q <| A q (zf q ae q) q q ?_
  exact hk _ (p (by rw [ae]; rfl) (cfn 2 q (u)))
 refine qA q q q <| B ?_
 refine Y q (fun ai => ?_) (fun ai => ?_)
 ·have h := if_t ai h
  refine rR <| qA q q q <| B <| W fun a ha => ?_
  obtain rfl := L h
  exact zj (m (ret1 q ha q ⟨q, H⟩))
 have h := if_f ai h
 refine WP_skip fun a ha => ?_
 refine zi (X (S ?_ ha))
 refine rR <| qA q q q <| B <| W fun a ha => ?_
 obtain rfl := L h
 exact ret1 q ha q ⟨q, H⟩
theorem w_spec_TicketDo (w : World) (G : List Res) (vp0 : Value) (p0 : LP) (hp0 : Has G ty2 vp0 p0) (p1 : Int) (p2 : Int) (r : LP × Bool) (h : spec_TicketDoS p0 p1 p2 = some r) (H : Ctx w G) : Calls Tryz.prog 99 #[vp0, iV p1, iV p2] w fun e w' => ∃ (v1 : Value), e = .returned (.tuple #[v1, .bool r.2]) ∧ Holds M0 w w' [.sl 49 ty2 v1 r.1] G := by
 have H : Holds M0 w w [] G := zb H
 refine zg (args := [vp0, iV p1, iV p2]) (n := 46) Tryz.func99 q q q ?_
 unfold spec_TicketDoS at h
 refine rR <| qA q q q <| qA q q q <| B <| C <| C <| zk <| qM q q q ?_
 obtain ⟨x1, ao, h⟩ := D h
 refine QC q q c53 (fun w' hb => w_spec_TicketValid w' G vp0 p0 (hp0) x1 ao (H.grow hb).ctx) (by rfl) <| A q (qt_not q) q q <| QL_nil fun a ha w3 ap => ?_
 have H5 := H.grow ap
 refine X (S ?_ ha)
 refine Y q (fun ad => ?_) (fun ad => ?_)
 ·have h := if_t ad h
  refine C <| Z ?_
  refine zs (t := ty2) (args := []) (xs := ([] : LP)) H5 (BltL.nil) u45 j49 q q q q q q (fun v7 w8 H9 => ?_)
  refine qA q q q <| qA q q q <| B <| W fun a ha => ?_
  obtain rfl := L h
  exact m (ret2 q ha q q ⟨v7, q, H9⟩)
 have h := if_f ad h
 refine y <| C <| Z ?_
 refine zs (t := ty2) (args := []) (xs := ([] : LP)) H5 (BltL.nil) u45 j49 q q q q q q (fun aO aP aq => ?_)
 refine qM q q q ?_
 obtain ⟨ar, au, h⟩ := D h
 refine zw aq (hp0.c) au u45 j49 q q q q q q (fun ab aQ ae => ?_)
 refine qA q q q <| B <| C <| C <| zk <| qM q q q <| qM q q q <| za ae.ctx (t := ty2) (hp0.c) u45 q q q <| A q (qt_sub q q) q q ?_
 obtain ⟨av, aw, h⟩ := D h
 refine QC q q c52 (fun w' hb => w_spec_l1In w' _ p1 0 (IntKind.wrap .i64 ((List.length p0 : Int) - 1)) av aw (ae.grow hb).ctx) (by rfl) <| A q (qt_not q) q q <| QL_nil fun a ha aR ax => ?_
 have aa := ae.grow ax
 refine X (S ?_ ha)
 refine Y q (fun af => ?_) (fun af => ?_)
 ·have h := if_t af h
  refine rR <| qM q q q <| qA q q q <| qA q q q <| B <| W fun a ha => ?_
  obtain rfl := L h
  exact m (ret2 q ha q q ⟨ab, q, aa⟩)
 have h := if_f af h
 refine y <| C <| zk <| qM q q q <| qM q q q ?_
 obtain ⟨ay, ak, h⟩ := D h
 refine b aa.ctx (hp0.c) ak u45 i49 q q q q (fun aS aT aU az => ?_)
 refine qF uf49 fi49_1 nz3 q q q ?_
 obtain ⟨aV, aA, aW⟩ := aa.at (hp0.c) ak az
 obtain ⟨aX, aB, aY⟩ := AtP.snd aA
 refine zt (k := .i64) u3 q aB q q q <| qM q q q ?_
 obtain ⟨ag, aC, h⟩ := D h
 refine QC q q c111 (fun w' hb => w_spec_l4Next w' _ ay.2 p2 ag aC (aa.grow hb).ctx) (by rfl) <| qA q q q <| QL_nil fun a ha aZ aD => ?_
 have ah := aa.grow aD
 refine X (S ?_ ha)
 refine C <| rR <| qM q q q <| A q (qt_lss q q) q q <| B ?_
 refine Y q (fun ai => ?_) (fun ai => ?_)
 ·have h := if_t ai h
  refine rR <| qM q q q <| qA q q q <| qA q q q <| B <| W fun a ha => ?_
  obtain rfl := L h
  exact m (ret2 q ha q q ⟨ab, q, ah⟩)
 have h := if_f ai h
 refine y <| rR <| qM q q q <| qM q q q <| qM q q q ?_
 obtain ⟨aE, al, h⟩ := D h
 refine b ah.ctx hS0 al u45 i49 q q q q (fun a0 a1 a2 aF => ?_)
 refine qF uf49 fi49_1 nz3 q q q ?_
 refine WL_storeH (fo := 1) (cs' := [iV ag]) ah al aF (Upd.snd (Upd.whole (Blt.int))) q il3 q q q q (fun a3 am => ?_)
 refine B <| C <| C <| zk <| qM q q q ?_
 obtain ⟨aG, aH, h⟩ := D h
 refine QC q q c53 (fun w' hb => w_spec_TicketValid w' _ ab (List.set ar (Int.toNat p1) (aE.1, ag)) hS0 aG aH (am.grow hb).ctx) (by rfl) <| A q (qt_not q) q q <| QL_nil fun a ha a4 aI => ?_
 have an := am.grow aI
 refine X (S ?_ ha)
 refine Y q (fun aj => ?_) (fun aj => ?_)
 ·have h := if_t aj h
  refine C <| Z ?_
  refine zs (t := ty2) (args := []) (xs := ([] : LP)) an (BltL.nil) u45 j49 q q q q q q (fun a5 a6 aJ => ?_)
  refine qM q q q ?_
  obtain ⟨a7, aK, h⟩ := D h
  refine zw aJ (hp0.c.c) aK u45 j49 q q q q q q (fun aL a8 aM => ?_)
  refine qA q q q <| qA q q q <| B <| W fun a ha => ?_
  obtain rfl := L h
  have aN := aM.q1
  exact m (ret2 q ha q q ⟨aL, q, aN⟩)
 have h := if_f aj h
 refine y <| rR <| qM q q q <| qA q q q <| qA q q q <| B <| W fun a ha => ?_
 obtain rfl := L h
 exact ret2 q ha q q ⟨ab, q, an⟩
theorem w_spec_TicketMay (w : World) (G : List Res) (vp0 : Value) (p0 : LP) (hp0 : Has G ty2 vp0 p0) (r : (List Int)) (h : spec_TicketMayS p0 = some r) (H : Ctx w G) : Calls Tryz.prog 112 #[vp0] w fun e w' => ∃ (v1 : Value), e = .returned (v1) ∧ Holds M0 w w' [.sl 3 tI v1 r] G := by
 have H : Holds M0 w w [] G := zb H
 refine zg (args := [vp0]) (n := 26) Tryz.func112 q q q ?_
 unfold spec_TicketMayS at h
 refine rR <| qA q q q <| B <| C <| Z ?_
 refine zs (t := tI) (args := []) (xs := ([] : List Int)) H (BltL.nil) u24 j3 q q q q q q (fun v1 w2 H3 => ?_)
 refine qA q q q <| B <| C <| rR <| qA q q q <| B <| g ?_
 obtain ⟨o7, aj, h⟩ := D h
 refine fun a9 ag => zp (I := fun s a w2 => match s with | (s5, s6) => ∃ ab, Fr a 26 [(0, vp0), (3, ab), (4, iV s6)] ∧ Holds M0 w w2 [.sl 3 tI ab s5] G) (O := fun o e a w2 => match o with | q0 => e = .exit 0 ∧ ∃ ah, Fr a 26 [(3, ah)] ∧ Holds M0 w w2 [.sl 3 tI ah q0] G) aj ?_ ?_ ?_
 ·exact ⟨v1, ag.sub ⟨q, q, q, trivial⟩, H3⟩
 ·clear ag
  intro s aC a ak aa al
  obtain ⟨s5, s6⟩ := s
  obtain ⟨ab, ha, ad⟩ := al
  refine S ?_ ha
  clear ha
  refine C <| rR <| qM q q q <| qM q q q <| za ad.ctx (t := ty2) (hp0.c) u45 q q q <| A q (qt_lss q q) q q <| B ?_
  refine Y q (fun ae => ?_) (fun ae => ?_)
  ·have aa := if_t ae aa
   refine y <| C <| g <| rR <| qM q q q <| qM q q q ?_
   obtain ⟨am, an, aa⟩ := D aa
   refine zd q q c99 (w_spec_TicketDo ak _ vp0 p0 (hp0.c) s6 0 am an ad.ctx) (by rfl) ?_
   rintro _ aD ⟨aE, rfl, ao⟩; refine ⟨_, q, ?_⟩
   have ai := ad.cN1 [] ao
   refine qM q q q <| A q (zv q q) q q <| A q (zv q q) q q <| qA q q q <| qA q q q <| rN <| qM q q q <| B ?_
   refine Y q (fun af => ?_) (fun af => ?_)
   ·have aa := if_t af aa
    refine Z <| qM q q q <| qM q q q ?_
    refine zs (t := tI) (args := [.tmp 22]) (xs := ([s6] : List Int)) ai (BltL.cons (Blt.int) q (BltL.nil)) u24 j3 q q q q q q (fun aF aG ap => ?_)
    have aq := ap.p2
    obtain ⟨aH, ar, aa⟩ := D aa
    refine zw aq hS1 ar u24 j3 q q q q q q (fun au aI av => ?_)
    refine qA q q q <| WL_nil fun a ha => ?_
    refine zi (X (S ?_ ha))
    refine Z <| qM q q q <| A q (qt_add q q) q q <| qA q q q <| WL_nil fun a ha => ?_
    obtain rfl := L aa
    have aw := av.q1.q1
    exact ⟨q, au, ha.sub ⟨q, q, q, trivial⟩, aw⟩
   have aa := if_f af aa
   refine WP_skip fun a ha => ?_
   refine zi (X (S ?_ ha))
   refine Z <| qM q q q <| A q (qt_add q q) q q <| qA q q q <| WL_nil fun a ha => ?_
   obtain rfl := L aa
   have ax := ai.q0
   exact ⟨q, ab, ha.sub ⟨q, q, q, trivial⟩, ax⟩
  have aa := if_f ae aa
  refine WP_exit fun a ha => ?_
  obtain rfl := L aa
  exact zo (⟨exit_ne, q, ab, ha.sub ⟨q, trivial⟩, ad⟩)
 intro e a9 aJ ay
 obtain ⟨aK, rfl⟩ : ∃ z, z = o7 := ⟨o7, q⟩
 obtain ⟨rfl, az⟩ := ay
 obtain ⟨aA, ha, aB⟩ := az
 refine zn (X (S ?_ ha))
 refine rR <| qM q q q <| qA q q q <| B <| W fun a ha => ?_
 obtain rfl := L h
 exact ret1 q ha q ⟨aA, q, aB⟩
end Go.Proofs.YtpabogkcmbkffaaGreatDoor
