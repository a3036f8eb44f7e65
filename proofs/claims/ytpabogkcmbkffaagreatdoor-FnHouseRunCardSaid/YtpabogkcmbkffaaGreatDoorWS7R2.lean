/- The walks: each Go function computes its shallow function. Printed by a program. -/
import Derived.Test.YtpabogkcmbkffaaGreatDoorWS7R1
set_option linter.unusedVariables false
set_option maxRecDepth 10000
set_option maxHeartbeats 8000000
namespace Go.Proofs.YtpabogkcmbkffaaGreatDoor
open Go Go.RowKit
theorem w_spec_l7Copy {w : World} {G : List Res} {A0 : Value} {B0 : LI} (C0 : Has G ty12 A0 B0) {A1 : Value} {B1 : List Int} (C1 : Has G tI A1 B1) {A2 : Value} {B2 : List Int} (C2 : Has G tI A2 B2) {B3 : Int} {A4 : Value} {B4 : LT} (C4 : Has G ty14 A4 B4) {r : (LI × (List Int) × (List Int) × Int × LT)} (h : spec_l7CopyS B0 B1 B2 B3 B4 = some r) (H : Ctx w G) : Calls Tryz.prog 33 #[.agg #[A0, A1, A2, iV B3, A4]] w fun e w' => ∃ (v1 : Value) (v2 : Value) (v3 : Value) (v4 : Value), e = .returned (.agg #[v1, v2, v3, iV r.2.2.2.1, v4]) ∧ Holds M0 w w' [.sl 55 ty12 v1 r.1, .sl 3 tI v2 r.2.1, .sl 3 tI v3 r.2.2.1, .sl 47 ty14 v4 r.2.2.2.2] G := by
 refine E0 (n := 82) H Tryz.func33 q q q fun H => ?_
 unfold spec_l7CopyS at h
 refine C <| Z <| WL_box (cs := [A0, A1, A2, iV B3, A4]) H q q q q fun b1 w2 H3 => zq (cs := [nS, nS, nS, iV 0, nS]) H3 z27 q q q fun b5 w6 H7 => B <| C <| Z <| zs (t := ty12) (args := []) (xs := ([] : LI)) H7 (BltL.nil) u23 j55 q q q q q q fun v9 cF bk => qA q q q <| B <| C <| rR <| qA q q q <| B <| g <| O h fun av bl h => have bm := bk.p1.p2; ?_
 refine fun cG bn => zp (I := fun s a w2 => match s with | (aA, aV) => ∃ aw, Fr a 82 [(1, pB b1), (2, pB b5), (3, aw), (4, iV aV)] ∧ Holds M0 w w2 [.bx b1 27 [A0, A1, A2, iV B3, A4], .bx b5 27 [nS, nS, nS, iV 0, nS], .sl 55 ty12 aw aA] G) (O := fun o e a w2 => match o with | q0 => e = .exit 0 ∧ ∃ aI, Fr a 82 [(1, pB b1), (2, pB b5), (3, aI)] ∧ Holds M0 w w2 [.bx b1 27 [A0, A1, A2, iV B3, A4], .bx b5 27 [nS, nS, nS, iV 0, nS], .sl 55 ty12 aI q0] G) bl ?_ ?_ ?_
 ·exact ⟨v9, bn.s, bm⟩
 ·rintro ⟨aA, aV⟩ _ a cH al ⟨aw, ha, aM⟩
  refine S1 ha <| C <| rR <| qM q q q <| qF uf27 fi27_0 nz23 q q q <| l u23 q (R aM.p0) q q q q <| za aM.ctx (t := ty12) (C0.c.c.c) u23 q q q <| A q (qt_lss q q) q q <| B ?_
  refine Yh q al (fun al => ?_) (fun al => ?_)
  ·refine y <| C <| g <| O al fun aW aN al => O al fun bo aO al => O al fun bp bq al => O al fun aX aP al => O al fun br bs al => ?_
   refine WP_mid (Mid := fun a w2 => ∃ aQ, Fr a 82 [(1, pB b1), (2, pB b5), (3, aQ), (4, iV aV)] ∧ Holds M0 w w2 [.bx b1 27 [A0, A1, A2, iV B3, A4], .bx b5 27 [nS, nS, nS, iV 0, nS], .sl 55 ty12 aQ br] G) ?_ ?_
   ·refine WP_ordersT (fun w1 w2 => Chg (([.sl 55 ty12 aw aA] : List Res).flatMap Res.own) w1 w2) 24 (by kernel_rfl) fun aJ bt => have bu := aM.grow bt; have a8 := bu.p2; ?_
    have aB : Ctx aJ ([.sl 55 ty12 aw aA] ++ ([.bx b1 27 [A0, A1, A2, iV B3, A4], .bx b5 27 [nS, nS, nS, iV 0, nS]] ++ G)) := a8.ctx
    have af : Holds _ aJ aJ [.sl 55 ty12 aw aA] ([.bx b1 27 [A0, A1, A2, iV B3, A4], .bx b5 27 [nS, nS, nS, iV 0, nS]] ++ G) := zb (Rs := [.sl 55 ty12 aw aA]) aB
    refine XQ (i := 0) q (by kernel_rfl) q af.chg q (fun _ => qt_move q) q q <| XQ (i := 1) q (by kernel_rfl) q af.chg q (fun _ => qt_fieldAddr uf27 fi27_0 nz23 q) q q <| have bv := HasB.bx (HasB.c (HasB.hd)) af.ctx; XT (i := 2) q (by kernel_rfl) q af.chg q (qs_cell u23 q q (bv.cell (i := 0) q) af.chg (Ctx.outB aB (HasB.hd))) q q <| XQ (i := 3) q (by kernel_rfl) q af.chg q (fun _ => qt_move q) q q ?_
    obtain ⟨cI, cJ, cK, aY⟩ := Ctx.isAt af.ctx (C0.c.c.c) aN
    refine XT (i := 4) q (by kernel_rfl) q af.chg q (qs_index aN aY u23 i55 q q) q q <| XQ (i := 5) q (by kernel_rfl) q af.chg q (fun _ => qt_fieldAddr uf55 fi55_0 nz3 q) q q ?_
    obtain ⟨cL, bw, cM⟩ := af.at (C0.c.c.c) aN aY
    obtain ⟨cN, bz, cO⟩ := AtP.fst bw
    refine XT (i := 6) q (by kernel_rfl) q af.chg q (qs_cell u3 q q (AtP.cInt bz) af.chg (Ctx.outHas aB (C0.c.c) aN aY)) q q <| XQ (i := 8) q (by kernel_rfl) q af.chg q (fun _ => qt_fieldAddr uf27 fi27_0 nz23 q) q q <| have bA := HasB.bx (HasB.c (HasB.hd)) af.ctx; XT (i := 9) q (by kernel_rfl) q af.chg q (qs_cell u23 q q (bA.cell (i := 0) q) af.chg (Ctx.outB aB (HasB.hd))) q q <| XQ (i := 10) q (by kernel_rfl) q af.chg q (fun _ => qt_move q) q q ?_
    obtain ⟨cP, cQ, cR, aZ⟩ := Ctx.isAt af.ctx (C0.c.c.c) aO
    refine XT (i := 11) q (by kernel_rfl) q af.chg q (qs_index aO aZ u23 i55 q q) q q <| XQ (i := 12) q (by kernel_rfl) q af.chg q (fun _ => qt_fieldAddr uf55 fi55_1 nz53 q) q q ?_
    obtain ⟨cS, bB, bC⟩ := af.at (C0.c.c.c) aO aZ
    obtain ⟨cT, bD, bE⟩ := AtP.snd bB
    obtain ⟨cU, bF, bG⟩ := AtP.fst bD
    obtain ⟨bH, bI, bJ⟩ := AtP.one (t := ty4) bF q
    refine XT (i := 13) q (by kernel_rfl) q af.chg q (qs_cell u53 q q bI af.chg (Ctx.outHas aB (C0.c.c) aO aZ)) q q ?_
    have ap : Holds _ aJ aJ [.ro ty2 bH bo.2.1, .sl 55 ty12 aw aA] ([.bx b1 27 [A0, A1, A2, iV B3, A4], .bx b5 27 [nS, nS, nS, iV 0, nS]] ++ G) := bC _ _ _ _ bJ (fun k h => (fun k h => (fun _ h => h) k (bE k h)) k (bG k h))
    refine XQ (i := 15) q (by kernel_rfl) q ap.chg q (fun _ => qt_fieldAddr uf27 fi27_0 nz23 q) q q <| have bK := HasB.bx (HasB.c (HasB.c (HasB.hd))) ap.ctx; XT (i := 16) q (by kernel_rfl) q ap.chg q (qs_cell u23 q q (bK.cell (i := 0) q) ap.chg (Ctx.outB aB (HasB.hd))) q q <| XQ (i := 17) q (by kernel_rfl) q ap.chg q (fun _ => qt_move q) q q ?_
    obtain ⟨cV, cW, cX, a0⟩ := Ctx.isAt ap.ctx (C0.c.c.c.c) aP
    refine XT (i := 18) q (by kernel_rfl) q ap.chg q (qs_index aP a0 u23 i55 q q) q q <| XQ (i := 19) q (by kernel_rfl) q ap.chg q (fun _ => qt_fieldAddr uf55 fi55_2 nz3 q) q q ?_
    obtain ⟨cY, bL, cZ⟩ := ap.at (C0.c.c.c.c) aP a0
    obtain ⟨c0, bM, c1⟩ := AtP.snd bL
    obtain ⟨c2, bN, c3⟩ := AtP.snd bM
    refine XT (i := 20) q (by kernel_rfl) q ap.chg q (qs_cell u3 q q (AtP.cInt bN) ap.chg (Ctx.outHas aB (C0.c.c) aP a0)) q q <| X1 7 (by kernel_rfl) q <| zs (t := ty2) (args := []) (xs := ([] : LP)) ap (BltL.nil) u53 j57 q q q q q q fun c4 c5 a9 => XN a9.chg <| X1 14 (by kernel_rfl) q <| zw a9 hR1 bq u53 j57 q q q q q q fun ba c6 aR => XN aR.chg <| XQ (i := 21) q (by kernel_rfl) q aR.chg q (fun _ => qt_build (args := [(0, .tmp 22), (1, .tmp 30), (2, .tmp 36)]) (css := [#[iV aW.1], #[ba], #[iV aX.2.2]]) (cells := #[iV aW.1, ba, iV aX.2.2]) q ⟨q, (aR.ctx.sliceCells hS0), q, trivial⟩ (by kernel_rfl)) q q <| X1 22 (by kernel_rfl) q <| have bO := aR.freeze; zs (t := ty12) (args := [.tmp 37]) (xs := ([(aW.1, bp, aX.2.2)] : LI)) bO (BltL.cons (Blt.pair (Blt.int) (Blt.pair (Blt.slice hO0) (Blt.int))) q (BltL.nil)) u23 j55 q q q q q q fun da db bb => XN bb.chg <| X1 23 (by kernel_rfl) q <| have bP := bb.p3; ?_
    exact zw bP hS1 bs u23 j55 q q q q q q fun bQ dc bc => XN bc.chg <| have bR := a8.cN4 [_] bc; X1 24 (by kernel_rfl) q <| qA q q q <| XE q <| XC_done (by kernel_rfl) fun a ha => have bS := bR.q1.q1.q1.p2.p2; ⟨bQ, ha.s, bS⟩
   rintro a dd ⟨aQ, ha, bT⟩
   refine zi <| X <| S1 ha <| Z <| qM q q q <| A q (qt_add q q) q q <| qA q q q <| WL_nil fun a ha => ?_
   cases al
   have bU := bT.p2.p2.p2
   exact ⟨q, aQ, ha.s, bU⟩
  refine WP_exit fun a ha => ?_
  cases al
  have bV := aM.p2.p2.p2
  exact zo (⟨exit_ne, q, aw, ha.s, bV⟩)
 rintro _ a de ⟨rfl, ad, ha, bW⟩
 refine zn <| X <| S1 ha <| C <| O h fun aC au h => O h fun aD ax h => ?_
 refine WP_join (M := fun a w2 => ∃ aq ag ah aj aS, Fr a 82 [(1, pB b1), (2, pB b5), (5, pB aq)] ∧ Holds M0 w w2 [.bx b1 27 [A0, A1, A2, iV B3, A4], .bx b5 27 [nS, nS, nS, iV 0, nS], .bx aq 27 [ag, ah, aj, iV B3, aS], .sl 55 ty12 ag av, .sl 3 tI ah aC, .sl 3 tI aj aD, .sl 47 ty14 aS ([])] G) ?_ ?_
 ·refine WP_ordersT (fun w1 w2 => Chg M0 w1 w2) 14 (by kernel_rfl) fun a1 bX => have am := bW.grow bX; ?_
  have aT : Ctx a1 ([] ++ ([.bx b1 27 [A0, A1, A2, iV B3, A4], .bx b5 27 [nS, nS, nS, iV 0, nS], .sl 55 ty12 ad av] ++ G)) := am.ctx
  have bY : Holds _ a1 a1 [] ([.bx b1 27 [A0, A1, A2, iV B3, A4], .bx b5 27 [nS, nS, nS, iV 0, nS], .sl 55 ty12 ad av] ++ G) := zb (Rs := []) aT
  refine have Hc := bY; XM0 [([], [], true), ([], [], true), ([], [], true), ([2], [2], true), ([1, 3], [1, 3], true), ([], [], true), ([], [], true), ([6], [6], true), ([5, 7, 4], [5, 7], true), ([], [], true), ([9], [9], true), ([], [], true), ([0, 4, 8, 10, 11], [0, 4, 8, 10, 11], true), ([], [], true), ([13, 12, 8, 0, 1, 2, 3, 4, 5, 6, 7, 8, 9, 10, 11, 12, 13], [12, 13], false)] (by kernel_rfl) <| MQ 0 q q q Hc.chg q (fun _ => qt_move q) q q <| MQ 2 q q q Hc.chg q (fun _ => qt_fieldAddr uf27 fi27_1 nz24 q) q q <| have bZ := HasB.bx (HasB.hd) Hc.ctx; MT 3 q q q Hc.chg q (qs_cell u24 q q (bZ.cell (i := 1) q) Hc.chg (Ctx.outB aT (HasB.hd))) q q <| MQ 6 q q q Hc.chg q (fun _ => qt_fieldAddr uf27 fi27_2 nz24 q) q q <| have b0 := HasB.bx (HasB.hd) Hc.ctx; MT 7 q q q Hc.chg q (qs_cell u24 q q (b0.cell (i := 2) q) Hc.chg (Ctx.outB aT (HasB.hd))) q q <| MQ 9 q q q Hc.chg q (fun _ => qt_fieldAddr uf27 fi27_3 nz3 q) q q ?_
  refine have b4 := HasB.bx (HasB.hd) Hc.ctx; MT 10 q q q Hc.chg q (qs_cell u3 q q (b4.cell (i := 3) q) Hc.chg (Ctx.outB aT (HasB.hd))) q q ?_
  repeat' first
   | refine XG ?_; (first
    | refine MDo 1 q ?_; refine zs (t := tI) (args := []) (xs := ([] : List Int)) Hc (BltL.nil) u24 j3 q q q q q q (fun df _ Hc => ?_); refine MN Hc.chg ?_
    | refine XGi 4 ?_; (first
     | refine MDo 4 q ?_; refine zw Hc (C1.c.c.c.c) au u24 j3 q q q q q q (fun aa _ Hc => ?_); refine MN Hc.chg ?_
     | refine MDo 4 q ?_; have Hc := Hc.p1; refine zw Hc (C1.c.c.c.c.c) au u24 j3 q q q q q q (fun aa _ Hc => ?_); refine MN Hc.chg ?_
     | refine MDo 4 q ?_; have Hc := Hc.p2; refine zw Hc (C1.c.c.c.c.c.c) au u24 j3 q q q q q q (fun aa _ Hc => ?_); refine MN Hc.chg ?_
     | refine MDo 4 q ?_; have Hc := Hc.p3; refine zw Hc (C1.c.c.c.c.c.c.c) au u24 j3 q q q q q q (fun aa _ Hc => ?_); refine MN Hc.chg ?_
     | refine MDo 4 q ?_; refine zw Hc (C1.c.c.c.c.c) au u24 j3 q q q q q q (fun aa _ Hc => ?_); refine MN Hc.chg ?_
     | refine MDo 4 q ?_; have Hc := Hc.p1; refine zw Hc (C1.c.c.c.c.c.c) au u24 j3 q q q q q q (fun aa _ Hc => ?_); refine MN Hc.chg ?_
     | refine MDo 4 q ?_; have Hc := Hc.p2; refine zw Hc (C1.c.c.c.c.c.c.c) au u24 j3 q q q q q q (fun aa _ Hc => ?_); refine MN Hc.chg ?_
     | refine MDo 4 q ?_; refine zw Hc (C1.c.c.c.c.c.c) au u24 j3 q q q q q q (fun aa _ Hc => ?_); refine MN Hc.chg ?_
     | refine MDo 4 q ?_; have Hc := Hc.p1; refine zw Hc (C1.c.c.c.c.c.c.c) au u24 j3 q q q q q q (fun aa _ Hc => ?_); refine MN Hc.chg ?_
     | refine MDo 4 q ?_; refine zw Hc (C1.c.c.c.c.c.c.c) au u24 j3 q q q q q q (fun aa _ Hc => ?_); refine MN Hc.chg ?_)
    | refine MDo 5 q ?_; refine zs (t := tI) (args := []) (xs := ([] : List Int)) Hc (BltL.nil) u24 j3 q q q q q q (fun dg _ Hc => ?_); refine MN Hc.chg ?_
    | refine XGi 8 ?_; (first
     | refine MDo 8 q ?_; refine zw Hc (C2.c.c.c.c.c) ax u24 j3 q q q q q q (fun ab _ Hc => ?_); refine MN Hc.chg ?_
     | refine MDo 8 q ?_; have Hc := Hc.p1; refine zw Hc (C2.c.c.c.c.c.c) ax u24 j3 q q q q q q (fun ab _ Hc => ?_); refine MN Hc.chg ?_
     | refine MDo 8 q ?_; have Hc := Hc.p2; refine zw Hc (C2.c.c.c.c.c.c.c) ax u24 j3 q q q q q q (fun ab _ Hc => ?_); refine MN Hc.chg ?_
     | refine MDo 8 q ?_; refine zw Hc (C2.c.c.c.c.c.c) ax u24 j3 q q q q q q (fun ab _ Hc => ?_); refine MN Hc.chg ?_
     | refine MDo 8 q ?_; have Hc := Hc.p1; refine zw Hc (C2.c.c.c.c.c.c.c) ax u24 j3 q q q q q q (fun ab _ Hc => ?_); refine MN Hc.chg ?_
     | refine MDo 8 q ?_; refine zw Hc (C2.c.c.c.c.c.c.c) ax u24 j3 q q q q q q (fun ab _ Hc => ?_); refine MN Hc.chg ?_
     | refine MDo 8 q ?_; have Hc := Hc.p1; refine zw Hc (C2.c.c.c.c.c) ax u24 j3 q q q q q q (fun ab _ Hc => ?_); refine MN Hc.chg ?_
     | refine MDo 8 q ?_; have Hc := Hc.p2; refine zw Hc (C2.c.c.c.c.c.c) ax u24 j3 q q q q q q (fun ab _ Hc => ?_); refine MN Hc.chg ?_
     | refine MDo 8 q ?_; have Hc := Hc.p3; refine zw Hc (C2.c.c.c.c.c.c.c) ax u24 j3 q q q q q q (fun ab _ Hc => ?_); refine MN Hc.chg ?_)
    | refine MDo 11 q ?_; refine zs (t := ty14) (args := []) (xs := ([] : LT)) Hc (BltL.nil) u25 j47 q q q q q q (fun ae _ Hc => ?_); refine MN Hc.chg ?_
    | refine MDo 13 q ?_; refine zq (cs := [nS, nS, nS, iV 0, nS]) Hc z27 q q q (fun a2 _ Hc => ?_); refine MN Hc.chg ?_
    | refine XGi 14 ?_; (first
     | have Hc := am.cN4 [] Hc; refine MDo 14 q ?_; refine zl (cs' := [ad, aa, ab, iV B3, ae]) Hc q il27 q (T (Hc.ctx.sliceOne hS6) (T (Hc.ctx.sliceOne hS3) (T (Hc.ctx.sliceOne hS2) (T q (T (Hc.ctx.sliceOne hS1) q))))) q q q (fun _ Hc => ?_); refine ME q ?_
     | have Hc := am.cN4 [] Hc; refine MDo 14 q ?_; have Hc := Hc.p1; refine zl (cs' := [ad, aa, ab, iV B3, ae]) Hc q il27 q (T (Hc.ctx.sliceOne hS6) (T (Hc.ctx.sliceOne hS3) (T (Hc.ctx.sliceOne hS2) (T q (T (Hc.ctx.sliceOne hS1) q))))) q q q (fun _ Hc => ?_); refine ME q ?_
     | have Hc := am.cN4 [] Hc; refine MDo 14 q ?_; refine zl (cs' := [ad, aa, ab, iV B3, ae]) Hc q il27 q (T (Hc.ctx.sliceOne hS6) (T (Hc.ctx.sliceOne hS3) (T (Hc.ctx.sliceOne hS1) (T q (T (Hc.ctx.sliceOne hS2) q))))) q q q (fun _ Hc => ?_); refine ME q ?_
     | have Hc := am.cN4 [] Hc; refine MDo 14 q ?_; have Hc := Hc.p1; refine zl (cs' := [ad, aa, ab, iV B3, ae]) Hc q il27 q (T (Hc.ctx.sliceOne hS6) (T (Hc.ctx.sliceOne hS3) (T (Hc.ctx.sliceOne hS1) (T q (T (Hc.ctx.sliceOne hS2) q))))) q q q (fun _ Hc => ?_); refine ME q ?_
     | have Hc := am.cN4 [] Hc; refine MDo 14 q ?_; have Hc := Hc.p2; refine zl (cs' := [ad, aa, ab, iV B3, ae]) Hc q il27 q (T (Hc.ctx.sliceOne hS6) (T (Hc.ctx.sliceOne hS3) (T (Hc.ctx.sliceOne hS2) (T q (T (Hc.ctx.sliceOne hS1) q))))) q q q (fun _ Hc => ?_); refine ME q ?_
     | have Hc := am.cN4 [] Hc; refine MDo 14 q ?_; have Hc := Hc.p2; refine zl (cs' := [ad, aa, ab, iV B3, ae]) Hc q il27 q (T (Hc.ctx.sliceOne hS6) (T (Hc.ctx.sliceOne hS3) (T (Hc.ctx.sliceOne hS1) (T q (T (Hc.ctx.sliceOne hS2) q))))) q q q (fun _ Hc => ?_); refine ME q ?_
     | have Hc := am.cN4 [] Hc; refine MDo 14 q ?_; refine zl (cs' := [ad, aa, ab, iV B3, ae]) Hc q il27 q (T (Hc.ctx.sliceOne hS6) (T (Hc.ctx.sliceOne hS2) (T (Hc.ctx.sliceOne hS1) (T q (T (Hc.ctx.sliceOne hS3) q))))) q q q (fun _ Hc => ?_); refine ME q ?_
     | have Hc := am.cN4 [] Hc; refine MDo 14 q ?_; have Hc := Hc.p1; refine zl (cs' := [ad, aa, ab, iV B3, ae]) Hc q il27 q (T (Hc.ctx.sliceOne hS6) (T (Hc.ctx.sliceOne hS2) (T (Hc.ctx.sliceOne hS1) (T q (T (Hc.ctx.sliceOne hS3) q))))) q q q (fun _ Hc => ?_); refine ME q ?_
     | have Hc := am.cN4 [] Hc; refine MDo 14 q ?_; have Hc := Hc.p2; refine zl (cs' := [ad, aa, ab, iV B3, ae]) Hc q il27 q (T (Hc.ctx.sliceOne hS6) (T (Hc.ctx.sliceOne hS2) (T (Hc.ctx.sliceOne hS1) (T q (T (Hc.ctx.sliceOne hS3) q))))) q q q (fun _ Hc => ?_); refine ME q ?_
     | have Hc := am.cN4 [] Hc; refine MDo 14 q ?_; have Hc := Hc.p3; refine zl (cs' := [ad, aa, ab, iV B3, ae]) Hc q il27 q (T (Hc.ctx.sliceOne hS6) (T (Hc.ctx.sliceOne hS3) (T (Hc.ctx.sliceOne hS2) (T q (T (Hc.ctx.sliceOne hS1) q))))) q q q (fun _ Hc => ?_); refine ME q ?_
     | have Hc := am.cN4 [] Hc; refine MDo 14 q ?_; have Hc := Hc.p3; refine zl (cs' := [ad, aa, ab, iV B3, ae]) Hc q il27 q (T (Hc.ctx.sliceOne hS6) (T (Hc.ctx.sliceOne hS3) (T (Hc.ctx.sliceOne hS1) (T q (T (Hc.ctx.sliceOne hS2) q))))) q q q (fun _ Hc => ?_); refine ME q ?_
     | have Hc := am.cN4 [] Hc; refine MDo 14 q ?_; have Hc := Hc.p3; refine zl (cs' := [ad, aa, ab, iV B3, ae]) Hc q il27 q (T (Hc.ctx.sliceOne hS6) (T (Hc.ctx.sliceOne hS2) (T (Hc.ctx.sliceOne hS1) (T q (T (Hc.ctx.sliceOne hS3) q))))) q q q (fun _ Hc => ?_); refine ME q ?_))
   | refine MK 12 q <| MQ 12 q q q Hc.chg q (fun _ => qt_build (args := [(0, .tmp 40), (1, .tmp 44), (2, .tmp 48), (3, .tmp 50), (4, .tmp 51)]) (css := [#[ad], #[aa], #[ab], #[iV B3], #[ae]]) (cells := #[ad, aa, ab, iV B3, ae]) q ⟨(Hc.ctx.sliceCells hS5), (Hc.ctx.sliceCells hS2), (Hc.ctx.sliceCells hS1), q, (Hc.ctx.sliceCells hS0), trivial⟩ (by kernel_rfl)) q q ?_
   | refine MK 12 q <| MQ 12 q q q Hc.chg q (fun _ => qt_build (args := [(0, .tmp 40), (1, .tmp 44), (2, .tmp 48), (3, .tmp 50), (4, .tmp 51)]) (css := [#[ad], #[aa], #[ab], #[iV B3], #[ae]]) (cells := #[ad, aa, ab, iV B3, ae]) q ⟨(Hc.ctx.sliceCells hS6), (Hc.ctx.sliceCells hS3), (Hc.ctx.sliceCells hS2), q, (Hc.ctx.sliceCells hS0), trivial⟩ (by kernel_rfl)) q q ?_
   | refine MK 12 q <| MQ 12 q q q Hc.chg q (fun _ => qt_build (args := [(0, .tmp 40), (1, .tmp 44), (2, .tmp 48), (3, .tmp 50), (4, .tmp 51)]) (css := [#[ad], #[aa], #[ab], #[iV B3], #[ae]]) (cells := #[ad, aa, ab, iV B3, ae]) q ⟨(Hc.ctx.sliceCells hS5), (Hc.ctx.sliceCells hS2), (Hc.ctx.sliceCells hS0), q, (Hc.ctx.sliceCells hS1), trivial⟩ (by kernel_rfl)) q q ?_
   | refine MK 12 q <| MQ 12 q q q Hc.chg q (fun _ => qt_build (args := [(0, .tmp 40), (1, .tmp 44), (2, .tmp 48), (3, .tmp 50), (4, .tmp 51)]) (css := [#[ad], #[aa], #[ab], #[iV B3], #[ae]]) (cells := #[ad, aa, ab, iV B3, ae]) q ⟨(Hc.ctx.sliceCells hS6), (Hc.ctx.sliceCells hS3), (Hc.ctx.sliceCells hS0), q, (Hc.ctx.sliceCells hS2), trivial⟩ (by kernel_rfl)) q q ?_
   | refine MK 12 q <| MQ 12 q q q Hc.chg q (fun _ => qt_build (args := [(0, .tmp 40), (1, .tmp 44), (2, .tmp 48), (3, .tmp 50), (4, .tmp 51)]) (css := [#[ad], #[aa], #[ab], #[iV B3], #[ae]]) (cells := #[ad, aa, ab, iV B3, ae]) q ⟨(Hc.ctx.sliceCells hS6), (Hc.ctx.sliceCells hS3), (Hc.ctx.sliceCells hS1), q, (Hc.ctx.sliceCells hS0), trivial⟩ (by kernel_rfl)) q q ?_
   | refine MK 12 q <| MQ 12 q q q Hc.chg q (fun _ => qt_build (args := [(0, .tmp 40), (1, .tmp 44), (2, .tmp 48), (3, .tmp 50), (4, .tmp 51)]) (css := [#[ad], #[aa], #[ab], #[iV B3], #[ae]]) (cells := #[ad, aa, ab, iV B3, ae]) q ⟨(Hc.ctx.sliceCells hS6), (Hc.ctx.sliceCells hS3), (Hc.ctx.sliceCells hS0), q, (Hc.ctx.sliceCells hS1), trivial⟩ (by kernel_rfl)) q q ?_
   | refine MK 12 q <| MQ 12 q q q Hc.chg q (fun _ => qt_build (args := [(0, .tmp 40), (1, .tmp 44), (2, .tmp 48), (3, .tmp 50), (4, .tmp 51)]) (css := [#[ad], #[aa], #[ab], #[iV B3], #[ae]]) (cells := #[ad, aa, ab, iV B3, ae]) q ⟨(Hc.ctx.sliceCells hS5), (Hc.ctx.sliceCells hS1), (Hc.ctx.sliceCells hS0), q, (Hc.ctx.sliceCells hS2), trivial⟩ (by kernel_rfl)) q q ?_
   | refine MK 12 q <| MQ 12 q q q Hc.chg q (fun _ => qt_build (args := [(0, .tmp 40), (1, .tmp 44), (2, .tmp 48), (3, .tmp 50), (4, .tmp 51)]) (css := [#[ad], #[aa], #[ab], #[iV B3], #[ae]]) (cells := #[ad, aa, ab, iV B3, ae]) q ⟨(Hc.ctx.sliceCells hS6), (Hc.ctx.sliceCells hS2), (Hc.ctx.sliceCells hS0), q, (Hc.ctx.sliceCells hS3), trivial⟩ (by kernel_rfl)) q q ?_
   | refine MK 12 q <| MQ 12 q q q Hc.chg q (fun _ => qt_build (args := [(0, .tmp 40), (1, .tmp 44), (2, .tmp 48), (3, .tmp 50), (4, .tmp 51)]) (css := [#[ad], #[aa], #[ab], #[iV B3], #[ae]]) (cells := #[ad, aa, ab, iV B3, ae]) q ⟨(Hc.ctx.sliceCells hS6), (Hc.ctx.sliceCells hS1), (Hc.ctx.sliceCells hS0), q, (Hc.ctx.sliceCells hS3), trivial⟩ (by kernel_rfl)) q q ?_
   | refine MK 12 q <| MQ 12 q q q Hc.chg q (fun _ => qt_build (args := [(0, .tmp 40), (1, .tmp 44), (2, .tmp 48), (3, .tmp 50), (4, .tmp 51)]) (css := [#[ad], #[aa], #[ab], #[iV B3], #[ae]]) (cells := #[ad, aa, ab, iV B3, ae]) q ⟨(Hc.ctx.sliceCells hS6), (Hc.ctx.sliceCells hS2), (Hc.ctx.sliceCells hS1), q, (Hc.ctx.sliceCells hS0), trivial⟩ (by kernel_rfl)) q q ?_
   | refine MK 12 q <| MQ 12 q q q Hc.chg q (fun _ => qt_build (args := [(0, .tmp 40), (1, .tmp 44), (2, .tmp 48), (3, .tmp 50), (4, .tmp 51)]) (css := [#[ad], #[aa], #[ab], #[iV B3], #[ae]]) (cells := #[ad, aa, ab, iV B3, ae]) q ⟨(Hc.ctx.sliceCells hS6), (Hc.ctx.sliceCells hS2), (Hc.ctx.sliceCells hS0), q, (Hc.ctx.sliceCells hS1), trivial⟩ (by kernel_rfl)) q q ?_
   | refine MK 12 q <| MQ 12 q q q Hc.chg q (fun _ => qt_build (args := [(0, .tmp 40), (1, .tmp 44), (2, .tmp 48), (3, .tmp 50), (4, .tmp 51)]) (css := [#[ad], #[aa], #[ab], #[iV B3], #[ae]]) (cells := #[ad, aa, ab, iV B3, ae]) q ⟨(Hc.ctx.sliceCells hS6), (Hc.ctx.sliceCells hS1), (Hc.ctx.sliceCells hS0), q, (Hc.ctx.sliceCells hS2), trivial⟩ (by kernel_rfl)) q q ?_
   | refine MW q ?_ ?_
   | refine Ma q ?_ ?_
   | exact Me q
   | refine MZ q (fun a ha => ?_); have Hc := (((((((Hc.p1).p2).p3).p6).p4).p6).p6); exact ⟨a2, ad, aa, ab, ae, ha.s, Hc⟩
   | refine MZ q (fun a ha => ?_); have Hc := (((((((Hc.p2).p2).p3).p6).p4).p6).p6); exact ⟨a2, ad, aa, ab, ae, ha.s, Hc⟩
   | refine MZ q (fun a ha => ?_); have Hc := (((((((Hc.p3).p2).p3).p6).p4).p6).p6); exact ⟨a2, ad, aa, ab, ae, ha.s, Hc⟩
 rintro a dh ⟨aq, ag, ah, aj, aS, ha, b6⟩
 refine S1 ha <| C <| rR <| qA q q q <| B <| g <| O h fun di b7 h => have b8 := b6.p6.p6.p6.p6.p6.p6.p6; ?_
 refine fun dj b9 => zp (I := fun s a w2 => match s with | (a3, aE) => ∃ ar, Fr a 82 [(1, pB b1), (2, pB b5), (5, pB aq), (6, iV a3)] ∧ Holds M0 w w2 [.bx b1 27 [A0, A1, A2, iV B3, A4], .bx b5 27 [nS, nS, nS, iV 0, nS], .bx aq 27 [ag, ah, aj, iV B3, ar], .sl 55 ty12 ag av, .sl 3 tI ah aC, .sl 3 tI aj aD, .sl 47 ty14 ar aE] G) (O := fun o e a w2 => match o with | q0 => e = .exit 2 ∧ ∃ aI, Fr a 82 [(2, pB b5), (5, pB aq)] ∧ Holds M0 w w2 [.bx b5 27 [nS, nS, nS, iV 0, nS], .bx aq 27 [ag, ah, aj, iV B3, aI], .sl 55 ty12 ag av, .sl 3 tI ah aC, .sl 3 tI aj aD, .sl 47 ty14 aI q0] G) b7 ?_ ?_ ?_
 ·exact ⟨aS, b9.s, b8⟩
 ·rintro ⟨a3, aE⟩ _ a ca ao ⟨ar, ha, aF⟩
  refine S1 ha <| C <| rR <| qM q q q <| qF uf27 fi27_4 nz25 q q q <| l u25 q (R aF.p0) q q q q <| za aF.ctx (t := ty14) (C4.c.c.c.c.c.c.c) u25 q q q <| A q (qt_lss q q) q q <| B ?_
  refine Yh q ao (fun ao => ?_) (fun ao => ?_)
  ·refine y <| C <| g <| rR <| qF uf27 fi27_4 nz25 q q q <| l u25 q (R aF.p0) q q q q <| qM q q q <| O ao fun ak bd ao => b aF.ctx (C4.c.c.c.c.c.c.c) bd u25 i47 q q q q fun dk dl dm cb => ?_
   obtain ⟨dn, cc, cd⟩ := aF.atN (C4.c.c.c.c.c.c.c) bd cb
   refine XL_load_agg (t := ty14) us47 uo47 i47 cc q q q fun dq ce => ?_
   obtain ⟨dr, ds, dt, du, rfl, be, cf, cg⟩ := ce
   obtain ⟨rfl, _⟩ := cf
   obtain ⟨dv, dw, dx, dy, rfl, bf, ch, ci⟩ := cg
   obtain ⟨ay, rfl, cj⟩ := Rep.sl_inv ch
   obtain ⟨az, rfl, ck⟩ := Rep.sl_inv ci
   have cl : Holds _ w ca [.ro ty2 ay ak.2.1, .ro tI az ak.2.2, .bx b1 27 [A0, A1, A2, iV B3, A4], .bx b5 27 [nS, nS, nS, iV 0, nS], .bx aq 27 [ag, ah, aj, iV B3, ar], .sl 55 ty12 ag av, .sl 3 tI ah aC, .sl 3 tI aj aD, .sl 47 ty14 ar aE] G := cd [.ro ty2 ay ak.2.1, .ro tI az ak.2.2] ⟨⟨_, _, _, _, q, cj, (fun k h => (fun k h => (fun _ h => h) k (by rw [be]; exact zx _ h)) k (by rw [bf]; exact List.mem_append_left _ h))⟩, ⟨_, _, _, _, q, ck, (fun k h => (fun k h => (fun _ h => h) k (by rw [be]; exact zx _ h)) k (by rw [bf]; exact zx _ h))⟩, trivial⟩
   change XL _ _ _ _ _ ((64, .agg #[iV ak.1, ay, az]) :: _) _
   refine zq (cs := [iV 0, nS, nS]) cl z47 q q q fun bg dz a4 => zl (cs' := [iV ak.1, ay, az]) a4 q il47 q (T q (T (a4.ctx.sliceOne hR1) (T (a4.ctx.sliceOne hR2) q))) q q q fun dA cm => B <| O ao fun cn a5 ao => O ao fun co bh ao => O ao fun cp cq ao => ?_
   refine WP_mid (Mid := fun a w2 => ∃ aU, Fr a 82 [(1, pB b1), (2, pB b5), (5, pB aq), (6, iV a3)] ∧ Holds M0 w w2 [.bx b1 27 [A0, A1, A2, iV B3, A4], .bx b5 27 [nS, nS, nS, iV 0, nS], .bx aq 27 [ag, ah, aj, iV B3, aU], .sl 55 ty12 ag av, .sl 3 tI ah aC, .sl 3 tI aj aD, .sl 47 ty14 aU cp] G) ?_ ?_
   ·refine WP_ordersT (fun w1 w2 => Chg (([.sl 47 ty14 ar aE] : List Res).flatMap Res.own) w1 w2) 15 (by kernel_rfl) fun a6 cr => have ct := cm.grow cr; have bi := ct.p9; ?_
    have aK : Ctx a6 ([.sl 47 ty14 ar aE] ++ ([.bx bg 47 [iV ak.1, ay, az], .ro ty2 ay ak.2.1, .ro tI az ak.2.2, .bx b1 27 [A0, A1, A2, iV B3, A4], .bx b5 27 [nS, nS, nS, iV 0, nS], .bx aq 27 [ag, ah, aj, iV B3, ar], .sl 55 ty12 ag av, .sl 3 tI ah aC, .sl 3 tI aj aD] ++ G)) := bi.ctx
    have cu : Holds _ a6 a6 [.sl 47 ty14 ar aE] ([.bx bg 47 [iV ak.1, ay, az], .ro ty2 ay ak.2.1, .ro tI az ak.2.2, .bx b1 27 [A0, A1, A2, iV B3, A4], .bx b5 27 [nS, nS, nS, iV 0, nS], .bx aq 27 [ag, ah, aj, iV B3, ar], .sl 55 ty12 ag av, .sl 3 tI ah aC, .sl 3 tI aj aD] ++ G) := zb (Rs := [.sl 47 ty14 ar aE]) aK
    refine have Hc := cu; XQ (i := 0) q (by kernel_rfl) q Hc.chg q (fun _ => qt_fieldAddr uf27 fi27_4 nz25 q) q q <| have cv := HasB.bx (HasB.c (HasB.c (HasB.c (HasB.c (HasB.c (HasB.c (HasB.hd))))))) Hc.ctx; XT (i := 1) q (by kernel_rfl) q Hc.chg q (qs_cell u25 q q (cv.cell (i := 4) q) Hc.chg (Ctx.outB aK (HasB.c (HasB.c (HasB.c (HasB.c (HasB.c (HasB.hd)))))))) q q <| XQ (i := 2) q (by kernel_rfl) q Hc.chg q (fun _ => qt_fieldAddr uf47 fi47_0 nz3 q) q q <| have cw := HasB.bx (HasB.c (HasB.hd)) Hc.ctx; XT (i := 3) q (by kernel_rfl) q Hc.chg q (qs_cell u3 q q (cw.cell (i := 0) q) Hc.chg (Ctx.outB aK (HasB.hd))) q q <| XQ (i := 5) q (by kernel_rfl) q Hc.chg q (fun _ => qt_fieldAddr uf47 fi47_1 nz45 q) q q <| have cx := HasB.bx (HasB.c (HasB.hd)) Hc.ctx; XT (i := 6) q (by kernel_rfl) q Hc.chg q (qs_cell u45 q q (cx.cell (i := 1) q) Hc.chg (Ctx.outB aK (HasB.hd))) q q <| XQ (i := 9) q (by kernel_rfl) q Hc.chg q (fun _ => qt_fieldAddr uf47 fi47_2 nz24 q) q q ?_
    refine have cy := HasB.bx (HasB.c (HasB.hd)) Hc.ctx; XT (i := 10) q (by kernel_rfl) q Hc.chg q (qs_cell u24 q q (cy.cell (i := 2) q) Hc.chg (Ctx.outB aK (HasB.hd))) q q ?_
    repeat' first
     | refine XDo 4 q ?_; refine zs (t := ty2) (args := []) (xs := ([] : LP)) Hc (BltL.nil) u45 j49 q q q q q q (fun dB _ Hc => ?_); refine XN Hc.chg ?_
     | refine XDo 7 q ?_; refine zw Hc hR3 a5 u45 j49 q q q q q q (fun aG _ Hc => ?_); refine XN Hc.chg ?_
     | refine XDo 7 q ?_; have Hc := Hc.p1; refine zw Hc hR4 a5 u45 j49 q q q q q q (fun aG _ Hc => ?_); refine XN Hc.chg ?_
     | refine XDo 7 q ?_; refine zw Hc hR4 a5 u45 j49 q q q q q q (fun aG _ Hc => ?_); refine XN Hc.chg ?_
     | refine XDo 8 q ?_; refine zs (t := tI) (args := []) (xs := ([] : List Int)) Hc (BltL.nil) u24 j3 q q q q q q (fun dC _ Hc => ?_); refine XN Hc.chg ?_
     | refine XDo 11 q ?_; refine zw Hc hR5 bh u24 j3 q q q q q q (fun aL _ Hc => ?_); refine XN Hc.chg <| XQ (i := 12) q (by kernel_rfl) q Hc.chg q (fun _ => qt_build (args := [(0, .tmp 68), (1, .tmp 72), (2, .tmp 76)]) (css := [#[iV ak.1], #[aG], #[aL]]) (cells := #[iV ak.1, aG, aL]) q ⟨q, (Hc.ctx.sliceCells hS1), (Hc.ctx.sliceCells hS0), trivial⟩ (by kernel_rfl)) q q ?_
     | refine XDo 11 q ?_; have Hc := Hc.p1; refine zw Hc hR5 bh u24 j3 q q q q q q (fun aL _ Hc => ?_); refine XN Hc.chg <| XQ (i := 12) q (by kernel_rfl) q Hc.chg q (fun _ => qt_build (args := [(0, .tmp 68), (1, .tmp 72), (2, .tmp 76)]) (css := [#[iV ak.1], #[aG], #[aL]]) (cells := #[iV ak.1, aG, aL]) q ⟨q, (Hc.ctx.sliceCells hS1), (Hc.ctx.sliceCells hS0), trivial⟩ (by kernel_rfl)) q q ?_
     | refine XDo 13 q ?_; have Hc := Hc.p1; have Hc := Hc.freeze; have Hc := Hc.p1; have Hc := Hc.freeze; refine zs (t := ty14) (args := [.tmp 77]) (xs := ([(ak.1, cn, co)] : LT)) Hc (BltL.cons (Blt.pair (Blt.int) (Blt.pair (Blt.slice hO1) (Blt.slice hO0))) q (BltL.nil)) u25 j47 q q q q q q (fun dD _ Hc => ?_); refine XN Hc.chg ?_
     | refine XDo 14 q ?_; have Hc := Hc.p3; refine zw Hc hS1 cq u25 j47 q q q q q q (fun cz _ Hc => ?_); refine XN Hc.chg ?_
     | have Hc := bi.cN4 [_] Hc; refine XDo 15 q <| qF uf27 fi27_4 nz25 q q q <| XE q ?_
     | refine XDo 16 q ?_; have Hc := Hc.p9; refine WL_store_bx Hc q il25 (Hc.ctx.sliceCells hS1) (Hc.ctx.sliceOne hS1) q q q (fun _ Hc => ?_); refine XE q ?_
     | refine XV [4, 8] (by decide +kernel) q (allc ?_ (allc ?_ alln))
     | refine XV [7, 8] (by decide +kernel) q (allc ?_ (allc ?_ alln))
     | refine XV [8] (by decide +kernel) q (allc ?_ alln)
     | refine XV [11] (by decide +kernel) q (allc ?_ alln)
     | refine XV [13] (by decide +kernel) q (allc ?_ alln)
     | refine XV [14] (by decide +kernel) q (allc ?_ alln)
     | refine XV [15] (by decide +kernel) q (allc ?_ alln)
     | refine XV [16] (by decide +kernel) q (allc ?_ alln)
     | refine XV [7] (by decide +kernel) q (allc ?_ alln)
     | refine XV [4] (by decide +kernel) q (allc ?_ alln)
     | refine XC_done (by decide +kernel) (fun a ha => ?_); have Hc := (((((((((((((Hc.q2).q2).q2).q2).q2).q2).p1).p6).p6).p6).p4).p6).p6); exact ⟨cz, ha.s, Hc⟩
   rintro a dE ⟨aU, ha, cA⟩
   refine zi <| X <| S1 ha <| Z <| qM q q q <| A q (qt_add q q) q q <| qA q q q <| WL_nil fun a ha => ?_
   cases ao
   have cB := cA.p6.p6.p6.p6.p6.p6.p6
   exact ⟨q, aU, ha.s, cB⟩
  refine WP_exit fun a ha => ?_
  cases ao
  have cC := aF.q0.p5.p5.p5.p5.p5.p5
  exact zo (⟨exit_ne, q, ar, ha.s, cC⟩)
 rintro _ a dF ⟨rfl, a7, ha, aH⟩
 refine zn <| X <| S1 ha <| rR <| lA (R aH.p1) us27 uo27 il27 q q q <| zl (cs' := [ag, ah, aj, iV B3, a7]) aH q il27 q (T (aH.ctx.sliceOne hS2) (T (aH.ctx.sliceOne hS3) (T (aH.ctx.sliceOne hS4) (T q (T (aH.ctx.sliceOne hS5) q))))) q q q fun dG bj => B <| W fun a ha => ?_
 cases h
 refine have cD := R bj.p0; have cE := bj.q0.q0.p3.p3.p3.p3; ?_
 exact retc q ha q (run_loadVar_bx (cs := [ag, ah, aj, iV B3, a7]) us27 uo27 il27 cD) ⟨ag, ah, aj, a7, q, cE⟩
theorem w_spec_l7Buy {w : World} {G : List Res} {A0 : Value} {B0 : LI} {A1 : Value} {B1 : List Int} {A2 : Value} {B2 : List Int} {B3 : Int} {A4 : Value} {B4 : LT} {p1 : Int} {p2 : Int} {r : (LI × (List Int) × (List Int) × Int × LT) × Bool} (h : spec_l7BuyS B0 B1 B2 B3 B4 p1 p2 = some r) (H : Ctx w ([.sl 55 ty12 A0 B0, .sl 3 tI A1 B1, .sl 3 tI A2 B2, .sl 47 ty14 A4 B4] ++ G)) : Calls Tryz.prog 34 #[.agg #[A0, A1, A2, iV B3, A4], iV p1, iV p2] w fun e w' => ∃ (v1 : Value) (v2 : Value) (v3 : Value) (v4 : Value), e = .returned (.tuple #[.agg #[v1, v2, v3, iV r.1.2.2.2.1, v4], .bool r.2]) ∧ Holds (([.sl 55 ty12 A0 B0, .sl 3 tI A1 B1, .sl 3 tI A2 B2, .sl 47 ty14 A4 B4] : List Res).flatMap Res.own) w w' [.sl 55 ty12 v1 r.1.1, .sl 3 tI v2 r.1.2.1, .sl 3 tI v3 r.1.2.2.1, .sl 47 ty14 v4 r.1.2.2.2.2] G := by
 refine E1 (n := 75) H Tryz.func34 q q q fun H => ?_
 unfold spec_l7BuyS at h
 refine C <| Z <| WL_box (cs := [A0, A1, A2, iV B3, A4]) H q q q q fun b1 w2 H3 => zq (cs := [nS, nS, nS, iV 0, nS]) H3 z27 q q q fun b5 w6 H7 => qA q q q <| B <| C <| C <| WP_quiet (by kernel_rfl) (by kernel_rfl) <| qM q q q <| qF uf27 fi27_0 nz23 q q q <| l u23 q (R H7.p1) q q q q <| za H7.ctx (t := ty12) hS2 u23 q q q <| A q (qt_sub q q) q q <| O h fun a1 aB h => Qc q q c52 H7 (fun _ => w_spec_l1In aB) q <| A q (qt_not q) q q <| qM q q q <| O h fun aC af h => ?_
 refine Go (res := aC) 7 (if_t · af) (fun ad a2 aD => ?_) ?_
 ·exact have af := if_f ad af; qF uf27 fi27_0 nz23 (J q ad) q q <| l u23 q (R H7.p1) q (J q ad) q q <| qM (J q ad) q q <| O af fun a3 ap af => b H7.ctx hS2 ap u23 i55 (J q ad) q q q fun a4 a5 a6 aE => qF uf55 fi55_0 nz3 (J q ad) q q <| lI u3 q (H7.el hS2 ap aE).f (J q ad) q q <| A (J q ad) (qt_gtr q q) q q <| aD 7 q q q af
 refine qM q q q <| O h fun aF ag h => ?_
 refine Go (res := aF) 3 (if_t · ag) (fun ao a7 aG => ?_) ?_
 ·exact have ag := if_f ao ag; qM (J q ao) q q <| O ag fun a8 aH ag => Qc (J q ao) q c52 H7 (fun _ => w_spec_l1In aH) q <| A (J q ao) (qt_not q) q q <| aG 3 q q q ag
 refine qM q q q <| O h fun aI ah h => ?_
 refine Go (res := aI) 8 (if_t · ah) (fun ab a9 aJ => ?_) ?_
 ·exact have ah := if_f ab ah; qF uf27 fi27_2 nz24 (J q ab) q q <| l u24 q (R H7.p1) q (J q ab) q q <| qM (J q ab) q q <| O ah fun ba aq ah => b H7.ctx hS4 aq u24 i3 (J q ab) q q q fun bb bc bd aK => lI u3 q (H7.el hS4 aq aK) (J q ab) q q <| qM (J q ab) q q <| A (J q ab) (qt_add q q) q q <| A (J q ab) (qt_gtr q q) q q <| aJ 8 q q q ah
 refine qM q q q <| O h fun aL aj h => ?_
 refine Go (res := aL) 10 (if_t · aj) (fun aa be aM => ?_) ?_
 ·exact have aj := if_f aa aj; qM (J q aa) q q <| qF uf27 fi27_1 nz24 (J q aa) q q <| l u24 q (R H7.p1) q (J q aa) q q <| qM (J q aa) q q <| O aj fun bf ar aj => b H7.ctx hS3 ar u24 i3 (J q aa) q q q fun bg bh bi aN => lI u3 q (H7.el hS3 ar aN) (J q aa) q q <| A (J q aa) (qt_mul q q) q q <| qF uf27 fi27_3 nz3 (J q aa) q q <| l u3 q (R H7.p1) q (J q aa) q q <| A (J q aa) (qt_gtr q q) q q <| aM 10 q q q aj
 refine Qn H7 fun a ha bj ae => X <| S1 ha ?_
 refine Yh q h (fun h => ?_) (fun h => ?_)
 ·refine rR <| lA (R ae.p1) us27 uo27 il27 q q q <| zl (cs' := [A0, A1, A2, iV B3, A4]) ae q il27 q (T (ae.ctx.sliceOne hS2) (T (ae.ctx.sliceOne hS3) (T (ae.ctx.sliceOne hS4) (T q (T (ae.ctx.sliceOne hS5) q))))) q q q fun bk au => qA q q q <| B <| W fun a ha => ?_
  cases h
  refine have aO := R au.p0; have aP := au.q0.q0.p3.p3.p3.p3; ?_
  exact m (retct q ha q q (run_loadVar_bx (cs := [A0, A1, A2, iV B3, A4]) us27 uo27 il27 aO) ⟨A0, A1, A2, A4, q, aP⟩)
 refine y <| C <| WP_tail 10 (by kernel_rfl) (by kernel_rfl) fun bl aQ => have ak := ae.grow aQ; qF uf27 fi27_2 nz24 q q q <| l u24 q (R ak.p1) q q q q <| qM q q q <| qF uf27 fi27_2 nz24 q q q <| l u24 q (R ak.p1) q q q q <| qM q q q <| O h fun aR av h => b ak.ctx hS4 av u24 i3 q q q q fun bm bn bo aS => lI u3 q (ak.el hS4 av aS) q q q <| qM q q q <| A q (qt_add q q) q q <| SL_nil <| O h fun bp aw h => b ak.ctx hS4 aw u24 i3 q q q q fun bq br bs aT => have aU := ak.p4; WL_storeH (fo := 0) (cs' := [iV (IntKind.wrap .i64 (aR + p2))]) aU aw aT (Upd.whole (Blt.int)) q il3 q q q q fun bt aV => B <| C <| WP_tail 9 (by kernel_rfl) (by kernel_rfl) fun bu aW => have al := aV.grow aW; qF uf27 fi27_3 nz3 q q q <| l u3 q (R al.p2) q q q q <| qM q q q <| qF uf27 fi27_1 nz24 q q q <| l u24 q (R al.p2) q q q q <| qM q q q <| O h fun ax ay h => b al.ctx hS4 ay u24 i3 q q q q fun bv bw bz aX => ?_
 refine lI u3 q (al.el hS4 ay aX) q q q <| A q (qt_mul q q) q q <| SL_nil <| A q (qt_sub q q) q q <| qF uf27 fi27_3 nz3 q q q <| have aY := al.p2; WL_store_bx aY q il3 q q q q q fun bA az => rN <| lA (R az.p0) us27 uo27 il27 q q q <| have am := az.p2; zl (cs' := [A0, A1, A2, iV (IntKind.wrap .i64 (B3 - (IntKind.wrap .i64 (p2 * ax)))), A4]) am q il27 q (T (am.ctx.sliceOne hS3) (T (am.ctx.sliceOne hS4) (T (am.ctx.sliceOne hS2) (T q (T (am.ctx.sliceOne hS5) q))))) q q q fun bB aA => qA q q q <| B <| W fun a ha => ?_
 cases h
 refine have aZ := R aA.p0; have a0 := aA.q0.q0.p3.p1.p3.p3; ?_
 exact retct q ha q q (run_loadVar_bx (cs := [A0, A1, A2, iV (IntKind.wrap .i64 (B3 - (IntKind.wrap .i64 (p2 * ax)))), A4]) us27 uo27 il27 aZ) ⟨A0, A1, A2, A4, q, a0⟩
theorem w_spec_MakeRun {w : World} {G : List Res} {vp0 : Value} {p0 : LI} (hp0 : Has G ty12 vp0 p0) {vp1 : Value} {p1 : List Int} (hp1 : Has G tI vp1 p1) {A2_0 : Value} {p2_0 : List Int} (hp2_0 : Has G tI A2_0 p2_0) {A2_1 : Value} {p2_1 : List Int} (hp2_1 : Has G tI A2_1 p2_1) {r : (List Int) × Bool} (h : spec_MakeRunS p0 p1 p2_0 p2_1 = some r) (H : Ctx w G) : Calls Tryz.prog 72 #[vp0, vp1, .agg #[A2_0, A2_1]] w fun e w' => ∃ (v1 : Value), e = .returned (.tuple #[v1, .bool r.2]) ∧ Holds M0 w w' [.sl 3 tI v1 r.1] G := by
 refine E0 (n := 111) H Tryz.func72 q q q fun H => ?_
 unfold spec_MakeRunS at h
 refine C <| Z <| WL_box (cs := [A2_0, A2_1]) H q q q q fun b1 w2 H3 => qA q q q <| qA q q q <| B <| C <| C <| zk <| qM q q q <| O h fun x5 aR h => Qc q q c86 H3 (fun _ => w_spec_ItemsValid (hp0.c) aR) q <| A q (qt_not q) q q <| qM q q q <| O h fun b7 aj h => ?_
 refine Go (res := b7) 4 (if_t · aj) (fun ak bR aS => ?_) ?_
 ·exact have aj := if_f ak aj; qM (J q ak) q q <| qM (J q ak) q q <| O aj fun bS aT aj => Qc (J q ak) q c51 H3 (fun _ => w_spec_l1Amounts (hp0.c) (hp1.c) aT) q <| A (J q ak) (qt_not q) q q <| aS 4 q q q aj
 refine qM q q q ?_
 refine Go (res := (b7 || ((List.length p2_0 : Int) != (List.length p0 : Int)))) 6 os (fun ag bT aU => ?_) ?_
 ·exact qF uf101 fi101_0 nz24 (J q ag) q q <| l u24 q (R H3.p0) q (J q ag) q q <| za H3.ctx (t := tI) (hp2_0.c) u24 (J q ag) q q <| qM (J q ag) q q <| za H3.ctx (t := ty12) (hp0.c) u23 (J q ag) q q <| A (J q ag) (qt_neq q q) q q <| aU 6 q q q (oi ag)
 refine Qn H3 fun a ha bU aw => X <| S1 ha ?_
 refine Yh q h (fun h => ?_) (fun h => ?_)
 ·refine C <| Z <| zs (t := tI) (args := []) (xs := ([] : List Int)) aw (BltL.nil) u24 j3 q q q q q q fun aV bV aW => qA q q q <| qA q q q <| B <| W fun a ha => ?_
  cases h
  have aX := aW.q1
  exact m (ret2 q ha q q ⟨aV, q, aX⟩)
 refine y <| C <| Z <| zs (t := tI) (args := []) (xs := ([] : List Int)) aw (BltL.nil) u24 j3 q q q q q q fun bW bX aY => qM q q q <| O h fun bY aZ h => zw aY (hp1.c.c) aZ u24 j3 q q q q q q fun ae bZ a0 => qA q q q <| B <| C <| rR <| qA q q q <| B <| g <| O h fun ap a1 h => have a2 := a0.p1; ?_
 refine fun b0 a3 => zp (I := fun s a w2 => match s with | (aq, ax) => (Fr a 111 [(0, vp0), (5, pB b1), (8, ae), (9, iV aq)] ∧ Holds M0 w w2 [.bx b1 101 [A2_0, A2_1], .sl 3 tI ae ax] G)) (O := fun o e a w2 => match o with | .inl q0 => e = .exit 0 ∧ (Fr a 111 [(8, ae)] ∧ Holds M0 w w2 [.sl 3 tI ae q0] G) | .inr (q0, q1, q2) => e = .ret ∧ ∃ al, Fr a 111 [(6, al), (7, .bool q1)] ∧ Holds M0 w w2 [.sl 3 tI al q0] G) a1 ?_ ?_ ?_
 ·exact ⟨a3.s, a2⟩
 ·rintro ⟨aq, ax⟩ _ a b4 aa ⟨ha, ah⟩
  refine S1 ha <| C <| rR <| qM q q q <| qM q q q <| za ah.ctx (t := ty12) (hp0.c.c) u23 q q q <| A q (qt_lss q q) q q <| B ?_
  refine Yh q aa (fun aa => ?_) (fun aa => ?_)
  ·refine y <| C <| g <| C <| C <| zk <| qF uf101 fi101_0 nz24 q q q <| l u24 q (R ah.p0) q q q q <| qM q q q <| O aa fun b5 ay aa => b ah.ctx (hp2_0.c.c) ay u24 i3 q q q q fun b6 b8 b9 a4 => lI u3 q (ah.el (hp2_0.c.c) ay a4) q q q <| O aa fun ca a5 aa => Qc q q c52 ah (fun _ => w_spec_l1In a5) q <| A q (qt_not q) q q <| Qn ah fun a ha cb az => X <| S1 ha ?_
   refine Yh q aa (fun aa => ?_) (fun aa => ?_)
   ·refine C <| Z <| zs (t := tI) (args := []) (xs := ([] : List Int)) az (BltL.nil) u24 j3 q q q q q q fun a6 cc a7 => qA q q q <| qA q q q <| B <| W fun a ha => ?_
    cases aa
    have a8 := a7.q1.q1
    exact m (zj (m (⟨ret_ne, q, a6, ha.s, a8⟩)))
   refine y <| C <| rR <| qA q q q <| B <| g <| O aa fun ar a9 aa => have ba := az.p1.p1; ?_
   refine fun cd bb => zp (I := fun s a w2 => match s with | (aA, aB) => (Fr a 111 [(0, vp0), (5, pB b1), (8, ae), (9, iV aq), (10, iV aA)] ∧ Holds M0 w w2 [.bx b1 101 [A2_0, A2_1], .sl 3 tI ae aB] G)) (O := fun o e a w2 => match o with | .inl q0 => e = .exit 2 ∧ (Fr a 111 [(0, vp0), (5, pB b1), (8, ae), (9, iV aq)] ∧ Holds M0 w w2 [.bx b1 101 [A2_0, A2_1], .sl 3 tI ae q0] G) | .inr (q0, q1, q2) => e = .ret ∧ ∃ al, Fr a 111 [(6, al), (7, .bool q1)] ∧ Holds M0 w w2 [.sl 3 tI al q0] G) a9 ?_ ?_ ?_
   ·exact ⟨bb.s, ba⟩
   ·rintro ⟨aA, aB⟩ _ a ce ab ⟨ha, aC⟩
    refine S1 ha <| C <| rR <| qM q q q <| qM q q q <| qM q q q <| O ab fun cf aD ab => b aC.ctx (hp0.c.c) aD u23 i55 q q q q fun cg ch ci bc => qF uf55 fi55_1 nz53 q q q <| lV u53 q (aC.el (hp0.c.c) aD bc).s.f q q q fun cj au => za au.ctx (t := ty2) hR0 u53 q q q <| A q (qt_lss q q) q q <| B ?_
    refine Yh q ab (fun ab => ?_) (fun ab => ?_)
    ·refine y <| C <| g <| rR <| qM q q q <| qM q q q <| O ab fun ck aE ab => b au.ctx (hp0.c.c.c) aE u23 i55 q q q q fun cl cm cn bd => qF uf55 fi55_1 nz53 q q q <| lV u53 q (au.el (hp0.c.c.c) aE bd).s.f q q q fun co av => qM q q q <| O ab fun am aF ab => b av.ctx hR0 aF u53 i57 q q q q fun cp cq cr be => ?_
     obtain ⟨ct, bf, cu⟩ := av.atN hR0 aF be
     refine XL_load_agg (t := ty2) us57 uo57 i57 bf q q q fun cv bg => ?_
     obtain ⟨c108, c109, cw, cx, rfl, cy, bh, bi⟩ := bg
     obtain ⟨rfl, _⟩ := bh
     obtain ⟨rfl, _⟩ := bi
     change XL _ _ _ _ _ ((64, .agg #[iV am.1, iV am.2]) :: _) _
     refine zq (cs := [iV 0, iV 0]) av z57 q q q fun cz cA bj => zl (cs' := [iV am.1, iV am.2]) bj q il57 q q q q q fun cB bk => B <| C <| WP_tail 17 (by kernel_rfl) (by kernel_rfl) fun cC bl => have ad := bk.grow bl; qM q q q <| qF uf57 fi57_0 nz3 q q q <| l u3 q (R ad.p0) q q q q <| qM q q q <| qF uf57 fi57_0 nz3 q q q <| l u3 q (R ad.p0) q q q q <| O ab fun bm aG ab => b ad.ctx hS4 aG u24 i3 q q q q fun cD cE cF bn => lI u3 q (ad.el hS4 aG bn) q q q <| qF uf101 fi101_0 nz24 q q q <| l u24 q (R ad.p3) q q q q <| qM q q q <| O ab fun bo aH ab => b ad.ctx (hp2_0.c.c.c.c.c) aH u24 i3 q q q q fun cG cH cI bp => lI u3 q (ad.el (hp2_0.c.c.c.c.c) aH bp) q q q <| qF uf57 fi57_1 nz3 q q q <| l u3 q (R ad.p0) q q q q <| A q (qt_mul q q) q q <| A q (qt_sub q q) q q <| SL_nil <| O ab fun cJ aI ab => b ad.ctx hS4 aI u24 i3 q q q q fun cK cL cM bq => have br := ad.p4; WL_storeH (fo := 0) (cs' := [iV (IntKind.wrap .i64 (bm - (IntKind.wrap .i64 (bo * am.2))))]) br aI bq (Upd.whole (Blt.int)) q il3 q q q q fun cN ao => ?_
     refine rN <| qM q q q <| qF uf57 fi57_0 nz3 q q q <| l u3 q (R ao.p1) q q q q <| O ab fun cO aJ ab => b ao.ctx hS0 aJ u24 i3 q q q q fun cP cQ cR bs => lI u3 q (ao.el hS0 aJ bs) q q q <| A q (qt_lss q q) q q <| B ?_
     refine Yh q ab (fun ab => ?_) (fun ab => ?_)
     ·refine C <| Z <| zs (t := tI) (args := []) (xs := ([] : List Int)) ao (BltL.nil) u24 j3 q q q q q q fun bt cS bu => qA q q q <| qA q q q <| B <| W fun a ha => ?_
      cases ab
      have bv := bu.q1.q1.q1.q1.q1
      exact zj (m (⟨ret_ne, q, bt, ha.s, bv⟩))
     refine WP_skip fun a ha => zi <| X <| S1 ha <| Z <| qM q q q <| A q (qt_add q q) q q <| qA q q q <| WL_nil fun a ha => ?_
     cases ab
     have bw := ao.q1.q1.q1.p1
     exact ⟨q, ha.s, bw⟩
    refine WP_exit fun a ha => ?_
    cases ab
    have bz := au.q0.p1.p1
    exact zo (⟨exit_ne, q, ha.s, bz⟩)
   intro e a cT aK
   rcases ar with ar | ar
   ·obtain ⟨rfl, ha, bA⟩ := aK
    refine zn <| X <| S1 ha <| WP_tail 19 (by kernel_rfl) (by kernel_rfl) fun cU bB => have af := bA.grow bB; qM q q q <| qM q q q <| qM q q q <| qM q q q <| O aa fun bC aL aa => b af.ctx hS1 aL u24 i3 q q q q fun cV cW cX bD => lI u3 q (af.el hS1 aL bD) q q q <| qF uf101 fi101_0 nz24 q q q <| l u24 q (R af.p0) q q q q <| qM q q q <| O aa fun bE aM aa => b af.ctx (hp2_0.c.c) aM u24 i3 q q q q fun cY cZ c0 bF => lI u3 q (af.el (hp2_0.c.c) aM bF) q q q <| qM q q q <| qM q q q <| O aa fun aN aO aa => b af.ctx (hp0.c.c) aO u23 i55 q q q q fun c1 c2 c3 bG => qF uf55 fi55_0 nz3 q q q <| lI u3 q (af.el (hp0.c.c) aO bG).f q q q <| A q (qt_max q q) q q <| A q (qt_mul q q) q q <| A q (qt_add q q) q q <| SL_nil <| O aa fun c4 aP aa => b af.ctx hS1 aP u24 i3 q q q q fun c5 c6 da bH => have bI := af.p1; WL_storeH (fo := 0) (cs' := [iV (IntKind.wrap .i64 (bC + (IntKind.wrap .i64 (bE * (if 1 > aN.1 then 1 else aN.1)))))]) bI aP bH (Upd.whole (Blt.int)) q il3 q q q q fun db bJ => ?_
    refine WL_nil fun a ha => zi <| X <| S1 ha <| Z <| qM q q q <| A q (qt_add q q) q q <| qA q q q <| WL_nil fun a ha => ?_
    cases aa
    have bK := bJ.p1
    exact ⟨q, ha.s, bK⟩
   obtain ⟨dc, dd, de⟩ := ar
   obtain ⟨rfl, bL, ha, bM⟩ := aK
   cases aa
   exact zj (m (zj (m (⟨ret_ne, q, bL, ha.s, bM⟩))))
  refine WP_exit fun a ha => ?_
  cases aa
  have bN := ah.q0
  exact zo (⟨exit_ne, q, ha.s, bN⟩)
 intro e a df aQ
 rcases ap with ap | ap
 ·obtain ⟨rfl, ha, bO⟩ := aQ
  refine zn <| X <| S1 ha <| rR <| qM q q q <| qA q q q <| qA q q q <| B <| W fun a ha => ?_
  cases h
  exact ret2 q ha q q ⟨ae, q, bO⟩
 obtain ⟨dg, dh, di⟩ := ap
 obtain ⟨rfl, bP, ha, bQ⟩ := aQ
 cases h
 exact zj (m (ret2 q ha q q ⟨bP, q, bQ⟩))
theorem w_spec_l7Make {w : World} {G : List Res} {A0 : Value} {B0 : LI} {A1 : Value} {B1 : List Int} {A2 : Value} {B2 : List Int} {B3 : Int} {A4 : Value} {B4 : LT} {p1 : Int} {p2 : Int} {r : (LI × (List Int) × (List Int) × Int × LT) × Bool} (h : spec_l7MakeS B0 B1 B2 B3 B4 p1 p2 = some r) (H : Ctx w ([.sl 55 ty12 A0 B0, .sl 3 tI A1 B1, .sl 3 tI A2 B2, .sl 47 ty14 A4 B4] ++ G)) : Calls Tryz.prog 35 #[.agg #[A0, A1, A2, iV B3, A4], iV p1, iV p2] w fun e w' => ∃ (v1 : Value) (v2 : Value) (v3 : Value) (v4 : Value), e = .returned (.tuple #[.agg #[v1, v2, v3, iV r.1.2.2.2.1, v4], .bool r.2]) ∧ Holds (([.sl 55 ty12 A0 B0, .sl 3 tI A1 B1, .sl 3 tI A2 B2, .sl 47 ty14 A4 B4] : List Res).flatMap Res.own) w w' [.sl 55 ty12 v1 r.1.1, .sl 3 tI v2 r.1.2.1, .sl 3 tI v3 r.1.2.2.1, .sl 47 ty14 v4 r.1.2.2.2.2] G := by
 refine E1 (n := 64) H Tryz.func35 q q q fun H => ?_
 unfold spec_l7MakeS at h
 refine C <| Z <| WL_box (cs := [A0, A1, A2, iV B3, A4]) H q q q q fun b1 w2 H3 => zq (cs := [nS, nS, nS, iV 0, nS]) H3 z27 q q q fun b5 w6 H7 => qA q q q <| B <| C <| C <| zk <| qM q q q <| qF uf27 fi27_0 nz23 q q q <| l u23 q (R H7.p1) q q q q <| za H7.ctx (t := ty12) hS2 u23 q q q <| A q (qt_sub q q) q q <| O h fun aV aB h => Qc q q c52 H7 (fun _ => w_spec_l1In aB) q <| A q (qt_not q) q q <| qM q q q <| O h fun aC ad h => ?_
 refine Go (res := aC) 7 (if_t · ad) (fun ab aW aD => ?_) ?_
 ·exact have ad := if_f ab ad; qF uf27 fi27_0 nz23 (J q ab) q q <| l u23 q (R H7.p1) q (J q ab) q q <| qM (J q ab) q q <| O ad fun aX aq ad => b H7.ctx hS2 aq u23 i55 (J q ab) q q q fun aY aZ a0 aE => qF uf55 fi55_0 nz3 (J q ab) q q <| lI u3 q (H7.el hS2 aq aE).f (J q ab) q q <| A (J q ab) (qt_eql q q) q q <| aD 7 q q q ad
 refine qM q q q <| O h fun aF ae h => ?_
 refine Go (res := aF) 3 (if_t · ae) (fun am a1 aG => ?_) ?_
 ·exact have ae := if_f am ae; qM (J q am) q q <| O ae fun a2 aH ae => Qc (J q am) q c52 H7 (fun _ => w_spec_l1In aH) q <| A (J q am) (qt_not q) q q <| aG 3 q q q ae
 refine Qn H7 fun a ha a3 aa => X <| S1 ha ?_
 refine Yh q h (fun h => ?_) (fun h => ?_)
 ·refine rR <| lA (R aa.p1) us27 uo27 il27 q q q <| zl (cs' := [A0, A1, A2, iV B3, A4]) aa q il27 q (T (aa.ctx.sliceOne hS2) (T (aa.ctx.sliceOne hS3) (T (aa.ctx.sliceOne hS4) (T q (T (aa.ctx.sliceOne hS5) q))))) q q q fun a4 ar => qA q q q <| B <| W fun a ha => ?_
  cases h
  refine have aI := R ar.p0; have aJ := ar.q0.q0.p3.p3.p3.p3; ?_
  exact m (retct q ha q q (run_loadVar_bx (cs := [A0, A1, A2, iV B3, A4]) us27 uo27 il27 aI) ⟨A0, A1, A2, A4, q, aJ⟩)
 refine y <| rR <| qF uf27 fi27_0 nz23 q q q <| l u23 q (R aa.p1) q q q q <| za aa.ctx (t := ty12) hS2 u23 q q q <| O h fun a5 aK h => WL_makeH aa aK u24 j3 q (fun _ => ⟨q, q⟩) q q q q q fun au a6 av => qA q q q <| rN <| qM q q q <| qM q q q <| qM q q q <| O h fun a7 aw h => b av.ctx hS0 aw u24 i3 q q q q fun a8 a9 ba aL => WL_storeH (fo := 0) (cs' := [iV p2]) av aw aL (Upd.whole (Blt.int)) q il3 q q q q fun bb ah => rN <| qF uf27 fi27_0 nz23 q q q <| l u23 q (R ah.p2) q q q q <| qF uf27 fi27_2 nz24 q q q <| l u24 q (R ah.p2) q q q q <| qM q q q <| A q (qt_build (args := [(0, .tmp 46)]) (css := [#[au]]) (cells := #[au, nS]) q ⟨(ah.ctx.sliceCells hS0), trivial⟩ (by kernel_rfl)) q q <| O h fun bc aM h => V1 q q c72 (w_spec_MakeRun hS3 hS5 hS0 (HasRo.has HasRo.nil) aM ah.ctx) q fun ao bd aN => have aj := ah.cN1 [] aN; qM q q q <| A q (zv q q) q q <| A q (zv q q) q q <| qA q q q <| qA q q q <| B <| C <| rR <| qM q q q ?_
 refine A q (qt_not q) q q <| qM q q q <| O h fun aO af h => ?_
 refine Ho (res := aO) 5 (if_t · af) (fun ag be aP => ?_) ?_
 ·exact have af := if_f ag af; qM (J q ag) q q <| qM (J q ag) q q <| O af fun bf ax af => b aj.ctx hS0 ax u24 i3 (J q ag) q q q fun bg bh bi aQ => lI u3 q (aj.el hS0 ax aQ) (J q ag) q q <| A (J q ag) (qt_gtr q q) q q <| aP 5 q q q af
 refine B ?_
 refine Yh q h (fun h => ?_) (fun h => ?_)
 ·refine rR <| lA (R aj.p3) us27 uo27 il27 q q q <| have ak := aj.p2; zl (cs' := [A0, A1, A2, iV B3, A4]) ak q il27 q (T (ak.ctx.sliceOne hS4) (T (ak.ctx.sliceOne hS5) (T (ak.ctx.sliceOne hS6) (T q (T (ak.ctx.sliceOne hS7) q))))) q q q fun bj ay => qA q q q <| B <| W fun a ha => ?_
  cases h
  refine have aR := R ay.p0; have aS := ay.q0.q0.q0.q0.p3.p3.p3.p3; ?_
  exact m (retct q ha q q (run_loadVar_bx (cs := [A0, A1, A2, iV B3, A4]) us27 uo27 il27 aR) ⟨A0, A1, A2, A4, q, aS⟩)
 refine y <| rR <| qM q q q <| qF uf27 fi27_2 nz24 q q q <| have ap := aj.p3; WL_store_bx ap q il24 (ap.ctx.sliceCells hS1) (ap.ctx.sliceOne hS1) q q q fun bk az => rN <| lA (R az.p0) us27 uo27 il27 q q q <| have al := az.p3; zl (cs' := [A0, A1, ao, iV B3, A4]) al q il27 q (T (al.ctx.sliceOne hS4) (T (al.ctx.sliceOne hS5) (T (al.ctx.sliceOne hS2) (T q (T (al.ctx.sliceOne hS7) q))))) q q q fun bl aA => qA q q q <| B <| W fun a ha => ?_
 cases h
 refine have aT := R aA.p0; have aU := aA.q0.q0.q1.q3.p3.p1.p3.p3; ?_
 exact retct q ha q q (run_loadVar_bx (cs := [A0, A1, ao, iV B3, A4]) us27 uo27 il27 aT) ⟨A0, A1, ao, A4, q, aU⟩
theorem w_spec_l7Order {w : World} {G : List Res} {A0 : Value} {B0 : LI} {A1 : Value} {B1 : List Int} {A2 : Value} {B2 : List Int} {B3 : Int} {A4 : Value} {B4 : LT} {p1 : Int} {p2 : Int} {p3 : Int} {r : (LI × (List Int) × (List Int) × Int × LT) × Bool} (h : spec_l7OrderS B0 B1 B2 B3 B4 p1 p2 p3 = some r) (H : Ctx w ([.sl 55 ty12 A0 B0, .sl 3 tI A1 B1, .sl 3 tI A2 B2, .sl 47 ty14 A4 B4] ++ G)) : Calls Tryz.prog 36 #[.agg #[A0, A1, A2, iV B3, A4], iV p1, iV p2, iV p3] w fun e w' => ∃ (v1 : Value) (v2 : Value) (v3 : Value) (v4 : Value), e = .returned (.tuple #[.agg #[v1, v2, v3, iV r.1.2.2.2.1, v4], .bool r.2]) ∧ Holds (([.sl 55 ty12 A0 B0, .sl 3 tI A1 B1, .sl 3 tI A2 B2, .sl 47 ty14 A4 B4] : List Res).flatMap Res.own) w w' [.sl 55 ty12 v1 r.1.1, .sl 3 tI v2 r.1.2.1, .sl 3 tI v3 r.1.2.2.1, .sl 47 ty14 v4 r.1.2.2.2.2] G := by
 refine E1 (n := 93) H Tryz.func36 q q q fun H => ?_
 unfold spec_l7OrderS at h
 refine C <| Z <| WL_box (cs := [A0, A1, A2, iV B3, A4]) H q q q q fun b1 w2 H3 => zq (cs := [nS, nS, nS, iV 0, nS]) H3 z27 q q q fun b5 w6 H7 => qA q q q <| B <| C <| C <| O h fun ba aE h => O h fun cM aX h => O h fun cN aK h => O h fun bb aF h => ?_
 refine WP_join (M := fun a w2 => (Fr a 93 [(1, iV p1), (2, iV p2), (3, iV p3), (4, pB b1), (8, pB b5), (48, .bool bb)] ∧ Holds (([.sl 55 ty12 A0 B0, .sl 3 tI A1 B1, .sl 3 tI A2 B2, .sl 47 ty14 A4 B4] : List Res).flatMap Res.own) w w2 [.bx b1 27 [A0, A1, A2, iV B3, A4], .sl 55 ty12 A0 B0, .sl 3 tI A1 B1, .sl 3 tI A2 B2, .sl 47 ty14 A4 B4, .bx b5 27 [nS, nS, nS, iV 0, nS]] G)) ?_ ?_
 ·refine WP_ordersT (fun w1 w2 => Chg M0 w1 w2) 38 (by kernel_rfl) fun aL bc => have az := H7.grow bc; ?_
  have ak : Ctx aL ([] ++ ([.bx b5 27 [nS, nS, nS, iV 0, nS], .bx b1 27 [A0, A1, A2, iV B3, A4], .sl 55 ty12 A0 B0, .sl 3 tI A1 B1, .sl 3 tI A2 B2, .sl 47 ty14 A4 B4] ++ G)) := az.ctx
  have aa : Holds _ aL aL [] ([.bx b5 27 [nS, nS, nS, iV 0, nS], .bx b1 27 [A0, A1, A2, iV B3, A4], .sl 55 ty12 A0 B0, .sl 3 tI A1 B1, .sl 3 tI A2 B2, .sl 47 ty14 A4 B4] ++ G) := zb (Rs := []) ak
  rcases btf (!ba) with ab | ab
  ·have bd := if_t ab aX
   obtain rfl := L bd
   have ar : true = true := q
   have be := if_t ar aK
   obtain rfl := L be
   have al : true = true := q
   have bf := if_t al aF
   obtain rfl := L bf
   refine XQ (i := 0) q (by kernel_rfl) q aa.chg q (fun _ => qt_move q) q q <| XQ (i := 1) q (by kernel_rfl) q aa.chg q (fun _ => qt_fieldAddr uf27 fi27_4 nz25 q) q q <| have bg := HasB.bx (HasB.c (HasB.hd)) aa.ctx; XT (i := 2) q (by kernel_rfl) q aa.chg q (qs_cell u25 q q (bg.cell (i := 4) q) aa.chg (Ctx.outB ak (HasB.c (HasB.hd)))) q q <| XT (i := 3) q (by kernel_rfl) q aa.chg q (qs_len (t := ty14) aa.ctx hS5 u25 q) q q <| XQ (i := 4) q (by kernel_rfl) q aa.chg q (fun _ => qt_sub q q) q q <| X1 5 (by kernel_rfl) q <| V0 q q c52 (w_spec_l1In aE aa.ctx) q fun cO bh => have ae := aa.cN0 [] bh; XN ae.chg <| XQ (i := 6) q (by kernel_rfl) q ae.chg q (fun _ => qt_not q) q q <| XQ (i := 7) q (by kernel_rfl) q ae.chg q (fun _ => qt_move q) q q <| XS (i := 8) q (by kernel_rfl) q ae.chg q ab q q <| XS (i := 9) q (by kernel_rfl) q ae.chg q ab q q <| XS (i := 10) q (by kernel_rfl) q ae.chg q ab q q <| XS (i := 11) q (by kernel_rfl) q ae.chg q ab q q <| XS (i := 12) q (by kernel_rfl) q ae.chg q ab q q <| XS (i := 13) q (by kernel_rfl) q ae.chg q ab q q <| XS (i := 14) q (by kernel_rfl) q ae.chg q ab q q ?_
   refine XQ (i := 15) q (by kernel_rfl) q ae.chg q (fun _ => ze q ab q) q q <| XQ (i := 16) q (by kernel_rfl) q ae.chg q (fun _ => qt_move q) q q <| XS (i := 17) q (by kernel_rfl) q ae.chg q ar q q <| XS (i := 18) q (by kernel_rfl) q ae.chg q ar q q <| XS (i := 19) q (by kernel_rfl) q ae.chg q ar q q <| XS (i := 20) q (by kernel_rfl) q ae.chg q ar q q <| XS (i := 21) q (by kernel_rfl) q ae.chg q ar q q <| XS (i := 22) q (by kernel_rfl) q ae.chg q ar q q <| XQ (i := 23) q (by kernel_rfl) q ae.chg q (fun _ => ze q ar q) q q <| XQ (i := 24) q (by kernel_rfl) q ae.chg q (fun _ => qt_move q) q q <| XS (i := 25) q (by kernel_rfl) q ae.chg q al q q <| XS (i := 26) q (by kernel_rfl) q ae.chg q al q q <| XS (i := 27) q (by kernel_rfl) q ae.chg q al q q <| XS (i := 28) q (by kernel_rfl) q ae.chg q al q q <| XS (i := 29) q (by kernel_rfl) q ae.chg q al q q <| XS (i := 30) q (by kernel_rfl) q ae.chg q al q q <| XS (i := 31) q (by kernel_rfl) q ae.chg q al q q <| XS (i := 32) q (by kernel_rfl) q ae.chg q al q q <| XS (i := 33) q (by kernel_rfl) q ae.chg q al q q <| XS (i := 34) q (by kernel_rfl) q ae.chg q al q q ?_
   exact XS (i := 35) q (by kernel_rfl) q ae.chg q al q q <| XS (i := 36) q (by kernel_rfl) q ae.chg q al q q <| XQ (i := 37) q (by kernel_rfl) q ae.chg q (fun _ => ze q al q) q q <| have bi := az.cN0 [] ae; XC_done (by kernel_rfl) fun a ha => have bj := bi.p5.p5.p5.p5.p5; ⟨ha.s, bj⟩
  refine have aM := if_f ab aX; O aM fun bk aN aM => ?_
  obtain rfl := L aM
  rcases btf (!bk) with aj | aj
  ·have bl := if_t aj aK
   obtain rfl := L bl
   have am : true = true := q
   have bm := if_t am aF
   obtain rfl := L bm
   refine XQ (i := 0) q (by kernel_rfl) q aa.chg q (fun _ => qt_move q) q q <| XQ (i := 1) q (by kernel_rfl) q aa.chg q (fun _ => qt_fieldAddr uf27 fi27_4 nz25 q) q q <| have bn := HasB.bx (HasB.c (HasB.hd)) aa.ctx; XT (i := 2) q (by kernel_rfl) q aa.chg q (qs_cell u25 q q (bn.cell (i := 4) q) aa.chg (Ctx.outB ak (HasB.c (HasB.hd)))) q q <| XT (i := 3) q (by kernel_rfl) q aa.chg q (qs_len (t := ty14) aa.ctx hS5 u25 q) q q <| XQ (i := 4) q (by kernel_rfl) q aa.chg q (fun _ => qt_sub q q) q q <| X1 5 (by kernel_rfl) q <| V0 q q c52 (w_spec_l1In aE aa.ctx) q fun cP bo => have ao := aa.cN0 [] bo; XN ao.chg <| XQ (i := 6) q (by kernel_rfl) q ao.chg q (fun _ => qt_not q) q q <| XQ (i := 7) q (by kernel_rfl) q ao.chg q (fun _ => qt_move q) q q <| XQ (i := 8) q (by kernel_rfl) q ao.chg (J q ab) (fun _ => qt_move q) q q <| XQ (i := 9) q (by kernel_rfl) q ao.chg (J q ab) (fun _ => qt_fieldAddr uf27 fi27_0 nz23 q) q q ?_
   refine have bp := HasB.bx (HasB.c (HasB.hd)) ao.ctx; XT (i := 10) q (by kernel_rfl) q ao.chg (J q ab) (qs_cell u23 q q (bp.cell (i := 0) q) ao.chg (Ctx.outB ak (HasB.c (HasB.hd)))) q q <| XT (i := 11) q (by kernel_rfl) q ao.chg (J q ab) (qs_len (t := ty12) ao.ctx hS2 u23 q) q q <| XQ (i := 12) q (by kernel_rfl) q ao.chg (J q ab) (fun _ => qt_sub q q) q q <| X1 13 (by kernel_rfl) q <| V0 (J q ab) q c52 (w_spec_l1In aN ao.ctx) q fun cQ bq => have ah := ao.cN0 [] bq; XN ah.chg <| XQ (i := 14) q (by kernel_rfl) q ah.chg (J q ab) (fun _ => qt_not q) q q <| XQ (i := 15) q (by kernel_rfl) q ah.chg q (fun _ => zf q ab q) q q <| XQ (i := 16) q (by kernel_rfl) q ah.chg q (fun _ => qt_move q) q q <| XS (i := 17) q (by kernel_rfl) q ah.chg q aj q q <| XS (i := 18) q (by kernel_rfl) q ah.chg q aj q q <| XS (i := 19) q (by kernel_rfl) q ah.chg q aj q q <| XS (i := 20) q (by kernel_rfl) q ah.chg q aj q q <| XS (i := 21) q (by kernel_rfl) q ah.chg q aj q q <| XS (i := 22) q (by kernel_rfl) q ah.chg q aj q q ?_
   exact XQ (i := 23) q (by kernel_rfl) q ah.chg q (fun _ => ze q aj q) q q <| XQ (i := 24) q (by kernel_rfl) q ah.chg q (fun _ => qt_move q) q q <| XS (i := 25) q (by kernel_rfl) q ah.chg q am q q <| XS (i := 26) q (by kernel_rfl) q ah.chg q am q q <| XS (i := 27) q (by kernel_rfl) q ah.chg q am q q <| XS (i := 28) q (by kernel_rfl) q ah.chg q am q q <| XS (i := 29) q (by kernel_rfl) q ah.chg q am q q <| XS (i := 30) q (by kernel_rfl) q ah.chg q am q q <| XS (i := 31) q (by kernel_rfl) q ah.chg q am q q <| XS (i := 32) q (by kernel_rfl) q ah.chg q am q q <| XS (i := 33) q (by kernel_rfl) q ah.chg q am q q <| XS (i := 34) q (by kernel_rfl) q ah.chg q am q q <| XS (i := 35) q (by kernel_rfl) q ah.chg q am q q <| XS (i := 36) q (by kernel_rfl) q ah.chg q am q q <| XQ (i := 37) q (by kernel_rfl) q ah.chg q (fun _ => ze q am q) q q <| have br := az.cN0 [] ah; XC_done (by kernel_rfl) fun a ha => have bs := br.p5.p5.p5.p5.p5; ⟨ha.s, bs⟩
  refine have aO := if_f aj aK; O aO fun bt au aO => ?_
  obtain rfl := L aO
  rcases btf (decide (bt < 1)) with ag | ag
  ·have bu := if_t ag aF
   obtain rfl := L bu
   refine XQ (i := 0) q (by kernel_rfl) q aa.chg q (fun _ => qt_move q) q q <| XQ (i := 1) q (by kernel_rfl) q aa.chg q (fun _ => qt_fieldAddr uf27 fi27_4 nz25 q) q q <| have bv := HasB.bx (HasB.c (HasB.hd)) aa.ctx; XT (i := 2) q (by kernel_rfl) q aa.chg q (qs_cell u25 q q (bv.cell (i := 4) q) aa.chg (Ctx.outB ak (HasB.c (HasB.hd)))) q q <| XT (i := 3) q (by kernel_rfl) q aa.chg q (qs_len (t := ty14) aa.ctx hS5 u25 q) q q <| XQ (i := 4) q (by kernel_rfl) q aa.chg q (fun _ => qt_sub q q) q q <| X1 5 (by kernel_rfl) q <| V0 q q c52 (w_spec_l1In aE aa.ctx) q fun cR bw => have ap := aa.cN0 [] bw; XN ap.chg <| XQ (i := 6) q (by kernel_rfl) q ap.chg q (fun _ => qt_not q) q q <| XQ (i := 7) q (by kernel_rfl) q ap.chg q (fun _ => qt_move q) q q <| XQ (i := 8) q (by kernel_rfl) q ap.chg (J q ab) (fun _ => qt_move q) q q <| XQ (i := 9) q (by kernel_rfl) q ap.chg (J q ab) (fun _ => qt_fieldAddr uf27 fi27_0 nz23 q) q q ?_
   refine have bz := HasB.bx (HasB.c (HasB.hd)) ap.ctx; XT (i := 10) q (by kernel_rfl) q ap.chg (J q ab) (qs_cell u23 q q (bz.cell (i := 0) q) ap.chg (Ctx.outB ak (HasB.c (HasB.hd)))) q q <| XT (i := 11) q (by kernel_rfl) q ap.chg (J q ab) (qs_len (t := ty12) ap.ctx hS2 u23 q) q q <| XQ (i := 12) q (by kernel_rfl) q ap.chg (J q ab) (fun _ => qt_sub q q) q q <| X1 13 (by kernel_rfl) q <| V0 (J q ab) q c52 (w_spec_l1In aN ap.ctx) q fun cS bA => have af := ap.cN0 [] bA; XN af.chg <| XQ (i := 14) q (by kernel_rfl) q af.chg (J q ab) (fun _ => qt_not q) q q <| XQ (i := 15) q (by kernel_rfl) q af.chg q (fun _ => zf q ab q) q q <| XQ (i := 16) q (by kernel_rfl) q af.chg q (fun _ => qt_move q) q q <| XQ (i := 17) q (by kernel_rfl) q af.chg (J q aj) (fun _ => qt_fieldAddr uf27 fi27_2 nz24 q) q q <| have bB := HasB.bx (HasB.c (HasB.hd)) af.ctx; XT (i := 18) q (by kernel_rfl) q af.chg (J q aj) (qs_cell u24 q q (bB.cell (i := 2) q) af.chg (Ctx.outB ak (HasB.c (HasB.hd)))) q q <| XQ (i := 19) q (by kernel_rfl) q af.chg (J q aj) (fun _ => qt_move q) q q ?_
   obtain ⟨cT, cU, cV, aP⟩ := Ctx.isAt af.ctx hS4 au
   refine XT (i := 20) q (by kernel_rfl) q af.chg (J q aj) (qs_index au aP u24 i3 q q) q q ?_
   obtain ⟨cW, bC, cX⟩ := af.at hS4 au aP
   refine XT (i := 21) q (by kernel_rfl) q af.chg (J q aj) (qs_cell u3 q q (AtP.cInt bC) af.chg (Ctx.outHas ak hS4 au aP)) q q <| XQ (i := 22) q (by kernel_rfl) q af.chg (J q aj) (fun _ => qt_lss q q) q q <| XQ (i := 23) q (by kernel_rfl) q af.chg q (fun _ => zf q aj q) q q <| XQ (i := 24) q (by kernel_rfl) q af.chg q (fun _ => qt_move q) q q <| XS (i := 25) q (by kernel_rfl) q af.chg q ag q q <| XS (i := 26) q (by kernel_rfl) q af.chg q ag q q <| XS (i := 27) q (by kernel_rfl) q af.chg q ag q q <| XS (i := 28) q (by kernel_rfl) q af.chg q ag q q <| XS (i := 29) q (by kernel_rfl) q af.chg q ag q q <| XS (i := 30) q (by kernel_rfl) q af.chg q ag q q <| XS (i := 31) q (by kernel_rfl) q af.chg q ag q q <| XS (i := 32) q (by kernel_rfl) q af.chg q ag q q <| XS (i := 33) q (by kernel_rfl) q af.chg q ag q q <| XS (i := 34) q (by kernel_rfl) q af.chg q ag q q <| XS (i := 35) q (by kernel_rfl) q af.chg q ag q q <| XS (i := 36) q (by kernel_rfl) q af.chg q ag q q <| XQ (i := 37) q (by kernel_rfl) q af.chg q (fun _ => ze q ag q) q q ?_
   exact have bD := az.cN0 [] af; XC_done (by kernel_rfl) fun a ha => have bE := bD.p5.p5.p5.p5.p5; ⟨ha.s, bE⟩
  refine have av := if_f ag aF; O av fun cY aG av => O av fun cZ bF av => O av fun c0 bG av => ?_
  obtain rfl := L av
  refine XQ (i := 0) q (by kernel_rfl) q aa.chg q (fun _ => qt_move q) q q <| XQ (i := 1) q (by kernel_rfl) q aa.chg q (fun _ => qt_fieldAddr uf27 fi27_4 nz25 q) q q <| have bH := HasB.bx (HasB.c (HasB.hd)) aa.ctx; XT (i := 2) q (by kernel_rfl) q aa.chg q (qs_cell u25 q q (bH.cell (i := 4) q) aa.chg (Ctx.outB ak (HasB.c (HasB.hd)))) q q <| XT (i := 3) q (by kernel_rfl) q aa.chg q (qs_len (t := ty14) aa.ctx hS5 u25 q) q q <| XQ (i := 4) q (by kernel_rfl) q aa.chg q (fun _ => qt_sub q q) q q <| X1 5 (by kernel_rfl) q <| V0 q q c52 (w_spec_l1In aE aa.ctx) q fun c1 bI => have aq := aa.cN0 [] bI; XN aq.chg <| XQ (i := 6) q (by kernel_rfl) q aq.chg q (fun _ => qt_not q) q q <| XQ (i := 7) q (by kernel_rfl) q aq.chg q (fun _ => qt_move q) q q <| XQ (i := 8) q (by kernel_rfl) q aq.chg (J q ab) (fun _ => qt_move q) q q <| XQ (i := 9) q (by kernel_rfl) q aq.chg (J q ab) (fun _ => qt_fieldAddr uf27 fi27_0 nz23 q) q q ?_
  refine have bJ := HasB.bx (HasB.c (HasB.hd)) aq.ctx; XT (i := 10) q (by kernel_rfl) q aq.chg (J q ab) (qs_cell u23 q q (bJ.cell (i := 0) q) aq.chg (Ctx.outB ak (HasB.c (HasB.hd)))) q q <| XT (i := 11) q (by kernel_rfl) q aq.chg (J q ab) (qs_len (t := ty12) aq.ctx hS2 u23 q) q q <| XQ (i := 12) q (by kernel_rfl) q aq.chg (J q ab) (fun _ => qt_sub q q) q q <| X1 13 (by kernel_rfl) q <| V0 (J q ab) q c52 (w_spec_l1In aN aq.ctx) q fun c2 bK => have ad := aq.cN0 [] bK; XN ad.chg <| XQ (i := 14) q (by kernel_rfl) q ad.chg (J q ab) (fun _ => qt_not q) q q <| XQ (i := 15) q (by kernel_rfl) q ad.chg q (fun _ => zf q ab q) q q <| XQ (i := 16) q (by kernel_rfl) q ad.chg q (fun _ => qt_move q) q q <| XQ (i := 17) q (by kernel_rfl) q ad.chg (J q aj) (fun _ => qt_fieldAddr uf27 fi27_2 nz24 q) q q <| have bL := HasB.bx (HasB.c (HasB.hd)) ad.ctx; XT (i := 18) q (by kernel_rfl) q ad.chg (J q aj) (qs_cell u24 q q (bL.cell (i := 2) q) ad.chg (Ctx.outB ak (HasB.c (HasB.hd)))) q q <| XQ (i := 19) q (by kernel_rfl) q ad.chg (J q aj) (fun _ => qt_move q) q q ?_
  obtain ⟨c3, c4, c5, aQ⟩ := Ctx.isAt ad.ctx hS4 au
  refine XT (i := 20) q (by kernel_rfl) q ad.chg (J q aj) (qs_index au aQ u24 i3 q q) q q ?_
  obtain ⟨c6, bM, da⟩ := ad.at hS4 au aQ
  refine XT (i := 21) q (by kernel_rfl) q ad.chg (J q aj) (qs_cell u3 q q (AtP.cInt bM) ad.chg (Ctx.outHas ak hS4 au aQ)) q q <| XQ (i := 22) q (by kernel_rfl) q ad.chg (J q aj) (fun _ => qt_lss q q) q q <| XQ (i := 23) q (by kernel_rfl) q ad.chg q (fun _ => zf q aj q) q q <| XQ (i := 24) q (by kernel_rfl) q ad.chg q (fun _ => qt_move q) q q <| XQ (i := 25) q (by kernel_rfl) q ad.chg (J q ag) (fun _ => qt_fieldAddr uf27 fi27_0 nz23 q) q q <| have bN := HasB.bx (HasB.c (HasB.hd)) ad.ctx; XT (i := 26) q (by kernel_rfl) q ad.chg (J q ag) (qs_cell u23 q q (bN.cell (i := 0) q) ad.chg (Ctx.outB ak (HasB.c (HasB.hd)))) q q <| XQ (i := 27) q (by kernel_rfl) q ad.chg (J q ag) (fun _ => qt_fieldAddr uf27 fi27_4 nz25 q) q q <| have bO := HasB.bx (HasB.c (HasB.hd)) ad.ctx; XT (i := 28) q (by kernel_rfl) q ad.chg (J q ag) (qs_cell u25 q q (bO.cell (i := 4) q) ad.chg (Ctx.outB ak (HasB.c (HasB.hd)))) q q <| XQ (i := 29) q (by kernel_rfl) q ad.chg (J q ag) (fun _ => qt_move q) q q ?_
  obtain ⟨db, dc, dd, aR⟩ := Ctx.isAt ad.ctx hS5 aG
  refine XT (i := 30) q (by kernel_rfl) q ad.chg (J q ag) (qs_index aG aR u25 i47 q q) q q <| XQ (i := 31) q (by kernel_rfl) q ad.chg (J q ag) (fun _ => qt_fieldAddr uf47 fi47_0 nz3 q) q q ?_
  obtain ⟨de, bP, df⟩ := ad.at hS5 aG aR
  obtain ⟨dg, bQ, dh⟩ := AtP.fst bP
  exact XT (i := 32) q (by kernel_rfl) q ad.chg (J q ag) (qs_cell u3 q q (AtP.cInt bQ) ad.chg (Ctx.outHas ak hS5 aG aR)) q q <| XQ (i := 34) q (by kernel_rfl) q ad.chg (J q ag) (fun _ => qt_move q) q q <| X1 33 (by kernel_rfl) q <| V1 (J q ag) q c54 (w_spec_FreeOf hS2 bF ad.ctx) q fun di dj bR => have aS := ad.cN1 [] bR; XN aS.chg <| X1 35 (by kernel_rfl) q <| V0 (J q ag) q c55 (w_spec_l1Has hS0 bG aS.ctx) q fun dk bS => have aH := aS.cN0 [] bS; XN aH.chg <| XQ (i := 36) q (by kernel_rfl) q aH.chg (J q ag) (fun _ => qt_not q) q q <| XQ (i := 37) q (by kernel_rfl) q aH.chg q (fun _ => zf q ag q) q q <| have bT := az.cN1 [] aH; XC_done (by kernel_rfl) fun a ha => have bU := bT.q0.p5.p5.p5.p5.p5; ⟨ha.s, bU⟩
 rintro a bV ⟨ha, aA⟩
 refine S1 ha ?_
 refine Yh q h (fun h => ?_) (fun h => ?_)
 ·refine rR <| lA (R aA.p0) us27 uo27 il27 q q q <| have aB := aA.p5; zl (cs' := [A0, A1, A2, iV B3, A4]) aB q il27 q (T (aB.ctx.sliceOne hS2) (T (aB.ctx.sliceOne hS3) (T (aB.ctx.sliceOne hS4) (T q (T (aB.ctx.sliceOne hS5) q))))) q q q fun dl aY => qA q q q <| B <| W fun a ha => ?_
  cases h
  refine have bW := R aY.p0; have bX := aY.q0.q0.p3.p3.p3.p3; ?_
  exact m (retct q ha q q (run_loadVar_bx (cs := [A0, A1, A2, iV B3, A4]) us27 uo27 il27 bW) ⟨A0, A1, A2, A4, q, bX⟩)
 refine y <| rR <| qF uf27 fi27_4 nz25 q q q <| l u25 q (R aA.p0) q q q q <| qM q q q <| O h fun aw aZ h => b aA.ctx hS4 aZ u25 i47 q q q q fun dm dn dq bY => ?_
 obtain ⟨dr, bZ, b0⟩ := aA.atN hS4 aZ bY
 refine XL_load_agg (t := ty14) us47 uo47 i47 bZ q q q fun ds b4 => ?_
 obtain ⟨dt, du, dv, dw, rfl, a0, b6, b7⟩ := b4
 obtain ⟨rfl, _⟩ := b6
 obtain ⟨dx, dy, dz, dA, rfl, a1, b8, b9⟩ := b7
 obtain ⟨aI, rfl, ca⟩ := Rep.sl_inv b8
 obtain ⟨aJ, rfl, cb⟩ := Rep.sl_inv b9
 have cc : Holds _ w bV [.ro ty2 aI aw.2.1, .ro tI aJ aw.2.2, .bx b1 27 [A0, A1, A2, iV B3, A4], .sl 55 ty12 A0 B0, .sl 3 tI A1 B1, .sl 3 tI A2 B2, .sl 47 ty14 A4 B4, .bx b5 27 [nS, nS, nS, iV 0, nS]] G := b0 [.ro ty2 aI aw.2.1, .ro tI aJ aw.2.2] ⟨⟨_, _, _, _, q, ca, (fun k h => (fun k h => (fun _ h => h) k (by rw [a0]; exact zx _ h)) k (by rw [a1]; exact List.mem_append_left _ h))⟩, ⟨_, _, _, _, q, cb, (fun k h => (fun k h => (fun _ h => h) k (by rw [a0]; exact zx _ h)) k (by rw [a1]; exact zx _ h))⟩, trivial⟩
 change XL _ _ _ _ _ ((54, .agg #[iV aw.1, aI, aJ]) :: _) _
 refine zq (cs := [iV 0, nS, nS]) cc z47 q q q fun dB dC aT => zl (cs' := [iV aw.1, aI, aJ]) aT q il47 q (T q (T (aT.ctx.sliceOne hR1) (T (aT.ctx.sliceOne hR2) q))) q q q fun dD cd => B <| C <| Z <| zs (t := ty2) (args := []) (xs := ([] : LP)) cd (BltL.nil) u45 j49 q q q q q q fun dE dF a2 => qF uf47 fi47_1 nz45 q q q <| l u45 q (R a2.p1) q q q q <| O h fun dG ce h => zw a2 hR2 ce u45 j49 q q q q q q fun dH dI cf => qM q q q <| A q (qt_build (args := [(0, .tmp 59)]) (css := [#[iV p3]]) (cells := #[iV p3, iV 0]) q ⟨q, trivial⟩ (by kernel_rfl)) q q <| zs (t := ty2) (args := [.tmp 60]) (xs := ([(p3, 0)] : LP)) cf (BltL.cons (Blt.pair (Blt.int) (Blt.int)) q (BltL.nil)) u45 j49 q q q q q q fun dJ dK cg => have ch := cg.p1; O h fun dL ci h => zw ch hS1 ci u45 j49 q q q q q q fun cj dM ck => qF uf47 fi47_1 nz45 q q q <| have aU := ck.p2; WL_store_bx aU q il45 (aU.ctx.sliceCells hS1) (aU.ctx.sliceOne hS1) q q q fun dN cl => ?_
 refine B <| C <| Z <| zs (t := tI) (args := []) (xs := ([] : List Int)) cl (BltL.nil) u24 j3 q q q q q q fun dO dP a3 => qF uf47 fi47_2 nz24 q q q <| l u24 q (R a3.p1) q q q q <| O h fun dQ cm h => zw a3 hR5 cm u24 j3 q q q q q q fun dR dS cn => qM q q q <| zs (t := tI) (args := [.tmp 68]) (xs := ([p2] : List Int)) cn (BltL.cons (Blt.int) q (BltL.nil)) u24 j3 q q q q q q fun dT dU co => have cp := co.p1; O h fun dV cq h => zw cp hS1 cq u24 j3 q q q q q q fun cr dW ct => qF uf47 fi47_2 nz24 q q q <| have aV := ct.p2; WL_store_bx aV q il24 (aV.ctx.sliceCells hS1) (aV.ctx.sliceOne hS1) q q q fun dX aW => B <| C <| C <| zk <| qF uf47 fi47_1 nz45 q q q <| l u45 q (R aW.p0) q q q q <| O h fun dY cu h => Qc q q c53 aW (fun _ => w_spec_TicketValid hS3 cu) q <| A q (qt_not q) q q <| Qn aW fun a ha dZ ax => X <| S1 ha ?_
 refine Yh q h (fun h => ?_) (fun h => ?_)
 ·refine rR <| lA (R ax.p7) us27 uo27 il27 q q q <| have aC := ax.p12; zl (cs' := [A0, A1, A2, iV B3, A4]) aC q il27 q (T (aC.ctx.sliceOne hS9) (T (aC.ctx.sliceOne hS10) (T (aC.ctx.sliceOne hS11) (T q (T (aC.ctx.sliceOne hS12) q))))) q q q fun d0 a4 => qA q q q <| B <| W fun a ha => ?_
  cases h
  refine have cv := R a4.p0; have cw := a4.q0.q0.q0.q0.q0.q0.q0.q0.q0.p3.p3.p3.p3; ?_
  exact m (retct q ha q q (run_loadVar_bx (cs := [A0, A1, A2, iV B3, A4]) us27 uo27 il27 cv) ⟨A0, A1, A2, A4, q, cw⟩)
 refine y <| rR <| qF uf27 fi27_4 nz25 q q q <| l u25 q (R ax.p7) q q q q <| qM q q q <| lA (R ax.p0) us47 uo47 il47 q q q <| O h fun d1 a5 h => b ax.ctx hS11 a5 u25 i47 q q q q fun d2 d3 d4 cx => have cy := ax.p11; have cz := cy.p4; have cA := cz.freeze; have cB := cA.p3; have cC := cB.freeze; have cD := cC.p2; WL_storeH (fo := 0) (cs' := [iV aw.1, cj, cr]) cD a5 cx (Upd.whole (Blt.pair (Blt.int) (Blt.pair (Blt.slice hO2) (Blt.slice hO1)))) q il47 q q q q fun d5 cE => B <| C <| WP_tail 9 (by kernel_rfl) (by kernel_rfl) fun d6 cF => have ay := cE.grow cF; qF uf27 fi27_2 nz24 q q q <| l u24 q (R ay.p8) q q q q <| qM q q q <| qF uf27 fi27_2 nz24 q q q <| l u24 q (R ay.p8) q q q q <| qM q q q <| O h fun cG a6 h => b ay.ctx hS11 a6 u24 i3 q q q q fun d7 d8 d9 cH => ?_
 refine lI u3 q (ay.el hS11 a6 cH) q q q <| A q (qt_sub q q) q q <| SL_nil <| O h fun ea a7 h => b ay.ctx hS11 a7 u24 i3 q q q q fun eb ec ed cI => have cJ := ay.p11; WL_storeH (fo := 0) (cs' := [iV (IntKind.wrap .i64 (cG - 1))]) cJ a7 cI (Upd.whole (Blt.int)) q il3 q q q q fun ee a8 => rN <| lA (R a8.p9) us27 uo27 il27 q q q <| have aD := a8.p12; zl (cs' := [A0, A1, A2, iV B3, A4]) aD q il27 q (T (aD.ctx.sliceOne hS11) (T (aD.ctx.sliceOne hS12) (T (aD.ctx.sliceOne hS1) (T q (T (aD.ctx.sliceOne hS2) q))))) q q q fun ef a9 => qA q q q <| B <| W fun a ha => ?_
 cases h
 refine have cK := R a9.p0; have cL := a9.q0.q2.q2.q2.q2.q2.q2.q2.q2.p1.p1.p3.p3; ?_
 exact retct q ha q q (run_loadVar_bx (cs := [A0, A1, A2, iV B3, A4]) us27 uo27 il27 cK) ⟨A0, A1, A2, A4, q, cL⟩
end Go.Proofs.YtpabogkcmbkffaaGreatDoor
