/- The walks: each Go function computes its shallow function. Printed by a program. -/
import Derived.Test.YtkhnponakhabdaaGreatDoorWS7J1
set_option linter.unusedVariables false
set_option maxRecDepth 10000
set_option maxHeartbeats 8000000
namespace Go.Proofs.YtkhnponakhabdaaGreatDoor
open Go Go.RowKit
theorem w_spec_l7Copy {w G A0 B0 A1 B1 A2 B2 B3 A4 B4 r} (h : spec_l7CopyS B0 B1 B2 B3 B4 = some r) (C0 : Has G ty12 A0 B0) (C1 : Has G tI A1 B1) (C2 : Has G tI A2 B2) (C4 : Has G ty14 A4 B4) (H : Ctx w G) : Calls Tryz.prog 33 #[.agg #[A0, A1, A2, iV B3, A4]] w fun e w' => ∃ (v1 : Value) (v2 : Value) (v3 : Value) (v4 : Value), e = .returned (.agg #[v1, v2, v3, iV r.2.2.2.1, v4]) ∧ Holds M0 w w' [.sl 70 ty12 v1 r.1, .sl 3 tI v2 r.2.1, .sl 3 tI v3 r.2.2.1, .sl 38 ty14 v4 r.2.2.2.2] G := by
 refine F0 82 H Tryz.func33 q fun H => ?_
 refine C <| Z <| WL_box (cs := [A0, A1, A2, iV B3, A4]) H q q q q fun b1 w2 H3 => zq (cs := [nS, nS, nS, iV 0, nS]) H3 z27 q q q fun b5 w6 H7 => B <| C <| Z <| zs (t := ty12) (args := []) (xs := ([] : LI)) H7 (BltL.nil) u23 j70 q q q q q q fun v9 cF bk => qa q <| B <| C <| rR <| qa q <| B <| g <| O h fun av bl h => ?_
 refine fun cG bn => zp (I := fun (aA, aV) a w2 => ∃ aw, Fr a 82 [(1, pB b1), (2, pB b5), (3, aw), (4, iV aV)] ∧ Holds M0 w w2 [.bx b1 27 [A0, A1, A2, iV B3, A4], .bx b5 27 [nS, nS, nS, iV 0, nS], .sl 70 ty12 aw aA] G) (O := fun q0 e a w2 => e = .exit 0 ∧ ∃ aI, Fr a 82 [(1, pB b1), (2, pB b5), (3, aI)] ∧ Holds M0 w w2 [.bx b1 27 [A0, A1, A2, iV B3, A4], .bx b5 27 [nS, nS, nS, iV 0, nS], .sl 70 ty12 aI q0] G) bl ?_ ?_ ?_
 ·exact ⟨v9, bn.s, bk.p1.p2⟩
 ·rintro ⟨aA, aV⟩ _ a cH al ⟨aw, ha, aM⟩
  refine S1 ha <| C <| rR <| qm q <| qf uf27 fi27_0 nz23 q <| ql u23 aM.p0 q <| qz aM.ctx (C0.c.c.c) u23 q <| qi (qt_lss q q) q <| B ?_
  refine Yh q al (fun al => ?_) (fun al => ?_)
  ·refine y <| C <| g <| O al fun aW aN al => O al fun bo aO al => O al fun bp bq al => O al fun aX aP al => O al fun br bs al => ?_
   refine WP_mid (Mid := fun a w2 => ∃ aQ, Fr a 82 [(1, pB b1), (2, pB b5), (3, aQ), (4, iV aV)] ∧ Holds M0 w w2 [.bx b1 27 [A0, A1, A2, iV B3, A4], .bx b5 27 [nS, nS, nS, iV 0, nS], .sl 70 ty12 aQ br] G) ?_ ?_
   ·refine WP_ordersT (fun w1 w2 => Chg (([.sl 70 ty12 aw aA] : List Res).flatMap Res.own) w1 w2) 24 (by kernel_rfl) fun aJ bt => have bu := aM.grow bt; have a8 := bu.p2; ?_
    have aB : Ctx aJ ([.sl 70 ty12 aw aA] ++ ([.bx b1 27 [A0, A1, A2, iV B3, A4], .bx b5 27 [nS, nS, nS, iV 0, nS]] ++ G)) := a8.ctx
    have af : Holds _ aJ aJ [.sl 70 ty12 aw aA] ([.bx b1 27 [A0, A1, A2, iV B3, A4], .bx b5 27 [nS, nS, nS, iV 0, nS]] ++ G) := zb (Rs := [.sl 70 ty12 aw aA]) aB
    refine XQ (i := 0) q (by kernel_rfl) q af.chg q (fun _ => qt_move q) q q <| XQ (i := 1) q (by kernel_rfl) q af.chg q (fun _ => qt_fieldAddr uf27 fi27_0 nz23 q) q q <| have bv := HasB.bx (HasB.c (HasB.hd)) af.ctx; XT (i := 2) q (by kernel_rfl) q af.chg q (qs_cell u23 q q (bv.cell (i := 0) q) af.chg (Ctx.outB aB (HasB.hd))) q q <| XQ (i := 3) q (by kernel_rfl) q af.chg q (fun _ => qt_move q) q q ?_
    obtain ⟨cI, cJ, cK, aY⟩ := Ctx.isAt af.ctx (C0.c.c.c) aN
    refine XT (i := 4) q (by kernel_rfl) q af.chg q (qs_index aN aY u23 i70 q q) q q <| XQ (i := 5) q (by kernel_rfl) q af.chg q (fun _ => qt_fieldAddr uf70 fi70_0 nz3 q) q q ?_
    obtain ⟨cL, bw, cM⟩ := af.at (C0.c.c.c) aN aY
    obtain ⟨cN, bz, cO⟩ := AtP.fst bw
    refine XT (i := 6) q (by kernel_rfl) q af.chg q (qs_cell u3 q q (AtP.cInt bz) af.chg (Ctx.outHas aB (C0.c.c) aN aY)) q q <| XQ (i := 8) q (by kernel_rfl) q af.chg q (fun _ => qt_fieldAddr uf27 fi27_0 nz23 q) q q <| have bA := HasB.bx (HasB.c (HasB.hd)) af.ctx; XT (i := 9) q (by kernel_rfl) q af.chg q (qs_cell u23 q q (bA.cell (i := 0) q) af.chg (Ctx.outB aB (HasB.hd))) q q <| XQ (i := 10) q (by kernel_rfl) q af.chg q (fun _ => qt_move q) q q ?_
    obtain ⟨cP, cQ, cR, aZ⟩ := Ctx.isAt af.ctx (C0.c.c.c) aO
    refine XT (i := 11) q (by kernel_rfl) q af.chg q (qs_index aO aZ u23 i70 q q) q q <| XQ (i := 12) q (by kernel_rfl) q af.chg q (fun _ => qt_fieldAddr uf70 fi70_1 nz68 q) q q ?_
    obtain ⟨cS, bB, bC⟩ := af.at (C0.c.c.c) aO aZ
    obtain ⟨cT, bD, bE⟩ := AtP.snd bB
    obtain ⟨cU, bF, bG⟩ := AtP.fst bD
    obtain ⟨bH, bI, bJ⟩ := AtP.one (t := ty4) bF q
    refine XT (i := 13) q (by kernel_rfl) q af.chg q (qs_cell u68 q q bI af.chg (Ctx.outHas aB (C0.c.c) aO aZ)) q q ?_
    have ap : Holds _ aJ aJ [.ro ty2 bH bo.2.1, .sl 70 ty12 aw aA] ([.bx b1 27 [A0, A1, A2, iV B3, A4], .bx b5 27 [nS, nS, nS, iV 0, nS]] ++ G) := bC _ _ _ _ bJ (fun k h => (fun k h => (fun _ h => h) k (bE k h)) k (bG k h))
    refine XQ (i := 15) q (by kernel_rfl) q ap.chg q (fun _ => qt_fieldAddr uf27 fi27_0 nz23 q) q q <| have bK := HasB.bx (HasB.c (HasB.c (HasB.hd))) ap.ctx; XT (i := 16) q (by kernel_rfl) q ap.chg q (qs_cell u23 q q (bK.cell (i := 0) q) ap.chg (Ctx.outB aB (HasB.hd))) q q <| XQ (i := 17) q (by kernel_rfl) q ap.chg q (fun _ => qt_move q) q q ?_
    obtain ⟨cV, cW, cX, a0⟩ := Ctx.isAt ap.ctx (C0.c.c.c.c) aP
    refine XT (i := 18) q (by kernel_rfl) q ap.chg q (qs_index aP a0 u23 i70 q q) q q <| XQ (i := 19) q (by kernel_rfl) q ap.chg q (fun _ => qt_fieldAddr uf70 fi70_2 nz3 q) q q ?_
    obtain ⟨cY, bL, cZ⟩ := ap.at (C0.c.c.c.c) aP a0
    obtain ⟨c0, bM, c1⟩ := AtP.snd bL
    obtain ⟨c2, bN, c3⟩ := AtP.snd bM
    refine XT (i := 20) q (by kernel_rfl) q ap.chg q (qs_cell u3 q q (AtP.cInt bN) ap.chg (Ctx.outHas aB (C0.c.c) aP a0)) q q <| X1 7 (by kernel_rfl) q <| zs (t := ty2) (args := []) (xs := ([] : LP)) ap (BltL.nil) u68 j79 q q q q q q fun c4 c5 a9 => XN a9.chg <| X1 14 (by kernel_rfl) q <| zw a9 hR1 bq u68 j79 q q q q q q fun ba c6 aR => XN aR.chg <| XQ (i := 21) q (by kernel_rfl) q aR.chg q (fun _ => qt_build (args := [(0, .tmp 22), (1, .tmp 30), (2, .tmp 36)]) (css := [#[iV aW.1], #[ba], #[iV aX.2.2]]) (cells := #[iV aW.1, ba, iV aX.2.2]) q ⟨q, (aR.ctx.sliceCells hS0), q, trivial⟩ (by kernel_rfl)) q q <| X1 22 (by kernel_rfl) q <| zs (t := ty12) (args := [.tmp 37]) (xs := ([(aW.1, bp, aX.2.2)] : LI)) aR.freeze (BltL.cons (Blt.pair (Blt.int) (Blt.pair (Blt.slice hO0) (Blt.int))) q (BltL.nil)) u23 j70 q q q q q q fun c7 c8 bb => XN bb.chg <| X1 23 (by kernel_rfl) q <| ?_
    exact zw bb.p3 hS1 bs u23 j70 q q q q q q fun bQ da bc => XN bc.chg <| have bR := a8.cN4 [_] bc; X1 24 (by kernel_rfl) q <| qa q <| XE q <| XC_done (by kernel_rfl) fun a ha => ⟨bQ, ha.s, bR.q1.q1.q1.p2.p2⟩
   rintro a db ⟨aQ, ha, bT⟩
   cases al
   exact zi <| X <| S1 ha <| Z <| qm q <| qi (qt_add q q) q <| qa q <| WL_nil fun a ha => ⟨q, aQ, ha.s, bT.p2.p2.p2⟩
  cases al
  exact WP_exit fun a ha => zo (⟨exit_ne, q, aw, ha.s, aM.p2.p2.p2⟩)
 rintro _ a dc ⟨rfl, ad, ha, bW⟩
 refine zn <| X <| S1 ha <| C <| O h fun aC au h => O h fun aD ax h => ?_
 refine WP_join (M := fun a w2 => ∃ aq ag ah aj aS, Fr a 82 [(1, pB b1), (2, pB b5), (5, pB aq)] ∧ Holds M0 w w2 [.bx b1 27 [A0, A1, A2, iV B3, A4], .bx b5 27 [nS, nS, nS, iV 0, nS], .bx aq 27 [ag, ah, aj, iV B3, aS], .sl 70 ty12 ag av, .sl 3 tI ah aC, .sl 3 tI aj aD, .sl 38 ty14 aS ([])] G) ?_ ?_
 ·refine WP_ordersT (fun w1 w2 => Chg M0 w1 w2) 14 (by kernel_rfl) fun a1 bX => have am := bW.grow bX; ?_
  have aT : Ctx a1 ([] ++ ([.bx b1 27 [A0, A1, A2, iV B3, A4], .bx b5 27 [nS, nS, nS, iV 0, nS], .sl 70 ty12 ad av] ++ G)) := am.ctx
  have bY : Holds _ a1 a1 [] ([.bx b1 27 [A0, A1, A2, iV B3, A4], .bx b5 27 [nS, nS, nS, iV 0, nS], .sl 70 ty12 ad av] ++ G) := zb (Rs := []) aT
  refine have Hc := bY; XM0 [([], [], true), ([], [], true), ([], [], true), ([2], [2], true), ([1, 3], [1, 3], true), ([], [], true), ([], [], true), ([6], [6], true), ([5, 7, 4], [5, 7], true), ([], [], true), ([9], [9], true), ([], [], true), ([0, 4, 8, 10, 11], [0, 4, 8, 10, 11], true), ([], [], true), ([13, 12, 8, 0, 1, 2, 3, 4, 5, 6, 7, 8, 9, 10, 11, 12, 13], [12, 13], false)] (by kernel_rfl) <| MQ 0 q q q Hc.chg q (fun _ => qt_move q) q q <| MQ 2 q q q Hc.chg q (fun _ => qt_fieldAddr uf27 fi27_1 nz24 q) q q <| have bZ := HasB.bx (HasB.hd) Hc.ctx; MT 3 q q q Hc.chg q (qs_cell u24 q q (bZ.cell (i := 1) q) Hc.chg (Ctx.outB aT (HasB.hd))) q q <| MQ 6 q q q Hc.chg q (fun _ => qt_fieldAddr uf27 fi27_2 nz24 q) q q <| have b0 := HasB.bx (HasB.hd) Hc.ctx; MT 7 q q q Hc.chg q (qs_cell u24 q q (b0.cell (i := 2) q) Hc.chg (Ctx.outB aT (HasB.hd))) q q <| MQ 9 q q q Hc.chg q (fun _ => qt_fieldAddr uf27 fi27_3 nz3 q) q q ?_
  refine have b4 := HasB.bx (HasB.hd) Hc.ctx; MT 10 q q q Hc.chg q (qs_cell u3 q q (b4.cell (i := 3) q) Hc.chg (Ctx.outB aT (HasB.hd))) q q ?_
  repeat' first
   | refine XG ?_; (first
    | refine MDo 1 q ?_; refine zs (t := tI) (args := []) (xs := ([] : List Int)) Hc (BltL.nil) u24 j3 q q q q q q (fun dd _ Hc => ?_); refine MN Hc.chg ?_
    | refine XGi 4 ?_; (first
     | refine MDo 4 q ?_; refine zw Hc (C1.c.c.c.c) au u24 j3 q q q q q q (fun aa _ Hc => ?_); refine MN Hc.chg ?_
     | refine MDo 4 q ?_; have Hc := Hc.p1; refine zw Hc (C1.c.c.c.c.c) au u24 j3 q q q q q q (fun aa _ Hc => ?_); refine MN Hc.chg ?_
     | refine MDo 4 q ?_; have Hc := Hc.p2; refine zw Hc (C1.c.c.c.c.c.c) au u24 j3 q q q q q q (fun aa _ Hc => ?_); refine MN Hc.chg ?_
     | refine MDo 4 q ?_; have Hc := Hc.p3; refine zw Hc (C1.c.c.c.c.c.c.c) au u24 j3 q q q q q q (fun aa _ Hc => ?_); refine MN Hc.chg ?_
     | refine MDo 4 q ?_; refine zw Hc (C1.c.c.c.c.c) au u24 j3 q q q q q q (fun aa _ Hc => ?_); refine MN Hc.chg ?_
     | refine MDo 4 q ?_; have Hc := Hc.p1; refine zw Hc (C1.c.c.c.c.c.c) au u24 j3 q q q q q q (fun aa _ Hc => ?_); refine MN Hc.chg ?_
     | refine MDo 4 q ?_; have Hc := Hc.p2; refine zw Hc (C1.c.c.c.c.c.c.c) au u24 j3 q q q q q q (fun aa _ Hc => ?_); refine MN Hc.chg ?_
     | refine MDo 4 q ?_; refine zw Hc (C1.c.c.c.c.c.c) au u24 j3 q q q q q q (fun aa _ Hc => ?_); refine MN Hc.chg ?_
     | refine MDo 4 q ?_; have Hc := Hc.p1; refine zw Hc (C1.c.c.c.c.c.c.c) au u24 j3 q q q q q q (fun aa _ Hc => ?_); refine MN Hc.chg ?_
     | refine MDo 4 q ?_; refine zw Hc (C1.c.c.c.c.c.c.c) au u24 j3 q q q q q q (fun aa _ Hc => ?_); refine MN Hc.chg ?_)
    | refine MDo 5 q ?_; refine zs (t := tI) (args := []) (xs := ([] : List Int)) Hc (BltL.nil) u24 j3 q q q q q q (fun de _ Hc => ?_); refine MN Hc.chg ?_
    | refine XGi 8 ?_; (first
     | refine MDo 8 q ?_; refine zw Hc (C2.c.c.c.c.c) ax u24 j3 q q q q q q (fun ab _ Hc => ?_); refine MN Hc.chg ?_
     | refine MDo 8 q ?_; have Hc := Hc.p1; refine zw Hc (C2.c.c.c.c.c.c) ax u24 j3 q q q q q q (fun ab _ Hc => ?_); refine MN Hc.chg ?_
     | refine MDo 8 q ?_; have Hc := Hc.p2; refine zw Hc (C2.c.c.c.c.c.c.c) ax u24 j3 q q q q q q (fun ab _ Hc => ?_); refine MN Hc.chg ?_
     | refine MDo 8 q ?_; refine zw Hc (C2.c.c.c.c.c.c) ax u24 j3 q q q q q q (fun ab _ Hc => ?_); refine MN Hc.chg ?_
     | refine MDo 8 q ?_; have Hc := Hc.p1; refine zw Hc (C2.c.c.c.c.c.c.c) ax u24 j3 q q q q q q (fun ab _ Hc => ?_); refine MN Hc.chg ?_
     | refine MDo 8 q ?_; refine zw Hc (C2.c.c.c.c.c.c.c) ax u24 j3 q q q q q q (fun ab _ Hc => ?_); refine MN Hc.chg ?_
     | refine MDo 8 q ?_; have Hc := Hc.p1; refine zw Hc (C2.c.c.c.c.c) ax u24 j3 q q q q q q (fun ab _ Hc => ?_); refine MN Hc.chg ?_
     | refine MDo 8 q ?_; have Hc := Hc.p2; refine zw Hc (C2.c.c.c.c.c.c) ax u24 j3 q q q q q q (fun ab _ Hc => ?_); refine MN Hc.chg ?_
     | refine MDo 8 q ?_; have Hc := Hc.p3; refine zw Hc (C2.c.c.c.c.c.c.c) ax u24 j3 q q q q q q (fun ab _ Hc => ?_); refine MN Hc.chg ?_)
    | refine MDo 11 q ?_; refine zs (t := ty14) (args := []) (xs := ([] : LT)) Hc (BltL.nil) u25 j38 q q q q q q (fun ae _ Hc => ?_); refine MN Hc.chg ?_
    | refine MDo 13 q ?_; refine zq (cs := [nS, nS, nS, iV 0, nS]) Hc z27 q q q (fun a2 _ Hc => ?_); refine MN Hc.chg ?_
    | refine XGi 14 ?_; (first
     | have Hc := am.cN4 [] Hc; refine MDo 14 q ?_; refine zl (cs' := [ad, aa, ab, iV B3, ae]) Hc q il27 q (T (Hc.ctx.sliceOne hS6) (T (Hc.ctx.sliceOne hS3) (T (Hc.ctx.sliceOne hS2) (T q (T (Hc.ctx.sliceOne hS1) q))))) q q q (fun _ Hc => ?_); refine ME q ?_
     | have Hc := am.cN4 [] Hc; refine MDo 14 q ?_; have Hc := Hc.p1; refine zl (cs' := [ad, aa, ab, iV B3, ae]) Hc q il27 q (T (Hc.ctx.sliceOne hS6) (T (Hc.ctx.sliceOne hS3) (T (Hc.ctx.sliceOne hS2) (T q (T (Hc.ctx.sliceOne hS1) q))))) q q q (fun _ Hc => ?_); refine ME q ?_
     | have Hc := am.cN4 [] Hc; refine MDo 14 q ?_; refine zl (cs' := [ad, aa, ab, iV B3, ae]) Hc q il27 q (T (Hc.ctx.sliceOne hS6) (T (Hc.ctx.sliceOne hS3) (T (Hc.ctx.sliceOne hS1) (T q (T (Hc.ctx.sliceOne hS2) q))))) q q q (fun _ Hc => ?_); refine ME q ?_
     | have Hc := am.cN4 [] Hc; refine MDo 14 q ?_; have Hc := Hc.p1; refine zl (cs' := [ad, aa, ab, iV B3, ae]) Hc q il27 q (T (Hc.ctx.sliceOne hS6) (T (Hc.ctx.sliceOne hS3) (T (Hc.ctx.sliceOne hS1) (T q (T (Hc.ctx.sliceOne hS2) q))))) q q q (fun _ Hc => ?_); refine ME q ?_
     | have Hc := am.cN4 [] Hc; refine MDo 14 q ?_; have Hc := Hc.p2; refine zl (cs' := [ad, aa, ab, iV B3, ae]) Hc q il27 q (T (Hc.ctx.sliceOne hS6) (T (Hc.ctx.sliceOne hS3) (T (Hc.ctx.sliceOne hS2) (T q (T (Hc.ctx.sliceOne hS1) q))))) q q q (fun _ Hc => ?_); refine ME q ?_
     | have Hc := am.cN4 [] Hc; refine MDo 14 q ?_; have Hc := Hc.p2; refine zl (cs' := [ad, aa, ab, iV B3, ae]) Hc q il27 q (T (Hc.ctx.sliceOne hS6) (T (Hc.ctx.sliceOne hS3) (T (Hc.ctx.sliceOne hS1) (T q (T (Hc.ctx.sliceOne hS2) q))))) q q q (fun _ Hc => ?_); refine ME q ?_
     | have Hc := am.cN4 [] Hc; refine MDo 14 q ?_; refine zl (cs' := [ad, aa, ab, iV B3, ae]) Hc q il27 q (T (Hc.ctx.sliceOne hS6) (T (Hc.ctx.sliceOne hS2) (T (Hc.ctx.sliceOne hS1) (T q (T (Hc.ctx.sliceOne hS3) q))))) q q q (fun _ Hc => ?_); refine ME q ?_
     | have Hc := am.cN4 [] Hc; refine MDo 14 q ?_; have Hc := Hc.p1; refine zl (cs' := [ad, aa, ab, iV B3, ae]) Hc q il27 q (T (Hc.ctx.sliceOne hS6) (T (Hc.ctx.sliceOne hS2) (T (Hc.ctx.sliceOne hS1) (T q (T (Hc.ctx.sliceOne hS3) q))))) q q q (fun _ Hc => ?_); refine ME q ?_
     | have Hc := am.cN4 [] Hc; refine MDo 14 q ?_; have Hc := Hc.p2; refine zl (cs' := [ad, aa, ab, iV B3, ae]) Hc q il27 q (T (Hc.ctx.sliceOne hS6) (T (Hc.ctx.sliceOne hS2) (T (Hc.ctx.sliceOne hS1) (T q (T (Hc.ctx.sliceOne hS3) q))))) q q q (fun _ Hc => ?_); refine ME q ?_
     | have Hc := am.cN4 [] Hc; refine MDo 14 q ?_; have Hc := Hc.p3; refine zl (cs' := [ad, aa, ab, iV B3, ae]) Hc q il27 q (T (Hc.ctx.sliceOne hS6) (T (Hc.ctx.sliceOne hS3) (T (Hc.ctx.sliceOne hS2) (T q (T (Hc.ctx.sliceOne hS1) q))))) q q q (fun _ Hc => ?_); refine ME q ?_
     | have Hc := am.cN4 [] Hc; refine MDo 14 q ?_; have Hc := Hc.p3; refine zl (cs' := [ad, aa, ab, iV B3, ae]) Hc q il27 q (T (Hc.ctx.sliceOne hS6) (T (Hc.ctx.sliceOne hS3) (T (Hc.ctx.sliceOne hS1) (T q (T (Hc.ctx.sliceOne hS2) q))))) q q q (fun _ Hc => ?_); refine ME q ?_
     | have Hc := am.cN4 [] Hc; refine MDo 14 q ?_; have Hc := Hc.p3; refine zl (cs' := [ad, aa, ab, iV B3, ae]) Hc q il27 q (T (Hc.ctx.sliceOne hS6) (T (Hc.ctx.sliceOne hS2) (T (Hc.ctx.sliceOne hS1) (T q (T (Hc.ctx.sliceOne hS3) q))))) q q q (fun _ Hc => ?_); refine ME q ?_))
   | refine MK 12 q <| MQ 12 q q q Hc.chg q (fun _ => qt_build (args := [(0, .tmp 40), (1, .tmp 44), (2, .tmp 48), (3, .tmp 50), (4, .tmp 51)]) (css := [#[ad], #[aa], #[ab], #[iV B3], #[ae]]) (cells := #[ad, aa, ab, iV B3, ae]) q ⟨(Hc.ctx.sliceCells hS5), (Hc.ctx.sliceCells hS2), (Hc.ctx.sliceCells hS1), q, (Hc.ctx.sliceCells hS0), trivial⟩ (by kernel_rfl)) q q ?_
   | refine MK 12 q <| MQ 12 q q q Hc.chg q (fun _ => qt_build (args := [(0, .tmp 40), (1, .tmp 44), (2, .tmp 48), (3, .tmp 50), (4, .tmp 51)]) (css := [#[ad], #[aa], #[ab], #[iV B3], #[ae]]) (cells := #[ad, aa, ab, iV B3, ae]) q ⟨(Hc.ctx.sliceCells hS6), (Hc.ctx.sliceCells hS3), (Hc.ctx.sliceCells hS2), q, (Hc.ctx.sliceCells hS0), trivial⟩ (by kernel_rfl)) q q ?_
   | refine MK 12 q <| MQ 12 q q q Hc.chg q (fun _ => qt_build (args := [(0, .tmp 40), (1, .tmp 44), (2, .tmp 48), (3, .tmp 50), (4, .tmp 51)]) (css := [#[ad], #[aa], #[ab], #[iV B3], #[ae]]) (cells := #[ad, aa, ab, iV B3, ae]) q ⟨(Hc.ctx.sliceCells hS5), (Hc.ctx.sliceCells hS2), (Hc.ctx.sliceCells hS0), q, (Hc.ctx.sliceCells hS1), trivial⟩ (by kernel_rfl)) q q ?_
   | refine MK 12 q <| MQ 12 q q q Hc.chg q (fun _ => qt_build (args := [(0, .tmp 40), (1, .tmp 44), (2, .tmp 48), (3, .tmp 50), (4, .tmp 51)]) (css := [#[ad], #[aa], #[ab], #[iV B3], #[ae]]) (cells := #[ad, aa, ab, iV B3, ae]) q ⟨(Hc.ctx.sliceCells hS6), (Hc.ctx.sliceCells hS3), (Hc.ctx.sliceCells hS0), q, (Hc.ctx.sliceCells hS2), trivial⟩ (by kernel_rfl)) q q ?_
   | refine MK 12 q <| MQ 12 q q q Hc.chg q (fun _ => qt_build (args := [(0, .tmp 40), (1, .tmp 44), (2, .tmp 48), (3, .tmp 50), (4, .tmp 51)]) (css := [#[ad], #[aa], #[ab], #[iV B3], #[ae]]) (cells := #[ad, aa, ab, iV B3, ae]) q ⟨(Hc.ctx.sliceCells hS6), (Hc.ctx.sliceCells hS3), (Hc.ctx.sliceCells hS1), q, (Hc.ctx.sliceCells hS0), trivial⟩ (by kernel_rfl)) q q ?_
   | refine MK 12 q <| MQ 12 q q q Hc.chg q (fun _ => qt_build (args := [(0, .tmp 40), (1, .tmp 44), (2, .tmp 48), (3, .tmp 50), (4, .tmp 51)]) (css := [#[ad], #[aa], #[ab], #[iV B3], #[ae]]) (cells := #[ad, aa, ab, iV B3, ae]) q ⟨(Hc.ctx.sliceCells hS6), (Hc.ctx.sliceCells hS3), (Hc.ctx.sliceCells hS0), q, (Hc.ctx.sliceCells hS1), trivial⟩ (by kernel_rfl)) q q ?_
   | refine MK 12 q <| MQ 12 q q q Hc.chg q (fun _ => qt_build (args := [(0, .tmp 40), (1, .tmp 44), (2, .tmp 48), (3, .tmp 50), (4, .tmp 51)]) (css := [#[ad], #[aa], #[ab], #[iV B3], #[ae]]) (cells := #[ad, aa, ab, iV B3, ae]) q ⟨(Hc.ctx.sliceCells hS5), (Hc.ctx.sliceCells hS1), (Hc.ctx.sliceCells hS0), q, (Hc.ctx.sliceCells hS2), trivial⟩ (by kernel_rfl)) q q ?_
   | refine MK 12 q <| MQ 12 q q q Hc.chg q (fun _ => qt_build (args := [(0, .tmp 40), (1, .tmp 44), (2, .tmp 48), (3, .tmp 50), (4, .tmp 51)]) (css := [#[ad], #[aa], #[ab], #[iV B3], #[ae]]) (cells := #[ad, aa, ab, iV B3, ae]) q ⟨(Hc.ctx.sliceCells hS6), (Hc.ctx.sliceCells hS2), (Hc.ctx.sliceCells hS0), q, (Hc.ctx.sliceCells hS3), trivial⟩ (by kernel_rfl)) q q ?_
   | refine MK 12 q <| MQ 12 q q q Hc.chg q (fun _ => qt_build (args := [(0, .tmp 40), (1, .tmp 44), (2, .tmp 48), (3, .tmp 50), (4, .tmp 51)]) (css := [#[ad], #[aa], #[ab], #[iV B3], #[ae]]) (cells := #[ad, aa, ab, iV B3, ae]) q ⟨(Hc.ctx.sliceCells hS6), (Hc.ctx.sliceCells hS1), (Hc.ctx.sliceCells hS0), q, (Hc.ctx.sliceCells hS3), trivial⟩ (by kernel_rfl)) q q ?_
   | refine MK 12 q <| MQ 12 q q q Hc.chg q (fun _ => qt_build (args := [(0, .tmp 40), (1, .tmp 44), (2, .tmp 48), (3, .tmp 50), (4, .tmp 51)]) (css := [#[ad], #[aa], #[ab], #[iV B3], #[ae]]) (cells := #[ad, aa, ab, iV B3, ae]) q ⟨(Hc.ctx.sliceCells hS6), (Hc.ctx.sliceCells hS2), (Hc.ctx.sliceCells hS1), q, (Hc.ctx.sliceCells hS0), trivial⟩ (by kernel_rfl)) q q ?_
   | refine MK 12 q <| MQ 12 q q q Hc.chg q (fun _ => qt_build (args := [(0, .tmp 40), (1, .tmp 44), (2, .tmp 48), (3, .tmp 50), (4, .tmp 51)]) (css := [#[ad], #[aa], #[ab], #[iV B3], #[ae]]) (cells := #[ad, aa, ab, iV B3, ae]) q ⟨(Hc.ctx.sliceCells hS6), (Hc.ctx.sliceCells hS2), (Hc.ctx.sliceCells hS0), q, (Hc.ctx.sliceCells hS1), trivial⟩ (by kernel_rfl)) q q ?_
   | refine MK 12 q <| MQ 12 q q q Hc.chg q (fun _ => qt_build (args := [(0, .tmp 40), (1, .tmp 44), (2, .tmp 48), (3, .tmp 50), (4, .tmp 51)]) (css := [#[ad], #[aa], #[ab], #[iV B3], #[ae]]) (cells := #[ad, aa, ab, iV B3, ae]) q ⟨(Hc.ctx.sliceCells hS6), (Hc.ctx.sliceCells hS1), (Hc.ctx.sliceCells hS0), q, (Hc.ctx.sliceCells hS2), trivial⟩ (by kernel_rfl)) q q ?_
   | refine MW q ?_ ?_
   | refine Ma q ?_ ?_
   | exact Me q
   | refine MZ q (fun a ha => ?_); have Hc := (((((((Hc.p1).p2).p3).p6).p4).p6).p6); exact ⟨a2, ad, aa, ab, ae, ha.s, Hc⟩
   | refine MZ q (fun a ha => ?_); have Hc := (((((((Hc.p2).p2).p3).p6).p4).p6).p6); exact ⟨a2, ad, aa, ab, ae, ha.s, Hc⟩
   | refine MZ q (fun a ha => ?_); have Hc := (((((((Hc.p3).p2).p3).p6).p4).p6).p6); exact ⟨a2, ad, aa, ab, ae, ha.s, Hc⟩
 rintro a df ⟨aq, ag, ah, aj, aS, ha, b6⟩
 refine S1 ha <| C <| rR <| qa q <| B <| g <| O h fun dg b7 h => ?_
 refine fun dh b9 => zp (I := fun (a3, aE) a w2 => ∃ ar, Fr a 82 [(1, pB b1), (2, pB b5), (5, pB aq), (6, iV a3)] ∧ Holds M0 w w2 [.bx b1 27 [A0, A1, A2, iV B3, A4], .bx b5 27 [nS, nS, nS, iV 0, nS], .bx aq 27 [ag, ah, aj, iV B3, ar], .sl 70 ty12 ag av, .sl 3 tI ah aC, .sl 3 tI aj aD, .sl 38 ty14 ar aE] G) (O := fun q0 e a w2 => e = .exit 2 ∧ ∃ aI, Fr a 82 [(2, pB b5), (5, pB aq)] ∧ Holds M0 w w2 [.bx b5 27 [nS, nS, nS, iV 0, nS], .bx aq 27 [ag, ah, aj, iV B3, aI], .sl 70 ty12 ag av, .sl 3 tI ah aC, .sl 3 tI aj aD, .sl 38 ty14 aI q0] G) b7 ?_ ?_ ?_
 ·exact ⟨aS, b9.s, b6.p6.p6.p6.p6.p6.p6.p6⟩
 ·rintro ⟨a3, aE⟩ _ a ca ao ⟨ar, ha, aF⟩
  refine S1 ha <| C <| rR <| qm q <| qf uf27 fi27_4 nz25 q <| ql u25 aF.p0 q <| qz aF.ctx (C4.c.c.c.c.c.c.c) u25 q <| qi (qt_lss q q) q <| B ?_
  refine Yh q ao (fun ao => ?_) (fun ao => ?_)
  ·refine y <| C <| g <| rR <| qf uf27 fi27_4 nz25 q <| ql u25 aF.p0 q <| qm q <| O ao fun ak bd ao => qb aF.ctx (C4.c.c.c.c.c.c.c) bd u25 i38 q fun di dj dk cb => ?_
   obtain ⟨dl, cc, cd⟩ := aF.atN (C4.c.c.c.c.c.c.c) bd cb
   refine XL_load_agg (t := ty14) us38 uo38 i38 cc q q q fun dm ce => ?_
   obtain ⟨dn, dq, dr, ds, rfl, be, cf, cg⟩ := ce
   obtain ⟨rfl, _⟩ := cf
   obtain ⟨dt, du, dv, dw, rfl, bf, ch, ci⟩ := cg
   obtain ⟨ay, rfl, cj⟩ := Rep.sl_inv ch
   obtain ⟨az, rfl, ck⟩ := Rep.sl_inv ci
   have cl : Holds _ w ca [.ro ty2 ay ak.2.1, .ro tI az ak.2.2, .bx b1 27 [A0, A1, A2, iV B3, A4], .bx b5 27 [nS, nS, nS, iV 0, nS], .bx aq 27 [ag, ah, aj, iV B3, ar], .sl 70 ty12 ag av, .sl 3 tI ah aC, .sl 3 tI aj aD, .sl 38 ty14 ar aE] G := cd [.ro ty2 ay ak.2.1, .ro tI az ak.2.2] ⟨⟨_, _, _, _, q, cj, (fun k h => (fun k h => (fun _ h => h) k (by rw [be]; exact zx _ h)) k (by rw [bf]; exact List.mem_append_left _ h))⟩, ⟨_, _, _, _, q, ck, (fun k h => (fun k h => (fun _ h => h) k (by rw [be]; exact zx _ h)) k (by rw [bf]; exact zx _ h))⟩, trivial⟩
   change XL _ _ _ _ _ ((64, .agg #[iV ak.1, ay, az]) :: _) _
   refine zq (cs := [iV 0, nS, nS]) cl z38 q q q fun bg dx a4 => zl (cs' := [iV ak.1, ay, az]) a4 q il38 q (T q (T (a4.ctx.sliceOne hR1) (T (a4.ctx.sliceOne hR2) q))) q q q fun dy cm => B <| O ao fun cn a5 ao => O ao fun co bh ao => O ao fun cp cq ao => ?_
   refine WP_mid (Mid := fun a w2 => ∃ aU, Fr a 82 [(1, pB b1), (2, pB b5), (5, pB aq), (6, iV a3)] ∧ Holds M0 w w2 [.bx b1 27 [A0, A1, A2, iV B3, A4], .bx b5 27 [nS, nS, nS, iV 0, nS], .bx aq 27 [ag, ah, aj, iV B3, aU], .sl 70 ty12 ag av, .sl 3 tI ah aC, .sl 3 tI aj aD, .sl 38 ty14 aU cp] G) ?_ ?_
   ·refine WP_ordersT (fun w1 w2 => Chg (([.sl 38 ty14 ar aE] : List Res).flatMap Res.own) w1 w2) 15 (by kernel_rfl) fun a6 cr => have ct := cm.grow cr; have bi := ct.p9; ?_
    have aK : Ctx a6 ([.sl 38 ty14 ar aE] ++ ([.bx bg 38 [iV ak.1, ay, az], .ro ty2 ay ak.2.1, .ro tI az ak.2.2, .bx b1 27 [A0, A1, A2, iV B3, A4], .bx b5 27 [nS, nS, nS, iV 0, nS], .bx aq 27 [ag, ah, aj, iV B3, ar], .sl 70 ty12 ag av, .sl 3 tI ah aC, .sl 3 tI aj aD] ++ G)) := bi.ctx
    have cu : Holds _ a6 a6 [.sl 38 ty14 ar aE] ([.bx bg 38 [iV ak.1, ay, az], .ro ty2 ay ak.2.1, .ro tI az ak.2.2, .bx b1 27 [A0, A1, A2, iV B3, A4], .bx b5 27 [nS, nS, nS, iV 0, nS], .bx aq 27 [ag, ah, aj, iV B3, ar], .sl 70 ty12 ag av, .sl 3 tI ah aC, .sl 3 tI aj aD] ++ G) := zb (Rs := [.sl 38 ty14 ar aE]) aK
    refine have Hc := cu; XQ (i := 0) q (by kernel_rfl) q Hc.chg q (fun _ => qt_fieldAddr uf27 fi27_4 nz25 q) q q <| have cv := HasB.bx (HasB.c (HasB.c (HasB.c (HasB.c (HasB.c (HasB.c (HasB.hd))))))) Hc.ctx; XT (i := 1) q (by kernel_rfl) q Hc.chg q (qs_cell u25 q q (cv.cell (i := 4) q) Hc.chg (Ctx.outB aK (HasB.c (HasB.c (HasB.c (HasB.c (HasB.c (HasB.hd)))))))) q q <| XQ (i := 2) q (by kernel_rfl) q Hc.chg q (fun _ => qt_fieldAddr uf38 fi38_0 nz3 q) q q <| have cw := HasB.bx (HasB.c (HasB.hd)) Hc.ctx; XT (i := 3) q (by kernel_rfl) q Hc.chg q (qs_cell u3 q q (cw.cell (i := 0) q) Hc.chg (Ctx.outB aK (HasB.hd))) q q <| XQ (i := 5) q (by kernel_rfl) q Hc.chg q (fun _ => qt_fieldAddr uf38 fi38_1 nz36 q) q q <| have cx := HasB.bx (HasB.c (HasB.hd)) Hc.ctx; XT (i := 6) q (by kernel_rfl) q Hc.chg q (qs_cell u36 q q (cx.cell (i := 1) q) Hc.chg (Ctx.outB aK (HasB.hd))) q q <| XQ (i := 9) q (by kernel_rfl) q Hc.chg q (fun _ => qt_fieldAddr uf38 fi38_2 nz24 q) q q ?_
    refine have cy := HasB.bx (HasB.c (HasB.hd)) Hc.ctx; XT (i := 10) q (by kernel_rfl) q Hc.chg q (qs_cell u24 q q (cy.cell (i := 2) q) Hc.chg (Ctx.outB aK (HasB.hd))) q q ?_
    repeat' first
     | refine XDo 4 q ?_; refine zs (t := ty2) (args := []) (xs := ([] : LP)) Hc (BltL.nil) u36 j123 q q q q q q (fun dz _ Hc => ?_); refine XN Hc.chg ?_
     | refine XDo 7 q ?_; refine zw Hc hR3 a5 u36 j123 q q q q q q (fun aG _ Hc => ?_); refine XN Hc.chg ?_
     | refine XDo 7 q ?_; have Hc := Hc.p1; refine zw Hc hR4 a5 u36 j123 q q q q q q (fun aG _ Hc => ?_); refine XN Hc.chg ?_
     | refine XDo 7 q ?_; refine zw Hc hR4 a5 u36 j123 q q q q q q (fun aG _ Hc => ?_); refine XN Hc.chg ?_
     | refine XDo 8 q ?_; refine zs (t := tI) (args := []) (xs := ([] : List Int)) Hc (BltL.nil) u24 j3 q q q q q q (fun dA _ Hc => ?_); refine XN Hc.chg ?_
     | refine XDo 11 q ?_; refine zw Hc hR5 bh u24 j3 q q q q q q (fun aL _ Hc => ?_); refine XN Hc.chg <| XQ (i := 12) q (by kernel_rfl) q Hc.chg q (fun _ => qt_build (args := [(0, .tmp 68), (1, .tmp 72), (2, .tmp 76)]) (css := [#[iV ak.1], #[aG], #[aL]]) (cells := #[iV ak.1, aG, aL]) q ⟨q, (Hc.ctx.sliceCells hS1), (Hc.ctx.sliceCells hS0), trivial⟩ (by kernel_rfl)) q q ?_
     | refine XDo 11 q ?_; have Hc := Hc.p1; refine zw Hc hR5 bh u24 j3 q q q q q q (fun aL _ Hc => ?_); refine XN Hc.chg <| XQ (i := 12) q (by kernel_rfl) q Hc.chg q (fun _ => qt_build (args := [(0, .tmp 68), (1, .tmp 72), (2, .tmp 76)]) (css := [#[iV ak.1], #[aG], #[aL]]) (cells := #[iV ak.1, aG, aL]) q ⟨q, (Hc.ctx.sliceCells hS1), (Hc.ctx.sliceCells hS0), trivial⟩ (by kernel_rfl)) q q ?_
     | refine XDo 13 q ?_; have Hc := Hc.p1; have Hc := Hc.freeze; have Hc := Hc.p1; have Hc := Hc.freeze; refine zs (t := ty14) (args := [.tmp 77]) (xs := ([(ak.1, cn, co)] : LT)) Hc (BltL.cons (Blt.pair (Blt.int) (Blt.pair (Blt.slice hO1) (Blt.slice hO0))) q (BltL.nil)) u25 j38 q q q q q q (fun dB _ Hc => ?_); refine XN Hc.chg ?_
     | refine XDo 14 q ?_; have Hc := Hc.p3; refine zw Hc hS1 cq u25 j38 q q q q q q (fun cz _ Hc => ?_); refine XN Hc.chg ?_
     | have Hc := bi.cN4 [_] Hc; refine XDo 15 q <| qf uf27 fi27_4 nz25 q <| XE q ?_
     | refine XDo 16 q ?_; have Hc := Hc.p9; refine WL_store_bx Hc q il25 (Hc.ctx.sliceCells hS1) (Hc.ctx.sliceOne hS1) q q q (fun _ Hc => ?_); refine XE q ?_
     | refine XV [4, 8] (by decide +kernel) q (allc ?_ (allc ?_ alln))
     | refine XV [7, 8] (by decide +kernel) q (allc ?_ (allc ?_ alln))
     | refine XV [8] (by decide +kernel) q (allc ?_ alln)
     | refine XV [11] (by decide +kernel) q (allc ?_ alln)
     | refine XV [13] (by decide +kernel) q (allc ?_ alln)
     | refine XV [14] (by decide +kernel) q (allc ?_ alln)
     | refine XV [15] (by decide +kernel) q (allc ?_ alln)
     | refine XV [16] (by decide +kernel) q (allc ?_ alln)
     | refine XV [7] (by decide +kernel) q (allc ?_ alln)
     | refine XV [4] (by decide +kernel) q (allc ?_ alln)
     | refine XC_done (by decide +kernel) (fun a ha => ?_); have Hc := (((((((((((((Hc.q2).q2).q2).q2).q2).q2).p1).p6).p6).p6).p4).p6).p6); exact ⟨cz, ha.s, Hc⟩
   rintro a dC ⟨aU, ha, cA⟩
   cases ao
   exact zi <| X <| S1 ha <| Z <| qm q <| qi (qt_add q q) q <| qa q <| WL_nil fun a ha => ⟨q, aU, ha.s, cA.p6.p6.p6.p6.p6.p6.p6⟩
  cases ao
  exact WP_exit fun a ha => zo (⟨exit_ne, q, ar, ha.s, aF.q0.p5.p5.p5.p5.p5.p5⟩)
 rintro _ a dD ⟨rfl, a7, ha, aH⟩
 cases h
 exact zn <| X <| S1 ha <| rR <| eA aH.p1 us27 uo27 il27 q <| zl (cs' := [ag, ah, aj, iV B3, a7]) aH q il27 q (T (aH.ctx.sliceOne hS2) (T (aH.ctx.sliceOne hS3) (T (aH.ctx.sliceOne hS4) (T q (T (aH.ctx.sliceOne hS5) q))))) q q q fun dE bj => B <| W fun a ha => have cD := R bj.p0; retc q ha q (run_loadVar_bx (cs := [ag, ah, aj, iV B3, a7]) us27 uo27 il27 cD) ⟨ag, ah, aj, a7, q, bj.q0.q0.p3.p3.p3.p3⟩
theorem w_spec_l7Buy {w G A0 B0 A1 B1 A2 B2 B3 A4 B4 p1 p2 r} (h : spec_l7BuyS B0 B1 B2 B3 B4 p1 p2 = some r) (H : Ctx w ([.sl 70 ty12 A0 B0, .sl 3 tI A1 B1, .sl 3 tI A2 B2, .sl 38 ty14 A4 B4] ++ G)) : Calls Tryz.prog 97 #[.agg #[A0, A1, A2, iV B3, A4], iV p1, iV p2] w fun e w' => ∃ (v1 : Value) (v2 : Value) (v3 : Value) (v4 : Value), e = .returned (.tuple #[.agg #[v1, v2, v3, iV r.1.2.2.2.1, v4], .bool r.2]) ∧ Holds (([.sl 70 ty12 A0 B0, .sl 3 tI A1 B1, .sl 3 tI A2 B2, .sl 38 ty14 A4 B4] : List Res).flatMap Res.own) w w' [.sl 70 ty12 v1 r.1.1, .sl 3 tI v2 r.1.2.1, .sl 3 tI v3 r.1.2.2.1, .sl 38 ty14 v4 r.1.2.2.2.2] G := by
 refine F1 75 H Tryz.func97 q fun H => ?_
 refine C <| Z <| WL_box (cs := [A0, A1, A2, iV B3, A4]) H q q q q fun b1 w2 H3 => zq (cs := [nS, nS, nS, iV 0, nS]) H3 z27 q q q fun b5 w6 H7 => qa q <| B <| C <| C <| WP_quiet (by kernel_rfl) (by kernel_rfl) <| qm q <| qf uf27 fi27_0 nz23 q <| ql u23 H7.p1 q <| qz H7.ctx hS2 u23 q <| qi (qt_sub q q) q <| O h fun a1 aB h => qc q c39 H7 (fun _ => w_spec_l1In aB) <| qi (qt_not q) q <| qm q <| O h fun aC af h => ?_
 refine Go (res := aC) 7 (if_t · af) (fun ad a2 aD => ?_) ?_
 ·exact have af := if_f ad af; jf uf27 fi27_0 nz23 ad q <| jl u23 H7.p1 ad q <| jm ad q <| O af fun a3 ap af => je H7 hS2 ap u23 i70 ad q fun _ _ aE => jf uf70 fi70_0 nz3 ad q <| jI u3 aE.f ad q <| ji (qt_gtr q q) ad q <| aD 7 q q q af
 refine qm q <| O h fun aF ag h => ?_
 refine Go (res := aF) 3 (if_t · ag) (fun ao a7 aG => ?_) ?_
 ·exact have ag := if_f ao ag; jm ao q <| O ag fun a8 aH ag => jc ao q c39 H7 (fun _ => w_spec_l1In aH) <| ji (qt_not q) ao q <| aG 3 q q q ag
 refine qm q <| O h fun aI ah h => ?_
 refine Go (res := aI) 8 (if_t · ah) (fun ab a9 aJ => ?_) ?_
 ·exact have ah := if_f ab ah; jf uf27 fi27_2 nz24 ab q <| jl u24 H7.p1 ab q <| jm ab q <| O ah fun ba aq ah => je H7 hS4 aq u24 i3 ab q fun _ _ aK => jI u3 aK ab q <| jm ab q <| ji (qt_add q q) ab q <| ji (qt_gtr q q) ab q <| aJ 8 q q q ah
 refine qm q <| O h fun aL aj h => ?_
 refine Go (res := aL) 10 (if_t · aj) (fun aa be aM => ?_) ?_
 ·exact have aj := if_f aa aj; jm aa q <| jf uf27 fi27_1 nz24 aa q <| jl u24 H7.p1 aa q <| jm aa q <| O aj fun bf ar aj => je H7 hS3 ar u24 i3 aa q fun _ _ aN => jI u3 aN aa q <| ji (qt_mul q q) aa q <| jf uf27 fi27_3 nz3 aa q <| jl u3 H7.p1 aa q <| ji (qt_gtr q q) aa q <| aM 10 q q q aj
 refine Qn H7 fun a ha bj ae => X <| S1 ha ?_
 refine Yh q h (fun h => ?_) (fun h => ?_)
 ·cases h
  exact rR <| eA ae.p1 us27 uo27 il27 q <| zl (cs' := [A0, A1, A2, iV B3, A4]) ae q il27 q (T (ae.ctx.sliceOne hS2) (T (ae.ctx.sliceOne hS3) (T (ae.ctx.sliceOne hS4) (T q (T (ae.ctx.sliceOne hS5) q))))) q q q fun bk au => qa q <| B <| W fun a ha => have aO := R au.p0; m (retct q ha q q (run_loadVar_bx (cs := [A0, A1, A2, iV B3, A4]) us27 uo27 il27 aO) ⟨A0, A1, A2, A4, q, au.q0.q0.p3.p3.p3.p3⟩)
 refine y <| C <| WP_tail 10 (by kernel_rfl) (by kernel_rfl) fun bl aQ => have ak := ae.grow aQ; qf uf27 fi27_2 nz24 q <| ql u24 ak.p1 q <| qm q <| qf uf27 fi27_2 nz24 q <| ql u24 ak.p1 q <| qm q <| O h fun aR av h => qe ak hS4 av u24 i3 q fun _ _ aS => eI u3 aS q <| qm q <| qi (qt_add q q) q <| SL_nil <| O h fun bp aw h => qb ak.ctx hS4 aw u24 i3 q fun bq br bs aT => WL_storeH (fo := 0) (cs' := [iV (IntKind.wrap .i64 (aR + p2))]) ak.p4 aw aT (Upd.whole (Blt.int)) q il3 q q q q fun bt aV => B <| C <| WP_tail 9 (by kernel_rfl) (by kernel_rfl) fun bu aW => have al := aV.grow aW; qf uf27 fi27_3 nz3 q <| ql u3 al.p2 q <| qm q <| qf uf27 fi27_1 nz24 q <| ql u24 al.p2 q <| qm q <| O h fun ax ay h => qe al hS4 ay u24 i3 q fun _ _ aX => ?_
 cases h
 exact eI u3 aX q <| qi (qt_mul q q) q <| SL_nil <| qi (qt_sub q q) q <| qf uf27 fi27_3 nz3 q <| WL_store_bx al.p2 q il3 q q q q q fun bA az => rN <| eA az.p0 us27 uo27 il27 q <| have am := az.p2; zl (cs' := [A0, A1, A2, iV (IntKind.wrap .i64 (B3 - (IntKind.wrap .i64 (p2 * ax)))), A4]) am q il27 q (T (am.ctx.sliceOne hS3) (T (am.ctx.sliceOne hS4) (T (am.ctx.sliceOne hS2) (T q (T (am.ctx.sliceOne hS5) q))))) q q q fun bB aA => qa q <| B <| W fun a ha => have aZ := R aA.p0; retct q ha q q (run_loadVar_bx (cs := [A0, A1, A2, iV (IntKind.wrap .i64 (B3 - (IntKind.wrap .i64 (p2 * ax)))), A4]) us27 uo27 il27 aZ) ⟨A0, A1, A2, A4, q, aA.q0.q0.p3.p1.p3.p3⟩
theorem w_spec_MakeRun {w G vp0 p0 vp1 p1 A2_0 p2_0 A2_1 p2_1 r} (h : spec_MakeRunS p0 p1 p2_0 p2_1 = some r) (hp0 : Has G ty12 vp0 p0) (hp1 : Has G tI vp1 p1) (hp2_0 : Has G tI A2_0 p2_0) (hp2_1 : Has G tI A2_1 p2_1) (H : Ctx w G) : Calls Tryz.prog 125 #[vp0, vp1, .agg #[A2_0, A2_1]] w fun e w' => ∃ (v1 : Value), e = .returned (.tuple #[v1, .bool r.2]) ∧ Holds M0 w w' [.sl 3 tI v1 r.1] G := by
 refine F0 111 H Tryz.func125 q fun H => ?_
 refine C <| Z <| WL_box (cs := [A2_0, A2_1]) H q q q q fun b1 w2 H3 => qa q <| qa q <| B <| C <| C <| zk <| qm q <| O h fun x5 aR h => qc q c84 H3 (fun _ => w_spec_ItemsValid aR (hp0.c)) <| qi (qt_not q) q <| qm q <| O h fun b7 aj h => ?_
 refine Go (res := b7) 4 (if_t · aj) (fun ak bN aS => ?_) ?_
 ·exact have aj := if_f ak aj; jm ak q <| jm ak q <| O aj fun bO aT aj => jc ak q c38 H3 (fun _ => w_spec_l1Amounts aT (hp0.c) (hp1.c)) <| ji (qt_not q) ak q <| aS 4 q q q aj
 refine qm q ?_
 refine Go (res := (b7 || ((List.length p2_0 : Int) != (List.length p0 : Int)))) 6 os (fun ag bP aU => ?_) ?_
 ·exact jf uf142 fi142_0 nz24 ag q <| jl u24 H3.p0 ag q <| jz H3.ctx (hp2_0.c) u24 ag q <| jm ag q <| jz H3.ctx (hp0.c) u23 ag q <| ji (qt_neq q q) ag q <| aU 6 q q q (oi ag)
 refine Qn H3 fun a ha bQ aw => X <| S1 ha ?_
 refine Yh q h (fun h => ?_) (fun h => ?_)
 ·cases h
  exact C <| Z <| zs (t := tI) (args := []) (xs := ([] : List Int)) aw (BltL.nil) u24 j3 q q q q q q fun aV bR aW => qa q <| qa q <| B <| W fun a ha => m (ret2 q ha q q ⟨aV, q, aW.q1⟩)
 refine y <| C <| Z <| zs (t := tI) (args := []) (xs := ([] : List Int)) aw (BltL.nil) u24 j3 q q q q q q fun bS bT aY => qm q <| O h fun bU aZ h => zw aY (hp1.c.c) aZ u24 j3 q q q q q q fun ae bV a0 => qa q <| B <| C <| rR <| qa q <| B <| g <| O h fun ap a1 h => ?_
 refine fun bW a3 => zp (I := fun (aq, ax) a w2 => (Fr a 111 [(0, vp0), (5, pB b1), (8, ae), (9, iV aq)] ∧ Holds M0 w w2 [.bx b1 142 [A2_0, A2_1], .sl 3 tI ae ax] G)) (O := fun o e a w2 => match o with | .inl q0 => e = .exit 0 ∧ (Fr a 111 [(8, ae)] ∧ Holds M0 w w2 [.sl 3 tI ae q0] G) | .inr (q0, q1, q2) => e = .ret ∧ ∃ al, Fr a 111 [(6, al), (7, .bool q1)] ∧ Holds M0 w w2 [.sl 3 tI al q0] G) a1 ?_ ?_ ?_
 ·exact ⟨a3.s, a0.p1⟩
 ·rintro ⟨aq, ax⟩ _ a bX aa ⟨ha, ah⟩
  refine S1 ha <| C <| rR <| qm q <| qm q <| qz ah.ctx (hp0.c.c) u23 q <| qi (qt_lss q q) q <| B ?_
  refine Yh q aa (fun aa => ?_) (fun aa => ?_)
  ·refine y <| C <| g <| C <| C <| zk <| qf uf142 fi142_0 nz24 q <| ql u24 ah.p0 q <| qm q <| O aa fun bY ay aa => qe ah (hp2_0.c.c) ay u24 i3 q fun _ _ a4 => eI u3 a4 q <| O aa fun b5 a5 aa => qc q c39 ah (fun _ => w_spec_l1In a5) <| qi (qt_not q) q <| Qn ah fun a ha b6 az => X <| S1 ha ?_
   refine Yh q aa (fun aa => ?_) (fun aa => ?_)
   ·cases aa
    exact C <| Z <| zs (t := tI) (args := []) (xs := ([] : List Int)) az (BltL.nil) u24 j3 q q q q q q fun a6 b8 a7 => qa q <| qa q <| B <| W fun a ha => m (zj (m (⟨ret_ne, q, a6, ha.s, a7.q1.q1⟩)))
   refine y <| C <| rR <| qa q <| B <| g <| O aa fun ar a9 aa => ?_
   refine fun b9 bb => zp (I := fun (aA, aB) a w2 => (Fr a 111 [(0, vp0), (5, pB b1), (8, ae), (9, iV aq), (10, iV aA)] ∧ Holds M0 w w2 [.bx b1 142 [A2_0, A2_1], .sl 3 tI ae aB] G)) (O := fun o e a w2 => match o with | .inl q0 => e = .exit 2 ∧ (Fr a 111 [(0, vp0), (5, pB b1), (8, ae), (9, iV aq)] ∧ Holds M0 w w2 [.bx b1 142 [A2_0, A2_1], .sl 3 tI ae q0] G) | .inr (q0, q1, q2) => e = .ret ∧ ∃ al, Fr a 111 [(6, al), (7, .bool q1)] ∧ Holds M0 w w2 [.sl 3 tI al q0] G) a9 ?_ ?_ ?_
   ·exact ⟨bb.s, az.p1.p1⟩
   ·rintro ⟨aA, aB⟩ _ a ca ab ⟨ha, aC⟩
    refine S1 ha <| C <| rR <| qm q <| qm q <| qm q <| O ab fun cb aD ab => qe aC (hp0.c.c) aD u23 i70 q fun _ _ bc => qf uf70 fi70_1 nz68 q <| eV u68 bc.s.f q fun cf au => qz au.ctx hR0 u68 q <| qi (qt_lss q q) q <| B ?_
    refine Yh q ab (fun ab => ?_) (fun ab => ?_)
    ·refine y <| C <| g <| rR <| qm q <| qm q <| O ab fun cg aE ab => qe au (hp0.c.c.c) aE u23 i70 q fun _ _ bd => qf uf70 fi70_1 nz68 q <| eV u68 bd.s.f q fun ck av => qm q <| O ab fun am aF ab => qe av hR0 aF u68 i79 q fun _ _ be => lP [iV am.1, iV am.2] us79 uo79 i79 be q q q q <| zq (cs := [iV 0, iV 0]) av z79 q q q fun co cp bf => zl (cs' := [iV am.1, iV am.2]) bf q il79 q q q q q fun cq bg => B <| C <| WP_tail 17 (by kernel_rfl) (by kernel_rfl) fun cr bh => have ad := bg.grow bh; qm q <| qf uf79 fi79_0 nz3 q <| ql u3 ad.p0 q <| qm q <| qf uf79 fi79_0 nz3 q <| ql u3 ad.p0 q <| O ab fun bi aG ab => qe ad hS4 aG u24 i3 q fun _ _ bj => ?_
     refine eI u3 bj q <| qf uf142 fi142_0 nz24 q <| ql u24 ad.p3 q <| qm q <| O ab fun bk aH ab => qe ad (hp2_0.c.c.c.c.c) aH u24 i3 q fun _ _ bl => eI u3 bl q <| qf uf79 fi79_1 nz3 q <| ql u3 ad.p0 q <| qi (qt_mul q q) q <| qi (qt_sub q q) q <| SL_nil <| O ab fun cz aI ab => qb ad.ctx hS4 aI u24 i3 q fun cA cB cC bm => WL_storeH (fo := 0) (cs' := [iV (IntKind.wrap .i64 (bi - (IntKind.wrap .i64 (bk * am.2))))]) ad.p4 aI bm (Upd.whole (Blt.int)) q il3 q q q q fun cD ao => rN <| qm q <| qf uf79 fi79_0 nz3 q <| ql u3 ao.p1 q <| O ab fun cE aJ ab => qe ao hS0 aJ u24 i3 q fun _ _ bo => eI u3 bo q <| qi (qt_lss q q) q <| B ?_
     refine Yh q ab (fun ab => ?_) (fun ab => ?_)
     ·cases ab
      exact C <| Z <| zs (t := tI) (args := []) (xs := ([] : List Int)) ao (BltL.nil) u24 j3 q q q q q q fun bp cI bq => qa q <| qa q <| B <| W fun a ha => zj (m (⟨ret_ne, q, bp, ha.s, bq.q1.q1.q1.q1.q1⟩))
     cases ab
     exact WP_skip fun a ha => zi <| X <| S1 ha <| Z <| qm q <| qi (qt_add q q) q <| qa q <| WL_nil fun a ha => ⟨q, ha.s, ao.q1.q1.q1.p1⟩
    cases ab
    exact WP_exit fun a ha => zo (⟨exit_ne, q, ha.s, au.q0.p1.p1⟩)
   intro e a cJ aK
   rcases ar with ar | ar
   ·obtain ⟨rfl, ha, bu⟩ := aK
    refine zn <| X <| S1 ha <| WP_tail 19 (by kernel_rfl) (by kernel_rfl) fun cK bv => have af := bu.grow bv; qm q <| qm q <| qm q <| qm q <| O aa fun bw aL aa => qe af hS1 aL u24 i3 q fun _ _ bz => eI u3 bz q <| qf uf142 fi142_0 nz24 q <| ql u24 af.p0 q <| qm q <| O aa fun bA aM aa => qe af (hp2_0.c.c) aM u24 i3 q fun _ _ bB => eI u3 bB q <| qm q <| qm q <| O aa fun aN aO aa => qe af (hp0.c.c) aO u23 i70 q fun _ _ bC => qf uf70 fi70_0 nz3 q <| eI u3 bC.f q <| qi (qt_max q q) q <| qi (qt_mul q q) q <| qi (qt_add q q) q <| SL_nil <| O aa fun cU aP aa => qb af.ctx hS1 aP u24 i3 q fun cV cW cX bD => WL_storeH (fo := 0) (cs' := [iV (IntKind.wrap .i64 (bw + (IntKind.wrap .i64 (bA * (if 1 > aN.1 then 1 else aN.1)))))]) af.p1 aP bD (Upd.whole (Blt.int)) q il3 q q q q fun cY bF => ?_
    cases aa
    exact WL_nil fun a ha => zi <| X <| S1 ha <| Z <| qm q <| qi (qt_add q q) q <| qa q <| WL_nil fun a ha => ⟨q, ha.s, bF.p1⟩
   obtain ⟨cZ, c0, c1⟩ := ar
   obtain ⟨rfl, bH, ha, bI⟩ := aK
   cases aa
   exact zj (m (zj (m (⟨ret_ne, q, bH, ha.s, bI⟩))))
  cases aa
  exact WP_exit fun a ha => zo (⟨exit_ne, q, ha.s, ah.q0⟩)
 intro e a c2 aQ
 rcases ap with ap | ap
 ·obtain ⟨rfl, ha, bK⟩ := aQ
  cases h
  exact zn <| X <| S1 ha <| rR <| qm q <| qa q <| qa q <| B <| W fun a ha => ret2 q ha q q ⟨ae, q, bK⟩
 obtain ⟨c3, c4, c5⟩ := ap
 obtain ⟨rfl, bL, ha, bM⟩ := aQ
 cases h
 exact zj (m (ret2 q ha q q ⟨bL, q, bM⟩))
theorem w_spec_l7Make {w G A0 B0 A1 B1 A2 B2 B3 A4 B4 p1 p2 r} (h : spec_l7MakeS B0 B1 B2 B3 B4 p1 p2 = some r) (H : Ctx w ([.sl 70 ty12 A0 B0, .sl 3 tI A1 B1, .sl 3 tI A2 B2, .sl 38 ty14 A4 B4] ++ G)) : Calls Tryz.prog 98 #[.agg #[A0, A1, A2, iV B3, A4], iV p1, iV p2] w fun e w' => ∃ (v1 : Value) (v2 : Value) (v3 : Value) (v4 : Value), e = .returned (.tuple #[.agg #[v1, v2, v3, iV r.1.2.2.2.1, v4], .bool r.2]) ∧ Holds (([.sl 70 ty12 A0 B0, .sl 3 tI A1 B1, .sl 3 tI A2 B2, .sl 38 ty14 A4 B4] : List Res).flatMap Res.own) w w' [.sl 70 ty12 v1 r.1.1, .sl 3 tI v2 r.1.2.1, .sl 3 tI v3 r.1.2.2.1, .sl 38 ty14 v4 r.1.2.2.2.2] G := by
 refine F1 64 H Tryz.func98 q fun H => ?_
 refine C <| Z <| WL_box (cs := [A0, A1, A2, iV B3, A4]) H q q q q fun b1 w2 H3 => zq (cs := [nS, nS, nS, iV 0, nS]) H3 z27 q q q fun b5 w6 H7 => qa q <| B <| C <| C <| zk <| qm q <| qf uf27 fi27_0 nz23 q <| ql u23 H7.p1 q <| qz H7.ctx hS2 u23 q <| qi (qt_sub q q) q <| O h fun aV aB h => qc q c39 H7 (fun _ => w_spec_l1In aB) <| qi (qt_not q) q <| qm q <| O h fun aC ad h => ?_
 refine Go (res := aC) 7 (if_t · ad) (fun ab aW aD => ?_) ?_
 ·exact have ad := if_f ab ad; jf uf27 fi27_0 nz23 ab q <| jl u23 H7.p1 ab q <| jm ab q <| O ad fun aX aq ad => je H7 hS2 aq u23 i70 ab q fun _ _ aE => jf uf70 fi70_0 nz3 ab q <| jI u3 aE.f ab q <| ji (qt_eql q q) ab q <| aD 7 q q q ad
 refine qm q <| O h fun aF ae h => ?_
 refine Go (res := aF) 3 (if_t · ae) (fun am a1 aG => ?_) ?_
 ·exact have ae := if_f am ae; jm am q <| O ae fun a2 aH ae => jc am q c39 H7 (fun _ => w_spec_l1In aH) <| ji (qt_not q) am q <| aG 3 q q q ae
 refine Qn H7 fun a ha a3 aa => X <| S1 ha ?_
 refine Yh q h (fun h => ?_) (fun h => ?_)
 ·cases h
  exact rR <| eA aa.p1 us27 uo27 il27 q <| zl (cs' := [A0, A1, A2, iV B3, A4]) aa q il27 q (T (aa.ctx.sliceOne hS2) (T (aa.ctx.sliceOne hS3) (T (aa.ctx.sliceOne hS4) (T q (T (aa.ctx.sliceOne hS5) q))))) q q q fun a4 ar => qa q <| B <| W fun a ha => have aI := R ar.p0; m (retct q ha q q (run_loadVar_bx (cs := [A0, A1, A2, iV B3, A4]) us27 uo27 il27 aI) ⟨A0, A1, A2, A4, q, ar.q0.q0.p3.p3.p3.p3⟩)
 refine y <| rR <| qf uf27 fi27_0 nz23 q <| ql u23 aa.p1 q <| qz aa.ctx hS2 u23 q <| O h fun a5 aK h => WL_makeH aa aK u24 j3 q (fun _ => ⟨q, q⟩) q q q q q fun au a6 av => qa q <| rN <| qm q <| qm q <| qm q <| O h fun a7 aw h => qb av.ctx hS0 aw u24 i3 q fun a8 a9 ba aL => WL_storeH (fo := 0) (cs' := [iV p2]) av aw aL (Upd.whole (Blt.int)) q il3 q q q q fun bb ah => rN <| qf uf27 fi27_0 nz23 q <| ql u23 ah.p2 q <| qf uf27 fi27_2 nz24 q <| ql u24 ah.p2 q <| qm q <| qi (qt_build (args := [(0, .tmp 46)]) (css := [#[au]]) (cells := #[au, nS]) q ⟨(ah.ctx.sliceCells hS0), trivial⟩ (by kernel_rfl)) q <| O h fun bc aM h => U1 q c125 (w_spec_MakeRun aM hS3 hS5 hS0 (HasRo.has HasRo.nil) ah.ctx) fun ao bd aN => have aj := ah.cN1 [] aN; qm q <| qi (zv q q) q <| qi (zv q q) q <| qa q <| qa q <| B <| C <| rR <| qm q ?_
 refine qi (qt_not q) q <| qm q <| O h fun aO af h => ?_
 refine Ho (res := aO) 5 (if_t · af) (fun ag be aP => ?_) ?_
 ·exact have af := if_f ag af; jm ag q <| jm ag q <| O af fun bf ax af => je aj hS0 ax u24 i3 ag q fun _ _ aQ => jI u3 aQ ag q <| ji (qt_gtr q q) ag q <| aP 5 q q q af
 refine B ?_
 refine Yh q h (fun h => ?_) (fun h => ?_)
 ·cases h
  exact rR <| eA aj.p3 us27 uo27 il27 q <| have ak := aj.p2; zl (cs' := [A0, A1, A2, iV B3, A4]) ak q il27 q (T (ak.ctx.sliceOne hS4) (T (ak.ctx.sliceOne hS5) (T (ak.ctx.sliceOne hS6) (T q (T (ak.ctx.sliceOne hS7) q))))) q q q fun bj ay => qa q <| B <| W fun a ha => have aR := R ay.p0; m (retct q ha q q (run_loadVar_bx (cs := [A0, A1, A2, iV B3, A4]) us27 uo27 il27 aR) ⟨A0, A1, A2, A4, q, ay.q0.q0.q0.q0.p3.p3.p3.p3⟩)
 cases h
 exact y <| rR <| qm q <| qf uf27 fi27_2 nz24 q <| have ap := aj.p3; WL_store_bx ap q il24 (ap.ctx.sliceCells hS1) (ap.ctx.sliceOne hS1) q q q fun bk az => rN <| eA az.p0 us27 uo27 il27 q <| have al := az.p3; zl (cs' := [A0, A1, ao, iV B3, A4]) al q il27 q (T (al.ctx.sliceOne hS4) (T (al.ctx.sliceOne hS5) (T (al.ctx.sliceOne hS2) (T q (T (al.ctx.sliceOne hS7) q))))) q q q fun bl aA => qa q <| B <| W fun a ha => have aT := R aA.p0; retct q ha q q (run_loadVar_bx (cs := [A0, A1, ao, iV B3, A4]) us27 uo27 il27 aT) ⟨A0, A1, ao, A4, q, aA.q0.q0.q1.q3.p3.p1.p3.p3⟩
theorem w_spec_l7Order {w G A0 B0 A1 B1 A2 B2 B3 A4 B4 p1 p2 p3 r} (h : spec_l7OrderS B0 B1 B2 B3 B4 p1 p2 p3 = some r) (H : Ctx w ([.sl 70 ty12 A0 B0, .sl 3 tI A1 B1, .sl 3 tI A2 B2, .sl 38 ty14 A4 B4] ++ G)) : Calls Tryz.prog 99 #[.agg #[A0, A1, A2, iV B3, A4], iV p1, iV p2, iV p3] w fun e w' => ∃ (v1 : Value) (v2 : Value) (v3 : Value) (v4 : Value), e = .returned (.tuple #[.agg #[v1, v2, v3, iV r.1.2.2.2.1, v4], .bool r.2]) ∧ Holds (([.sl 70 ty12 A0 B0, .sl 3 tI A1 B1, .sl 3 tI A2 B2, .sl 38 ty14 A4 B4] : List Res).flatMap Res.own) w w' [.sl 70 ty12 v1 r.1.1, .sl 3 tI v2 r.1.2.1, .sl 3 tI v3 r.1.2.2.1, .sl 38 ty14 v4 r.1.2.2.2.2] G := by
 refine F1 93 H Tryz.func99 q fun H => ?_
 refine C <| Z <| WL_box (cs := [A0, A1, A2, iV B3, A4]) H q q q q fun b1 w2 H3 => zq (cs := [nS, nS, nS, iV 0, nS]) H3 z27 q q q fun b5 w6 H7 => qa q <| B <| C <| C <| O h fun ba aE h => O h fun cM aX h => O h fun cN aK h => O h fun bb aF h => ?_
 refine WP_join (M := fun a w2 => (Fr a 93 [(1, iV p1), (2, iV p2), (3, iV p3), (4, pB b1), (8, pB b5), (48, .bool bb)] ∧ Holds (([.sl 70 ty12 A0 B0, .sl 3 tI A1 B1, .sl 3 tI A2 B2, .sl 38 ty14 A4 B4] : List Res).flatMap Res.own) w w2 [.bx b1 27 [A0, A1, A2, iV B3, A4], .sl 70 ty12 A0 B0, .sl 3 tI A1 B1, .sl 3 tI A2 B2, .sl 38 ty14 A4 B4, .bx b5 27 [nS, nS, nS, iV 0, nS]] G)) ?_ ?_
 ·refine WP_ordersT (fun w1 w2 => Chg M0 w1 w2) 38 (by kernel_rfl) fun aL bc => have az := H7.grow bc; ?_
  have ak : Ctx aL ([] ++ ([.bx b5 27 [nS, nS, nS, iV 0, nS], .bx b1 27 [A0, A1, A2, iV B3, A4], .sl 70 ty12 A0 B0, .sl 3 tI A1 B1, .sl 3 tI A2 B2, .sl 38 ty14 A4 B4] ++ G)) := az.ctx
  have aa : Holds _ aL aL [] ([.bx b5 27 [nS, nS, nS, iV 0, nS], .bx b1 27 [A0, A1, A2, iV B3, A4], .sl 70 ty12 A0 B0, .sl 3 tI A1 B1, .sl 3 tI A2 B2, .sl 38 ty14 A4 B4] ++ G) := zb (Rs := []) ak
  rcases btf (!ba) with ab | ab
  ·have bd := if_t ab aX
   obtain rfl := L bd
   have ar : true = true := q
   have be := if_t ar aK
   obtain rfl := L be
   have al : true = true := q
   have bf := if_t al aF
   obtain rfl := L bf
   refine XQ (i := 0) q (by kernel_rfl) q aa.chg q (fun _ => qt_move q) q q <| XQ (i := 1) q (by kernel_rfl) q aa.chg q (fun _ => qt_fieldAddr uf27 fi27_4 nz25 q) q q <| have bg := HasB.bx (HasB.c (HasB.hd)) aa.ctx; XT (i := 2) q (by kernel_rfl) q aa.chg q (qs_cell u25 q q (bg.cell (i := 4) q) aa.chg (Ctx.outB ak (HasB.c (HasB.hd)))) q q <| XT (i := 3) q (by kernel_rfl) q aa.chg q (qs_len (t := ty14) aa.ctx hS5 u25 q) q q <| XQ (i := 4) q (by kernel_rfl) q aa.chg q (fun _ => qt_sub q q) q q <| X1 5 (by kernel_rfl) q <| U0 q c39 (w_spec_l1In aE aa.ctx) fun cO bh => have ae := aa.cN0 [] bh; XN ae.chg <| XQ (i := 6) q (by kernel_rfl) q ae.chg q (fun _ => qt_not q) q q <| XQ (i := 7) q (by kernel_rfl) q ae.chg q (fun _ => qt_move q) q q <| XS (i := 8) q (by kernel_rfl) q ae.chg q ab q q <| XS (i := 9) q (by kernel_rfl) q ae.chg q ab q q <| XS (i := 10) q (by kernel_rfl) q ae.chg q ab q q <| XS (i := 11) q (by kernel_rfl) q ae.chg q ab q q <| XS (i := 12) q (by kernel_rfl) q ae.chg q ab q q <| XS (i := 13) q (by kernel_rfl) q ae.chg q ab q q <| XS (i := 14) q (by kernel_rfl) q ae.chg q ab q q ?_
   refine XQ (i := 15) q (by kernel_rfl) q ae.chg q (fun _ => ze q ab q) q q <| XQ (i := 16) q (by kernel_rfl) q ae.chg q (fun _ => qt_move q) q q <| XS (i := 17) q (by kernel_rfl) q ae.chg q ar q q <| XS (i := 18) q (by kernel_rfl) q ae.chg q ar q q <| XS (i := 19) q (by kernel_rfl) q ae.chg q ar q q <| XS (i := 20) q (by kernel_rfl) q ae.chg q ar q q <| XS (i := 21) q (by kernel_rfl) q ae.chg q ar q q <| XS (i := 22) q (by kernel_rfl) q ae.chg q ar q q <| XQ (i := 23) q (by kernel_rfl) q ae.chg q (fun _ => ze q ar q) q q <| XQ (i := 24) q (by kernel_rfl) q ae.chg q (fun _ => qt_move q) q q <| XS (i := 25) q (by kernel_rfl) q ae.chg q al q q <| XS (i := 26) q (by kernel_rfl) q ae.chg q al q q <| XS (i := 27) q (by kernel_rfl) q ae.chg q al q q <| XS (i := 28) q (by kernel_rfl) q ae.chg q al q q <| XS (i := 29) q (by kernel_rfl) q ae.chg q al q q <| XS (i := 30) q (by kernel_rfl) q ae.chg q al q q <| XS (i := 31) q (by kernel_rfl) q ae.chg q al q q <| XS (i := 32) q (by kernel_rfl) q ae.chg q al q q <| XS (i := 33) q (by kernel_rfl) q ae.chg q al q q <| XS (i := 34) q (by kernel_rfl) q ae.chg q al q q ?_
   exact XS (i := 35) q (by kernel_rfl) q ae.chg q al q q <| XS (i := 36) q (by kernel_rfl) q ae.chg q al q q <| XQ (i := 37) q (by kernel_rfl) q ae.chg q (fun _ => ze q al q) q q <| have bi := az.cN0 [] ae; XC_done (by kernel_rfl) fun a ha => ⟨ha.s, bi.p5.p5.p5.p5.p5⟩
  refine have aM := if_f ab aX; O aM fun bk aN aM => ?_
  obtain rfl := L aM
  rcases btf (!bk) with aj | aj
  ·have bl := if_t aj aK
   obtain rfl := L bl
   have am : true = true := q
   have bm := if_t am aF
   obtain rfl := L bm
   refine XQ (i := 0) q (by kernel_rfl) q aa.chg q (fun _ => qt_move q) q q <| XQ (i := 1) q (by kernel_rfl) q aa.chg q (fun _ => qt_fieldAddr uf27 fi27_4 nz25 q) q q <| have bn := HasB.bx (HasB.c (HasB.hd)) aa.ctx; XT (i := 2) q (by kernel_rfl) q aa.chg q (qs_cell u25 q q (bn.cell (i := 4) q) aa.chg (Ctx.outB ak (HasB.c (HasB.hd)))) q q <| XT (i := 3) q (by kernel_rfl) q aa.chg q (qs_len (t := ty14) aa.ctx hS5 u25 q) q q <| XQ (i := 4) q (by kernel_rfl) q aa.chg q (fun _ => qt_sub q q) q q <| X1 5 (by kernel_rfl) q <| U0 q c39 (w_spec_l1In aE aa.ctx) fun cP bo => have ao := aa.cN0 [] bo; XN ao.chg <| XQ (i := 6) q (by kernel_rfl) q ao.chg q (fun _ => qt_not q) q q <| XQ (i := 7) q (by kernel_rfl) q ao.chg q (fun _ => qt_move q) q q <| XQ (i := 8) q (by kernel_rfl) q ao.chg (J q ab) (fun _ => qt_move q) q q <| XQ (i := 9) q (by kernel_rfl) q ao.chg (J q ab) (fun _ => qt_fieldAddr uf27 fi27_0 nz23 q) q q ?_
   refine have bp := HasB.bx (HasB.c (HasB.hd)) ao.ctx; XT (i := 10) q (by kernel_rfl) q ao.chg (J q ab) (qs_cell u23 q q (bp.cell (i := 0) q) ao.chg (Ctx.outB ak (HasB.c (HasB.hd)))) q q <| XT (i := 11) q (by kernel_rfl) q ao.chg (J q ab) (qs_len (t := ty12) ao.ctx hS2 u23 q) q q <| XQ (i := 12) q (by kernel_rfl) q ao.chg (J q ab) (fun _ => qt_sub q q) q q <| X1 13 (by kernel_rfl) q <| V0 (J q ab) q c39 (w_spec_l1In aN ao.ctx) q fun cQ bq => have ah := ao.cN0 [] bq; XN ah.chg <| XQ (i := 14) q (by kernel_rfl) q ah.chg (J q ab) (fun _ => qt_not q) q q <| XQ (i := 15) q (by kernel_rfl) q ah.chg q (fun _ => zf q ab q) q q <| XQ (i := 16) q (by kernel_rfl) q ah.chg q (fun _ => qt_move q) q q <| XS (i := 17) q (by kernel_rfl) q ah.chg q aj q q <| XS (i := 18) q (by kernel_rfl) q ah.chg q aj q q <| XS (i := 19) q (by kernel_rfl) q ah.chg q aj q q <| XS (i := 20) q (by kernel_rfl) q ah.chg q aj q q <| XS (i := 21) q (by kernel_rfl) q ah.chg q aj q q <| XS (i := 22) q (by kernel_rfl) q ah.chg q aj q q ?_
   exact XQ (i := 23) q (by kernel_rfl) q ah.chg q (fun _ => ze q aj q) q q <| XQ (i := 24) q (by kernel_rfl) q ah.chg q (fun _ => qt_move q) q q <| XS (i := 25) q (by kernel_rfl) q ah.chg q am q q <| XS (i := 26) q (by kernel_rfl) q ah.chg q am q q <| XS (i := 27) q (by kernel_rfl) q ah.chg q am q q <| XS (i := 28) q (by kernel_rfl) q ah.chg q am q q <| XS (i := 29) q (by kernel_rfl) q ah.chg q am q q <| XS (i := 30) q (by kernel_rfl) q ah.chg q am q q <| XS (i := 31) q (by kernel_rfl) q ah.chg q am q q <| XS (i := 32) q (by kernel_rfl) q ah.chg q am q q <| XS (i := 33) q (by kernel_rfl) q ah.chg q am q q <| XS (i := 34) q (by kernel_rfl) q ah.chg q am q q <| XS (i := 35) q (by kernel_rfl) q ah.chg q am q q <| XS (i := 36) q (by kernel_rfl) q ah.chg q am q q <| XQ (i := 37) q (by kernel_rfl) q ah.chg q (fun _ => ze q am q) q q <| have br := az.cN0 [] ah; XC_done (by kernel_rfl) fun a ha => ⟨ha.s, br.p5.p5.p5.p5.p5⟩
  refine have aO := if_f aj aK; O aO fun bt au aO => ?_
  obtain rfl := L aO
  rcases btf (decide (bt < 1)) with ag | ag
  ·have bu := if_t ag aF
   obtain rfl := L bu
   refine XQ (i := 0) q (by kernel_rfl) q aa.chg q (fun _ => qt_move q) q q <| XQ (i := 1) q (by kernel_rfl) q aa.chg q (fun _ => qt_fieldAddr uf27 fi27_4 nz25 q) q q <| have bv := HasB.bx (HasB.c (HasB.hd)) aa.ctx; XT (i := 2) q (by kernel_rfl) q aa.chg q (qs_cell u25 q q (bv.cell (i := 4) q) aa.chg (Ctx.outB ak (HasB.c (HasB.hd)))) q q <| XT (i := 3) q (by kernel_rfl) q aa.chg q (qs_len (t := ty14) aa.ctx hS5 u25 q) q q <| XQ (i := 4) q (by kernel_rfl) q aa.chg q (fun _ => qt_sub q q) q q <| X1 5 (by kernel_rfl) q <| U0 q c39 (w_spec_l1In aE aa.ctx) fun cR bw => have ap := aa.cN0 [] bw; XN ap.chg <| XQ (i := 6) q (by kernel_rfl) q ap.chg q (fun _ => qt_not q) q q <| XQ (i := 7) q (by kernel_rfl) q ap.chg q (fun _ => qt_move q) q q <| XQ (i := 8) q (by kernel_rfl) q ap.chg (J q ab) (fun _ => qt_move q) q q <| XQ (i := 9) q (by kernel_rfl) q ap.chg (J q ab) (fun _ => qt_fieldAddr uf27 fi27_0 nz23 q) q q ?_
   refine have bz := HasB.bx (HasB.c (HasB.hd)) ap.ctx; XT (i := 10) q (by kernel_rfl) q ap.chg (J q ab) (qs_cell u23 q q (bz.cell (i := 0) q) ap.chg (Ctx.outB ak (HasB.c (HasB.hd)))) q q <| XT (i := 11) q (by kernel_rfl) q ap.chg (J q ab) (qs_len (t := ty12) ap.ctx hS2 u23 q) q q <| XQ (i := 12) q (by kernel_rfl) q ap.chg (J q ab) (fun _ => qt_sub q q) q q <| X1 13 (by kernel_rfl) q <| V0 (J q ab) q c39 (w_spec_l1In aN ap.ctx) q fun cS bA => have af := ap.cN0 [] bA; XN af.chg <| XQ (i := 14) q (by kernel_rfl) q af.chg (J q ab) (fun _ => qt_not q) q q <| XQ (i := 15) q (by kernel_rfl) q af.chg q (fun _ => zf q ab q) q q <| XQ (i := 16) q (by kernel_rfl) q af.chg q (fun _ => qt_move q) q q <| XQ (i := 17) q (by kernel_rfl) q af.chg (J q aj) (fun _ => qt_fieldAddr uf27 fi27_2 nz24 q) q q <| have bB := HasB.bx (HasB.c (HasB.hd)) af.ctx; XT (i := 18) q (by kernel_rfl) q af.chg (J q aj) (qs_cell u24 q q (bB.cell (i := 2) q) af.chg (Ctx.outB ak (HasB.c (HasB.hd)))) q q <| XQ (i := 19) q (by kernel_rfl) q af.chg (J q aj) (fun _ => qt_move q) q q ?_
   obtain ⟨cT, cU, cV, aP⟩ := Ctx.isAt af.ctx hS4 au
   refine XT (i := 20) q (by kernel_rfl) q af.chg (J q aj) (qs_index au aP u24 i3 q q) q q ?_
   obtain ⟨cW, bC, cX⟩ := af.at hS4 au aP
   refine XT (i := 21) q (by kernel_rfl) q af.chg (J q aj) (qs_cell u3 q q (AtP.cInt bC) af.chg (Ctx.outHas ak hS4 au aP)) q q <| XQ (i := 22) q (by kernel_rfl) q af.chg (J q aj) (fun _ => qt_lss q q) q q <| XQ (i := 23) q (by kernel_rfl) q af.chg q (fun _ => zf q aj q) q q <| XQ (i := 24) q (by kernel_rfl) q af.chg q (fun _ => qt_move q) q q <| XS (i := 25) q (by kernel_rfl) q af.chg q ag q q <| XS (i := 26) q (by kernel_rfl) q af.chg q ag q q <| XS (i := 27) q (by kernel_rfl) q af.chg q ag q q <| XS (i := 28) q (by kernel_rfl) q af.chg q ag q q <| XS (i := 29) q (by kernel_rfl) q af.chg q ag q q <| XS (i := 30) q (by kernel_rfl) q af.chg q ag q q <| XS (i := 31) q (by kernel_rfl) q af.chg q ag q q <| XS (i := 32) q (by kernel_rfl) q af.chg q ag q q <| XS (i := 33) q (by kernel_rfl) q af.chg q ag q q <| XS (i := 34) q (by kernel_rfl) q af.chg q ag q q <| XS (i := 35) q (by kernel_rfl) q af.chg q ag q q <| XS (i := 36) q (by kernel_rfl) q af.chg q ag q q <| XQ (i := 37) q (by kernel_rfl) q af.chg q (fun _ => ze q ag q) q q ?_
   exact have bD := az.cN0 [] af; XC_done (by kernel_rfl) fun a ha => ⟨ha.s, bD.p5.p5.p5.p5.p5⟩
  refine have av := if_f ag aF; O av fun cY aG av => O av fun cZ bF av => O av fun c0 bG av => ?_
  obtain rfl := L av
  refine XQ (i := 0) q (by kernel_rfl) q aa.chg q (fun _ => qt_move q) q q <| XQ (i := 1) q (by kernel_rfl) q aa.chg q (fun _ => qt_fieldAddr uf27 fi27_4 nz25 q) q q <| have bH := HasB.bx (HasB.c (HasB.hd)) aa.ctx; XT (i := 2) q (by kernel_rfl) q aa.chg q (qs_cell u25 q q (bH.cell (i := 4) q) aa.chg (Ctx.outB ak (HasB.c (HasB.hd)))) q q <| XT (i := 3) q (by kernel_rfl) q aa.chg q (qs_len (t := ty14) aa.ctx hS5 u25 q) q q <| XQ (i := 4) q (by kernel_rfl) q aa.chg q (fun _ => qt_sub q q) q q <| X1 5 (by kernel_rfl) q <| U0 q c39 (w_spec_l1In aE aa.ctx) fun c1 bI => have aq := aa.cN0 [] bI; XN aq.chg <| XQ (i := 6) q (by kernel_rfl) q aq.chg q (fun _ => qt_not q) q q <| XQ (i := 7) q (by kernel_rfl) q aq.chg q (fun _ => qt_move q) q q <| XQ (i := 8) q (by kernel_rfl) q aq.chg (J q ab) (fun _ => qt_move q) q q <| XQ (i := 9) q (by kernel_rfl) q aq.chg (J q ab) (fun _ => qt_fieldAddr uf27 fi27_0 nz23 q) q q ?_
  refine have bJ := HasB.bx (HasB.c (HasB.hd)) aq.ctx; XT (i := 10) q (by kernel_rfl) q aq.chg (J q ab) (qs_cell u23 q q (bJ.cell (i := 0) q) aq.chg (Ctx.outB ak (HasB.c (HasB.hd)))) q q <| XT (i := 11) q (by kernel_rfl) q aq.chg (J q ab) (qs_len (t := ty12) aq.ctx hS2 u23 q) q q <| XQ (i := 12) q (by kernel_rfl) q aq.chg (J q ab) (fun _ => qt_sub q q) q q <| X1 13 (by kernel_rfl) q <| V0 (J q ab) q c39 (w_spec_l1In aN aq.ctx) q fun c2 bK => have ad := aq.cN0 [] bK; XN ad.chg <| XQ (i := 14) q (by kernel_rfl) q ad.chg (J q ab) (fun _ => qt_not q) q q <| XQ (i := 15) q (by kernel_rfl) q ad.chg q (fun _ => zf q ab q) q q <| XQ (i := 16) q (by kernel_rfl) q ad.chg q (fun _ => qt_move q) q q <| XQ (i := 17) q (by kernel_rfl) q ad.chg (J q aj) (fun _ => qt_fieldAddr uf27 fi27_2 nz24 q) q q <| have bL := HasB.bx (HasB.c (HasB.hd)) ad.ctx; XT (i := 18) q (by kernel_rfl) q ad.chg (J q aj) (qs_cell u24 q q (bL.cell (i := 2) q) ad.chg (Ctx.outB ak (HasB.c (HasB.hd)))) q q <| XQ (i := 19) q (by kernel_rfl) q ad.chg (J q aj) (fun _ => qt_move q) q q ?_
  obtain ⟨c3, c4, c5, aQ⟩ := Ctx.isAt ad.ctx hS4 au
  refine XT (i := 20) q (by kernel_rfl) q ad.chg (J q aj) (qs_index au aQ u24 i3 q q) q q ?_
  obtain ⟨c6, bM, c7⟩ := ad.at hS4 au aQ
  refine XT (i := 21) q (by kernel_rfl) q ad.chg (J q aj) (qs_cell u3 q q (AtP.cInt bM) ad.chg (Ctx.outHas ak hS4 au aQ)) q q <| XQ (i := 22) q (by kernel_rfl) q ad.chg (J q aj) (fun _ => qt_lss q q) q q <| XQ (i := 23) q (by kernel_rfl) q ad.chg q (fun _ => zf q aj q) q q <| XQ (i := 24) q (by kernel_rfl) q ad.chg q (fun _ => qt_move q) q q <| XQ (i := 25) q (by kernel_rfl) q ad.chg (J q ag) (fun _ => qt_fieldAddr uf27 fi27_0 nz23 q) q q <| have bN := HasB.bx (HasB.c (HasB.hd)) ad.ctx; XT (i := 26) q (by kernel_rfl) q ad.chg (J q ag) (qs_cell u23 q q (bN.cell (i := 0) q) ad.chg (Ctx.outB ak (HasB.c (HasB.hd)))) q q <| XQ (i := 27) q (by kernel_rfl) q ad.chg (J q ag) (fun _ => qt_fieldAddr uf27 fi27_4 nz25 q) q q <| have bO := HasB.bx (HasB.c (HasB.hd)) ad.ctx; XT (i := 28) q (by kernel_rfl) q ad.chg (J q ag) (qs_cell u25 q q (bO.cell (i := 4) q) ad.chg (Ctx.outB ak (HasB.c (HasB.hd)))) q q <| XQ (i := 29) q (by kernel_rfl) q ad.chg (J q ag) (fun _ => qt_move q) q q ?_
  obtain ⟨c8, da, db, aR⟩ := Ctx.isAt ad.ctx hS5 aG
  refine XT (i := 30) q (by kernel_rfl) q ad.chg (J q ag) (qs_index aG aR u25 i38 q q) q q <| XQ (i := 31) q (by kernel_rfl) q ad.chg (J q ag) (fun _ => qt_fieldAddr uf38 fi38_0 nz3 q) q q ?_
  obtain ⟨dc, bP, dd⟩ := ad.at hS5 aG aR
  obtain ⟨de, bQ, df⟩ := AtP.fst bP
  exact XT (i := 32) q (by kernel_rfl) q ad.chg (J q ag) (qs_cell u3 q q (AtP.cInt bQ) ad.chg (Ctx.outHas ak hS5 aG aR)) q q <| XQ (i := 34) q (by kernel_rfl) q ad.chg (J q ag) (fun _ => qt_move q) q q <| X1 33 (by kernel_rfl) q <| V1 (J q ag) q c41 (w_spec_FreeOf bF hS2 ad.ctx) q fun dg dh bR => have aS := ad.cN1 [] bR; XN aS.chg <| X1 35 (by kernel_rfl) q <| V0 (J q ag) q c42 (w_spec_l1Has bG hS0 aS.ctx) q fun di bS => have aH := aS.cN0 [] bS; XN aH.chg <| XQ (i := 36) q (by kernel_rfl) q aH.chg (J q ag) (fun _ => qt_not q) q q <| XQ (i := 37) q (by kernel_rfl) q aH.chg q (fun _ => zf q ag q) q q <| have bT := az.cN1 [] aH; XC_done (by kernel_rfl) fun a ha => ⟨ha.s, bT.q0.p5.p5.p5.p5.p5⟩
 rintro a bV ⟨ha, aA⟩
 refine S1 ha ?_
 refine Yh q h (fun h => ?_) (fun h => ?_)
 ·cases h
  exact rR <| eA aA.p0 us27 uo27 il27 q <| have aB := aA.p5; zl (cs' := [A0, A1, A2, iV B3, A4]) aB q il27 q (T (aB.ctx.sliceOne hS2) (T (aB.ctx.sliceOne hS3) (T (aB.ctx.sliceOne hS4) (T q (T (aB.ctx.sliceOne hS5) q))))) q q q fun dj aY => qa q <| B <| W fun a ha => have bW := R aY.p0; m (retct q ha q q (run_loadVar_bx (cs := [A0, A1, A2, iV B3, A4]) us27 uo27 il27 bW) ⟨A0, A1, A2, A4, q, aY.q0.q0.p3.p3.p3.p3⟩)
 refine y <| rR <| qf uf27 fi27_4 nz25 q <| ql u25 aA.p0 q <| qm q <| O h fun aw aZ h => qb aA.ctx hS4 aZ u25 i38 q fun dk dl dm bY => ?_
 obtain ⟨dn, bZ, b0⟩ := aA.atN hS4 aZ bY
 refine XL_load_agg (t := ty14) us38 uo38 i38 bZ q q q fun dq b4 => ?_
 obtain ⟨dr, ds, dt, du, rfl, a0, b6, b7⟩ := b4
 obtain ⟨rfl, _⟩ := b6
 obtain ⟨dv, dw, dx, dy, rfl, a1, b8, b9⟩ := b7
 obtain ⟨aI, rfl, ca⟩ := Rep.sl_inv b8
 obtain ⟨aJ, rfl, cb⟩ := Rep.sl_inv b9
 have cc : Holds _ w bV [.ro ty2 aI aw.2.1, .ro tI aJ aw.2.2, .bx b1 27 [A0, A1, A2, iV B3, A4], .sl 70 ty12 A0 B0, .sl 3 tI A1 B1, .sl 3 tI A2 B2, .sl 38 ty14 A4 B4, .bx b5 27 [nS, nS, nS, iV 0, nS]] G := b0 [.ro ty2 aI aw.2.1, .ro tI aJ aw.2.2] ⟨⟨_, _, _, _, q, ca, (fun k h => (fun k h => (fun _ h => h) k (by rw [a0]; exact zx _ h)) k (by rw [a1]; exact List.mem_append_left _ h))⟩, ⟨_, _, _, _, q, cb, (fun k h => (fun k h => (fun _ h => h) k (by rw [a0]; exact zx _ h)) k (by rw [a1]; exact zx _ h))⟩, trivial⟩
 change XL _ _ _ _ _ ((54, .agg #[iV aw.1, aI, aJ]) :: _) _
 refine zq (cs := [iV 0, nS, nS]) cc z38 q q q fun dz dA aT => zl (cs' := [iV aw.1, aI, aJ]) aT q il38 q (T q (T (aT.ctx.sliceOne hR1) (T (aT.ctx.sliceOne hR2) q))) q q q fun dB cd => B <| C <| Z <| zs (t := ty2) (args := []) (xs := ([] : LP)) cd (BltL.nil) u36 j123 q q q q q q fun dC dD a2 => qf uf38 fi38_1 nz36 q <| ql u36 a2.p1 q <| O h fun dE ce h => zw a2 hR2 ce u36 j123 q q q q q q fun dF dG cf => qm q <| qi (qt_build (args := [(0, .tmp 59)]) (css := [#[iV p3]]) (cells := #[iV p3, iV 0]) q ⟨q, trivial⟩ (by kernel_rfl)) q <| zs (t := ty2) (args := [.tmp 60]) (xs := ([(p3, 0)] : LP)) cf (BltL.cons (Blt.pair (Blt.int) (Blt.int)) q (BltL.nil)) u36 j123 q q q q q q fun dH dI cg => O h fun dJ ci h => zw cg.p1 hS1 ci u36 j123 q q q q q q fun cj dK ck => qf uf38 fi38_1 nz36 q <| have aU := ck.p2; WL_store_bx aU q il36 (aU.ctx.sliceCells hS1) (aU.ctx.sliceOne hS1) q q q fun dL cl => ?_
 refine B <| C <| Z <| zs (t := tI) (args := []) (xs := ([] : List Int)) cl (BltL.nil) u24 j3 q q q q q q fun dM dN a3 => qf uf38 fi38_2 nz24 q <| ql u24 a3.p1 q <| O h fun dO cm h => zw a3 hR5 cm u24 j3 q q q q q q fun dP dQ cn => qm q <| zs (t := tI) (args := [.tmp 68]) (xs := ([p2] : List Int)) cn (BltL.cons (Blt.int) q (BltL.nil)) u24 j3 q q q q q q fun dR dS co => O h fun dT cq h => zw co.p1 hS1 cq u24 j3 q q q q q q fun cr dU ct => qf uf38 fi38_2 nz24 q <| have aV := ct.p2; WL_store_bx aV q il24 (aV.ctx.sliceCells hS1) (aV.ctx.sliceOne hS1) q q q fun dV aW => B <| C <| C <| zk <| qf uf38 fi38_1 nz36 q <| ql u36 aW.p0 q <| O h fun dW cu h => qc q c40 aW (fun _ => w_spec_TicketValid cu hS3) <| qi (qt_not q) q <| Qn aW fun a ha dX ax => X <| S1 ha ?_
 refine Yh q h (fun h => ?_) (fun h => ?_)
 ·cases h
  exact rR <| eA ax.p7 us27 uo27 il27 q <| have aC := ax.p12; zl (cs' := [A0, A1, A2, iV B3, A4]) aC q il27 q (T (aC.ctx.sliceOne hS9) (T (aC.ctx.sliceOne hS10) (T (aC.ctx.sliceOne hS11) (T q (T (aC.ctx.sliceOne hS12) q))))) q q q fun dY a4 => qa q <| B <| W fun a ha => have cv := R a4.p0; m (retct q ha q q (run_loadVar_bx (cs := [A0, A1, A2, iV B3, A4]) us27 uo27 il27 cv) ⟨A0, A1, A2, A4, q, a4.q0.q0.q0.q0.q0.q0.q0.q0.q0.p3.p3.p3.p3⟩)
 refine y <| rR <| qf uf27 fi27_4 nz25 q <| ql u25 ax.p7 q <| qm q <| eA ax.p0 us38 uo38 il38 q <| O h fun dZ a5 h => qb ax.ctx hS11 a5 u25 i38 q fun d0 d1 d2 cx => WL_storeH (fo := 0) (cs' := [iV aw.1, cj, cr]) ax.p11.p4.freeze.p3.freeze.p2 a5 cx (Upd.whole (Blt.pair (Blt.int) (Blt.pair (Blt.slice hO2) (Blt.slice hO1)))) q il38 q q q q fun d3 cE => B <| C <| WP_tail 9 (by kernel_rfl) (by kernel_rfl) fun d4 cF => have ay := cE.grow cF; qf uf27 fi27_2 nz24 q <| ql u24 ay.p8 q <| qm q <| qf uf27 fi27_2 nz24 q <| ql u24 ay.p8 q <| qm q <| O h fun cG a6 h => qe ay hS11 a6 u24 i3 q fun _ _ cH => ?_
 refine eI u3 cH q <| qi (qt_sub q q) q <| SL_nil <| O h fun d8 a7 h => qb ay.ctx hS11 a7 u24 i3 q fun d9 ea eb cI => WL_storeH (fo := 0) (cs' := [iV (IntKind.wrap .i64 (cG - 1))]) ay.p11 a7 cI (Upd.whole (Blt.int)) q il3 q q q q fun ec a8 => rN <| eA a8.p9 us27 uo27 il27 q <| have aD := a8.p12; zl (cs' := [A0, A1, A2, iV B3, A4]) aD q il27 q (T (aD.ctx.sliceOne hS11) (T (aD.ctx.sliceOne hS12) (T (aD.ctx.sliceOne hS1) (T q (T (aD.ctx.sliceOne hS2) q))))) q q q fun ed a9 => qa q <| B <| W fun a ha => ?_
 cases h
 refine have cK := R a9.p0; ?_
 exact retct q ha q q (run_loadVar_bx (cs := [A0, A1, A2, iV B3, A4]) us27 uo27 il27 cK) ⟨A0, A1, A2, A4, q, a9.q0.q2.q2.q2.q2.q2.q2.q2.q2.p1.p1.p3.p3⟩
end Go.Proofs.YtkhnponakhabdaaGreatDoor
