/- The walks: each Go function computes its shallow function. Printed by a program. -/
import Derived.Test.YtpklpghbkhegnaaGreatDoorWX7M1
set_option linter.unusedVariables false
set_option maxRecDepth 10000
set_option maxHeartbeats 8000000
namespace Go.Proofs.YtpklpghbkhegnaaGreatDoor
open Go Go.RowKit
theorem w_spec_l7Copy {w G A0 B0 A1 B1 A2 B2 B3 A4 B4 r} (h : spec_l7CopyS B0 B1 B2 B3 B4 = some r) (C0 : Has G ty12 A0 B0) (C1 : Has G tI A1 B1) (C2 : Has G tI A2 B2) (C4 : Has G ty14 A4 B4) (H : Ctx w G) : Calls Tryz.prog 25 #[.agg #[A0, A1, A2, iV B3, A4]] w fun e w' => ∃ (v1 : Value) (v2 : Value) (v3 : Value) (v4 : Value), e = .returned (.agg #[v1, v2, v3, iV r.2.2.2.1, v4]) ∧ Holds M0 w w' [.sl 95 ty12 v1 r.1, .sl 3 tI v2 r.2.1, .sl 3 tI v3 r.2.2.1, .sl 89 ty14 v4 r.2.2.2.2] G := by
 refine F0 82 H Tryz.func25 q fun H => ?_
 refine C <| Z <| WL_box (cs := [A0, A1, A2, iV B3, A4]) H q q q q fun b1 w2 H3 => zq (cs := [nS, nS, nS, iV 0, nS]) H3 z31 q q q fun b5 w6 H7 => B <| C <| Z <| zs (t := ty12) (args := []) (xs := ([] : LI)) H7 (BltL.nil) u28 j95 q q q q q q fun v9 cF bk => qa q <| B <| C <| rR <| qa q <| B <| g <| O h fun av bl h => ?_
 refine fun cG bn => zp (I := fun (aA, aV) a w2 => ∃ aw, Fr a 82 [(1, pB b1), (2, pB b5), (3, aw), (4, iV aV)] ∧ Holds M0 w w2 [.bx b1 31 [A0, A1, A2, iV B3, A4], .bx b5 31 [nS, nS, nS, iV 0, nS], .sl 95 ty12 aw aA] G) (O := fun q0 e a w2 => e = .exit 0 ∧ ∃ aI, Fr a 82 [(1, pB b1), (2, pB b5), (3, aI)] ∧ Holds M0 w w2 [.bx b1 31 [A0, A1, A2, iV B3, A4], .bx b5 31 [nS, nS, nS, iV 0, nS], .sl 95 ty12 aI q0] G) bl ?_ ?_ ?_
 ·exact ⟨v9, bn.s, bk.p1.p2⟩
 ·rintro ⟨aA, aV⟩ _ a cH al ⟨aw, ha, aM⟩
  refine S1 ha <| C <| rR <| qm q <| qf uf31 fi31_0 nz28 q <| ql u28 aM.p0 q <| qz aM.ctx (C0.c.c.c) u28 q <| qi (qt_lss q q) q <| B ?_
  refine Yh q al (fun al => ?_) (fun al => ?_)
  ·refine y <| C <| g <| O al fun aW aN al => O al fun bo aO al => O al fun bp bq al => O al fun aX aP al => O al fun br bs al => ?_
   refine WP_mid (Mid := fun a w2 => ∃ aQ, Fr a 82 [(1, pB b1), (2, pB b5), (3, aQ), (4, iV aV)] ∧ Holds M0 w w2 [.bx b1 31 [A0, A1, A2, iV B3, A4], .bx b5 31 [nS, nS, nS, iV 0, nS], .sl 95 ty12 aQ br] G) ?_ ?_
   ·refine WP_ordersT (fun w1 w2 => Chg (([.sl 95 ty12 aw aA] : List Res).flatMap Res.own) w1 w2) 24 (by kernel_rfl) fun aJ bt => have bu := aM.grow bt; have a8 := bu.p2; ?_
    have aB : Ctx aJ ([.sl 95 ty12 aw aA] ++ ([.bx b1 31 [A0, A1, A2, iV B3, A4], .bx b5 31 [nS, nS, nS, iV 0, nS]] ++ G)) := a8.ctx
    have af : Holds _ aJ aJ [.sl 95 ty12 aw aA] ([.bx b1 31 [A0, A1, A2, iV B3, A4], .bx b5 31 [nS, nS, nS, iV 0, nS]] ++ G) := zb (Rs := [.sl 95 ty12 aw aA]) aB
    refine XQ (i := 0) q (by kernel_rfl) q af.chg q (fun _ => qt_move q) q q <| XQ (i := 1) q (by kernel_rfl) q af.chg q (fun _ => qt_fieldAddr uf31 fi31_0 nz28 q) q q <| have bv := HasB.bx (HasB.c (HasB.hd)) af.ctx; XT (i := 2) q (by kernel_rfl) q af.chg q (qs_cell u28 q q (bv.cell (i := 0) q) af.chg (Ctx.outB aB (HasB.hd))) q q <| XQ (i := 3) q (by kernel_rfl) q af.chg q (fun _ => qt_move q) q q ?_
    obtain ⟨cI, cJ, cK, aY⟩ := Ctx.isAt af.ctx (C0.c.c.c) aN
    refine XT (i := 4) q (by kernel_rfl) q af.chg q (qs_index aN aY u28 i95 q q) q q <| XQ (i := 5) q (by kernel_rfl) q af.chg q (fun _ => qt_fieldAddr uf95 fi95_0 nz3 q) q q ?_
    obtain ⟨cL, bw, cM⟩ := af.at (C0.c.c.c) aN aY
    obtain ⟨cN, bz, cO⟩ := AtP.fst bw
    refine XT (i := 6) q (by kernel_rfl) q af.chg q (qs_cell u3 q q (AtP.cInt bz) af.chg (Ctx.outHas aB (C0.c.c) aN aY)) q q <| XQ (i := 8) q (by kernel_rfl) q af.chg q (fun _ => qt_fieldAddr uf31 fi31_0 nz28 q) q q <| have bA := HasB.bx (HasB.c (HasB.hd)) af.ctx; XT (i := 9) q (by kernel_rfl) q af.chg q (qs_cell u28 q q (bA.cell (i := 0) q) af.chg (Ctx.outB aB (HasB.hd))) q q <| XQ (i := 10) q (by kernel_rfl) q af.chg q (fun _ => qt_move q) q q ?_
    obtain ⟨cP, cQ, cR, aZ⟩ := Ctx.isAt af.ctx (C0.c.c.c) aO
    refine XT (i := 11) q (by kernel_rfl) q af.chg q (qs_index aO aZ u28 i95 q q) q q <| XQ (i := 12) q (by kernel_rfl) q af.chg q (fun _ => qt_fieldAddr uf95 fi95_1 nz93 q) q q ?_
    obtain ⟨cS, bB, bC⟩ := af.at (C0.c.c.c) aO aZ
    obtain ⟨cT, bD, bE⟩ := AtP.snd bB
    obtain ⟨cU, bF, bG⟩ := AtP.fst bD
    obtain ⟨bH, bI, bJ⟩ := AtP.one (t := ty4) bF q
    refine XT (i := 13) q (by kernel_rfl) q af.chg q (qs_cell u93 q q bI af.chg (Ctx.outHas aB (C0.c.c) aO aZ)) q q ?_
    have ap : Holds _ aJ aJ [.ro ty2 bH bo.2.1, .sl 95 ty12 aw aA] ([.bx b1 31 [A0, A1, A2, iV B3, A4], .bx b5 31 [nS, nS, nS, iV 0, nS]] ++ G) := bC _ _ _ _ bJ (fun k h => (fun k h => (fun _ h => h) k (bE k h)) k (bG k h))
    refine XQ (i := 15) q (by kernel_rfl) q ap.chg q (fun _ => qt_fieldAddr uf31 fi31_0 nz28 q) q q <| have bK := HasB.bx (HasB.c (HasB.c (HasB.hd))) ap.ctx; XT (i := 16) q (by kernel_rfl) q ap.chg q (qs_cell u28 q q (bK.cell (i := 0) q) ap.chg (Ctx.outB aB (HasB.hd))) q q <| XQ (i := 17) q (by kernel_rfl) q ap.chg q (fun _ => qt_move q) q q ?_
    obtain ⟨cV, cW, cX, a0⟩ := Ctx.isAt ap.ctx (C0.c.c.c.c) aP
    refine XT (i := 18) q (by kernel_rfl) q ap.chg q (qs_index aP a0 u28 i95 q q) q q <| XQ (i := 19) q (by kernel_rfl) q ap.chg q (fun _ => qt_fieldAddr uf95 fi95_2 nz3 q) q q ?_
    obtain ⟨cY, bL, cZ⟩ := ap.at (C0.c.c.c.c) aP a0
    obtain ⟨c0, bM, c1⟩ := AtP.snd bL
    obtain ⟨c2, bN, c3⟩ := AtP.snd bM
    refine XT (i := 20) q (by kernel_rfl) q ap.chg q (qs_cell u3 q q (AtP.cInt bN) ap.chg (Ctx.outHas aB (C0.c.c) aP a0)) q q <| X1 7 (by kernel_rfl) q <| zs (t := ty2) (args := []) (xs := ([] : LP)) ap (BltL.nil) u93 j152 q q q q q q fun c4 da a9 => XN a9.chg <| X1 14 (by kernel_rfl) q <| zw a9 hR1 bq u93 j152 q q q q q q fun ba db aR => XN aR.chg <| XQ (i := 21) q (by kernel_rfl) q aR.chg q (fun _ => qt_build (args := [(0, .tmp 22), (1, .tmp 30), (2, .tmp 36)]) (css := [#[iV aW.1], #[ba], #[iV aX.2.2]]) (cells := #[iV aW.1, ba, iV aX.2.2]) q ⟨q, (aR.ctx.sliceCells hS0), q, trivial⟩ (by kernel_rfl)) q q <| X1 22 (by kernel_rfl) q <| zs (t := ty12) (args := [.tmp 37]) (xs := ([(aW.1, bp, aX.2.2)] : LI)) aR.freeze (BltL.cons (Blt.pair (Blt.int) (Blt.pair (Blt.slice hO0) (Blt.int))) q (BltL.nil)) u28 j95 q q q q q q fun dc dd bb => XN bb.chg <| X1 23 (by kernel_rfl) q <| ?_
    exact zw bb.p3 hS1 bs u28 j95 q q q q q q fun bQ de bc => XN bc.chg <| have bR := a8.cN4 [_] bc; X1 24 (by kernel_rfl) q <| qa q <| XE q <| XC_done (by kernel_rfl) fun a ha => ⟨bQ, ha.s, bR.q1.q1.q1.p2.p2⟩
   rintro a df ⟨aQ, ha, bT⟩
   cases al
   exact zi <| X <| S1 ha <| Z <| qm q <| qi (qt_add q q) q <| qa q <| WL_nil fun a ha => ⟨q, aQ, ha.s, bT.p2.p2.p2⟩
  cases al
  exact WP_exit fun a ha => zo (⟨exit_ne, q, aw, ha.s, aM.p2.p2.p2⟩)
 rintro _ a dg ⟨rfl, ad, ha, bW⟩
 refine zn <| X <| S1 ha <| C <| O h fun aC au h => O h fun aD ax h => ?_
 refine WP_join (M := fun a w2 => ∃ aq ag ah aj aS, Fr a 82 [(1, pB b1), (2, pB b5), (5, pB aq)] ∧ Holds M0 w w2 [.bx b1 31 [A0, A1, A2, iV B3, A4], .bx b5 31 [nS, nS, nS, iV 0, nS], .bx aq 31 [ag, ah, aj, iV B3, aS], .sl 95 ty12 ag av, .sl 3 tI ah aC, .sl 3 tI aj aD, .sl 89 ty14 aS ([])] G) ?_ ?_
 ·refine WP_ordersT (fun w1 w2 => Chg M0 w1 w2) 14 (by kernel_rfl) fun a1 bX => have am := bW.grow bX; ?_
  have aT : Ctx a1 ([] ++ ([.bx b1 31 [A0, A1, A2, iV B3, A4], .bx b5 31 [nS, nS, nS, iV 0, nS], .sl 95 ty12 ad av] ++ G)) := am.ctx
  have bY : Holds _ a1 a1 [] ([.bx b1 31 [A0, A1, A2, iV B3, A4], .bx b5 31 [nS, nS, nS, iV 0, nS], .sl 95 ty12 ad av] ++ G) := zb (Rs := []) aT
  refine have Hc := bY; XM0 [([], [], true), ([], [], true), ([], [], true), ([2], [2], true), ([1, 3], [1, 3], true), ([], [], true), ([], [], true), ([6], [6], true), ([5, 7, 4], [5, 7], true), ([], [], true), ([9], [9], true), ([], [], true), ([0, 4, 8, 10, 11], [0, 4, 8, 10, 11], true), ([], [], true), ([13, 12, 8, 0, 1, 2, 3, 4, 5, 6, 7, 8, 9, 10, 11, 12, 13], [12, 13], false)] (by kernel_rfl) <| MQ 0 q q q Hc.chg q (fun _ => qt_move q) q q <| MQ 2 q q q Hc.chg q (fun _ => qt_fieldAddr uf31 fi31_1 nz23 q) q q <| have bZ := HasB.bx (HasB.hd) Hc.ctx; MT 3 q q q Hc.chg q (qs_cell u23 q q (bZ.cell (i := 1) q) Hc.chg (Ctx.outB aT (HasB.hd))) q q <| MQ 6 q q q Hc.chg q (fun _ => qt_fieldAddr uf31 fi31_2 nz23 q) q q <| have b0 := HasB.bx (HasB.hd) Hc.ctx; MT 7 q q q Hc.chg q (qs_cell u23 q q (b0.cell (i := 2) q) Hc.chg (Ctx.outB aT (HasB.hd))) q q <| MQ 9 q q q Hc.chg q (fun _ => qt_fieldAddr uf31 fi31_3 nz3 q) q q ?_
  refine have b4 := HasB.bx (HasB.hd) Hc.ctx; MT 10 q q q Hc.chg q (qs_cell u3 q q (b4.cell (i := 3) q) Hc.chg (Ctx.outB aT (HasB.hd))) q q ?_
  repeat' first
   | refine XG ?_; (first
    | refine MDo 1 q ?_; refine zs (t := tI) (args := []) (xs := ([] : List Int)) Hc (BltL.nil) u23 j3 q q q q q q (fun dh _ Hc => ?_); refine MN Hc.chg ?_
    | refine XGi 4 ?_; (first
     | refine MDo 4 q ?_; refine zw Hc (C1.c.c.c.c) au u23 j3 q q q q q q (fun aa _ Hc => ?_); refine MN Hc.chg ?_
     | refine MDo 4 q ?_; have Hc := Hc.p1; refine zw Hc (C1.c.c.c.c.c) au u23 j3 q q q q q q (fun aa _ Hc => ?_); refine MN Hc.chg ?_
     | refine MDo 4 q ?_; have Hc := Hc.p2; refine zw Hc (C1.c.c.c.c.c.c) au u23 j3 q q q q q q (fun aa _ Hc => ?_); refine MN Hc.chg ?_
     | refine MDo 4 q ?_; have Hc := Hc.p3; refine zw Hc (C1.c.c.c.c.c.c.c) au u23 j3 q q q q q q (fun aa _ Hc => ?_); refine MN Hc.chg ?_
     | refine MDo 4 q ?_; refine zw Hc (C1.c.c.c.c.c) au u23 j3 q q q q q q (fun aa _ Hc => ?_); refine MN Hc.chg ?_
     | refine MDo 4 q ?_; have Hc := Hc.p1; refine zw Hc (C1.c.c.c.c.c.c) au u23 j3 q q q q q q (fun aa _ Hc => ?_); refine MN Hc.chg ?_
     | refine MDo 4 q ?_; have Hc := Hc.p2; refine zw Hc (C1.c.c.c.c.c.c.c) au u23 j3 q q q q q q (fun aa _ Hc => ?_); refine MN Hc.chg ?_
     | refine MDo 4 q ?_; refine zw Hc (C1.c.c.c.c.c.c) au u23 j3 q q q q q q (fun aa _ Hc => ?_); refine MN Hc.chg ?_
     | refine MDo 4 q ?_; have Hc := Hc.p1; refine zw Hc (C1.c.c.c.c.c.c.c) au u23 j3 q q q q q q (fun aa _ Hc => ?_); refine MN Hc.chg ?_
     | refine MDo 4 q ?_; refine zw Hc (C1.c.c.c.c.c.c.c) au u23 j3 q q q q q q (fun aa _ Hc => ?_); refine MN Hc.chg ?_)
    | refine MDo 5 q ?_; refine zs (t := tI) (args := []) (xs := ([] : List Int)) Hc (BltL.nil) u23 j3 q q q q q q (fun di _ Hc => ?_); refine MN Hc.chg ?_
    | refine XGi 8 ?_; (first
     | refine MDo 8 q ?_; refine zw Hc (C2.c.c.c.c.c) ax u23 j3 q q q q q q (fun ab _ Hc => ?_); refine MN Hc.chg ?_
     | refine MDo 8 q ?_; have Hc := Hc.p1; refine zw Hc (C2.c.c.c.c.c.c) ax u23 j3 q q q q q q (fun ab _ Hc => ?_); refine MN Hc.chg ?_
     | refine MDo 8 q ?_; have Hc := Hc.p2; refine zw Hc (C2.c.c.c.c.c.c.c) ax u23 j3 q q q q q q (fun ab _ Hc => ?_); refine MN Hc.chg ?_
     | refine MDo 8 q ?_; refine zw Hc (C2.c.c.c.c.c.c) ax u23 j3 q q q q q q (fun ab _ Hc => ?_); refine MN Hc.chg ?_
     | refine MDo 8 q ?_; have Hc := Hc.p1; refine zw Hc (C2.c.c.c.c.c.c.c) ax u23 j3 q q q q q q (fun ab _ Hc => ?_); refine MN Hc.chg ?_
     | refine MDo 8 q ?_; refine zw Hc (C2.c.c.c.c.c.c.c) ax u23 j3 q q q q q q (fun ab _ Hc => ?_); refine MN Hc.chg ?_
     | refine MDo 8 q ?_; have Hc := Hc.p1; refine zw Hc (C2.c.c.c.c.c) ax u23 j3 q q q q q q (fun ab _ Hc => ?_); refine MN Hc.chg ?_
     | refine MDo 8 q ?_; have Hc := Hc.p2; refine zw Hc (C2.c.c.c.c.c.c) ax u23 j3 q q q q q q (fun ab _ Hc => ?_); refine MN Hc.chg ?_
     | refine MDo 8 q ?_; have Hc := Hc.p3; refine zw Hc (C2.c.c.c.c.c.c.c) ax u23 j3 q q q q q q (fun ab _ Hc => ?_); refine MN Hc.chg ?_)
    | refine MDo 11 q ?_; refine zs (t := ty14) (args := []) (xs := ([] : LT)) Hc (BltL.nil) u29 j89 q q q q q q (fun ae _ Hc => ?_); refine MN Hc.chg ?_
    | refine MDo 13 q ?_; refine zq (cs := [nS, nS, nS, iV 0, nS]) Hc z31 q q q (fun a2 _ Hc => ?_); refine MN Hc.chg ?_
    | refine XGi 14 ?_; (first
     | have Hc := am.cN4 [] Hc; refine MDo 14 q ?_; refine zl (cs' := [ad, aa, ab, iV B3, ae]) Hc q il31 q (T (Hc.ctx.sliceOne hS6) (T (Hc.ctx.sliceOne hS3) (T (Hc.ctx.sliceOne hS2) (T q (T (Hc.ctx.sliceOne hS1) q))))) q q q (fun _ Hc => ?_); refine ME q ?_
     | have Hc := am.cN4 [] Hc; refine MDo 14 q ?_; have Hc := Hc.p1; refine zl (cs' := [ad, aa, ab, iV B3, ae]) Hc q il31 q (T (Hc.ctx.sliceOne hS6) (T (Hc.ctx.sliceOne hS3) (T (Hc.ctx.sliceOne hS2) (T q (T (Hc.ctx.sliceOne hS1) q))))) q q q (fun _ Hc => ?_); refine ME q ?_
     | have Hc := am.cN4 [] Hc; refine MDo 14 q ?_; refine zl (cs' := [ad, aa, ab, iV B3, ae]) Hc q il31 q (T (Hc.ctx.sliceOne hS6) (T (Hc.ctx.sliceOne hS3) (T (Hc.ctx.sliceOne hS1) (T q (T (Hc.ctx.sliceOne hS2) q))))) q q q (fun _ Hc => ?_); refine ME q ?_
     | have Hc := am.cN4 [] Hc; refine MDo 14 q ?_; have Hc := Hc.p1; refine zl (cs' := [ad, aa, ab, iV B3, ae]) Hc q il31 q (T (Hc.ctx.sliceOne hS6) (T (Hc.ctx.sliceOne hS3) (T (Hc.ctx.sliceOne hS1) (T q (T (Hc.ctx.sliceOne hS2) q))))) q q q (fun _ Hc => ?_); refine ME q ?_
     | have Hc := am.cN4 [] Hc; refine MDo 14 q ?_; have Hc := Hc.p2; refine zl (cs' := [ad, aa, ab, iV B3, ae]) Hc q il31 q (T (Hc.ctx.sliceOne hS6) (T (Hc.ctx.sliceOne hS3) (T (Hc.ctx.sliceOne hS2) (T q (T (Hc.ctx.sliceOne hS1) q))))) q q q (fun _ Hc => ?_); refine ME q ?_
     | have Hc := am.cN4 [] Hc; refine MDo 14 q ?_; have Hc := Hc.p2; refine zl (cs' := [ad, aa, ab, iV B3, ae]) Hc q il31 q (T (Hc.ctx.sliceOne hS6) (T (Hc.ctx.sliceOne hS3) (T (Hc.ctx.sliceOne hS1) (T q (T (Hc.ctx.sliceOne hS2) q))))) q q q (fun _ Hc => ?_); refine ME q ?_
     | have Hc := am.cN4 [] Hc; refine MDo 14 q ?_; refine zl (cs' := [ad, aa, ab, iV B3, ae]) Hc q il31 q (T (Hc.ctx.sliceOne hS6) (T (Hc.ctx.sliceOne hS2) (T (Hc.ctx.sliceOne hS1) (T q (T (Hc.ctx.sliceOne hS3) q))))) q q q (fun _ Hc => ?_); refine ME q ?_
     | have Hc := am.cN4 [] Hc; refine MDo 14 q ?_; have Hc := Hc.p1; refine zl (cs' := [ad, aa, ab, iV B3, ae]) Hc q il31 q (T (Hc.ctx.sliceOne hS6) (T (Hc.ctx.sliceOne hS2) (T (Hc.ctx.sliceOne hS1) (T q (T (Hc.ctx.sliceOne hS3) q))))) q q q (fun _ Hc => ?_); refine ME q ?_
     | have Hc := am.cN4 [] Hc; refine MDo 14 q ?_; have Hc := Hc.p2; refine zl (cs' := [ad, aa, ab, iV B3, ae]) Hc q il31 q (T (Hc.ctx.sliceOne hS6) (T (Hc.ctx.sliceOne hS2) (T (Hc.ctx.sliceOne hS1) (T q (T (Hc.ctx.sliceOne hS3) q))))) q q q (fun _ Hc => ?_); refine ME q ?_
     | have Hc := am.cN4 [] Hc; refine MDo 14 q ?_; have Hc := Hc.p3; refine zl (cs' := [ad, aa, ab, iV B3, ae]) Hc q il31 q (T (Hc.ctx.sliceOne hS6) (T (Hc.ctx.sliceOne hS3) (T (Hc.ctx.sliceOne hS2) (T q (T (Hc.ctx.sliceOne hS1) q))))) q q q (fun _ Hc => ?_); refine ME q ?_
     | have Hc := am.cN4 [] Hc; refine MDo 14 q ?_; have Hc := Hc.p3; refine zl (cs' := [ad, aa, ab, iV B3, ae]) Hc q il31 q (T (Hc.ctx.sliceOne hS6) (T (Hc.ctx.sliceOne hS3) (T (Hc.ctx.sliceOne hS1) (T q (T (Hc.ctx.sliceOne hS2) q))))) q q q (fun _ Hc => ?_); refine ME q ?_
     | have Hc := am.cN4 [] Hc; refine MDo 14 q ?_; have Hc := Hc.p3; refine zl (cs' := [ad, aa, ab, iV B3, ae]) Hc q il31 q (T (Hc.ctx.sliceOne hS6) (T (Hc.ctx.sliceOne hS2) (T (Hc.ctx.sliceOne hS1) (T q (T (Hc.ctx.sliceOne hS3) q))))) q q q (fun _ Hc => ?_); refine ME q ?_))
   | refine MK 12 q <| MQ 12 q q q Hc.chg q (fun _ => qt_build (args := [(0, .tmp 40), (1, .tmp 44), (2, .tmp 48), (3, .tmp 50), (4, .tmp 51)]) (css := [#[ad], #[aa], #[ab], #[iV B3], #[ae]]) (cells := #[ad, aa, ab, iV B3, ae]) q ⟨(Hc.ctx.sliceCells hS5), (Hc.ctx.sliceCells hS2), (Hc.ctx.sliceCells hS1), q, (Hc.ctx.sliceCells hS0), trivial⟩ (by kernel_rfl)) q q ?_
   | refine MK 12 q <| MQ 12 q q q Hc.chg q (fun _ => qt_build (args := [(0, .tmp 40), (1, .tmp 44), (2, .tmp 48), (3, .tmp 50), (4, .tmp 51)]) (css := [#[ad], #[aa], #[ab], #[iV B3], #[ae]]) (cells := #[ad, aa, ab, iV B3, ae]) q ⟨(Hc.ctx.sliceCells hS6), (Hc.ctx.sliceCells hS3), (Hc.ctx.sliceCells hS2), q, (Hc.ctx.sliceCells hS0), trivial⟩ (by kernel_rfl)) q q ?_
   | refine MK 12 q <| MQ 12 q q q Hc.chg q (fun _ => qt_build (args := [(0, .tmp 40), (1, .tmp 44), (2, .tmp 48), (3, .tmp 50), (4, .tmp 51)]) (css := [#[ad], #[aa], #[ab], #[iV B3], #[ae]]) (cells := #[ad, aa, ab, iV B3, ae]) q ⟨(Hc.ctx.sliceCells hS5), (Hc.ctx.sliceCells hS2), (Hc.ctx.sliceCells hS0), q, (Hc.ctx.sliceCells hS1), trivial⟩ (by kernel_rfl)) q q ?_
   | refine MK 12 q <| MQ 12 q q q Hc.chg q (fun _ => qt_build (args := [(0, .tmp 40), (1, .tmp 44), (2, .tmp 48), (3, .tmp 50), (4, .tmp 51)]) (css := [#[ad], #[aa], #[ab], #[iV B3], #[ae]]) (cells := #[ad, aa, ab, iV B3, ae]) q ⟨(Hc.ctx.sliceCells hS6), (Hc.ctx.sliceCells hS3), (Hc.ctx.sliceCells hS0), q, (Hc.ctx.sliceCells hS2), trivial⟩ (by kernel_rfl)) q q ?_
   | refine MK 12 q <| MQ 12 q q q Hc.chg q (fun _ => qt_build (args := [(0, .tmp 40), (1, .tmp 44), (2, .tmp 48), (3, .tmp 50), (4, .tmp 51)]) (css := [#[ad], #[aa], #[ab], #[iV B3], #[ae]]) (cells := #[ad, aa, ab, iV B3, ae]) q ⟨(Hc.ctx.sliceCells hS6), (Hc.ctx.sliceCells hS3), (Hc.ctx.sliceCells hS1), q, (Hc.ctx.sliceCells hS0), trivial⟩ (by kernel_rfl)) q q ?_
   | refine MK 12 q <| MQ 12 q q q Hc.chg q (fun _ => qt_build (args := [(0, .tmp 40), (1, .tmp 44), (2, .tmp 48), (3, .tmp 50), (4, .tmp 51)]) (css := [#[ad], #[aa], #[ab], #[iV B3], #[ae]]) (cells := #[ad, aa, ab, iV B3, ae]) q ⟨(Hc.ctx.sliceCells hS6), (Hc.ctx.sliceCells hS3), (Hc.ctx.sliceCells hS0), q, (Hc.ctx.sliceCells hS1), trivial⟩ (by kernel_rfl)) q q ?_
   | refine MK 12 q <| MQ 12 q q q Hc.chg q (fun _ => qt_build (args := [(0, .tmp 40), (1, .tmp 44), (2, .tmp 48), (3, .tmp 50), (4, .tmp 51)]) (css := [#[ad], #[aa], #[ab], #[iV B3], #[ae]]) (cells := #[ad, aa, ab, iV B3, ae]) q ⟨(Hc.ctx.sliceCells hS5), (Hc.ctx.sliceCells hS1), (Hc.ctx.sliceCells hS0), q, (Hc.ctx.sliceCells hS2), trivial⟩ (by kernel_rfl)) q q ?_
   | refine MK 12 q <| MQ 12 q q q Hc.chg q (fun _ => qt_build (args := [(0, .tmp 40), (1, .tmp 44), (2, .tmp 48), (3, .tmp 50), (4, .tmp 51)]) (css := [#[ad], #[aa], #[ab], #[iV B3], #[ae]]) (cells := #[ad, aa, ab, iV B3, ae]) q ⟨(Hc.ctx.sliceCells hS6), (Hc.ctx.sliceCells hS2), (Hc.ctx.sliceCells hS0), q, (Hc.ctx.sliceCells hS3), trivial⟩ (by kernel_rfl)) q q ?_
   | refine MK 12 q <| MQ 12 q q q Hc.chg q (fun _ => qt_build (args := [(0, .tmp 40), (1, .tmp 44), (2, .tmp 48), (3, .tmp 50), (4, .tmp 51)]) (css := [#[ad], #[aa], #[ab], #[iV B3], #[ae]]) (cells := #[ad, aa, ab, iV B3, ae]) q ⟨(Hc.ctx.sliceCells hS6), (Hc.ctx.sliceCells hS1), (Hc.ctx.sliceCells hS0), q, (Hc.ctx.sliceCells hS3), trivial⟩ (by kernel_rfl)) q q ?_
   | refine MK 12 q <| MQ 12 q q q Hc.chg q (fun _ => qt_build (args := [(0, .tmp 40), (1, .tmp 44), (2, .tmp 48), (3, .tmp 50), (4, .tmp 51)]) (css := [#[ad], #[aa], #[ab], #[iV B3], #[ae]]) (cells := #[ad, aa, ab, iV B3, ae]) q ⟨(Hc.ctx.sliceCells hS6), (Hc.ctx.sliceCells hS2), (Hc.ctx.sliceCells hS1), q, (Hc.ctx.sliceCells hS0), trivial⟩ (by kernel_rfl)) q q ?_
   | refine MK 12 q <| MQ 12 q q q Hc.chg q (fun _ => qt_build (args := [(0, .tmp 40), (1, .tmp 44), (2, .tmp 48), (3, .tmp 50), (4, .tmp 51)]) (css := [#[ad], #[aa], #[ab], #[iV B3], #[ae]]) (cells := #[ad, aa, ab, iV B3, ae]) q ⟨(Hc.ctx.sliceCells hS6), (Hc.ctx.sliceCells hS2), (Hc.ctx.sliceCells hS0), q, (Hc.ctx.sliceCells hS1), trivial⟩ (by kernel_rfl)) q q ?_
   | refine MK 12 q <| MQ 12 q q q Hc.chg q (fun _ => qt_build (args := [(0, .tmp 40), (1, .tmp 44), (2, .tmp 48), (3, .tmp 50), (4, .tmp 51)]) (css := [#[ad], #[aa], #[ab], #[iV B3], #[ae]]) (cells := #[ad, aa, ab, iV B3, ae]) q ⟨(Hc.ctx.sliceCells hS6), (Hc.ctx.sliceCells hS1), (Hc.ctx.sliceCells hS0), q, (Hc.ctx.sliceCells hS2), trivial⟩ (by kernel_rfl)) q q ?_
   | refine MW q ?_ ?_
   | refine Ma q ?_ ?_
   | exact Me q
   | refine MZ q (fun a ha => ?_); have Hc := (((((((Hc.p1).p2).p3).p6).p4).p6).p6); exact ⟨a2, ad, aa, ab, ae, ha.s, Hc⟩
   | refine MZ q (fun a ha => ?_); have Hc := (((((((Hc.p2).p2).p3).p6).p4).p6).p6); exact ⟨a2, ad, aa, ab, ae, ha.s, Hc⟩
   | refine MZ q (fun a ha => ?_); have Hc := (((((((Hc.p3).p2).p3).p6).p4).p6).p6); exact ⟨a2, ad, aa, ab, ae, ha.s, Hc⟩
 rintro a dj ⟨aq, ag, ah, aj, aS, ha, b6⟩
 refine S1 ha <| C <| rR <| qa q <| B <| g <| O h fun dk b7 h => ?_
 refine fun dl b9 => zp (I := fun (a3, aE) a w2 => ∃ ar, Fr a 82 [(1, pB b1), (2, pB b5), (5, pB aq), (6, iV a3)] ∧ Holds M0 w w2 [.bx b1 31 [A0, A1, A2, iV B3, A4], .bx b5 31 [nS, nS, nS, iV 0, nS], .bx aq 31 [ag, ah, aj, iV B3, ar], .sl 95 ty12 ag av, .sl 3 tI ah aC, .sl 3 tI aj aD, .sl 89 ty14 ar aE] G) (O := fun q0 e a w2 => e = .exit 2 ∧ ∃ aI, Fr a 82 [(2, pB b5), (5, pB aq)] ∧ Holds M0 w w2 [.bx b5 31 [nS, nS, nS, iV 0, nS], .bx aq 31 [ag, ah, aj, iV B3, aI], .sl 95 ty12 ag av, .sl 3 tI ah aC, .sl 3 tI aj aD, .sl 89 ty14 aI q0] G) b7 ?_ ?_ ?_
 ·exact ⟨aS, b9.s, b6.p6.p6.p6.p6.p6.p6.p6⟩
 ·rintro ⟨a3, aE⟩ _ a ca ao ⟨ar, ha, aF⟩
  refine S1 ha <| C <| rR <| qm q <| qf uf31 fi31_4 nz29 q <| ql u29 aF.p0 q <| qz aF.ctx (C4.c.c.c.c.c.c.c) u29 q <| qi (qt_lss q q) q <| B ?_
  refine Yh q ao (fun ao => ?_) (fun ao => ?_)
  ·refine y <| C <| g <| rR <| qf uf31 fi31_4 nz29 q <| ql u29 aF.p0 q <| qm q <| O ao fun ak bd ao => qb aF.ctx (C4.c.c.c.c.c.c.c) bd u29 i89 q fun dm dn dq cb => ?_
   obtain ⟨dr, cc, cd⟩ := aF.atN (C4.c.c.c.c.c.c.c) bd cb
   refine XL_load_agg (t := ty14) us89 uo89 i89 cc q q q fun ds ce => ?_
   obtain ⟨dt, du, dv, dw, rfl, be, cf, cg⟩ := ce
   obtain ⟨rfl, _⟩ := cf
   obtain ⟨dx, dy, dz, dA, rfl, bf, ch, ci⟩ := cg
   obtain ⟨ay, rfl, cj⟩ := Rep.sl_inv ch
   obtain ⟨az, rfl, ck⟩ := Rep.sl_inv ci
   have cl : Holds _ w ca [.ro ty2 ay ak.2.1, .ro tI az ak.2.2, .bx b1 31 [A0, A1, A2, iV B3, A4], .bx b5 31 [nS, nS, nS, iV 0, nS], .bx aq 31 [ag, ah, aj, iV B3, ar], .sl 95 ty12 ag av, .sl 3 tI ah aC, .sl 3 tI aj aD, .sl 89 ty14 ar aE] G := cd [.ro ty2 ay ak.2.1, .ro tI az ak.2.2] ⟨⟨_, _, _, _, q, cj, (fun k h => (fun k h => (fun _ h => h) k (by rw [be]; exact zx _ h)) k (by rw [bf]; exact List.mem_append_left _ h))⟩, ⟨_, _, _, _, q, ck, (fun k h => (fun k h => (fun _ h => h) k (by rw [be]; exact zx _ h)) k (by rw [bf]; exact zx _ h))⟩, trivial⟩
   change XL _ _ _ _ _ ((64, .agg #[iV ak.1, ay, az]) :: _) _
   refine zq (cs := [iV 0, nS, nS]) cl z89 q q q fun bg dB a4 => zl (cs' := [iV ak.1, ay, az]) a4 q il89 q (T q (T (a4.ctx.sliceOne hR1) (T (a4.ctx.sliceOne hR2) q))) q q q fun dC cm => B <| O ao fun cn a5 ao => O ao fun co bh ao => O ao fun cp cq ao => ?_
   refine WP_mid (Mid := fun a w2 => ∃ aU, Fr a 82 [(1, pB b1), (2, pB b5), (5, pB aq), (6, iV a3)] ∧ Holds M0 w w2 [.bx b1 31 [A0, A1, A2, iV B3, A4], .bx b5 31 [nS, nS, nS, iV 0, nS], .bx aq 31 [ag, ah, aj, iV B3, aU], .sl 95 ty12 ag av, .sl 3 tI ah aC, .sl 3 tI aj aD, .sl 89 ty14 aU cp] G) ?_ ?_
   ·refine WP_ordersT (fun w1 w2 => Chg (([.sl 89 ty14 ar aE] : List Res).flatMap Res.own) w1 w2) 15 (by kernel_rfl) fun a6 cr => have ct := cm.grow cr; have bi := ct.p9; ?_
    have aK : Ctx a6 ([.sl 89 ty14 ar aE] ++ ([.bx bg 89 [iV ak.1, ay, az], .ro ty2 ay ak.2.1, .ro tI az ak.2.2, .bx b1 31 [A0, A1, A2, iV B3, A4], .bx b5 31 [nS, nS, nS, iV 0, nS], .bx aq 31 [ag, ah, aj, iV B3, ar], .sl 95 ty12 ag av, .sl 3 tI ah aC, .sl 3 tI aj aD] ++ G)) := bi.ctx
    have cu : Holds _ a6 a6 [.sl 89 ty14 ar aE] ([.bx bg 89 [iV ak.1, ay, az], .ro ty2 ay ak.2.1, .ro tI az ak.2.2, .bx b1 31 [A0, A1, A2, iV B3, A4], .bx b5 31 [nS, nS, nS, iV 0, nS], .bx aq 31 [ag, ah, aj, iV B3, ar], .sl 95 ty12 ag av, .sl 3 tI ah aC, .sl 3 tI aj aD] ++ G) := zb (Rs := [.sl 89 ty14 ar aE]) aK
    refine have Hc := cu; XQ (i := 0) q (by kernel_rfl) q Hc.chg q (fun _ => qt_fieldAddr uf31 fi31_4 nz29 q) q q <| have cv := HasB.bx (HasB.c (HasB.c (HasB.c (HasB.c (HasB.c (HasB.c (HasB.hd))))))) Hc.ctx; XT (i := 1) q (by kernel_rfl) q Hc.chg q (qs_cell u29 q q (cv.cell (i := 4) q) Hc.chg (Ctx.outB aK (HasB.c (HasB.c (HasB.c (HasB.c (HasB.c (HasB.hd)))))))) q q <| XQ (i := 2) q (by kernel_rfl) q Hc.chg q (fun _ => qt_fieldAddr uf89 fi89_0 nz3 q) q q <| have cw := HasB.bx (HasB.c (HasB.hd)) Hc.ctx; XT (i := 3) q (by kernel_rfl) q Hc.chg q (qs_cell u3 q q (cw.cell (i := 0) q) Hc.chg (Ctx.outB aK (HasB.hd))) q q <| XQ (i := 5) q (by kernel_rfl) q Hc.chg q (fun _ => qt_fieldAddr uf89 fi89_1 nz87 q) q q <| have cx := HasB.bx (HasB.c (HasB.hd)) Hc.ctx; XT (i := 6) q (by kernel_rfl) q Hc.chg q (qs_cell u87 q q (cx.cell (i := 1) q) Hc.chg (Ctx.outB aK (HasB.hd))) q q <| XQ (i := 9) q (by kernel_rfl) q Hc.chg q (fun _ => qt_fieldAddr uf89 fi89_2 nz23 q) q q ?_
    refine have cy := HasB.bx (HasB.c (HasB.hd)) Hc.ctx; XT (i := 10) q (by kernel_rfl) q Hc.chg q (qs_cell u23 q q (cy.cell (i := 2) q) Hc.chg (Ctx.outB aK (HasB.hd))) q q ?_
    repeat' first
     | refine XDo 4 q ?_; refine zs (t := ty2) (args := []) (xs := ([] : LP)) Hc (BltL.nil) u87 j103 q q q q q q (fun dD _ Hc => ?_); refine XN Hc.chg ?_
     | refine XDo 7 q ?_; refine zw Hc hR3 a5 u87 j103 q q q q q q (fun aG _ Hc => ?_); refine XN Hc.chg ?_
     | refine XDo 7 q ?_; have Hc := Hc.p1; refine zw Hc hR4 a5 u87 j103 q q q q q q (fun aG _ Hc => ?_); refine XN Hc.chg ?_
     | refine XDo 7 q ?_; refine zw Hc hR4 a5 u87 j103 q q q q q q (fun aG _ Hc => ?_); refine XN Hc.chg ?_
     | refine XDo 8 q ?_; refine zs (t := tI) (args := []) (xs := ([] : List Int)) Hc (BltL.nil) u23 j3 q q q q q q (fun dE _ Hc => ?_); refine XN Hc.chg ?_
     | refine XDo 11 q ?_; refine zw Hc hR5 bh u23 j3 q q q q q q (fun aL _ Hc => ?_); refine XN Hc.chg <| XQ (i := 12) q (by kernel_rfl) q Hc.chg q (fun _ => qt_build (args := [(0, .tmp 68), (1, .tmp 72), (2, .tmp 76)]) (css := [#[iV ak.1], #[aG], #[aL]]) (cells := #[iV ak.1, aG, aL]) q ⟨q, (Hc.ctx.sliceCells hS1), (Hc.ctx.sliceCells hS0), trivial⟩ (by kernel_rfl)) q q ?_
     | refine XDo 11 q ?_; have Hc := Hc.p1; refine zw Hc hR5 bh u23 j3 q q q q q q (fun aL _ Hc => ?_); refine XN Hc.chg <| XQ (i := 12) q (by kernel_rfl) q Hc.chg q (fun _ => qt_build (args := [(0, .tmp 68), (1, .tmp 72), (2, .tmp 76)]) (css := [#[iV ak.1], #[aG], #[aL]]) (cells := #[iV ak.1, aG, aL]) q ⟨q, (Hc.ctx.sliceCells hS1), (Hc.ctx.sliceCells hS0), trivial⟩ (by kernel_rfl)) q q ?_
     | refine XDo 13 q ?_; have Hc := Hc.p1; have Hc := Hc.freeze; have Hc := Hc.p1; have Hc := Hc.freeze; refine zs (t := ty14) (args := [.tmp 77]) (xs := ([(ak.1, cn, co)] : LT)) Hc (BltL.cons (Blt.pair (Blt.int) (Blt.pair (Blt.slice hO1) (Blt.slice hO0))) q (BltL.nil)) u29 j89 q q q q q q (fun dF _ Hc => ?_); refine XN Hc.chg ?_
     | refine XDo 14 q ?_; have Hc := Hc.p3; refine zw Hc hS1 cq u29 j89 q q q q q q (fun cz _ Hc => ?_); refine XN Hc.chg ?_
     | have Hc := bi.cN4 [_] Hc; refine XDo 15 q <| qf uf31 fi31_4 nz29 q <| XE q ?_
     | refine XDo 16 q ?_; have Hc := Hc.p9; refine WL_store_bx Hc q il29 (Hc.ctx.sliceCells hS1) (Hc.ctx.sliceOne hS1) q q q (fun _ Hc => ?_); refine XE q ?_
     | refine XV [4, 8] (by decide +kernel) q (allc ?_ (allc ?_ alln))
     | refine XV [7, 8] (by decide +kernel) q (allc ?_ (allc ?_ alln))
     | refine XV [8] (by decide +kernel) q (allc ?_ alln)
     | refine XV [11] (by decide +kernel) q (allc ?_ alln)
     | refine XV [13] (by decide +kernel) q (allc ?_ alln)
     | refine XV [14] (by decide +kernel) q (allc ?_ alln)
     | refine XV [15] (by decide +kernel) q (allc ?_ alln)
     | refine XV [16] (by decide +kernel) q (allc ?_ alln)
     | refine XV [7] (by decide +kernel) q (allc ?_ alln)
     | refine XV [4] (by decide +kernel) q (allc ?_ alln)
     | refine XC_done (by decide +kernel) (fun a ha => ?_); have Hc := (((((((((((((Hc.q2).q2).q2).q2).q2).q2).p1).p6).p6).p6).p4).p6).p6); exact ⟨cz, ha.s, Hc⟩
   rintro a dG ⟨aU, ha, cA⟩
   cases ao
   exact zi <| X <| S1 ha <| Z <| qm q <| qi (qt_add q q) q <| qa q <| WL_nil fun a ha => ⟨q, aU, ha.s, cA.p6.p6.p6.p6.p6.p6.p6⟩
  cases ao
  exact WP_exit fun a ha => zo (⟨exit_ne, q, ar, ha.s, aF.q0.p5.p5.p5.p5.p5.p5⟩)
 rintro _ a dH ⟨rfl, a7, ha, aH⟩
 cases h
 exact zn <| X <| S1 ha <| rR <| eA aH.p1 us31 uo31 il31 q <| zl (cs' := [ag, ah, aj, iV B3, a7]) aH q il31 q (T (aH.ctx.sliceOne hS2) (T (aH.ctx.sliceOne hS3) (T (aH.ctx.sliceOne hS4) (T q (T (aH.ctx.sliceOne hS5) q))))) q q q fun dI bj => B <| W fun a ha => have cD := R bj.p0; retc q ha q (run_loadVar_bx (cs := [ag, ah, aj, iV B3, a7]) us31 uo31 il31 cD) ⟨ag, ah, aj, a7, q, bj.q0.q0.p3.p3.p3.p3⟩
theorem w_spec_l1Cut {w G p0 p1 r} (h : spec_l1CutS p0 p1 = some r) (H : Ctx w G) : Calls Tryz.prog 24 #[strV p0, .int .u8 p1] w fun e w' => ∃ (v1 : Value), e = .returned (v1) ∧ Holds M0 w w' [.sl 9 .str v1 r] G := by
 refine F0 35 H Tryz.func24 q fun H => ?_
 refine rR <| qa q <| B <| C <| Z <| zs (t := .str) (args := []) (xs := ([] : List (List UInt8))) H (BltL.nil) u38 j9 q q q q q q fun v1 w2 H3 => qa q <| rN <| qa q <| B <| C <| rR <| qa q <| B <| g <| O h fun o8 af h => ?_
 refine fun aD ag => zp (I := fun (s5, s6, s7) a w2 => ∃ ab, Fr a 35 [(0, strV p0), (1, .int .u8 p1), (5, ab), (6, iV s6), (7, iV s7)] ∧ Holds M0 w w2 [.sl 9 .str ab s5] G) (O := fun (q0, q1) e a w2 => e = .exit 0 ∧ ∃ ae, Fr a 35 [(0, strV p0), (5, ae), (6, iV q1)] ∧ Holds M0 w w2 [.sl 9 .str ae q0] G) af ?_ ?_ ?_
 ·exact ⟨v1, ag.s, H3⟩
 ·rintro ⟨s5, s6, s7⟩ _ a aE aa ⟨ab, ha, ad⟩
  refine S1 ha <| C <| rR <| qm q <| qm q <| qi (qt_slen u9 q) q <| qi (qt_lss q q) q <| B ?_
  refine Yh q aa (fun aa => ?_) (fun aa => ?_)
  ·refine y <| C <| g <| rR <| qm q <| qm q <| O aa fun aF ah aa => qi (qt_sidx u9 q q ah) q <| qm q <| qi (qt_eql q q) q <| B ?_
   refine Yh q aa (fun aa => ?_) (fun aa => ?_)
   ·refine rR <| qm q <| qm q <| qm q <| qm q <| O aa fun aj ak aa => qi (qt_ssub u9 ⟨_, q⟩ ⟨_, q⟩ q ak) q <| zs (t := .str) (args := [.tmp 24]) (xs := ([aj] : List (List UInt8))) ad (BltL.cons (Blt.str) q (BltL.nil)) u38 j9 q q q q q q fun aG aH al => O aa fun aI ao aa => zw al.p1 hS1 ao u38 j9 q q q q q q fun ap aJ aq => qa q <| B <| Z <| qm q <| qi (qt_add q q) q <| qa q <| WL_nil fun a ha => zi <| X <| S1 ha <| Z <| qm q <| qi (qt_add q q) q <| qa q <| WL_nil fun a ha => ?_
    cases aa
    exact ⟨q, ap, ha.s, aq.q1⟩
   cases aa
   exact WP_skip fun a ha => zi <| X <| S1 ha <| Z <| qm q <| qi (qt_add q q) q <| qa q <| WL_nil fun a ha => ⟨q, ab, ha.s, ad⟩
  cases aa
  exact WP_exit fun a ha => zo (⟨exit_ne, q, ab, ha.s, ad⟩)
 obtain ⟨aK, aL⟩ := o8
 rintro _ a aM ⟨rfl, aN, ha, au⟩
 refine zn <| X <| S1 ha <| rR <| qm q <| qm q <| qm q <| O h fun av aw h => qi (qt_ssub u9 ⟨_, q⟩ q q aw) q <| zs (t := .str) (args := [.tmp 32]) (xs := ([av] : List (List UInt8))) au (BltL.cons (Blt.str) q (BltL.nil)) u38 j9 q q q q q q fun aO aP ax => O h fun aQ az h => zw ax.p1 hS1 az u38 j9 q q q q q q fun aA aR aB => qa q <| B <| W fun a ha => ?_
 obtain rfl := L h
 exact ret1 q ha q ⟨aA, q, aB.q1⟩
theorem w_spec_l7Name {w G p0 r} (h : spec_l7NameS p0 = some r) (H : Ctx w G) : Calls Tryz.prog 63 #[iV p0] w fun e w' => e = .returned (strV r) ∧ Holds M0 w w' [] G := by
 refine F0 10 H Tryz.func63 q fun H => ?_
 refine rR <| qa q <| B <| C <| C <| zk <| qm q <| O h fun x1 ab h => qc q c60 H (fun _ => w_spec_l1In ab) <| qi (qt_not q) q <| Qn H fun a ha w3 H5 => X <| S1 ha ?_
 refine Yh q h (fun h => ?_) (fun h => ?_)
 ·cases h
  exact rR <| qa q <| B <| W fun a ha => m (ret1 q ha q ⟨q, H5⟩)
 refine y <| C <| Z <| zs (t := .str) (args := [.const (strV [98, 117, 121]), .const (strV [109, 97, 107, 101]), .const (strV [111, 112, 101, 110]), .const (strV [111, 114, 100, 101, 114]), .const (strV [119, 111, 114, 107]), .const (strV [99, 108, 111, 115, 101])]) (xs := ([([98, 117, 121] : List UInt8), ([109, 97, 107, 101] : List UInt8), ([111, 112, 101, 110] : List UInt8), ([111, 114, 100, 101, 114] : List UInt8), ([119, 111, 114, 107] : List UInt8), ([99, 108, 111, 115, 101] : List UInt8)] : List (List UInt8))) H5 (BltL.cons (Blt.str) q (BltL.cons (Blt.str) q (BltL.cons (Blt.str) q (BltL.cons (Blt.str) q (BltL.cons (Blt.str) q (BltL.cons (Blt.str) q (BltL.nil))))))) u38 j9 q q q q q q fun v7 w8 H9 => qm q <| O h fun af aa h => qe H9 hS0 aa u38 i9 q fun _ _ ad => eS u9 ad q <| qa q <| B <| W fun a ha => ?_
 obtain rfl := L h
 exact ret1 q ha q ⟨q, H9.q0⟩
theorem w_spec_l1Read {w G p0 r} (h : spec_l1ReadS p0 = some r) (H : Ctx w G) : Calls Tryz.prog 26 #[strV p0] w fun e w' => e = .returned (iV r) ∧ Holds M0 w w' [] G := by
 refine F0 44 H Tryz.func26 q fun H => ?_
 refine rR <| qa q <| B <| C <| C <| zk <| qm q <| qi (qt_slen u9 q) q <| O h fun x1 aq h => qc q c60 H (fun _ => w_spec_l1In aq) <| qi (qt_not q) q <| qm q <| O h fun b3 ab h => ?_
 refine Go (res := b3) 8 (if_t · ab) (fun ad K6 ar => ?_) ?_
 ·refine have ab := if_f ad ab; jm ad q <| ji (qt_slen u9 q) ad q <| ji (qt_gtr q q) ad q <| jm ad q <| O ab fun b8 ae ab => ?_
  refine Ga (res := b8) (hw := (J q ad)) 3 (if_f · ae) (fun ah aF au => ?_) ?_
  ·exact have ae := if_t ah ae; jm ah q <| O ae fun aG av ae => ji (qt_sidx u9 q q av) ah q <| ji (qt_eql q q) ah q <| au 3 q q q ae
  exact ar 5 q q q ab
 refine Qn H fun a ha aH al => X <| S1 ha ?_
 refine Yh q h (fun h => ?_) (fun h => ?_)
 ·cases h
  exact rR <| qa q <| B <| W fun a ha => m (ret1 q ha q ⟨q, al⟩)
 refine y <| rR <| qa q <| B <| C <| rR <| qa q <| B <| g <| O h fun aj aw h => ?_
 refine fun aI ax => zp (I := fun (am, ao) a w2 => (Fr a 44 [(0, strV p0), (3, iV am), (4, iV ao)] ∧ Holds M0 w w2 [] G)) (O := fun o e a w2 => match o with | .inl q0 => e = .exit 0 ∧ (Fr a 44 [(3, iV q0)] ∧ Holds M0 w w2 [] G) | .inr q0 => e = .ret ∧ (Fr a 44 [(2, iV q0)] ∧ Holds M0 w w2 [] G)) aw ?_ ?_ ?_
 ·exact ⟨ax.s, al⟩
 ·rintro ⟨am, ao⟩ _ a aJ aa ⟨ha, ak⟩
  refine S1 ha <| C <| rR <| qm q <| qm q <| qi (qt_slen u9 q) q <| qi (qt_lss q q) q <| B ?_
  refine Yh q aa (fun aa => ?_) (fun aa => ?_)
  ·refine y <| C <| g <| C <| rR <| qm q <| qm q <| O aa fun aK ay aa => qi (qt_sidx u9 q q ay) q <| qi (qt_lss q q) q <| qm q <| O aa fun az af aa => ?_
   refine Ho (res := az) 4 (if_t · af) (fun ag aL aA => ?_) ?_
   ·exact have af := if_f ag af; jm ag q <| jm ag q <| O af fun aM aB af => ji (qt_sidx u9 q q aB) ag q <| ji (qt_gtr q q) ag q <| aA 4 q q q af
   refine B ?_
   refine Yh q aa (fun aa => ?_) (fun aa => ?_)
   ·cases aa
    exact rR <| qa q <| B <| W fun a ha => m (zj (m (⟨ret_ne, q, ha.s, ak⟩)))
   refine y <| Z <| qm q <| qi (qt_mul q q) q <| qm q <| qm q <| O aa fun aN aC aa => qi (qt_sidx u9 q q aC) q <| qi (qt_sub q q) q <| qi (qt_int u3 q u5) q <| qi (qt_add q q) q <| qa q <| WL_nil fun a ha => zi <| X <| S1 ha <| Z <| qm q <| qi (qt_add q q) q <| qa q <| WL_nil fun a ha => ?_
   cases aa
   exact ⟨q, ha.s, ak⟩
  cases aa
  exact WP_exit fun a ha => zo (⟨exit_ne, q, ha.s, ak⟩)
 intro e a aO ap
 rcases aj with aj | aj
 ·obtain ⟨rfl, ha, aD⟩ := ap
  refine zn <| X <| S1 ha <| rR <| qm q <| qa q <| B <| W fun a ha => ?_
  obtain rfl := L h
  exact ret1 q ha q ⟨q, aD⟩
 obtain ⟨rfl, ha, aE⟩ := ap
 obtain rfl := L h
 exact zj (m (ret1 q ha q ⟨q, aE⟩))
theorem w_spec_l7Many {w G p0 r} (h : spec_l7ManyS p0 = some r) (H : Ctx w G) : Calls Tryz.prog 106 #[iV p0] w fun e w' => e = .returned (iV r) ∧ Holds M0 w w' [] G := by
 refine F0 7 H Tryz.func106 q fun H => ?_
 refine rR <| qa q <| B <| C <| Z <| zs (t := tI) (args := [.const (iV 2), .const (iV 2), .const (iV 1), .const (iV 3), .const (iV 0), .const (iV 1)]) (xs := ([2, 2, 1, 3, 0, 1] : List Int)) H (BltL.cons (Blt.int) q (BltL.cons (Blt.int) q (BltL.cons (Blt.int) q (BltL.cons (Blt.int) q (BltL.cons (Blt.int) q (BltL.cons (Blt.int) q (BltL.nil))))))) u23 j3 q q q q q q fun v1 w2 H3 => qm q <| O h fun x5 aa h => qe H3 hS0 aa u23 i3 q fun _ _ ab => eI u3 ab q <| qa q <| B <| W fun a ha => ?_
 obtain rfl := L h
 exact ret1 q ha q ⟨q, H3.q0⟩
theorem w_spec_l1NumberF (fuel : Nat) (w : World) (G : List Res) (p0 : Int) (r : (List UInt8)) (h : spec_l1NumberF fuel p0 = some r) (H : Ctx w G) : Calls Tryz.prog 31 #[iV p0] w fun e w' => e = .returned (strV r) ∧ Holds M0 w w' [] G := by
 induction fuel generalizing w G p0 r with
 | zero => rw [spec_l1NumberF] at h; cases h
 | succ fuel ih =>
  have H : Holds M0 w w [] G := zb H
  refine zg (args := [iV p0]) (n := 34) Tryz.func31 q q q ?_
  rw [spec_l1NumberF] at h
  refine rR <| qa q <| B <| C <| rR <| qm q <| qi (qt_lss q q) q <| qm q ?_
  refine Ha (res := ((decide (p0 < 0)) && (p0 == (IntKind.wrap .i64 (-p0))))) 4 an (fun aa K2 af => ?_) ?_
  ·exact jm aa q <| jm aa q <| ji (qt_neg q) aa q <| ji (qt_eql q q) aa q <| af 4 q q q (ai aa)
  refine B ?_
  refine Yh q h (fun h => ?_) (fun h => ?_)
  ·cases h
   exact rR <| qa q <| B <| W fun a ha => m (ret1 q ha q ⟨q, H⟩)
  refine y <| C <| rR <| qm q <| qi (qt_lss q q) q <| B ?_
  refine Yh q h (fun h => ?_) (fun h => ?_)
  ·refine C <| zk <| qm q <| qi (qt_neg q) q <| O h fun x4 ag h => QC q q c31 (fun w' hb => ih w' G (IntKind.wrap .i64 (-p0)) x4 ag (H.grow hb).ctx) (by rfl) <| O h fun x6 ah h => qi (qt_sadd q q ah) q <| qa q <| Qn H fun a ha w8 aj => X <| S1 ha <| W fun a ha => ?_
   obtain rfl := L h
   exact m (ret1 q ha q ⟨q, aj⟩)
  refine y <| C <| rR <| qm q <| qi (qt_lss q q) q <| B ?_
  refine Yh q h (fun h => ?_) (fun h => ?_)
  ·cases h
   exact rR <| qm q <| qi (qt_add q q) q <| qi (qt_int u5 q u3) q <| zs (t := (.int .u8)) (args := [.tmp 21]) (xs := ([IntKind.wrap .u8 (IntKind.wrap .i64 (48 + p0))] : List Int)) H (BltL.cons (Blt.int) q (BltL.nil)) u100 j5 q q q q q q fun aw ax ad => XL_bytesH ad.ctx hS0 u100 u5 u9 q q q <| qa q <| B <| W fun a ha => m (ret1 q ha q ⟨q, ad.q0⟩)
  refine y <| C <| O h fun al am h => O h fun ao ap h => ?_
  refine WP_join (M := fun a w2 => (Fr a 34 [(2, strV ao)] ∧ Holds M0 w w2 [] G)) ?_ ?_
  ·refine WP_ordersT (fun w1 w2 => Chg M0 w1 w2) 10 (by kernel_rfl) fun ab aq => have ae := H.grow aq; ?_
   have ar : Ctx ab ([] ++ G) := ae.ctx
   have au : Holds _ ab ab [] G := zb (Rs := []) ar
   refine have Hc := au; XQ (i := 0) q (by kernel_rfl) q Hc.chg q (fun _ => qt_move q) q q <| XQ (i := 1) q (by kernel_rfl) q Hc.chg q (fun _ => qt_quo q q (by decide)) q q <| XQ (i := 3) q (by kernel_rfl) q Hc.chg q (fun _ => qt_move q) q q <| XQ (i := 4) q (by kernel_rfl) q Hc.chg q (fun _ => qt_rem q q (by decide)) q q <| XQ (i := 5) q (by kernel_rfl) q Hc.chg q (fun _ => qt_add q q) q q <| XQ (i := 6) q (by kernel_rfl) q Hc.chg q (fun _ => qt_int u5 q u3) q q ?_
   repeat' first
    | refine XDo 2 q <| zd q q c31 (ih _ _ (IntKind.wrap .i64 (Int.tdiv p0 10)) al am Hc.ctx) (by rfl) ?_; rintro _ _ ⟨rfl, HK⟩; refine ⟨_, q, ?_⟩; have Hc := Hc.cN0 [] HK; refine XN Hc.chg ?_
    | refine XDo 7 q ?_; refine zs (t := (.int .u8)) (args := [.tmp 30]) (xs := ([IntKind.wrap .u8 (IntKind.wrap .i64 (48 + (Int.tmod p0 10)))] : List Int)) Hc (BltL.cons (Blt.int) q (BltL.nil)) u100 j5 q q q q q q (fun ay _ Hc => ?_); refine XN Hc.chg ?_
    | refine XDo 8 q <| XL_bytesH Hc.ctx hS0 u100 u5 u9 q q q <| XN Hc.chg ?_
    | have Hc := ae.cN1 [] Hc; refine XDo 10 q <| qa q <| XE q ?_
    | refine XK 9 (by decide +kernel) <| XQ (i := 9) q (by kernel_rfl) q Hc.chg q (fun _ => qt_sadd q q ap) q q ?_
    | refine XV [2, 7] (by decide +kernel) q (allc ?_ (allc ?_ alln))
    | refine XV [7] (by decide +kernel) q (allc ?_ alln)
    | refine XV [8] (by decide +kernel) q (allc ?_ alln)
    | refine XV [10] (by decide +kernel) q (allc ?_ alln)
    | refine XV [2, 8] (by decide +kernel) q (allc ?_ (allc ?_ alln))
    | refine XV [2] (by decide +kernel) q (allc ?_ alln)
    | refine XC_done (by decide +kernel) (fun a ha => ?_); have Hc := (Hc.q0); exact ⟨ha.s, Hc⟩
  rintro a az ⟨ha, av⟩
  refine S1 ha <| W fun a ha => ?_
  obtain rfl := L h
  exact ret1 q ha q ⟨q, av⟩
theorem w_spec_l1Number (w : World) (G : List Res) (p0 : Int) (r : (List UInt8)) (h : spec_l1NumberS p0 = some r) (H : Ctx w G) : Calls Tryz.prog 31 #[iV p0] w fun e w' => e = .returned (strV r) ∧ Holds M0 w w' [] G :=
 w_spec_l1NumberF 200 w G p0 r h H
theorem w_spec_DeedText {w G B0 B1 B2 B3 r} (h : spec_DeedTextS B0 B1 B2 B3 = some r) (H : Ctx w G) : Calls Tryz.prog 64 #[.agg #[iV B0, iV B1, iV B2, iV B3]] w fun e w' => e = .returned (strV r) ∧ Holds M0 w w' [] G := by
 refine F0 60 H Tryz.func64 q fun H => ?_
 refine C <| Z <| WL_box (cs := [iV B0, iV B1, iV B2, iV B3]) H q q q q fun b1 w2 H3 => qa q <| B <| C <| C <| zk <| qf uf50 fi50_0 nz3 q <| ql u3 H3.p0 q <| O h fun x6 ax h => qc q c63 H3 (fun _ => w_spec_l7Name ax) <| qi (qt_seql q q) q <| Qn H3 fun a ha w8 aj => X <| S1 ha ?_
 refine Yh q h (fun h => ?_) (fun h => ?_)
 ·cases h
  exact rR <| qa q <| B <| W fun a ha => m (ret1 q ha q ⟨q, aj.q0⟩)
 refine y <| C <| zk <| qf uf50 fi50_0 nz3 q <| ql u3 aj.p0 q <| O h fun a0 az h => qc q c63 aj (fun _ => w_spec_l7Name az) <| qa q <| Qn aj fun a ha a1 ak => X <| S1 ha <| rR <| qf uf50 fi50_1 nz3 q <| ql u3 ak.p0 q <| qf uf50 fi50_2 nz3 q <| ql u3 ak.p0 q <| qf uf50 fi50_3 nz3 q <| ql u3 ak.p0 q <| zs (t := tI) (args := [.tmp 14, .tmp 16, .tmp 18]) (xs := ([B1, B2, B3] : List Int)) ak (BltL.cons (Blt.int) q (BltL.cons (Blt.int) q (BltL.cons (Blt.int) q (BltL.nil)))) u23 j3 q q q q q q fun ao a2 aA => qa q <| B <| C <| rR <| qa q <| B <| g <| O h fun am aB h => ?_
 refine fun a3 aD => zp (I := fun (ap, aq) a w2 => (Fr a 60 [(1, pB b1), (3, strV ap), (4, ao), (5, iV aq)] ∧ Holds M0 w w2 [.bx b1 50 [iV B0, iV B1, iV B2, iV B3], .sl 3 tI ao ([B1, B2, B3])] G)) (O := fun o e a w2 => match o with | .inl q0 => e = .exit 0 ∧ (Fr a 60 [(3, strV q0)] ∧ Holds M0 w w2 [] G) | .inr q0 => e = .ret ∧ (Fr a 60 [(2, strV q0)] ∧ Holds M0 w w2 [] G)) aB ?_ ?_ ?_
 ·exact ⟨aD.s, aA.p1⟩
 ·rintro ⟨ap, aq⟩ _ a a4 aa ⟨ha, ab⟩
  refine S1 ha <| C <| rR <| qm q <| qm q <| qz ab.ctx hS1 u23 q <| qi (qt_lss q q) q <| B ?_
  refine Yh q aa (fun aa => ?_) (fun aa => ?_)
  ·refine y <| C <| g <| C <| C <| zk <| qm q <| qm q <| O aa fun a5 ar aa => qe ab hS1 ar u23 i3 q fun _ _ aE => eI u3 aE q <| O aa fun a9 aF aa => qc q c60 ab (fun _ => w_spec_l1In aF) <| qi (qt_not q) q <| qm q <| O aa fun aG ad aa => ?_
   refine Go (res := aG) 12 (if_t · ad) (fun ae ba aH => ?_) ?_
   ·refine have ad := if_f ae ad; jm ae q <| jf uf50 fi50_0 nz3 ae q <| jl u3 ab.p0 ae q <| O ad fun bb aI ad => jc ae q c106 ab (fun _ => w_spec_l7Many aI) <| ji (qt_geq q q) ae q <| jm ae q <| O ad fun aJ af ad => ?_
    refine Ga (res := aJ) (hw := (J q ae)) 5 (if_f · af) (fun ag bc aK => ?_) ?_
    ·exact have af := if_t ag af; jm ag q <| jm ag q <| O af fun bd au af => je ab hS1 au u23 i3 ag q fun _ _ aL => jI u3 aL ag q <| ji (qt_neq q q) ag q <| aK 5 q q q af
    exact aH 7 q q q ad
   refine Qn ab fun a ha bh al => X <| S1 ha ?_
   refine Yh q aa (fun aa => ?_) (fun aa => ?_)
   ·cases aa
    exact rR <| qa q <| B <| W fun a ha => m (zj (m (⟨ret_ne, q, ha.s, al.q0.q0⟩)))
   refine y <| C <| zk <| qm q <| qf uf50 fi50_0 nz3 q <| ql u3 al.p0 q <| O aa fun bi aN aa => qc q c106 al (fun _ => w_spec_l7Many aN) <| qi (qt_lss q q) q <| Qn al fun a ha bj ah => X <| S1 ha ?_
   refine Yh q aa (fun aa => ?_) (fun aa => ?_)
   ·refine zk <| qm q <| O aa fun bk aO aa => qi (qt_sadd q q aO) q <| qm q <| qm q <| O aa fun aP av aa => qe ah hS1 av u23 i3 q fun _ _ aQ => eI u3 aQ q <| O aa fun aR aS aa => QC q q c31 (fun w' hb => w_spec_l1Number w' _ aP aR aS (ah.grow hb).ctx) (by rfl) <| O aa fun bo aT aa => qi (qt_sadd q q aT) q <| qa q <| Qn ah fun a ha bp aU => zi <| X <| S1 ha <| Z <| qm q <| qi (qt_add q q) q <| qa q <| WL_nil fun a ha => ?_
    cases aa
    exact ⟨q, ha.s, aU.p1.p1⟩
   cases aa
   exact WP_skip fun a ha => zi <| X <| S1 ha <| Z <| qm q <| qi (qt_add q q) q <| qa q <| WL_nil fun a ha => ⟨q, ha.s, ah.p1.p1⟩
  cases aa
  exact WP_exit fun a ha => zo (⟨exit_ne, q, ha.s, ab.q0.q0⟩)
 intro e a bq aw
 rcases am with am | am
 ·obtain ⟨rfl, ha, aY⟩ := aw
  refine zn <| X <| S1 ha <| rR <| qm q <| qa q <| B <| W fun a ha => ?_
  obtain rfl := L h
  exact ret1 q ha q ⟨q, aY⟩
 obtain ⟨rfl, ha, aZ⟩ := aw
 obtain rfl := L h
 exact zj (m (ret1 q ha q ⟨q, aZ⟩))
theorem w_spec_ReadDeed {w G p0 r} (h : spec_ReadDeedS p0 = some r) (H : Ctx w G) : Calls Tryz.prog 23 #[strV p0] w fun e w' => e = .returned (.tuple #[.agg #[iV r.1.1, iV r.1.2.1, iV r.1.2.2.1, iV r.1.2.2.2], .bool r.2]) ∧ Holds M0 w w' [] G := by
 refine F0 66 H Tryz.func23 q fun H => ?_
 refine C <| Z <| zq (cs := [iV 0, iV 0, iV 0, iV 0]) H z50 q q q fun b1 w2 H3 => qa q <| rN <| qm q <| O h fun x5 aL h => U1 q c24 (w_spec_l1Cut aL H3.ctx) fun v9 w7 H8 => have aM := H3.cN1 [] H8; qa q <| B <| C <| Z <| zs (t := tI) (args := [.const (iV 0), .const (iV 0), .const (iV 0)]) (xs := ([0, 0, 0] : List Int)) aM (BltL.cons (Blt.int) q (BltL.cons (Blt.int) q (BltL.cons (Blt.int) q (BltL.nil)))) u23 j3 q q q q q q fun ad br aN => qa q <| rN <| qi (qt_build (args := [(0, .const (iV (-1)))]) (css := [#[iV (-1)]]) (cells := #[iV (-1), iV 0, iV 0, iV 0]) q ⟨q, trivial⟩ (by kernel_rfl)) q <| zq (cs := [iV 0, iV 0, iV 0, iV 0]) aN z50 q q q fun ae bs aO => zl (cs' := [iV (-1), iV 0, iV 0, iV 0]) aO q il50 q q q q q fun bt aP => B <| C <| rR <| qa q <| B <| g <| O h fun ak aQ h => ?_
 refine fun bu aS => zp (I := fun (av, aw) a w2 => (Fr a 66 [(0, strV p0), (2, pB b1), (4, v9), (5, ad), (6, pB ae), (7, iV av)] ∧ Holds M0 w w2 [.bx b1 50 [iV 0, iV 0, iV 0, iV 0], .sl 9 .str v9 x5, .sl 3 tI ad ([0, 0, 0]), .bx ae 50 [iV aw, iV 0, iV 0, iV 0]] G)) (O := fun q0 e a w2 => e = .exit 0 ∧ (Fr a 66 [(0, strV p0), (2, pB b1), (4, v9), (5, ad), (6, pB ae)] ∧ Holds M0 w w2 [.bx b1 50 [iV 0, iV 0, iV 0, iV 0], .sl 9 .str v9 x5, .sl 3 tI ad ([0, 0, 0]), .bx ae 50 [iV q0, iV 0, iV 0, iV 0]] G)) aQ ?_ ?_ ?_
 ·exact ⟨aS.s, aP.p1.p2.p3⟩
 ·rintro ⟨av, aw⟩ _ a bv aa ⟨ha, ah⟩
  refine S1 ha <| C <| rR <| qm q <| qi (qt_leq q q) q <| B ?_
  refine Yh q aa (fun aa => ?_) (fun aa => ?_)
  ·refine y <| C <| g <| C <| WP_quiet (by kernel_rfl) (by kernel_rfl) <| qm q <| O aa fun bw ax aa => qe ah hS1 ax u38 i9 q fun _ _ aT => eS u9 aT q <| qm q <| O aa fun bC aU aa => qc q c63 ah (fun _ => w_spec_l7Name aU) <| qi (qt_seql q q) q <| Qn ah fun a ha bD ay => X <| S1 ha ?_
   refine Yh q aa (fun aa => ?_) (fun aa => ?_)
   ·cases aa
    exact Z <| qm q <| qf uf50 fi50_0 nz3 q <| WL_store_bx ay.p3 q il3 q q q q q fun bE aW => WL_nil fun a ha => zi <| X <| S1 ha <| Z <| qm q <| qi (qt_add q q) q <| qa q <| WL_nil fun a ha => ⟨q, ha.s, aW.p3.p3.p3⟩
   cases aa
   exact WP_skip fun a ha => zi <| X <| S1 ha <| Z <| qm q <| qi (qt_add q q) q <| qa q <| WL_nil fun a ha => ⟨q, ha.s, ay.p3.p3.p3.p3⟩
  cases aa
  exact WP_exit fun a ha => zo (⟨exit_ne, q, ha.s, ah.p3.p3.p3.p3⟩)
 rintro _ a bF ⟨rfl, ha, a0⟩
 refine zn <| X <| S1 ha <| C <| rR <| qa q <| B <| g <| O h fun bG a1 h => ?_
 refine fun bH a3 => zp (I := fun (al, az) a w2 => (Fr a 66 [(0, strV p0), (2, pB b1), (4, v9), (5, ad), (6, pB ae), (8, iV al)] ∧ Holds M0 w w2 [.bx b1 50 [iV 0, iV 0, iV 0, iV 0], .sl 9 .str v9 x5, .sl 3 tI ad az, .bx ae 50 [iV ak, iV 0, iV 0, iV 0]] G)) (O := fun q0 e a w2 => e = .exit 2 ∧ (Fr a 66 [(0, strV p0), (2, pB b1), (5, ad), (6, pB ae)] ∧ Holds M0 w w2 [.bx b1 50 [iV 0, iV 0, iV 0, iV 0], .sl 3 tI ad q0, .bx ae 50 [iV ak, iV 0, iV 0, iV 0]] G)) a1 ?_ ?_ ?_
 ·exact ⟨a3.s, a0.p3.p3.p3.p3⟩
 ·rintro ⟨al, az⟩ _ a bI ab ⟨ha, af⟩
  refine S1 ha <| C <| rR <| qm q <| qm q <| qz af.ctx hS1 u38 q <| qi (qt_lss q q) q <| qm q ?_
  refine Ha (res := ((decide (al < (List.length x5 : Int))) && (decide (al ≤ 3)))) 2 an (fun am bJ a4 => ?_) ?_
  ·exact jm am q <| ji (qt_leq q q) am q <| a4 2 q q q (ai am)
  refine B ?_
  refine Yh q ab (fun ab => ?_) (fun ab => ?_)
  ·refine y <| C <| g <| Z <| qm q <| qm q <| qi (qt_sub q q) q <| qm q <| qm q <| O ab fun bK aA ab => qe af hS1 aA u38 i9 q fun _ _ a5 => eS u9 a5 q <| O ab fun a6 a7 ab => U0 q c26 (w_spec_l1Read a7 af.ctx) fun bO a8 => have aB := af.cN0 [] a8; O ab fun bP aC ab => qb aB.ctx hS2 aC u23 i3 q fun bQ bR bS a9 => WL_storeH (fo := 0) (cs' := [iV a6]) aB.p2 aC a9 (Upd.whole (Blt.int)) q il3 q q q q fun bT bb => WL_nil fun a ha => zi <| X <| S1 ha <| Z <| qm q <| qi (qt_add q q) q <| qa q <| WL_nil fun a ha => ?_
   cases ab
   exact ⟨q, ha.s, bb.p3.p1.p3.p3⟩
  cases ab
  exact WP_exit fun a ha => zo (⟨exit_ne, q, ha.s, af.q1.p2.p2.p2⟩)
 rintro _ a bU ⟨rfl, ha, ao⟩
 refine zn <| X <| S1 ha <| rR <| qm q <| O h fun aD aE h => qe ao hS1 aE u23 i3 q fun _ _ be => eI u3 be q <| qf uf50 fi50_1 nz3 q <| WL_store_bx ao.p2 q il3 q q q q q fun bY ap => rN <| qm q <| O h fun aF aG h => qe ap hS2 aG u23 i3 q fun _ _ bg => eI u3 bg q <| qf uf50 fi50_2 nz3 q <| WL_store_bx ap q il3 q q q q q fun b5 aq => rN <| qm q <| O h fun aH aI h => qe aq hS2 aI u23 i3 q fun _ _ bh => eI u3 bh q <| qf uf50 fi50_3 nz3 q <| WL_store_bx aq q il3 q q q q q fun b9 ar => ?_
 refine B <| C <| C <| zk <| qm q <| qi (qt_seql q q) q <| qm q <| O h fun bi ag h => ?_
 refine Go (res := bi) 4 (if_t · ag) (fun aj ca bj => ?_) ?_
 ·exact have ag := if_f aj ag; jA ar.p0 us50 uo50 il50 aj q <| O ag fun cb bk ag => jc aj q c64 ar (fun _ => w_spec_DeedText bk) <| jm aj q <| ji (qt_sneq q q) aj q <| bj 4 q q q ag
 refine Qn ar fun a ha cc au => X <| S1 ha ?_
 refine Yh q h (fun h => ?_) (fun h => ?_)
 ·cases h
  exact rR <| qi (qt_build (args := []) (css := []) (cells := #[iV 0, iV 0, iV 0, iV 0]) q trivial (by kernel_rfl)) q <| zl (cs' := [iV 0, iV 0, iV 0, iV 0]) au.p1 q il50 q q q q q fun cd aJ => qa q <| B <| W fun a ha => have bm := R aJ.p0; m (retct q ha q q (run_loadVar_bx (cs := [iV 0, iV 0, iV 0, iV 0]) us50 uo50 il50 bm) ⟨q, aJ.q0.q0.q0⟩)
 cases h
 exact y <| rR <| eA au.p0 us50 uo50 il50 q <| zl (cs' := [iV ak, iV aD, iV aF, iV aH]) au.p1 q il50 q q q q q fun ce aK => qa q <| B <| W fun a ha => have bp := R aK.p0; retct q ha q q (run_loadVar_bx (cs := [iV ak, iV aD, iV aF, iV aH]) us50 uo50 il50 bp) ⟨q, aK.q0.q0.q0⟩
theorem w_spec_l7Buy {w G A0 B0 A1 B1 A2 B2 B3 A4 B4 p1 p2 r} (h : spec_l7BuyS B0 B1 B2 B3 B4 p1 p2 = some r) (H : Ctx w ([.sl 95 ty12 A0 B0, .sl 3 tI A1 B1, .sl 3 tI A2 B2, .sl 89 ty14 A4 B4] ++ G)) : Calls Tryz.prog 65 #[.agg #[A0, A1, A2, iV B3, A4], iV p1, iV p2] w fun e w' => ∃ (v1 : Value) (v2 : Value) (v3 : Value) (v4 : Value), e = .returned (.tuple #[.agg #[v1, v2, v3, iV r.1.2.2.2.1, v4], .bool r.2]) ∧ Holds (([.sl 95 ty12 A0 B0, .sl 3 tI A1 B1, .sl 3 tI A2 B2, .sl 89 ty14 A4 B4] : List Res).flatMap Res.own) w w' [.sl 95 ty12 v1 r.1.1, .sl 3 tI v2 r.1.2.1, .sl 3 tI v3 r.1.2.2.1, .sl 89 ty14 v4 r.1.2.2.2.2] G := by
 refine F1 75 H Tryz.func65 q fun H => ?_
 refine C <| Z <| WL_box (cs := [A0, A1, A2, iV B3, A4]) H q q q q fun b1 w2 H3 => zq (cs := [nS, nS, nS, iV 0, nS]) H3 z31 q q q fun b5 w6 H7 => qa q <| B <| C <| C <| WP_quiet (by kernel_rfl) (by kernel_rfl) <| qm q <| qf uf31 fi31_0 nz28 q <| ql u28 H7.p1 q <| qz H7.ctx hS2 u28 q <| qi (qt_sub q q) q <| O h fun a1 aB h => qc q c60 H7 (fun _ => w_spec_l1In aB) <| qi (qt_not q) q <| qm q <| O h fun aC af h => ?_
 refine Go (res := aC) 7 (if_t · af) (fun ad a2 aD => ?_) ?_
 ·exact have af := if_f ad af; jf uf31 fi31_0 nz28 ad q <| jl u28 H7.p1 ad q <| jm ad q <| O af fun a3 ap af => je H7 hS2 ap u28 i95 ad q fun _ _ aE => jf uf95 fi95_0 nz3 ad q <| jI u3 aE.f ad q <| ji (qt_gtr q q) ad q <| aD 7 q q q af
 refine qm q <| O h fun aF ag h => ?_
 refine Go (res := aF) 3 (if_t · ag) (fun ao a7 aG => ?_) ?_
 ·exact have ag := if_f ao ag; jm ao q <| O ag fun a8 aH ag => jc ao q c60 H7 (fun _ => w_spec_l1In aH) <| ji (qt_not q) ao q <| aG 3 q q q ag
 refine qm q <| O h fun aI ah h => ?_
 refine Go (res := aI) 8 (if_t · ah) (fun ab a9 aJ => ?_) ?_
 ·exact have ah := if_f ab ah; jf uf31 fi31_2 nz23 ab q <| jl u23 H7.p1 ab q <| jm ab q <| O ah fun ba aq ah => je H7 hS4 aq u23 i3 ab q fun _ _ aK => jI u3 aK ab q <| jm ab q <| ji (qt_add q q) ab q <| ji (qt_gtr q q) ab q <| aJ 8 q q q ah
 refine qm q <| O h fun aL aj h => ?_
 refine Go (res := aL) 10 (if_t · aj) (fun aa be aM => ?_) ?_
 ·exact have aj := if_f aa aj; jm aa q <| jf uf31 fi31_1 nz23 aa q <| jl u23 H7.p1 aa q <| jm aa q <| O aj fun bf ar aj => je H7 hS3 ar u23 i3 aa q fun _ _ aN => jI u3 aN aa q <| ji (qt_mul q q) aa q <| jf uf31 fi31_3 nz3 aa q <| jl u3 H7.p1 aa q <| ji (qt_gtr q q) aa q <| aM 10 q q q aj
 refine Qn H7 fun a ha bj ae => X <| S1 ha ?_
 refine Yh q h (fun h => ?_) (fun h => ?_)
 ·cases h
  exact rR <| eA ae.p1 us31 uo31 il31 q <| zl (cs' := [A0, A1, A2, iV B3, A4]) ae q il31 q (T (ae.ctx.sliceOne hS2) (T (ae.ctx.sliceOne hS3) (T (ae.ctx.sliceOne hS4) (T q (T (ae.ctx.sliceOne hS5) q))))) q q q fun bk au => qa q <| B <| W fun a ha => have aO := R au.p0; m (retct q ha q q (run_loadVar_bx (cs := [A0, A1, A2, iV B3, A4]) us31 uo31 il31 aO) ⟨A0, A1, A2, A4, q, au.q0.q0.p3.p3.p3.p3⟩)
 refine y <| C <| WP_tail 10 (by kernel_rfl) (by kernel_rfl) fun bl aQ => have ak := ae.grow aQ; qf uf31 fi31_2 nz23 q <| ql u23 ak.p1 q <| qm q <| qf uf31 fi31_2 nz23 q <| ql u23 ak.p1 q <| qm q <| O h fun aR av h => qe ak hS4 av u23 i3 q fun _ _ aS => eI u3 aS q <| qm q <| qi (qt_add q q) q <| SL_nil <| O h fun bp aw h => qb ak.ctx hS4 aw u23 i3 q fun bq br bs aT => WL_storeH (fo := 0) (cs' := [iV (IntKind.wrap .i64 (aR + p2))]) ak.p4 aw aT (Upd.whole (Blt.int)) q il3 q q q q fun bt aV => B <| C <| WP_tail 9 (by kernel_rfl) (by kernel_rfl) fun bu aW => have al := aV.grow aW; qf uf31 fi31_3 nz3 q <| ql u3 al.p2 q <| qm q <| qf uf31 fi31_1 nz23 q <| ql u23 al.p2 q <| qm q <| O h fun ax ay h => qe al hS4 ay u23 i3 q fun _ _ aX => ?_
 cases h
 exact eI u3 aX q <| qi (qt_mul q q) q <| SL_nil <| qi (qt_sub q q) q <| qf uf31 fi31_3 nz3 q <| WL_store_bx al.p2 q il3 q q q q q fun bA az => rN <| eA az.p0 us31 uo31 il31 q <| have am := az.p2; zl (cs' := [A0, A1, A2, iV (IntKind.wrap .i64 (B3 - (IntKind.wrap .i64 (p2 * ax)))), A4]) am q il31 q (T (am.ctx.sliceOne hS3) (T (am.ctx.sliceOne hS4) (T (am.ctx.sliceOne hS2) (T q (T (am.ctx.sliceOne hS5) q))))) q q q fun bB aA => qa q <| B <| W fun a ha => have aZ := R aA.p0; retct q ha q q (run_loadVar_bx (cs := [A0, A1, A2, iV (IntKind.wrap .i64 (B3 - (IntKind.wrap .i64 (p2 * ax)))), A4]) us31 uo31 il31 aZ) ⟨A0, A1, A2, A4, q, aA.q0.q0.p3.p1.p3.p3⟩
theorem w_spec_MakeRun {w G vp0 p0 vp1 p1 A2_0 p2_0 A2_1 p2_1 r} (h : spec_MakeRunS p0 p1 p2_0 p2_1 = some r) (hp0 : Has G ty12 vp0 p0) (hp1 : Has G tI vp1 p1) (hp2_0 : Has G tI A2_0 p2_0) (hp2_1 : Has G tI A2_1 p2_1) (H : Ctx w G) : Calls Tryz.prog 107 #[vp0, vp1, .agg #[A2_0, A2_1]] w fun e w' => ∃ (v1 : Value), e = .returned (.tuple #[v1, .bool r.2]) ∧ Holds M0 w w' [.sl 3 tI v1 r.1] G := by
 refine F0 111 H Tryz.func107 q fun H => ?_
 refine C <| Z <| WL_box (cs := [A2_0, A2_1]) H q q q q fun b1 w2 H3 => qa q <| qa q <| B <| C <| C <| zk <| qm q <| O h fun x5 aR h => qc q c71 H3 (fun _ => w_spec_ItemsValid aR (hp0.c)) <| qi (qt_not q) q <| qm q <| O h fun b7 aj h => ?_
 refine Go (res := b7) 4 (if_t · aj) (fun ak bN aS => ?_) ?_
 ·exact have aj := if_f ak aj; jm ak q <| jm ak q <| O aj fun bO aT aj => jc ak q c59 H3 (fun _ => w_spec_l1Amounts aT (hp0.c) (hp1.c)) <| ji (qt_not q) ak q <| aS 4 q q q aj
 refine qm q ?_
 refine Go (res := (b7 || ((List.length p2_0 : Int) != (List.length p0 : Int)))) 6 os (fun ag bP aU => ?_) ?_
 ·exact jf uf137 fi137_0 nz23 ag q <| jl u23 H3.p0 ag q <| jz H3.ctx (hp2_0.c) u23 ag q <| jm ag q <| jz H3.ctx (hp0.c) u28 ag q <| ji (qt_neq q q) ag q <| aU 6 q q q (oi ag)
 refine Qn H3 fun a ha bQ aw => X <| S1 ha ?_
 refine Yh q h (fun h => ?_) (fun h => ?_)
 ·cases h
  exact C <| Z <| zs (t := tI) (args := []) (xs := ([] : List Int)) aw (BltL.nil) u23 j3 q q q q q q fun aV bR aW => qa q <| qa q <| B <| W fun a ha => m (ret2 q ha q q ⟨aV, q, aW.q1⟩)
 refine y <| C <| Z <| zs (t := tI) (args := []) (xs := ([] : List Int)) aw (BltL.nil) u23 j3 q q q q q q fun bS bT aY => qm q <| O h fun bU aZ h => zw aY (hp1.c.c) aZ u23 j3 q q q q q q fun ae bV a0 => qa q <| B <| C <| rR <| qa q <| B <| g <| O h fun ap a1 h => ?_
 refine fun bW a3 => zp (I := fun (aq, ax) a w2 => (Fr a 111 [(0, vp0), (5, pB b1), (8, ae), (9, iV aq)] ∧ Holds M0 w w2 [.bx b1 137 [A2_0, A2_1], .sl 3 tI ae ax] G)) (O := fun o e a w2 => match o with | .inl q0 => e = .exit 0 ∧ (Fr a 111 [(8, ae)] ∧ Holds M0 w w2 [.sl 3 tI ae q0] G) | .inr (q0, q1, q2) => e = .ret ∧ ∃ al, Fr a 111 [(6, al), (7, .bool q1)] ∧ Holds M0 w w2 [.sl 3 tI al q0] G) a1 ?_ ?_ ?_
 ·exact ⟨a3.s, a0.p1⟩
 ·rintro ⟨aq, ax⟩ _ a bX aa ⟨ha, ah⟩
  refine S1 ha <| C <| rR <| qm q <| qm q <| qz ah.ctx (hp0.c.c) u28 q <| qi (qt_lss q q) q <| B ?_
  refine Yh q aa (fun aa => ?_) (fun aa => ?_)
  ·refine y <| C <| g <| C <| C <| zk <| qf uf137 fi137_0 nz23 q <| ql u23 ah.p0 q <| qm q <| O aa fun bY ay aa => qe ah (hp2_0.c.c) ay u23 i3 q fun _ _ a4 => eI u3 a4 q <| O aa fun b5 a5 aa => qc q c60 ah (fun _ => w_spec_l1In a5) <| qi (qt_not q) q <| Qn ah fun a ha b6 az => X <| S1 ha ?_
   refine Yh q aa (fun aa => ?_) (fun aa => ?_)
   ·cases aa
    exact C <| Z <| zs (t := tI) (args := []) (xs := ([] : List Int)) az (BltL.nil) u23 j3 q q q q q q fun a6 b8 a7 => qa q <| qa q <| B <| W fun a ha => m (zj (m (⟨ret_ne, q, a6, ha.s, a7.q1.q1⟩)))
   refine y <| C <| rR <| qa q <| B <| g <| O aa fun ar a9 aa => ?_
   refine fun b9 bb => zp (I := fun (aA, aB) a w2 => (Fr a 111 [(0, vp0), (5, pB b1), (8, ae), (9, iV aq), (10, iV aA)] ∧ Holds M0 w w2 [.bx b1 137 [A2_0, A2_1], .sl 3 tI ae aB] G)) (O := fun o e a w2 => match o with | .inl q0 => e = .exit 2 ∧ (Fr a 111 [(0, vp0), (5, pB b1), (8, ae), (9, iV aq)] ∧ Holds M0 w w2 [.bx b1 137 [A2_0, A2_1], .sl 3 tI ae q0] G) | .inr (q0, q1, q2) => e = .ret ∧ ∃ al, Fr a 111 [(6, al), (7, .bool q1)] ∧ Holds M0 w w2 [.sl 3 tI al q0] G) a9 ?_ ?_ ?_
   ·exact ⟨bb.s, az.p1.p1⟩
   ·rintro ⟨aA, aB⟩ _ a ca ab ⟨ha, aC⟩
    refine S1 ha <| C <| rR <| qm q <| qm q <| qm q <| O ab fun cb aD ab => qe aC (hp0.c.c) aD u28 i95 q fun _ _ bc => qf uf95 fi95_1 nz93 q <| eV u93 bc.s.f q fun cf au => qz au.ctx hR0 u93 q <| qi (qt_lss q q) q <| B ?_
    refine Yh q ab (fun ab => ?_) (fun ab => ?_)
    ·refine y <| C <| g <| rR <| qm q <| qm q <| O ab fun cg aE ab => qe au (hp0.c.c.c) aE u28 i95 q fun _ _ bd => qf uf95 fi95_1 nz93 q <| eV u93 bd.s.f q fun ck av => qm q <| O ab fun am aF ab => qe av hR0 aF u93 i152 q fun _ _ be => lP [iV am.1, iV am.2] us152 uo152 i152 be q q q q <| zq (cs := [iV 0, iV 0]) av z152 q q q fun co cp bf => zl (cs' := [iV am.1, iV am.2]) bf q il152 q q q q q fun cq bg => B <| C <| WP_tail 17 (by kernel_rfl) (by kernel_rfl) fun cr bh => have ad := bg.grow bh; qm q <| qf uf152 fi152_0 nz3 q <| ql u3 ad.p0 q <| qm q <| qf uf152 fi152_0 nz3 q <| ql u3 ad.p0 q <| O ab fun bi aG ab => qe ad hS4 aG u23 i3 q fun _ _ bj => ?_
     refine eI u3 bj q <| qf uf137 fi137_0 nz23 q <| ql u23 ad.p3 q <| qm q <| O ab fun bk aH ab => qe ad (hp2_0.c.c.c.c.c) aH u23 i3 q fun _ _ bl => eI u3 bl q <| qf uf152 fi152_1 nz3 q <| ql u3 ad.p0 q <| qi (qt_mul q q) q <| qi (qt_sub q q) q <| SL_nil <| O ab fun cz aI ab => qb ad.ctx hS4 aI u23 i3 q fun cA cB cC bm => WL_storeH (fo := 0) (cs' := [iV (IntKind.wrap .i64 (bi - (IntKind.wrap .i64 (bk * am.2))))]) ad.p4 aI bm (Upd.whole (Blt.int)) q il3 q q q q fun cD ao => rN <| qm q <| qf uf152 fi152_0 nz3 q <| ql u3 ao.p1 q <| O ab fun cE aJ ab => qe ao hS0 aJ u23 i3 q fun _ _ bo => eI u3 bo q <| qi (qt_lss q q) q <| B ?_
     refine Yh q ab (fun ab => ?_) (fun ab => ?_)
     ·cases ab
      exact C <| Z <| zs (t := tI) (args := []) (xs := ([] : List Int)) ao (BltL.nil) u23 j3 q q q q q q fun bp cI bq => qa q <| qa q <| B <| W fun a ha => zj (m (⟨ret_ne, q, bp, ha.s, bq.q1.q1.q1.q1.q1⟩))
     cases ab
     exact WP_skip fun a ha => zi <| X <| S1 ha <| Z <| qm q <| qi (qt_add q q) q <| qa q <| WL_nil fun a ha => ⟨q, ha.s, ao.q1.q1.q1.p1⟩
    cases ab
    exact WP_exit fun a ha => zo (⟨exit_ne, q, ha.s, au.q0.p1.p1⟩)
   intro e a cJ aK
   rcases ar with ar | ar
   ·obtain ⟨rfl, ha, bu⟩ := aK
    refine zn <| X <| S1 ha <| WP_tail 19 (by kernel_rfl) (by kernel_rfl) fun cK bv => have af := bu.grow bv; qm q <| qm q <| qm q <| qm q <| O aa fun bw aL aa => qe af hS1 aL u23 i3 q fun _ _ bz => eI u3 bz q <| qf uf137 fi137_0 nz23 q <| ql u23 af.p0 q <| qm q <| O aa fun bA aM aa => qe af (hp2_0.c.c) aM u23 i3 q fun _ _ bB => eI u3 bB q <| qm q <| qm q <| O aa fun aN aO aa => qe af (hp0.c.c) aO u28 i95 q fun _ _ bC => qf uf95 fi95_0 nz3 q <| eI u3 bC.f q <| qi (qt_max q q) q <| qi (qt_mul q q) q <| qi (qt_add q q) q <| SL_nil <| O aa fun cU aP aa => qb af.ctx hS1 aP u23 i3 q fun cV cW cX bD => WL_storeH (fo := 0) (cs' := [iV (IntKind.wrap .i64 (bw + (IntKind.wrap .i64 (bA * (if 1 > aN.1 then 1 else aN.1)))))]) af.p1 aP bD (Upd.whole (Blt.int)) q il3 q q q q fun cY bF => ?_
    cases aa
    exact WL_nil fun a ha => zi <| X <| S1 ha <| Z <| qm q <| qi (qt_add q q) q <| qa q <| WL_nil fun a ha => ⟨q, ha.s, bF.p1⟩
   obtain ⟨cZ, c0, c1⟩ := ar
   obtain ⟨rfl, bH, ha, bI⟩ := aK
   cases aa
   exact zj (m (zj (m (⟨ret_ne, q, bH, ha.s, bI⟩))))
  cases aa
  exact WP_exit fun a ha => zo (⟨exit_ne, q, ha.s, ah.q0⟩)
 intro e a c2 aQ
 rcases ap with ap | ap
 ·obtain ⟨rfl, ha, bK⟩ := aQ
  cases h
  exact zn <| X <| S1 ha <| rR <| qm q <| qa q <| qa q <| B <| W fun a ha => ret2 q ha q q ⟨ae, q, bK⟩
 obtain ⟨c3, c4, da⟩ := ap
 obtain ⟨rfl, bL, ha, bM⟩ := aQ
 cases h
 exact zj (m (ret2 q ha q q ⟨bL, q, bM⟩))
theorem w_spec_l7Make {w G A0 B0 A1 B1 A2 B2 B3 A4 B4 p1 p2 r} (h : spec_l7MakeS B0 B1 B2 B3 B4 p1 p2 = some r) (H : Ctx w ([.sl 95 ty12 A0 B0, .sl 3 tI A1 B1, .sl 3 tI A2 B2, .sl 89 ty14 A4 B4] ++ G)) : Calls Tryz.prog 66 #[.agg #[A0, A1, A2, iV B3, A4], iV p1, iV p2] w fun e w' => ∃ (v1 : Value) (v2 : Value) (v3 : Value) (v4 : Value), e = .returned (.tuple #[.agg #[v1, v2, v3, iV r.1.2.2.2.1, v4], .bool r.2]) ∧ Holds (([.sl 95 ty12 A0 B0, .sl 3 tI A1 B1, .sl 3 tI A2 B2, .sl 89 ty14 A4 B4] : List Res).flatMap Res.own) w w' [.sl 95 ty12 v1 r.1.1, .sl 3 tI v2 r.1.2.1, .sl 3 tI v3 r.1.2.2.1, .sl 89 ty14 v4 r.1.2.2.2.2] G := by
 refine F1 64 H Tryz.func66 q fun H => ?_
 refine C <| Z <| WL_box (cs := [A0, A1, A2, iV B3, A4]) H q q q q fun b1 w2 H3 => zq (cs := [nS, nS, nS, iV 0, nS]) H3 z31 q q q fun b5 w6 H7 => qa q <| B <| C <| C <| zk <| qm q <| qf uf31 fi31_0 nz28 q <| ql u28 H7.p1 q <| qz H7.ctx hS2 u28 q <| qi (qt_sub q q) q <| O h fun aV aB h => qc q c60 H7 (fun _ => w_spec_l1In aB) <| qi (qt_not q) q <| qm q <| O h fun aC ad h => ?_
 refine Go (res := aC) 7 (if_t · ad) (fun ab aW aD => ?_) ?_
 ·exact have ad := if_f ab ad; jf uf31 fi31_0 nz28 ab q <| jl u28 H7.p1 ab q <| jm ab q <| O ad fun aX aq ad => je H7 hS2 aq u28 i95 ab q fun _ _ aE => jf uf95 fi95_0 nz3 ab q <| jI u3 aE.f ab q <| ji (qt_eql q q) ab q <| aD 7 q q q ad
 refine qm q <| O h fun aF ae h => ?_
 refine Go (res := aF) 3 (if_t · ae) (fun am a1 aG => ?_) ?_
 ·exact have ae := if_f am ae; jm am q <| O ae fun a2 aH ae => jc am q c60 H7 (fun _ => w_spec_l1In aH) <| ji (qt_not q) am q <| aG 3 q q q ae
 refine Qn H7 fun a ha a3 aa => X <| S1 ha ?_
 refine Yh q h (fun h => ?_) (fun h => ?_)
 ·cases h
  exact rR <| eA aa.p1 us31 uo31 il31 q <| zl (cs' := [A0, A1, A2, iV B3, A4]) aa q il31 q (T (aa.ctx.sliceOne hS2) (T (aa.ctx.sliceOne hS3) (T (aa.ctx.sliceOne hS4) (T q (T (aa.ctx.sliceOne hS5) q))))) q q q fun a4 ar => qa q <| B <| W fun a ha => have aI := R ar.p0; m (retct q ha q q (run_loadVar_bx (cs := [A0, A1, A2, iV B3, A4]) us31 uo31 il31 aI) ⟨A0, A1, A2, A4, q, ar.q0.q0.p3.p3.p3.p3⟩)
 refine y <| rR <| qf uf31 fi31_0 nz28 q <| ql u28 aa.p1 q <| qz aa.ctx hS2 u28 q <| O h fun a5 aK h => WL_makeH aa aK u23 j3 q (fun _ => ⟨q, q⟩) q q q q q fun au a6 av => qa q <| rN <| qm q <| qm q <| qm q <| O h fun a7 aw h => qb av.ctx hS0 aw u23 i3 q fun a8 a9 ba aL => WL_storeH (fo := 0) (cs' := [iV p2]) av aw aL (Upd.whole (Blt.int)) q il3 q q q q fun bb ah => rN <| qf uf31 fi31_0 nz28 q <| ql u28 ah.p2 q <| qf uf31 fi31_2 nz23 q <| ql u23 ah.p2 q <| qm q <| qi (qt_build (args := [(0, .tmp 46)]) (css := [#[au]]) (cells := #[au, nS]) q ⟨(ah.ctx.sliceCells hS0), trivial⟩ (by kernel_rfl)) q <| O h fun bc aM h => U1 q c107 (w_spec_MakeRun aM hS3 hS5 hS0 (HasRo.has HasRo.nil) ah.ctx) fun ao bd aN => have aj := ah.cN1 [] aN; qm q <| qi (zv q q) q <| qi (zv q q) q <| qa q <| qa q <| B <| C <| rR <| qm q ?_
 refine qi (qt_not q) q <| qm q <| O h fun aO af h => ?_
 refine Ho (res := aO) 5 (if_t · af) (fun ag be aP => ?_) ?_
 ·exact have af := if_f ag af; jm ag q <| jm ag q <| O af fun bf ax af => je aj hS0 ax u23 i3 ag q fun _ _ aQ => jI u3 aQ ag q <| ji (qt_gtr q q) ag q <| aP 5 q q q af
 refine B ?_
 refine Yh q h (fun h => ?_) (fun h => ?_)
 ·cases h
  exact rR <| eA aj.p3 us31 uo31 il31 q <| have ak := aj.p2; zl (cs' := [A0, A1, A2, iV B3, A4]) ak q il31 q (T (ak.ctx.sliceOne hS4) (T (ak.ctx.sliceOne hS5) (T (ak.ctx.sliceOne hS6) (T q (T (ak.ctx.sliceOne hS7) q))))) q q q fun bj ay => qa q <| B <| W fun a ha => have aR := R ay.p0; m (retct q ha q q (run_loadVar_bx (cs := [A0, A1, A2, iV B3, A4]) us31 uo31 il31 aR) ⟨A0, A1, A2, A4, q, ay.q0.q0.q0.q0.p3.p3.p3.p3⟩)
 cases h
 exact y <| rR <| qm q <| qf uf31 fi31_2 nz23 q <| have ap := aj.p3; WL_store_bx ap q il23 (ap.ctx.sliceCells hS1) (ap.ctx.sliceOne hS1) q q q fun bk az => rN <| eA az.p0 us31 uo31 il31 q <| have al := az.p3; zl (cs' := [A0, A1, ao, iV B3, A4]) al q il31 q (T (al.ctx.sliceOne hS4) (T (al.ctx.sliceOne hS5) (T (al.ctx.sliceOne hS2) (T q (T (al.ctx.sliceOne hS7) q))))) q q q fun bl aA => qa q <| B <| W fun a ha => have aT := R aA.p0; retct q ha q q (run_loadVar_bx (cs := [A0, A1, ao, iV B3, A4]) us31 uo31 il31 aT) ⟨A0, A1, ao, A4, q, aA.q0.q0.q1.q3.p3.p1.p3.p3⟩
end Go.Proofs.YtpklpghbkhegnaaGreatDoor
