/- The walks: each Go function computes its shallow function. Printed by a program. -/
import Derived.Test.YtpklpghbkhegnaaGreatDoorWX7M2
set_option linter.unusedVariables false
set_option maxRecDepth 10000
set_option maxHeartbeats 8000000
namespace Go.Proofs.YtpklpghbkhegnaaGreatDoor
open Go Go.RowKit
theorem w_spec_l7Order {w G A0 B0 A1 B1 A2 B2 B3 A4 B4 p1 p2 p3 r} (h : spec_l7OrderS B0 B1 B2 B3 B4 p1 p2 p3 = some r) (H : Ctx w ([.sl 95 ty12 A0 B0, .sl 3 tI A1 B1, .sl 3 tI A2 B2, .sl 89 ty14 A4 B4] ++ G)) : Calls Tryz.prog 67 #[.agg #[A0, A1, A2, iV B3, A4], iV p1, iV p2, iV p3] w fun e w' => ∃ (v1 : Value) (v2 : Value) (v3 : Value) (v4 : Value), e = .returned (.tuple #[.agg #[v1, v2, v3, iV r.1.2.2.2.1, v4], .bool r.2]) ∧ Holds (([.sl 95 ty12 A0 B0, .sl 3 tI A1 B1, .sl 3 tI A2 B2, .sl 89 ty14 A4 B4] : List Res).flatMap Res.own) w w' [.sl 95 ty12 v1 r.1.1, .sl 3 tI v2 r.1.2.1, .sl 3 tI v3 r.1.2.2.1, .sl 89 ty14 v4 r.1.2.2.2.2] G := by
 refine F1 93 H Tryz.func67 q fun H => ?_
 refine C <| Z <| WL_box (cs := [A0, A1, A2, iV B3, A4]) H q q q q fun b1 w2 H3 => zq (cs := [nS, nS, nS, iV 0, nS]) H3 z31 q q q fun b5 w6 H7 => qa q <| B <| C <| C <| O h fun ba aE h => O h fun cM aX h => O h fun cN aK h => O h fun bb aF h => ?_
 refine WP_join (M := fun a w2 => (Fr a 93 [(1, iV p1), (2, iV p2), (3, iV p3), (4, pB b1), (8, pB b5), (48, .bool bb)] ∧ Holds (([.sl 95 ty12 A0 B0, .sl 3 tI A1 B1, .sl 3 tI A2 B2, .sl 89 ty14 A4 B4] : List Res).flatMap Res.own) w w2 [.bx b1 31 [A0, A1, A2, iV B3, A4], .sl 95 ty12 A0 B0, .sl 3 tI A1 B1, .sl 3 tI A2 B2, .sl 89 ty14 A4 B4, .bx b5 31 [nS, nS, nS, iV 0, nS]] G)) ?_ ?_
 ·refine WP_ordersT (fun w1 w2 => Chg M0 w1 w2) 38 (by kernel_rfl) fun aL bc => have az := H7.grow bc; ?_
  have ak : Ctx aL ([] ++ ([.bx b5 31 [nS, nS, nS, iV 0, nS], .bx b1 31 [A0, A1, A2, iV B3, A4], .sl 95 ty12 A0 B0, .sl 3 tI A1 B1, .sl 3 tI A2 B2, .sl 89 ty14 A4 B4] ++ G)) := az.ctx
  have aa : Holds _ aL aL [] ([.bx b5 31 [nS, nS, nS, iV 0, nS], .bx b1 31 [A0, A1, A2, iV B3, A4], .sl 95 ty12 A0 B0, .sl 3 tI A1 B1, .sl 3 tI A2 B2, .sl 89 ty14 A4 B4] ++ G) := zb (Rs := []) ak
  rcases btf (!ba) with ab | ab
  ·have bd := if_t ab aX
   obtain rfl := L bd
   have ar : true = true := q
   have be := if_t ar aK
   obtain rfl := L be
   have al : true = true := q
   have bf := if_t al aF
   obtain rfl := L bf
   refine XQ (i := 0) q (by kernel_rfl) q aa.chg q (fun _ => qt_move q) q q <| XQ (i := 1) q (by kernel_rfl) q aa.chg q (fun _ => qt_fieldAddr uf31 fi31_4 nz29 q) q q <| have bg := HasB.bx (HasB.c (HasB.hd)) aa.ctx; XT (i := 2) q (by kernel_rfl) q aa.chg q (qs_cell u29 q q (bg.cell (i := 4) q) aa.chg (Ctx.outB ak (HasB.c (HasB.hd)))) q q <| XT (i := 3) q (by kernel_rfl) q aa.chg q (qs_len (t := ty14) aa.ctx hS5 u29 q) q q <| XQ (i := 4) q (by kernel_rfl) q aa.chg q (fun _ => qt_sub q q) q q <| X1 5 (by kernel_rfl) q <| U0 q c60 (w_spec_l1In aE aa.ctx) fun cO bh => have ae := aa.cN0 [] bh; XN ae.chg <| XQ (i := 6) q (by kernel_rfl) q ae.chg q (fun _ => qt_not q) q q <| XQ (i := 7) q (by kernel_rfl) q ae.chg q (fun _ => qt_move q) q q <| XS (i := 8) q (by kernel_rfl) q ae.chg q ab q q <| XS (i := 9) q (by kernel_rfl) q ae.chg q ab q q <| XS (i := 10) q (by kernel_rfl) q ae.chg q ab q q <| XS (i := 11) q (by kernel_rfl) q ae.chg q ab q q <| XS (i := 12) q (by kernel_rfl) q ae.chg q ab q q <| XS (i := 13) q (by kernel_rfl) q ae.chg q ab q q <| XS (i := 14) q (by kernel_rfl) q ae.chg q ab q q ?_
   refine XQ (i := 15) q (by kernel_rfl) q ae.chg q (fun _ => ze q ab q) q q <| XQ (i := 16) q (by kernel_rfl) q ae.chg q (fun _ => qt_move q) q q <| XS (i := 17) q (by kernel_rfl) q ae.chg q ar q q <| XS (i := 18) q (by kernel_rfl) q ae.chg q ar q q <| XS (i := 19) q (by kernel_rfl) q ae.chg q ar q q <| XS (i := 20) q (by kernel_rfl) q ae.chg q ar q q <| XS (i := 21) q (by kernel_rfl) q ae.chg q ar q q <| XS (i := 22) q (by kernel_rfl) q ae.chg q ar q q <| XQ (i := 23) q (by kernel_rfl) q ae.chg q (fun _ => ze q ar q) q q <| XQ (i := 24) q (by kernel_rfl) q ae.chg q (fun _ => qt_move q) q q <| XS (i := 25) q (by kernel_rfl) q ae.chg q al q q <| XS (i := 26) q (by kernel_rfl) q ae.chg q al q q <| XS (i := 27) q (by kernel_rfl) q ae.chg q al q q <| XS (i := 28) q (by kernel_rfl) q ae.chg q al q q <| XS (i := 29) q (by kernel_rfl) q ae.chg q al q q <| XS (i := 30) q (by kernel_rfl) q ae.chg q al q q <| XS (i := 31) q (by kernel_rfl) q ae.chg q al q q <| XS (i := 32) q (by kernel_rfl) q ae.chg q al q q <| XS (i := 33) q (by kernel_rfl) q ae.chg q al q q <| XS (i := 34) q (by kernel_rfl) q ae.chg q al q q ?_
   exact XS (i := 35) q (by kernel_rfl) q ae.chg q al q q <| XS (i := 36) q (by kernel_rfl) q ae.chg q al q q <| XQ (i := 37) q (by kernel_rfl) q ae.chg q (fun _ => ze q al q) q q <| have bi := az.cN0 [] ae; XC_done (by kernel_rfl) fun a ha => ⟨ha.s, bi.p5.p5.p5.p5.p5⟩
  refine have aM := if_f ab aX; O aM fun bk aN aM => ?_
  obtain rfl := L aM
  rcases btf (!bk) with aj | aj
  ·have bl := if_t aj aK
   obtain rfl := L bl
   have am : true = true := q
   have bm := if_t am aF
   obtain rfl := L bm
   refine XQ (i := 0) q (by kernel_rfl) q aa.chg q (fun _ => qt_move q) q q <| XQ (i := 1) q (by kernel_rfl) q aa.chg q (fun _ => qt_fieldAddr uf31 fi31_4 nz29 q) q q <| have bn := HasB.bx (HasB.c (HasB.hd)) aa.ctx; XT (i := 2) q (by kernel_rfl) q aa.chg q (qs_cell u29 q q (bn.cell (i := 4) q) aa.chg (Ctx.outB ak (HasB.c (HasB.hd)))) q q <| XT (i := 3) q (by kernel_rfl) q aa.chg q (qs_len (t := ty14) aa.ctx hS5 u29 q) q q <| XQ (i := 4) q (by kernel_rfl) q aa.chg q (fun _ => qt_sub q q) q q <| X1 5 (by kernel_rfl) q <| U0 q c60 (w_spec_l1In aE aa.ctx) fun cP bo => have ao := aa.cN0 [] bo; XN ao.chg <| XQ (i := 6) q (by kernel_rfl) q ao.chg q (fun _ => qt_not q) q q <| XQ (i := 7) q (by kernel_rfl) q ao.chg q (fun _ => qt_move q) q q <| XQ (i := 8) q (by kernel_rfl) q ao.chg (J q ab) (fun _ => qt_move q) q q <| XQ (i := 9) q (by kernel_rfl) q ao.chg (J q ab) (fun _ => qt_fieldAddr uf31 fi31_0 nz28 q) q q ?_
   refine have bp := HasB.bx (HasB.c (HasB.hd)) ao.ctx; XT (i := 10) q (by kernel_rfl) q ao.chg (J q ab) (qs_cell u28 q q (bp.cell (i := 0) q) ao.chg (Ctx.outB ak (HasB.c (HasB.hd)))) q q <| XT (i := 11) q (by kernel_rfl) q ao.chg (J q ab) (qs_len (t := ty12) ao.ctx hS2 u28 q) q q <| XQ (i := 12) q (by kernel_rfl) q ao.chg (J q ab) (fun _ => qt_sub q q) q q <| X1 13 (by kernel_rfl) q <| V0 (J q ab) q c60 (w_spec_l1In aN ao.ctx) q fun cQ bq => have ah := ao.cN0 [] bq; XN ah.chg <| XQ (i := 14) q (by kernel_rfl) q ah.chg (J q ab) (fun _ => qt_not q) q q <| XQ (i := 15) q (by kernel_rfl) q ah.chg q (fun _ => zf q ab q) q q <| XQ (i := 16) q (by kernel_rfl) q ah.chg q (fun _ => qt_move q) q q <| XS (i := 17) q (by kernel_rfl) q ah.chg q aj q q <| XS (i := 18) q (by kernel_rfl) q ah.chg q aj q q <| XS (i := 19) q (by kernel_rfl) q ah.chg q aj q q <| XS (i := 20) q (by kernel_rfl) q ah.chg q aj q q <| XS (i := 21) q (by kernel_rfl) q ah.chg q aj q q <| XS (i := 22) q (by kernel_rfl) q ah.chg q aj q q ?_
   exact XQ (i := 23) q (by kernel_rfl) q ah.chg q (fun _ => ze q aj q) q q <| XQ (i := 24) q (by kernel_rfl) q ah.chg q (fun _ => qt_move q) q q <| XS (i := 25) q (by kernel_rfl) q ah.chg q am q q <| XS (i := 26) q (by kernel_rfl) q ah.chg q am q q <| XS (i := 27) q (by kernel_rfl) q ah.chg q am q q <| XS (i := 28) q (by kernel_rfl) q ah.chg q am q q <| XS (i := 29) q (by kernel_rfl) q ah.chg q am q q <| XS (i := 30) q (by kernel_rfl) q ah.chg q am q q <| XS (i := 31) q (by kernel_rfl) q ah.chg q am q q <| XS (i := 32) q (by kernel_rfl) q ah.chg q am q q <| XS (i := 33) q (by kernel_rfl) q ah.chg q am q q <| XS (i := 34) q (by kernel_rfl) q ah.chg q am q q <| XS (i := 35) q (by kernel_rfl) q ah.chg q am q q <| XS (i := 36) q (by kernel_rfl) q ah.chg q am q q <| XQ (i := 37) q (by kernel_rfl) q ah.chg q (fun _ => ze q am q) q q <| have br := az.cN0 [] ah; XC_done (by kernel_rfl) fun a ha => ⟨ha.s, br.p5.p5.p5.p5.p5⟩
  refine have aO := if_f aj aK; O aO fun bt au aO => ?_
  obtain rfl := L aO
  rcases btf (decide (bt < 1)) with ag | ag
  ·have bu := if_t ag aF
   obtain rfl := L bu
   refine XQ (i := 0) q (by kernel_rfl) q aa.chg q (fun _ => qt_move q) q q <| XQ (i := 1) q (by kernel_rfl) q aa.chg q (fun _ => qt_fieldAddr uf31 fi31_4 nz29 q) q q <| have bv := HasB.bx (HasB.c (HasB.hd)) aa.ctx; XT (i := 2) q (by kernel_rfl) q aa.chg q (qs_cell u29 q q (bv.cell (i := 4) q) aa.chg (Ctx.outB ak (HasB.c (HasB.hd)))) q q <| XT (i := 3) q (by kernel_rfl) q aa.chg q (qs_len (t := ty14) aa.ctx hS5 u29 q) q q <| XQ (i := 4) q (by kernel_rfl) q aa.chg q (fun _ => qt_sub q q) q q <| X1 5 (by kernel_rfl) q <| U0 q c60 (w_spec_l1In aE aa.ctx) fun cR bw => have ap := aa.cN0 [] bw; XN ap.chg <| XQ (i := 6) q (by kernel_rfl) q ap.chg q (fun _ => qt_not q) q q <| XQ (i := 7) q (by kernel_rfl) q ap.chg q (fun _ => qt_move q) q q <| XQ (i := 8) q (by kernel_rfl) q ap.chg (J q ab) (fun _ => qt_move q) q q <| XQ (i := 9) q (by kernel_rfl) q ap.chg (J q ab) (fun _ => qt_fieldAddr uf31 fi31_0 nz28 q) q q ?_
   refine have bz := HasB.bx (HasB.c (HasB.hd)) ap.ctx; XT (i := 10) q (by kernel_rfl) q ap.chg (J q ab) (qs_cell u28 q q (bz.cell (i := 0) q) ap.chg (Ctx.outB ak (HasB.c (HasB.hd)))) q q <| XT (i := 11) q (by kernel_rfl) q ap.chg (J q ab) (qs_len (t := ty12) ap.ctx hS2 u28 q) q q <| XQ (i := 12) q (by kernel_rfl) q ap.chg (J q ab) (fun _ => qt_sub q q) q q <| X1 13 (by kernel_rfl) q <| V0 (J q ab) q c60 (w_spec_l1In aN ap.ctx) q fun cS bA => have af := ap.cN0 [] bA; XN af.chg <| XQ (i := 14) q (by kernel_rfl) q af.chg (J q ab) (fun _ => qt_not q) q q <| XQ (i := 15) q (by kernel_rfl) q af.chg q (fun _ => zf q ab q) q q <| XQ (i := 16) q (by kernel_rfl) q af.chg q (fun _ => qt_move q) q q <| XQ (i := 17) q (by kernel_rfl) q af.chg (J q aj) (fun _ => qt_fieldAddr uf31 fi31_2 nz23 q) q q <| have bB := HasB.bx (HasB.c (HasB.hd)) af.ctx; XT (i := 18) q (by kernel_rfl) q af.chg (J q aj) (qs_cell u23 q q (bB.cell (i := 2) q) af.chg (Ctx.outB ak (HasB.c (HasB.hd)))) q q <| XQ (i := 19) q (by kernel_rfl) q af.chg (J q aj) (fun _ => qt_move q) q q ?_
   obtain ⟨cT, cU, cV, aP⟩ := Ctx.isAt af.ctx hS4 au
   refine XT (i := 20) q (by kernel_rfl) q af.chg (J q aj) (qs_index au aP u23 i3 q q) q q ?_
   obtain ⟨cW, bC, cX⟩ := af.at hS4 au aP
   refine XT (i := 21) q (by kernel_rfl) q af.chg (J q aj) (qs_cell u3 q q (AtP.cInt bC) af.chg (Ctx.outHas ak hS4 au aP)) q q <| XQ (i := 22) q (by kernel_rfl) q af.chg (J q aj) (fun _ => qt_lss q q) q q <| XQ (i := 23) q (by kernel_rfl) q af.chg q (fun _ => zf q aj q) q q <| XQ (i := 24) q (by kernel_rfl) q af.chg q (fun _ => qt_move q) q q <| XS (i := 25) q (by kernel_rfl) q af.chg q ag q q <| XS (i := 26) q (by kernel_rfl) q af.chg q ag q q <| XS (i := 27) q (by kernel_rfl) q af.chg q ag q q <| XS (i := 28) q (by kernel_rfl) q af.chg q ag q q <| XS (i := 29) q (by kernel_rfl) q af.chg q ag q q <| XS (i := 30) q (by kernel_rfl) q af.chg q ag q q <| XS (i := 31) q (by kernel_rfl) q af.chg q ag q q <| XS (i := 32) q (by kernel_rfl) q af.chg q ag q q <| XS (i := 33) q (by kernel_rfl) q af.chg q ag q q <| XS (i := 34) q (by kernel_rfl) q af.chg q ag q q <| XS (i := 35) q (by kernel_rfl) q af.chg q ag q q <| XS (i := 36) q (by kernel_rfl) q af.chg q ag q q <| XQ (i := 37) q (by kernel_rfl) q af.chg q (fun _ => ze q ag q) q q ?_
   exact have bD := az.cN0 [] af; XC_done (by kernel_rfl) fun a ha => ⟨ha.s, bD.p5.p5.p5.p5.p5⟩
  refine have av := if_f ag aF; O av fun cY aG av => O av fun cZ bF av => O av fun c0 bG av => ?_
  obtain rfl := L av
  refine XQ (i := 0) q (by kernel_rfl) q aa.chg q (fun _ => qt_move q) q q <| XQ (i := 1) q (by kernel_rfl) q aa.chg q (fun _ => qt_fieldAddr uf31 fi31_4 nz29 q) q q <| have bH := HasB.bx (HasB.c (HasB.hd)) aa.ctx; XT (i := 2) q (by kernel_rfl) q aa.chg q (qs_cell u29 q q (bH.cell (i := 4) q) aa.chg (Ctx.outB ak (HasB.c (HasB.hd)))) q q <| XT (i := 3) q (by kernel_rfl) q aa.chg q (qs_len (t := ty14) aa.ctx hS5 u29 q) q q <| XQ (i := 4) q (by kernel_rfl) q aa.chg q (fun _ => qt_sub q q) q q <| X1 5 (by kernel_rfl) q <| U0 q c60 (w_spec_l1In aE aa.ctx) fun c1 bI => have aq := aa.cN0 [] bI; XN aq.chg <| XQ (i := 6) q (by kernel_rfl) q aq.chg q (fun _ => qt_not q) q q <| XQ (i := 7) q (by kernel_rfl) q aq.chg q (fun _ => qt_move q) q q <| XQ (i := 8) q (by kernel_rfl) q aq.chg (J q ab) (fun _ => qt_move q) q q <| XQ (i := 9) q (by kernel_rfl) q aq.chg (J q ab) (fun _ => qt_fieldAddr uf31 fi31_0 nz28 q) q q ?_
  refine have bJ := HasB.bx (HasB.c (HasB.hd)) aq.ctx; XT (i := 10) q (by kernel_rfl) q aq.chg (J q ab) (qs_cell u28 q q (bJ.cell (i := 0) q) aq.chg (Ctx.outB ak (HasB.c (HasB.hd)))) q q <| XT (i := 11) q (by kernel_rfl) q aq.chg (J q ab) (qs_len (t := ty12) aq.ctx hS2 u28 q) q q <| XQ (i := 12) q (by kernel_rfl) q aq.chg (J q ab) (fun _ => qt_sub q q) q q <| X1 13 (by kernel_rfl) q <| V0 (J q ab) q c60 (w_spec_l1In aN aq.ctx) q fun c2 bK => have ad := aq.cN0 [] bK; XN ad.chg <| XQ (i := 14) q (by kernel_rfl) q ad.chg (J q ab) (fun _ => qt_not q) q q <| XQ (i := 15) q (by kernel_rfl) q ad.chg q (fun _ => zf q ab q) q q <| XQ (i := 16) q (by kernel_rfl) q ad.chg q (fun _ => qt_move q) q q <| XQ (i := 17) q (by kernel_rfl) q ad.chg (J q aj) (fun _ => qt_fieldAddr uf31 fi31_2 nz23 q) q q <| have bL := HasB.bx (HasB.c (HasB.hd)) ad.ctx; XT (i := 18) q (by kernel_rfl) q ad.chg (J q aj) (qs_cell u23 q q (bL.cell (i := 2) q) ad.chg (Ctx.outB ak (HasB.c (HasB.hd)))) q q <| XQ (i := 19) q (by kernel_rfl) q ad.chg (J q aj) (fun _ => qt_move q) q q ?_
  obtain ⟨c3, c4, da, aQ⟩ := Ctx.isAt ad.ctx hS4 au
  refine XT (i := 20) q (by kernel_rfl) q ad.chg (J q aj) (qs_index au aQ u23 i3 q q) q q ?_
  obtain ⟨db, bM, dc⟩ := ad.at hS4 au aQ
  refine XT (i := 21) q (by kernel_rfl) q ad.chg (J q aj) (qs_cell u3 q q (AtP.cInt bM) ad.chg (Ctx.outHas ak hS4 au aQ)) q q <| XQ (i := 22) q (by kernel_rfl) q ad.chg (J q aj) (fun _ => qt_lss q q) q q <| XQ (i := 23) q (by kernel_rfl) q ad.chg q (fun _ => zf q aj q) q q <| XQ (i := 24) q (by kernel_rfl) q ad.chg q (fun _ => qt_move q) q q <| XQ (i := 25) q (by kernel_rfl) q ad.chg (J q ag) (fun _ => qt_fieldAddr uf31 fi31_0 nz28 q) q q <| have bN := HasB.bx (HasB.c (HasB.hd)) ad.ctx; XT (i := 26) q (by kernel_rfl) q ad.chg (J q ag) (qs_cell u28 q q (bN.cell (i := 0) q) ad.chg (Ctx.outB ak (HasB.c (HasB.hd)))) q q <| XQ (i := 27) q (by kernel_rfl) q ad.chg (J q ag) (fun _ => qt_fieldAddr uf31 fi31_4 nz29 q) q q <| have bO := HasB.bx (HasB.c (HasB.hd)) ad.ctx; XT (i := 28) q (by kernel_rfl) q ad.chg (J q ag) (qs_cell u29 q q (bO.cell (i := 4) q) ad.chg (Ctx.outB ak (HasB.c (HasB.hd)))) q q <| XQ (i := 29) q (by kernel_rfl) q ad.chg (J q ag) (fun _ => qt_move q) q q ?_
  obtain ⟨dd, de, df, aR⟩ := Ctx.isAt ad.ctx hS5 aG
  refine XT (i := 30) q (by kernel_rfl) q ad.chg (J q ag) (qs_index aG aR u29 i89 q q) q q <| XQ (i := 31) q (by kernel_rfl) q ad.chg (J q ag) (fun _ => qt_fieldAddr uf89 fi89_0 nz3 q) q q ?_
  obtain ⟨dg, bP, dh⟩ := ad.at hS5 aG aR
  obtain ⟨di, bQ, dj⟩ := AtP.fst bP
  exact XT (i := 32) q (by kernel_rfl) q ad.chg (J q ag) (qs_cell u3 q q (AtP.cInt bQ) ad.chg (Ctx.outHas ak hS5 aG aR)) q q <| XQ (i := 34) q (by kernel_rfl) q ad.chg (J q ag) (fun _ => qt_move q) q q <| X1 33 (by kernel_rfl) q <| V1 (J q ag) q c35 (w_spec_FreeOf bF hS2 ad.ctx) q fun dk dl bR => have aS := ad.cN1 [] bR; XN aS.chg <| X1 35 (by kernel_rfl) q <| V0 (J q ag) q c62 (w_spec_l1Has bG hS0 aS.ctx) q fun dm bS => have aH := aS.cN0 [] bS; XN aH.chg <| XQ (i := 36) q (by kernel_rfl) q aH.chg (J q ag) (fun _ => qt_not q) q q <| XQ (i := 37) q (by kernel_rfl) q aH.chg q (fun _ => zf q ag q) q q <| have bT := az.cN1 [] aH; XC_done (by kernel_rfl) fun a ha => ⟨ha.s, bT.q0.p5.p5.p5.p5.p5⟩
 rintro a bV ⟨ha, aA⟩
 refine S1 ha ?_
 refine Yh q h (fun h => ?_) (fun h => ?_)
 ·cases h
  exact rR <| eA aA.p0 us31 uo31 il31 q <| have aB := aA.p5; zl (cs' := [A0, A1, A2, iV B3, A4]) aB q il31 q (T (aB.ctx.sliceOne hS2) (T (aB.ctx.sliceOne hS3) (T (aB.ctx.sliceOne hS4) (T q (T (aB.ctx.sliceOne hS5) q))))) q q q fun dn aY => qa q <| B <| W fun a ha => have bW := R aY.p0; m (retct q ha q q (run_loadVar_bx (cs := [A0, A1, A2, iV B3, A4]) us31 uo31 il31 bW) ⟨A0, A1, A2, A4, q, aY.q0.q0.p3.p3.p3.p3⟩)
 refine y <| rR <| qf uf31 fi31_4 nz29 q <| ql u29 aA.p0 q <| qm q <| O h fun aw aZ h => qb aA.ctx hS4 aZ u29 i89 q fun dq dr ds bY => ?_
 obtain ⟨dt, bZ, b0⟩ := aA.atN hS4 aZ bY
 refine XL_load_agg (t := ty14) us89 uo89 i89 bZ q q q fun du b4 => ?_
 obtain ⟨dv, dw, dx, dy, rfl, a0, b6, b7⟩ := b4
 obtain ⟨rfl, _⟩ := b6
 obtain ⟨dz, dA, dB, dC, rfl, a1, b8, b9⟩ := b7
 obtain ⟨aI, rfl, ca⟩ := Rep.sl_inv b8
 obtain ⟨aJ, rfl, cb⟩ := Rep.sl_inv b9
 have cc : Holds _ w bV [.ro ty2 aI aw.2.1, .ro tI aJ aw.2.2, .bx b1 31 [A0, A1, A2, iV B3, A4], .sl 95 ty12 A0 B0, .sl 3 tI A1 B1, .sl 3 tI A2 B2, .sl 89 ty14 A4 B4, .bx b5 31 [nS, nS, nS, iV 0, nS]] G := b0 [.ro ty2 aI aw.2.1, .ro tI aJ aw.2.2] ⟨⟨_, _, _, _, q, ca, (fun k h => (fun k h => (fun _ h => h) k (by rw [a0]; exact zx _ h)) k (by rw [a1]; exact List.mem_append_left _ h))⟩, ⟨_, _, _, _, q, cb, (fun k h => (fun k h => (fun _ h => h) k (by rw [a0]; exact zx _ h)) k (by rw [a1]; exact zx _ h))⟩, trivial⟩
 change XL _ _ _ _ _ ((54, .agg #[iV aw.1, aI, aJ]) :: _) _
 refine zq (cs := [iV 0, nS, nS]) cc z89 q q q fun dD dE aT => zl (cs' := [iV aw.1, aI, aJ]) aT q il89 q (T q (T (aT.ctx.sliceOne hR1) (T (aT.ctx.sliceOne hR2) q))) q q q fun dF cd => B <| C <| Z <| zs (t := ty2) (args := []) (xs := ([] : LP)) cd (BltL.nil) u87 j103 q q q q q q fun dG dH a2 => qf uf89 fi89_1 nz87 q <| ql u87 a2.p1 q <| O h fun dI ce h => zw a2 hR2 ce u87 j103 q q q q q q fun dJ dK cf => qm q <| qi (qt_build (args := [(0, .tmp 59)]) (css := [#[iV p3]]) (cells := #[iV p3, iV 0]) q ⟨q, trivial⟩ (by kernel_rfl)) q <| zs (t := ty2) (args := [.tmp 60]) (xs := ([(p3, 0)] : LP)) cf (BltL.cons (Blt.pair (Blt.int) (Blt.int)) q (BltL.nil)) u87 j103 q q q q q q fun dL dM cg => O h fun dN ci h => zw cg.p1 hS1 ci u87 j103 q q q q q q fun cj dO ck => qf uf89 fi89_1 nz87 q <| have aU := ck.p2; WL_store_bx aU q il87 (aU.ctx.sliceCells hS1) (aU.ctx.sliceOne hS1) q q q fun dP cl => ?_
 refine B <| C <| Z <| zs (t := tI) (args := []) (xs := ([] : List Int)) cl (BltL.nil) u23 j3 q q q q q q fun dQ dR a3 => qf uf89 fi89_2 nz23 q <| ql u23 a3.p1 q <| O h fun dS cm h => zw a3 hR5 cm u23 j3 q q q q q q fun dT dU cn => qm q <| zs (t := tI) (args := [.tmp 68]) (xs := ([p2] : List Int)) cn (BltL.cons (Blt.int) q (BltL.nil)) u23 j3 q q q q q q fun dV dW co => O h fun dX cq h => zw co.p1 hS1 cq u23 j3 q q q q q q fun cr dY ct => qf uf89 fi89_2 nz23 q <| have aV := ct.p2; WL_store_bx aV q il23 (aV.ctx.sliceCells hS1) (aV.ctx.sliceOne hS1) q q q fun dZ aW => B <| C <| C <| zk <| qf uf89 fi89_1 nz87 q <| ql u87 aW.p0 q <| O h fun d0 cu h => qc q c61 aW (fun _ => w_spec_TicketValid cu hS3) <| qi (qt_not q) q <| Qn aW fun a ha d1 ax => X <| S1 ha ?_
 refine Yh q h (fun h => ?_) (fun h => ?_)
 ·cases h
  exact rR <| eA ax.p7 us31 uo31 il31 q <| have aC := ax.p12; zl (cs' := [A0, A1, A2, iV B3, A4]) aC q il31 q (T (aC.ctx.sliceOne hS9) (T (aC.ctx.sliceOne hS10) (T (aC.ctx.sliceOne hS11) (T q (T (aC.ctx.sliceOne hS12) q))))) q q q fun d2 a4 => qa q <| B <| W fun a ha => have cv := R a4.p0; m (retct q ha q q (run_loadVar_bx (cs := [A0, A1, A2, iV B3, A4]) us31 uo31 il31 cv) ⟨A0, A1, A2, A4, q, a4.q0.q0.q0.q0.q0.q0.q0.q0.q0.p3.p3.p3.p3⟩)
 refine y <| rR <| qf uf31 fi31_4 nz29 q <| ql u29 ax.p7 q <| qm q <| eA ax.p0 us89 uo89 il89 q <| O h fun d3 a5 h => qb ax.ctx hS11 a5 u29 i89 q fun d4 d5 d6 cx => WL_storeH (fo := 0) (cs' := [iV aw.1, cj, cr]) ax.p11.p4.freeze.p3.freeze.p2 a5 cx (Upd.whole (Blt.pair (Blt.int) (Blt.pair (Blt.slice hO2) (Blt.slice hO1)))) q il89 q q q q fun d7 cE => B <| C <| WP_tail 9 (by kernel_rfl) (by kernel_rfl) fun d8 cF => have ay := cE.grow cF; qf uf31 fi31_2 nz23 q <| ql u23 ay.p8 q <| qm q <| qf uf31 fi31_2 nz23 q <| ql u23 ay.p8 q <| qm q <| O h fun cG a6 h => qe ay hS11 a6 u23 i3 q fun _ _ cH => ?_
 refine eI u3 cH q <| qi (qt_sub q q) q <| SL_nil <| O h fun ec a7 h => qb ay.ctx hS11 a7 u23 i3 q fun ed ee ef cI => WL_storeH (fo := 0) (cs' := [iV (IntKind.wrap .i64 (cG - 1))]) ay.p11 a7 cI (Upd.whole (Blt.int)) q il3 q q q q fun eg a8 => rN <| eA a8.p9 us31 uo31 il31 q <| have aD := a8.p12; zl (cs' := [A0, A1, A2, iV B3, A4]) aD q il31 q (T (aD.ctx.sliceOne hS11) (T (aD.ctx.sliceOne hS12) (T (aD.ctx.sliceOne hS1) (T q (T (aD.ctx.sliceOne hS2) q))))) q q q fun eh a9 => qa q <| B <| W fun a ha => ?_
 cases h
 refine have cK := R a9.p0; ?_
 exact retct q ha q q (run_loadVar_bx (cs := [A0, A1, A2, iV B3, A4]) us31 uo31 il31 cK) ⟨A0, A1, A2, A4, q, a9.q0.q2.q2.q2.q2.q2.q2.q2.q2.p1.p1.p3.p3⟩
theorem w_spec_l7Tickets {w G A0 B0 A1 B1 A2 B2 B3 A4 B4 r} (h : spec_l7TicketsS B0 B1 B2 B3 B4 = some r) (C0 : Has G ty12 A0 B0) (C1 : Has G tI A1 B1) (C2 : Has G tI A2 B2) (C4 : Has G ty14 A4 B4) (H : Ctx w G) : Calls Tryz.prog 33 #[.agg #[A0, A1, A2, iV B3, A4]] w fun e w' => ∃ (v1 : Value), e = .returned (v1) ∧ Holds M0 w w' [.sl 87 ty4 v1 r] G := by
 refine F0 23 H Tryz.func33 q fun H => ?_
 refine C <| Z <| WL_box (cs := [A0, A1, A2, iV B3, A4]) H q q q q fun b1 w2 H3 => qa q <| B <| C <| Z <| zs (t := ty4) (args := []) (xs := ([] : List LP)) H3 (BltL.nil) u65 j87 q q q q q q fun v5 w6 H7 => qa q <| B <| C <| rR <| qa q <| B <| g <| O h fun aA aj h => ?_
 refine fun aB al => zp (I := fun (s9, ae) a w2 => ∃ ad, Fr a 23 [(1, pB b1), (3, ad), (4, iV ae)] ∧ Holds M0 w w2 [.bx b1 31 [A0, A1, A2, iV B3, A4], .sl 87 ty4 ad s9] G) (O := fun q0 e a w2 => e = .exit 0 ∧ ∃ af, Fr a 23 [(3, af)] ∧ Holds M0 w w2 [.sl 87 ty4 af q0] G) aj ?_ ?_ ?_
 ·exact ⟨v5, al.s, H7.p1⟩
 ·rintro ⟨s9, ae⟩ _ a aC aa ⟨ad, ha, ab⟩
  refine S1 ha <| C <| rR <| qm q <| qf uf31 fi31_4 nz29 q <| ql u29 ab.p0 q <| qz ab.ctx (C4.c.c) u29 q <| qi (qt_lss q q) q <| B ?_
  refine Yh q aa (fun aa => ?_) (fun aa => ?_)
  ·refine y <| C <| g <| Z <| qm q <| qf uf31 fi31_4 nz29 q <| ql u29 ab.p0 q <| qm q <| O aa fun am ag aa => qe ab (C4.c.c) ag u29 i89 q fun _ _ ao => qf uf89 fi89_1 nz87 q <| eV u87 ao.s.f q fun aG ah => zs (t := ty4) (args := [.tmp 19]) (xs := ([am.2.1] : List LP)) ah (BltL.cons (Blt.slice hO0) (ah.ctx.sliceList hR0) (BltL.nil)) u65 j87 q q q q q q fun aH aI ap => O aa fun aJ ar aa => zw ap.p3 hS1 ar u65 j87 q q q q q q fun au aK av => qa q <| WL_nil fun a ha => zi <| X <| S1 ha <| Z <| qm q <| qi (qt_add q q) q <| qa q <| WL_nil fun a ha => ?_
   cases aa
   exact ⟨q, au, ha.s, av.q1.q1.p1⟩
  cases aa
  exact WP_exit fun a ha => zo (⟨exit_ne, q, ad, ha.s, ab.q0⟩)
 rintro _ a aL ⟨rfl, ay, ha, az⟩
 refine zn <| X <| S1 ha <| rR <| qm q <| qa q <| B <| W fun a ha => ?_
 obtain rfl := L h
 exact ret1 q ha q ⟨ay, q, az⟩
theorem w_spec_KitchenValid {w G vp0 p0 r} (h : spec_KitchenValidS p0 = some r) (hp0 : Has G ty4 vp0 p0) (H : Ctx w G) : Calls Tryz.prog 70 #[vp0] w fun e w' => e = .returned (.bool r) ∧ Holds M0 w w' [] G := by
 refine F0 19 H Tryz.func70 q fun H => ?_
 refine rR <| qa q <| B <| C <| rR <| qa q <| B <| g <| O h fun o2 aj h => ?_
 refine fun a4 ak => zp (I := fun s1 a w2 => (Fr a 19 [(0, vp0), (3, iV s1)] ∧ Holds M0 w w2 [] G)) (O := fun o e a w2 => match o with | .inl _ => e = .exit 0 ∧ (Fr a 19 [(0, vp0)] ∧ Holds M0 w w2 [] G) | .inr q0 => e = .ret ∧ (Fr a 19 [(2, .bool q0)] ∧ Holds M0 w w2 [] G)) aj ?_ ?_ ?_
 ·exact ⟨ak.s, H⟩
 ·rintro s1 _ a w6 aa ⟨ha, ab⟩
  refine S1 ha <| C <| rR <| qm q <| qm q <| qz ab.ctx (hp0) u65 q <| qi (qt_lss q q) q <| B ?_
  refine Yh q aa (fun aa => ?_) (fun aa => ?_)
  ·refine y <| C <| g <| C <| zk <| qm q <| qm q <| O aa fun ar ad aa => qe ab (hp0) ad u65 i87 q fun _ _ al => eV u87 al q fun ax ae => O aa fun ay am aa => qc q c61 ae (fun _ => w_spec_TicketValid am hR0) <| qi (qt_not q) q <| Qn ae fun a ha az af => X <| S1 ha ?_
   refine Yh q aa (fun aa => ?_) (fun aa => ?_)
   ·cases aa
    exact rR <| qa q <| B <| W fun a ha => zj (m (⟨ret_ne, q, ha.s, af.q0⟩))
   cases aa
   exact WP_skip fun a ha => zi <| X <| S1 ha <| Z <| qm q <| qi (qt_add q q) q <| qa q <| WL_nil fun a ha => ⟨q, ha.s, af.q0⟩
  cases aa
  exact WP_exit fun a ha => zo (⟨exit_ne, q, ha.s, ab⟩)
 intro e a aA ag
 rcases o2 with o2 | o2
 ·obtain ⟨rfl, ha, ah⟩ := ag
  cases h
  exact zn <| X <| S1 ha <| rR <| qm q <| qz ah.ctx (hp0) u65 q <| qi (qt_leq q q) q <| qa q <| B <| W fun a ha => ret1 q ha q ⟨q, ah⟩
 obtain ⟨rfl, ha, aq⟩ := ag
 obtain rfl := L h
 exact zj (m (ret1 q ha q ⟨q, aq⟩))
theorem w_spec_l4Copy {w G vp0 p0 r} (h : spec_l4CopyS p0 = some r) (hp0 : Has G ty4 vp0 p0) (H : Ctx w G) : Calls Tryz.prog 132 #[vp0] w fun e w' => ∃ (v1 : Value), e = .returned (v1) ∧ Holds M0 w w' [.sl 87 ty4 v1 r] G := by
 refine F0 22 H Tryz.func132 q fun H => ?_
 refine rR <| qa q <| B <| C <| Z <| zs (t := ty4) (args := []) (xs := ([] : List LP)) H (BltL.nil) u65 j87 q q q q q q fun v1 w2 H3 => qa q <| B <| C <| rR <| qa q <| B <| g <| O h fun o7 aj h => ?_
 refine fun a9 ak => zp (I := fun (s5, s6) a w2 => ∃ ab, Fr a 22 [(0, vp0), (3, ab), (4, iV s6)] ∧ Holds M0 w w2 [.sl 87 ty4 ab s5] G) (O := fun q0 e a w2 => e = .exit 0 ∧ ∃ ae, Fr a 22 [(3, ae)] ∧ Holds M0 w w2 [.sl 87 ty4 ae q0] G) aj ?_ ?_ ?_
 ·exact ⟨v1, ak.s, H3⟩
 ·rintro ⟨s5, s6⟩ _ a aC aa ⟨ab, ha, ad⟩
  refine S1 ha <| C <| rR <| qm q <| qm q <| qz ad.ctx (hp0.c) u65 q <| qi (qt_lss q q) q <| B ?_
  refine Yh q aa (fun aa => ?_) (fun aa => ?_)
  ·refine y <| C <| g <| Z <| qm q <| zs (t := ty2) (args := []) (xs := ([] : LP)) ad (BltL.nil) u87 j103 q q q q q q fun aD aE af => qm q <| qm q <| O aa fun aF ag aa => qe af (hp0.c.c) ag u65 i87 q fun _ _ al => eV u87 al q fun aJ am => O aa fun ap aq aa => zw am.p1 hR1 aq u87 j103 q q q q q q fun aK aL ar => have ah := ar.freeze; zs (t := ty4) (args := [.tmp 18]) (xs := ([ap] : List LP)) ah (BltL.cons (Blt.slice hO0) (ah.ctx.sliceList hR0) (BltL.nil)) u65 j87 q q q q q q fun aM aN au => O aa fun aO aw aa => zw au.p3 hS1 aw u65 j87 q q q q q q fun ax aP ay => qa q <| WL_nil fun a ha => ?_
   cases aa
   exact zi <| X <| S1 ha <| Z <| qm q <| qi (qt_add q q) q <| qa q <| WL_nil fun a ha => ⟨q, ax, ha.s, ay.q1.q1.q1⟩
  cases aa
  exact WP_exit fun a ha => zo (⟨exit_ne, q, ab, ha.s, ad⟩)
 rintro _ a aQ ⟨rfl, aA, ha, aB⟩
 refine zn <| X <| S1 ha <| rR <| qm q <| qa q <| B <| W fun a ha => ?_
 obtain rfl := L h
 exact ret1 q ha q ⟨aA, q, aB⟩
theorem w_spec_l4Next {w G p0 p1 r} (h : spec_l4NextS p0 p1 = some r) (H : Ctx w G) : Calls Tryz.prog 157 #[iV p0, iV p1] w fun e w' => e = .returned (iV r) ∧ Holds M0 w w' [] G := by
 refine F0 33 H Tryz.func157 q fun H => ?_
 refine rR <| qa q <| B <| C <| g <| rR <| qm q <| qi (qt_eql q q) q <| qm q ?_
 refine Ha (res := ((p1 == 0) && (p0 == 0))) 2 an (fun aa K2 af => ?_) ?_
 ·exact jm aa q <| ji (qt_eql q q) aa q <| af 2 q q q (ai aa)
 refine qa q <| B ?_
 refine Yh q h (fun h => ?_) (fun h => ?_)
 ·cases h
  exact rR <| qa q <| B <| W fun a ha => zj (m (ret1 q ha q ⟨q, H⟩))
 refine rR <| qm q <| qi (qt_eql q q) q <| qm q ?_
 refine Ha (res := ((p1 == 1) && (p0 == 1))) 2 an (fun ab K5 ag => ?_) ?_
 ·exact jm ab q <| ji (qt_eql q q) ab q <| ag 2 q q q (ai ab)
 refine qa q <| B ?_
 refine Yh q h (fun h => ?_) (fun h => ?_)
 ·cases h
  exact rR <| qa q <| B <| W fun a ha => zj (m (ret1 q ha q ⟨q, H⟩))
 refine rR <| qm q <| qi (qt_eql q q) q <| qm q ?_
 refine Ha (res := ((p1 == 2) && (p0 == 2))) 2 an (fun ad K8 ah => ?_) ?_
 ·exact jm ad q <| ji (qt_eql q q) ad q <| ah 2 q q q (ai ad)
 refine qa q <| B ?_
 refine Yh q h (fun h => ?_) (fun h => ?_)
 ·cases h
  exact rR <| qa q <| B <| W fun a ha => zj (m (ret1 q ha q ⟨q, H⟩))
 refine rR <| qm q <| qi (qt_eql q q) q <| qm q ?_
 refine Ha (res := ((p1 == 3) && (decide (p0 < 3)))) 2 an (fun ae ak aj => ?_) ?_
 ·exact jm ae q <| ji (qt_lss q q) ae q <| aj 2 q q q (ai ae)
 refine qa q <| B ?_
 refine Yh q h (fun h => ?_) (fun h => ?_)
 ·cases h
  exact rR <| qa q <| B <| W fun a ha => zj (m (ret1 q ha q ⟨q, H⟩))
 cases h
 exact WP_skip fun a ha => zi <| X <| S1 ha <| rR <| qa q <| B <| W fun a ha => ret1 q ha q ⟨q, H⟩
theorem w_spec_TicketDo {w G vp0 p0 p1 p2 r} (h : spec_TicketDoS p0 p1 p2 = some r) (hp0 : Has G ty2 vp0 p0) (H : Ctx w G) : Calls Tryz.prog 133 #[vp0, iV p1, iV p2] w fun e w' => ∃ (v1 : Value), e = .returned (.tuple #[v1, .bool r.2]) ∧ Holds M0 w w' [.sl 103 ty2 v1 r.1] G := by
 refine F0 46 H Tryz.func133 q fun H => ?_
 refine rR <| qa q <| qa q <| B <| C <| C <| zk <| qm q <| O h fun x1 ak h => qc q c61 H (fun _ => w_spec_TicketValid ak (hp0)) <| qi (qt_not q) q <| Qn H fun a ha w3 H5 => X <| S1 ha ?_
 refine Yh q h (fun h => ?_) (fun h => ?_)
 ·cases h
  exact C <| Z <| zs (t := ty2) (args := []) (xs := ([] : LP)) H5 (BltL.nil) u87 j103 q q q q q q fun v7 w8 H9 => qa q <| qa q <| B <| W fun a ha => m (ret2 q ha q q ⟨v7, q, H9⟩)
 refine y <| C <| Z <| zs (t := ty2) (args := []) (xs := ([] : LP)) H5 (BltL.nil) u87 j103 q q q q q q fun aB aC al => qm q <| O h fun aD am h => zw al (hp0.c) am u87 j103 q q q q q q fun ab aE ad => qa q <| B <| C <| C <| zk <| qm q <| qm q <| qz ad.ctx (hp0.c) u87 q <| qi (qt_sub q q) q <| O h fun aF ao h => qc q c60 ad (fun _ => w_spec_l1In ao) <| qi (qt_not q) q <| Qn ad fun a ha aG aa => X <| S1 ha ?_
 refine Yh q h (fun h => ?_) (fun h => ?_)
 ·cases h
  exact rR <| qm q <| qa q <| qa q <| B <| W fun a ha => m (ret2 q ha q q ⟨ab, q, aa⟩)
 refine y <| C <| zk <| qm q <| qm q <| O h fun aH af h => qe aa (hp0.c) af u87 i103 q fun _ _ ap => qf uf103 fi103_1 nz3 q <| eI u3 ap.s q <| qm q <| O h fun aq ar h => qc q c157 aa (fun _ => w_spec_l4Next ar) <| qa q <| Qn aa fun a ha aL ae => X <| S1 ha <| C <| rR <| qm q <| qi (qt_lss q q) q <| B ?_
 refine Yh q h (fun h => ?_) (fun h => ?_)
 ·cases h
  exact rR <| qm q <| qa q <| qa q <| B <| W fun a ha => m (ret2 q ha q q ⟨ab, q, ae⟩)
 refine y <| rR <| qm q <| qm q <| qm q <| O h fun aM ag h => qb ae.ctx hS0 ag u87 i103 q fun aN aO aP au => qf uf103 fi103_1 nz3 q <| WL_storeH (fo := 1) (cs' := [iV aq]) ae ag au (Upd.snd (Upd.whole (Blt.int))) q il3 q q q q fun aQ ah => B <| C <| C <| zk <| qm q <| O h fun aR av h => qc q c61 ah (fun _ => w_spec_TicketValid av hS0) <| qi (qt_not q) q <| Qn ah fun a ha aS aj => X <| S1 ha ?_
 refine Yh q h (fun h => ?_) (fun h => ?_)
 ·refine C <| Z <| zs (t := ty2) (args := []) (xs := ([] : LP)) aj (BltL.nil) u87 j103 q q q q q q fun aT aU aw => qm q <| O h fun aV ax h => zw aw (hp0.c.c) ax u87 j103 q q q q q q fun ay aW az => qa q <| qa q <| B <| W fun a ha => ?_
  cases h
  exact m (ret2 q ha q q ⟨ay, q, az.q1⟩)
 cases h
 exact y <| rR <| qm q <| qa q <| qa q <| B <| W fun a ha => ret2 q ha q q ⟨ab, q, aj⟩
theorem w_spec_TicketMay {w G vp0 p0 r} (h : spec_TicketMayS p0 = some r) (hp0 : Has G ty2 vp0 p0) (H : Ctx w G) : Calls Tryz.prog 158 #[vp0] w fun e w' => ∃ (v1 : Value), e = .returned (v1) ∧ Holds M0 w w' [.sl 3 tI v1 r] G := by
 refine F0 26 H Tryz.func158 q fun H => ?_
 refine rR <| qa q <| B <| C <| Z <| zs (t := tI) (args := []) (xs := ([] : List Int)) H (BltL.nil) u23 j3 q q q q q q fun v1 w2 H3 => qa q <| B <| C <| rR <| qa q <| B <| g <| O h fun o7 ag h => ?_
 refine fun a9 ah => zp (I := fun (s5, s6) a w2 => ∃ ab, Fr a 26 [(0, vp0), (3, ab), (4, iV s6)] ∧ Holds M0 w w2 [.sl 3 tI ab s5] G) (O := fun q0 e a w2 => e = .exit 0 ∧ ∃ ae, Fr a 26 [(3, ae)] ∧ Holds M0 w w2 [.sl 3 tI ae q0] G) ag ?_ ?_ ?_
 ·exact ⟨v1, ah.s, H3⟩
 ·rintro ⟨s5, s6⟩ _ a ax aa ⟨ab, ha, ad⟩
  refine S1 ha <| C <| rR <| qm q <| qm q <| qz ad.ctx (hp0.c) u87 q <| qi (qt_lss q q) q <| B ?_
  refine Yh q aa (fun aa => ?_) (fun aa => ?_)
  ·refine y <| C <| g <| rR <| qm q <| qm q <| O aa fun ay aj aa => U1 q c133 (w_spec_TicketDo aj (hp0.c) ad.ctx) fun az aA ak => have af := ad.cN1 [] ak; qm q <| qi (zv q q) q <| qi (zv q q) q <| qa q <| qa q <| rN <| qm q <| B ?_
   refine Yh q aa (fun aa => ?_) (fun aa => ?_)
   ·refine Z <| qm q <| qm q <| zs (t := tI) (args := [.tmp 22]) (xs := ([s6] : List Int)) af (BltL.cons (Blt.int) q (BltL.nil)) u23 j3 q q q q q q fun aB aC al => O aa fun aD ao aa => zw al.p2 hS1 ao u23 j3 q q q q q q fun ap aE aq => qa q <| WL_nil fun a ha => zi <| X <| S1 ha <| Z <| qm q <| qi (qt_add q q) q <| qa q <| WL_nil fun a ha => ?_
    cases aa
    exact ⟨q, ap, ha.s, aq.q1.q1⟩
   cases aa
   exact WP_skip fun a ha => zi <| X <| S1 ha <| Z <| qm q <| qi (qt_add q q) q <| qa q <| WL_nil fun a ha => ⟨q, ab, ha.s, af.q0⟩
  cases aa
  exact WP_exit fun a ha => zo (⟨exit_ne, q, ab, ha.s, ad⟩)
 rintro _ a aF ⟨rfl, av, ha, aw⟩
 refine zn <| X <| S1 ha <| rR <| qm q <| qa q <| B <| W fun a ha => ?_
 obtain rfl := L h
 exact ret1 q ha q ⟨av, q, aw⟩
theorem w_spec_NextFire {w G vp0 p0 r} (h : spec_NextFireS p0 = some r) (hp0 : Has G ty4 vp0 p0) (H : Ctx w G) : Calls Tryz.prog 134 #[vp0] w fun e w' => e = .returned (.tuple #[iV r.1, iV r.2]) ∧ Holds M0 w w' [] G := by
 refine F0 28 H Tryz.func134 q fun H => ?_
 refine rR <| qa q <| qa q <| B <| C <| rR <| qa q <| B <| g <| O h fun o2 am h => ?_
 refine fun a4 ao => zp (I := fun s1 a w2 => (Fr a 28 [(0, vp0), (4, iV s1)] ∧ Holds M0 w w2 [] G)) (O := fun o e a w2 => match o with | .inl _ => e = .exit 0 ∧ (Fr a 28 [] ∧ Holds M0 w w2 [] G) | .inr (q0, q1) => e = .ret ∧ (Fr a 28 [(2, iV q0), (3, iV q1)] ∧ Holds M0 w w2 [] G)) am ?_ ?_ ?_
 ·exact ⟨ao.s, H⟩
 ·rintro s1 _ a w6 aa ⟨ha, ae⟩
  refine S1 ha <| C <| C <| zk <| qm q <| qm q <| qz ae.ctx (hp0) u65 q <| qi (qt_lss q q) q <| qm q <| O aa fun ap ab aa => ?_
  refine Ga (res := ap) 2 (if_f · ab) (fun af aD aq => ?_) ?_
  ·exact have ab := if_t af ab; jm af q <| O ab fun aE ar ab => jc af q c70 ae (fun _ => w_spec_KitchenValid ar (hp0)) <| aq 2 q q q ab
  refine Qn ae fun a ha aF ag => X <| S1 ha ?_
  refine Yh q aa (fun aa => ?_) (fun aa => ?_)
  ·refine y <| C <| g <| rR <| qm q <| qm q <| O aa fun aG ah aa => qe ag (hp0) ah u65 i87 q fun _ _ au => eV u87 au q fun aK aj => O aa fun aL av aa => U1 q c158 (w_spec_TicketMay av hR0 aj.ctx) fun aM aN aw => have ad := aj.cN1 [] aw; qa q <| rN <| qm q <| qz ad.ctx hS0 u23 q <| qi (qt_gtr q q) q <| B ?_
   refine Yh q aa (fun aa => ?_) (fun aa => ?_)
   ·refine C <| WP_quiet (by kernel_rfl) (by kernel_rfl) <| qm q <| qm q <| O aa fun aO ak aa => qe ad hS0 ak u23 i3 q fun _ _ ax => eI u3 ax q <| qa q <| qa q <| Qn ad fun a ha aS ay => X <| S1 ha <| W fun a ha => ?_
    cases aa
    exact zj (m (⟨ret_ne, q, ha.s, ay.q0.q0⟩))
   cases aa
   exact WP_skip fun a ha => zi <| X <| S1 ha <| Z <| qm q <| qi (qt_add q q) q <| qa q <| WL_nil fun a ha => ⟨q, ha.s, ad.q0.q0⟩
  cases aa
  exact WP_exit fun a ha => zo (⟨exit_ne, q, ha.s, ag⟩)
 intro e a aT al
 rcases o2 with o2 | o2
 ·obtain ⟨rfl, ha, aB⟩ := al
  cases h
  exact zn <| X <| S1 ha <| rR <| qa q <| qa q <| B <| W fun a ha => ret2 q ha q q ⟨q, aB⟩
 obtain ⟨aU, aV⟩ := o2
 obtain ⟨rfl, ha, aC⟩ := al
 cases h
 exact zj (m (ret2 q ha q q ⟨q, aC⟩))
theorem w_spec_WorkStep {w G vp0 p0 r} (h : spec_WorkStepS p0 = some r) (hp0 : Has G ty4 vp0 p0) (H : Ctx w G) : Calls Tryz.prog 108 #[vp0] w fun e w' => ∃ (v1 : Value), e = .returned (.tuple #[v1, .bool r.2]) ∧ Holds M0 w w' [.sl 87 ty4 v1 r.1] G := by
 refine F0 77 H Tryz.func108 q fun H => ?_
 refine rR <| qa q <| qa q <| B <| C <| C <| zk <| qm q <| O h fun x1 aN h => qc q c70 H (fun _ => w_spec_KitchenValid aN (hp0)) <| qi (qt_not q) q <| Qn H fun a ha w3 H5 => X <| S1 ha ?_
 refine Yh q h (fun h => ?_) (fun h => ?_)
 ·cases h
  exact C <| Z <| zs (t := ty4) (args := []) (xs := ([] : List LP)) H5 (BltL.nil) u65 j87 q q q q q q fun v7 w8 H9 => qa q <| qa q <| B <| W fun a ha => m (ret2 q ha q q ⟨v7, q, H9⟩)
 refine y <| rR <| qm q <| O h fun bu aO h => U1 q c132 (w_spec_l4Copy aO (hp0) H5.ctx) fun ab bv aP => have aQ := H5.cN1 [] aP; qa q <| B <| C <| rR <| qa q <| B <| g <| O h fun ah aR h => ?_
 refine fun bw aS => zp (I := fun (ag, ar) a w2 => (Fr a 77 [(0, vp0), (4, ab), (5, iV ag)] ∧ Holds M0 w w2 [.sl 87 ty4 ab ar] G)) (O := fun o e a w2 => match o with | .inl q0 => e = .exit 0 ∧ (Fr a 77 [(0, vp0), (4, ab)] ∧ Holds M0 w w2 [.sl 87 ty4 ab q0] G) | .inr (q0, q1, q2) => e = .ret ∧ ∃ ad, Fr a 77 [(2, ad), (3, .bool q1)] ∧ Holds M0 w w2 [.sl 87 ty4 ad q0] G) aR ?_ ?_ ?_
 ·exact ⟨aS.s, aQ⟩
 ·rintro ⟨ag, ar⟩ _ a bz ae ⟨ha, au⟩
  refine S1 ha <| C <| rR <| qm q <| qi (qt_geq q q) q <| B ?_
  refine Yh q ae (fun ae => ?_) (fun ae => ?_)
  ·refine y <| C <| g <| rR <| qa q <| B <| g <| O ae fun aj aT ae => ?_
   refine fun bA aU => zp (I := fun (ak, av) a w2 => (Fr a 77 [(0, vp0), (4, ab), (5, iV ag), (6, iV ak)] ∧ Holds M0 w w2 [.sl 87 ty4 ab av] G)) (O := fun o e a w2 => match o with | .inl q0 => e = .exit 2 ∧ (Fr a 77 [(0, vp0), (4, ab), (5, iV ag)] ∧ Holds M0 w w2 [.sl 87 ty4 ab q0] G) | .inr (q0, q1, q2) => e = .ret ∧ ∃ ad, Fr a 77 [(2, ad), (3, .bool q1)] ∧ Holds M0 w w2 [.sl 87 ty4 ad q0] G) aT ?_ ?_ ?_
   ·exact ⟨aU.s, au⟩
   ·rintro ⟨ak, av⟩ _ a bB af ⟨ha, ao⟩
    refine S1 ha <| C <| rR <| qm q <| qm q <| qz ao.ctx (hp0.c) u65 q <| qi (qt_lss q q) q <| B ?_
    refine Yh q af (fun af => ?_) (fun af => ?_)
    ·refine y <| C <| g <| rR <| qa q <| B <| g <| O af fun al aV af => ?_
     refine fun bC aW => zp (I := fun (aw, ax) a w2 => (Fr a 77 [(0, vp0), (4, ab), (5, iV ag), (6, iV ak), (7, iV aw)] ∧ Holds M0 w w2 [.sl 87 ty4 ab ax] G)) (O := fun o e a w2 => match o with | .inl q0 => e = .exit 4 ∧ (Fr a 77 [(0, vp0), (4, ab), (5, iV ag), (6, iV ak)] ∧ Holds M0 w w2 [.sl 87 ty4 ab q0] G) | .inr (q0, q1, q2) => e = .ret ∧ ∃ ad, Fr a 77 [(2, ad), (3, .bool q1)] ∧ Holds M0 w w2 [.sl 87 ty4 ad q0] G) aV ?_ ?_ ?_
     ·exact ⟨aW.s, ao⟩
     ·rintro ⟨aw, ax⟩ _ a bD aa ⟨ha, ay⟩
      refine S1 ha <| C <| rR <| qm q <| qm q <| qm q <| O aa fun bE az aa => qe ay (hp0.c) az u65 i87 q fun _ _ aX => eV u87 aX q fun bI am => qz am.ctx hR0 u87 q <| qi (qt_lss q q) q <| B ?_
      refine Yh q aa (fun aa => ?_) (fun aa => ?_)
      ·refine y <| C <| g <| rR <| qm q <| qm q <| O aa fun bJ aA aa => qe am (hp0.c.c) aA u65 i87 q fun _ _ aY => eV u87 aY q fun bN aB => qm q <| qm q <| O aa fun bO aZ aa => U1 q c133 (w_spec_TicketDo aZ hR0 aB.ctx) fun a0 bP a1 => have ap := aB.cN1 [] a1; qm q <| qi (zv q q) q <| qi (zv q q) q <| qa q <| qa q <| rN <| qm q <| B ?_
       refine Yh q aa (fun aa => ?_) (fun aa => ?_)
       ·refine rR <| qm q <| qm q <| qm q <| O aa fun bQ aC aa => qb ap.ctx hS3 aC u65 i87 q fun bR bS bT a2 => have aD := ap.p3.p1.freeze.p1; WL_storeH (fo := 0) (cs' := [a0]) aD aC a2 (Upd.whole (Blt.slice hO1)) (aD.ctx.sliceList hR1) il87 q q q q fun bU a6 => rN <| qm q <| qa q <| qa q <| B <| W fun a ha => ?_
        cases aa
        exact zj (m (⟨ret_ne, q, ab, ha.s, a6.q1.q1.q1⟩))
       cases aa
       exact WP_skip fun a ha => zi <| X <| S1 ha <| Z <| qm q <| qi (qt_add q q) q <| qa q <| WL_nil fun a ha => ⟨q, ha.s, ap.q0.q0.q0⟩
      cases aa
      exact WP_exit fun a ha => zo (⟨exit_ne, q, ha.s, am.q0⟩)
     intro e a bV aE
     rcases al with al | al
     ·obtain ⟨rfl, ha, ba⟩ := aE
      cases af
      exact zn <| zi <| X <| S1 ha <| Z <| qm q <| qi (qt_add q q) q <| qa q <| WL_nil fun a ha => ⟨q, ha.s, ba⟩
     obtain ⟨bW, bX, bY⟩ := al
     obtain ⟨rfl, bb, ha, bc⟩ := aE
     cases af
     exact zj (zj (m (⟨ret_ne, q, bb, ha.s, bc⟩)))
    cases af
    exact WP_exit fun a ha => zo (⟨exit_ne, q, ha.s, ao⟩)
   intro e a bZ aF
   rcases aj with aj | aj
   ·obtain ⟨rfl, ha, bd⟩ := aF
    cases ae
    exact zn <| zi <| X <| S1 ha <| Z <| qm q <| qi (qt_sub q q) q <| qa q <| WL_nil fun a ha => ⟨q, ha.s, bd⟩
   obtain ⟨p105, b0, b4⟩ := aj
   obtain ⟨rfl, be, ha, bf⟩ := aF
   cases ae
   exact zj (zj (m (⟨ret_ne, q, be, ha.s, bf⟩)))
  cases ae
  exact WP_exit fun a ha => zo (⟨exit_ne, q, ha.s, au⟩)
 intro e a b5 aG
 rcases ah with ah | ah
 ·obtain ⟨rfl, ha, aH⟩ := aG
  refine zn <| X <| S1 ha <| rR <| qm q <| O h fun b6 bg h => U0 q c134 (w_spec_NextFire bg (hp0.c) aH.ctx) fun b7 bh => have aq := aH.cN0 [] bh; qm q <| qi (zv q q) q <| qi (zv q q) q <| qa q <| qa q <| B <| C <| rR <| qm q <| qi (qt_lss q q) q <| B ?_
  refine Yh q h (fun h => ?_) (fun h => ?_)
  ·cases h
   exact rR <| qm q <| qa q <| qa q <| B <| W fun a ha => m (ret2 q ha q q ⟨ab, q, aq⟩)
  refine y <| rR <| qm q <| qm q <| O h fun b8 aI h => qe aq (hp0.c) aI u65 i87 q fun _ _ bi => eV u87 bi q fun cc aJ => qm q <| O h fun cd bj h => U1 q c133 (w_spec_TicketDo bj hR0 aJ.ctx) fun bk ce bl => have aK := aJ.cN1 [] bl; qm q <| qi (zv q q) q <| qi (zv q q) q <| qa q <| qa q <| rN <| qm q <| qm q <| qm q <| O h fun cf aL h => qb aK.ctx hS2 aL u65 i87 q fun cg ch ci bm => have aM := aK.p2.p1.freeze.p1; WL_storeH (fo := 0) (cs' := [bk]) aM aL bm (Upd.whole (Blt.slice hO1)) (aM.ctx.sliceList hR1) il87 q q q q fun cj bq => rN <| qm q <| qa q <| qa q <| B <| W fun a ha => ?_
  cases h
  exact ret2 q ha q q ⟨ab, q, bq.q1.q1⟩
 obtain ⟨ck, cl, cm⟩ := ah
 obtain ⟨rfl, bs, ha, bt⟩ := aG
 cases h
 exact zj (m (ret2 q ha q q ⟨bs, q, bt⟩))
theorem w_spec_l7Work {w G A0 B0 A1 B1 A2 B2 B3 A4 B4 r} (h : spec_l7WorkS B0 B1 B2 B3 B4 = some r) (H : Ctx w ([.sl 95 ty12 A0 B0, .sl 3 tI A1 B1, .sl 3 tI A2 B2, .sl 89 ty14 A4 B4] ++ G)) : Calls Tryz.prog 68 #[.agg #[A0, A1, A2, iV B3, A4]] w fun e w' => ∃ (v1 : Value) (v2 : Value) (v3 : Value) (v4 : Value), e = .returned (.tuple #[.agg #[v1, v2, v3, iV r.1.2.2.2.1, v4], .bool r.2]) ∧ Holds (([.sl 95 ty12 A0 B0, .sl 3 tI A1 B1, .sl 3 tI A2 B2, .sl 89 ty14 A4 B4] : List Res).flatMap Res.own) w w' [.sl 95 ty12 v1 r.1.1, .sl 3 tI v2 r.1.2.1, .sl 3 tI v3 r.1.2.2.1, .sl 89 ty14 v4 r.1.2.2.2.2] G := by
 refine F1 33 H Tryz.func68 q fun H => ?_
 refine C <| Z <| WL_box (cs := [A0, A1, A2, iV B3, A4]) H q q q q fun b1 w2 H3 => zq (cs := [nS, nS, nS, iV 0, nS]) H3 z31 q q q fun b5 w6 H7 => qa q <| rN <| eA H7.p1 us31 uo31 il31 q <| O h fun aP aw h => U1 q c33 (w_spec_l7Tickets aw hS2 hS3 hS4 hS5 H7.ctx) fun aQ aR ax => have ah := H7.cN1 [] ax; O h fun ay az h => U1 q c108 (w_spec_WorkStep az hS0 ah.ctx) fun aj aS aA => have af := ah.cN1 [] aA; qm q <| qi (zv q q) q <| qi (zv q q) q <| qa q <| qa q <| B <| C <| rR <| qm q <| qi (qt_not q) q <| B ?_
 refine Yh q h (fun h => ?_) (fun h => ?_)
 ·cases h
  exact rR <| eA af.p3 us31 uo31 il31 q <| have ab := af.p2; zl (cs' := [A0, A1, A2, iV B3, A4]) ab q il31 q (T (ab.ctx.sliceOne hS4) (T (ab.ctx.sliceOne hS5) (T (ab.ctx.sliceOne hS6) (T q (T (ab.ctx.sliceOne hS7) q))))) q q q fun aT ak => qa q <| B <| W fun a ha => have aB := R ak.p0; m (retct q ha q q (run_loadVar_bx (cs := [A0, A1, A2, iV B3, A4]) us31 uo31 il31 aB) ⟨A0, A1, A2, A4, q, ak.q0.q0.q0.q0.p3.p3.p3.p3⟩)
 refine y <| C <| rR <| qa q <| B <| g <| O h fun aU aD h => ?_
 refine fun aV aF => zp (I := fun (al, am) a w2 => (Fr a 33 [(1, pB b1), (2, pB b5), (4, aj), (6, iV al)] ∧ Holds (([.sl 95 ty12 A0 B0, .sl 3 tI A1 B1, .sl 3 tI A2 B2, .sl 89 ty14 A4 B4] : List Res).flatMap Res.own) w w2 [.bx b1 31 [A0, A1, A2, iV B3, A4], .sl 95 ty12 A0 B0, .sl 3 tI A1 B1, .sl 3 tI A2 B2, .sl 89 ty14 A4 am, .bx b5 31 [nS, nS, nS, iV 0, nS], .sl 87 ty4 aj ay.1] G)) (O := fun q0 e a w2 => e = .exit 0 ∧ (Fr a 33 [(1, pB b1), (2, pB b5)] ∧ Holds (([.sl 95 ty12 A0 B0, .sl 3 tI A1 B1, .sl 3 tI A2 B2, .sl 89 ty14 A4 B4] : List Res).flatMap Res.own) w w2 [.bx b1 31 [A0, A1, A2, iV B3, A4], .sl 95 ty12 A0 B0, .sl 3 tI A1 B1, .sl 3 tI A2 B2, .sl 89 ty14 A4 q0, .bx b5 31 [nS, nS, nS, iV 0, nS]] G)) aD ?_ ?_ ?_
 ·exact ⟨aF.s, af.q1.p1.p6.p6.p6.p6.p6⟩
 ·rintro ⟨al, am⟩ _ a aW aa ⟨ha, ae⟩
  refine S1 ha <| C <| rR <| qm q <| qf uf31 fi31_4 nz29 q <| ql u29 ae.p0 q <| qz ae.ctx hS4 u29 q <| qi (qt_lss q q) q <| B ?_
  refine Yh q aa (fun aa => ?_) (fun aa => ?_)
  ·refine y <| C <| g <| WP_tail 7 (by kernel_rfl) (by kernel_rfl) fun aX aG => have ag := ae.grow aG; qf uf31 fi31_4 nz29 q <| ql u29 ag.p0 q <| qm q <| qm q <| qm q <| O aa fun aY ao aa => qe ag hS6 ao u65 i87 q fun _ _ aH => eV u87 aH q fun aI ap => SL_nil <| O aa fun a2 aq aa => qb ap.ctx hS5 aq u29 i89 q fun a3 a4 a5 aJ => qf uf89 fi89_1 nz87 q <| have ar := ap.p5; WL_storeH (fo := 1) (cs' := [aI]) ar aq aJ (Upd.snd (Upd.fst (Upd.whole (Blt.slice hO1)) q)) (ar.ctx.sliceList hR1) il87 q q q q fun a6 aK => WL_nil fun a ha => zi <| X <| S1 ha <| Z <| qm q <| qi (qt_add q q) q <| qa q <| WL_nil fun a ha => ?_
   cases aa
   exact ⟨q, ha.s, aK.q1.p6.p6.p2.p6.p6.p6.p6⟩
  cases aa
  exact WP_exit fun a ha => zo (⟨exit_ne, q, ha.s, ae.q6.p5.p5.p5.p5.p5.p5⟩)
 rintro _ a a7 ⟨rfl, ha, au⟩
 cases h
 exact zn <| X <| S1 ha <| rR <| eA au.p0 us31 uo31 il31 q <| have ad := au.p5; zl (cs' := [A0, A1, A2, iV B3, A4]) ad q il31 q (T (ad.ctx.sliceOne hS2) (T (ad.ctx.sliceOne hS3) (T (ad.ctx.sliceOne hS4) (T q (T (ad.ctx.sliceOne hS5) q))))) q q q fun a8 av => qa q <| B <| W fun a ha => have aN := R av.p0; retct q ha q q (run_loadVar_bx (cs := [A0, A1, A2, iV B3, A4]) us31 uo31 il31 aN) ⟨A0, A1, A2, A4, q, av.q0.q0.p3.p3.p3.p3⟩
theorem w_spec_TicketCourse {w G vp0 p0 r} (h : spec_TicketCourseS p0 = some r) (hp0 : Has G ty2 vp0 p0) (H : Ctx w G) : Calls Tryz.prog 135 #[vp0] w fun e w' => e = .returned (iV r) ∧ Holds M0 w w' [] G := by
 refine F0 40 H Tryz.func135 q fun H => ?_
 refine rR <| qa q <| rN <| qa q <| B <| C <| C <| Z <| qa q <| B <| g <| O h fun o3 ap h => ?_
 refine fun a5 aq => zp (I := fun (s1, s2) a w2 => (Fr a 40 [(0, vp0), (3, iV s1), (4, iV s2)] ∧ Holds M0 w w2 [] G)) (O := fun q0 e a w2 => e = .exit 0 ∧ (Fr a 40 [(3, iV q0)] ∧ Holds M0 w w2 [] G)) ap ?_ ?_ ?_
 ·exact ⟨aq.s, H⟩
 ·rintro ⟨s1, s2⟩ _ a w7 aa ⟨ha, aj⟩
  refine S1 ha <| C <| C <| zk <| qm q <| qm q <| qz aj.ctx (hp0) u87 q <| qi (qt_lss q q) q <| qm q <| O aa fun ar ae aa => ?_
  refine Ga (res := ar) 2 (if_f · ae) (fun ak aE au => ?_) ?_
  ·exact have ae := if_t ak ae; jm ak q <| O ae fun aF av ae => jc ak q c61 aj (fun _ => w_spec_TicketValid av (hp0)) <| au 2 q q q ae
  refine Qn aj fun a ha aG ab => X <| S1 ha ?_
  refine Yh q aa (fun aa => ?_) (fun aa => ?_)
  ·refine y <| C <| g <| rR <| qm q <| qm q <| O aa fun aH al aa => qe ab (hp0) al u87 i103 q fun _ _ aw => qf uf103 fi103_1 nz3 q <| eI u3 aw.s q <| qi (qt_lss q q) q <| qm q <| O aa fun ax af aa => ?_
   refine Ha (res := ax) 11 (if_f · af) (fun ah aL ay => ?_) ?_
   ·refine have af := if_t ah af; jm ah q <| ji (qt_lss q q) ah q <| jm ah q <| O af fun az ag af => ?_
    refine Ho (res := az) (hw := (J q ah)) 7 (if_t · ag) (fun ad aM aA => ?_) ?_
    ·exact have ag := if_f ad ag; jm ad q <| jm ad q <| O ag fun aN am ag => je ab (hp0) am u87 i103 ad q fun _ _ aB => jf uf103 fi103_0 nz3 ad q <| jI u3 aB.f ad q <| jm ad q <| ji (qt_lss q q) ad q <| aA 7 q q q ag
    exact ay 4 q q q af
   refine B ?_
   refine Yh q aa (fun aa => ?_) (fun aa => ?_)
   ·refine Z <| qm q <| qm q <| O aa fun aR ao aa => qe ab (hp0) ao u87 i103 q fun _ _ aC => qf uf103 fi103_0 nz3 q <| eI u3 aC.f q <| qa q <| WL_nil fun a ha => zi <| X <| S1 ha <| Z <| qm q <| qi (qt_add q q) q <| qa q <| WL_nil fun a ha => ?_
    cases aa
    exact ⟨q, ha.s, ab⟩
   cases aa
   exact WP_skip fun a ha => zi <| X <| S1 ha <| Z <| qm q <| qi (qt_add q q) q <| qa q <| WL_nil fun a ha => ⟨q, ha.s, ab⟩
  cases aa
  exact WP_exit fun a ha => zo (⟨exit_ne, q, ha.s, ab⟩)
 rintro _ a aV ⟨rfl, ha, aD⟩
 refine zn <| X <| S1 ha <| rR <| qm q <| qa q <| B <| W fun a ha => ?_
 obtain rfl := L h
 exact ret1 q ha q ⟨q, aD⟩
theorem w_spec_TicketDone {w G vp0 p0 r} (h : spec_TicketDoneS p0 = some r) (hp0 : Has G ty2 vp0 p0) (H : Ctx w G) : Calls Tryz.prog 109 #[vp0] w fun e w' => e = .returned (.bool r) ∧ Holds M0 w w' [] G := by
 refine F0 10 H Tryz.func109 q fun H => ?_
 refine rR <| qa q <| B <| C <| zk <| qm q <| O h fun x1 ad h => qc q c61 H (fun _ => w_spec_TicketValid ad (hp0)) <| qm q <| O h fun b3 aa h => ?_
 refine Ga (res := b3) 3 (if_f · aa) (fun ab K6 ae => ?_) ?_
 ·exact have aa := if_t ab aa; jm ab q <| O aa fun x8 af aa => jc ab q c135 H (fun _ => w_spec_TicketCourse af (hp0)) <| ji (qt_lss q q) ab q <| ae 3 q q q aa
 refine qa q <| Qn H fun a ha ah ag => X <| S1 ha <| W fun a ha => ?_
 obtain rfl := L h
 exact ret1 q ha q ⟨q, ag⟩
theorem w_spec_TableBill {w G A0 B0 A1 B1 A2 B2 B3 A4 B4 p1 r} (h : spec_TableBillS B0 B1 B2 B3 B4 p1 = some r) (C0 : Has G ty12 A0 B0) (C1 : Has G tI A1 B1) (C2 : Has G tI A2 B2) (C4 : Has G ty14 A4 B4) (H : Ctx w G) : Calls Tryz.prog 34 #[.agg #[A0, A1, A2, iV B3, A4], iV p1] w fun e w' => e = .returned (iV r) ∧ Holds M0 w w' [] G := by
 refine F0 57 H Tryz.func34 q fun H => ?_
 refine C <| Z <| WL_box (cs := [A0, A1, A2, iV B3, A4]) H q q q q fun b1 w2 H3 => qa q <| B <| C <| C <| zk <| eA H3.p0 us31 uo31 il31 q <| O h fun x6 av h => qc q c22 H3 (fun _ => w_spec_HouseValid av (C0.c) (C1.c) (C2.c) (C4.c)) <| qi (qt_not q) q <| qm q <| O h fun b8 ae h => ?_
 refine Go (res := b8) 7 (if_t · ae) (fun ab aM aw => ?_) ?_
 ·exact have ae := if_f ab ae; jm ab q <| jf uf31 fi31_4 nz29 ab q <| jl u29 H3.p0 ab q <| jz H3.ctx (C4.c) u29 ab q <| ji (qt_sub q q) ab q <| O ae fun aN ax ae => jc ab q c60 H3 (fun _ => w_spec_l1In ax) <| ji (qt_not q) ab q <| aw 7 q q q ae
 refine Qn H3 fun a ha aO aj => X <| S1 ha ?_
 refine Yh q h (fun h => ?_) (fun h => ?_)
 ·cases h
  exact rR <| qa q <| B <| W fun a ha => m (ret1 q ha q ⟨q, aj.q0⟩)
 refine y <| rR <| qa q <| B <| C <| rR <| qa q <| B <| g <| O h fun aP az h => ?_
 refine fun aQ aA => zp (I := fun (ak, al) a w2 => (Fr a 57 [(1, iV p1), (2, pB b1), (5, iV ak), (6, iV al)] ∧ Holds M0 w w2 [.bx b1 31 [A0, A1, A2, iV B3, A4]] G)) (O := fun q0 e a w2 => e = .exit 0 ∧ (Fr a 57 [(5, iV q0)] ∧ Holds M0 w w2 [] G)) az ?_ ?_ ?_
 ·exact ⟨aA.s, aj⟩
 ·rintro ⟨ak, al⟩ _ a aR aa ⟨ha, ah⟩
  refine S1 ha <| C <| rR <| qm q <| qf uf31 fi31_4 nz29 q <| ql u29 ah.p0 q <| qm q <| O aa fun aS am aa => qe ah (C4.c) am u29 i89 q fun _ _ aB => qf uf89 fi89_1 nz87 q <| eV u87 aB.s.f q fun aW af => qz af.ctx hR0 u87 q <| qi (qt_lss q q) q <| B ?_
  refine Yh q aa (fun aa => ?_) (fun aa => ?_)
  ·refine y <| C <| g <| rR <| qf uf31 fi31_4 nz29 q <| ql u29 af.p1 q <| qm q <| O aa fun aX ao aa => qe af (C4.c.c) ao u29 i89 q fun _ _ aC => qf uf89 fi89_1 nz87 q <| eV u87 aC.s.f q fun a1 ad => qm q <| O aa fun a2 ap aa => qe ad hR0 ap u87 i103 q fun _ _ aD => qf uf103 fi103_1 nz3 q <| eI u3 aD.s q <| qi (qt_eql q q) q <| B ?_
   refine Yh q aa (fun aa => ?_) (fun aa => ?_)
   ·refine WP_quiet (by kernel_rfl) (by kernel_rfl) <| qm q <| qf uf31 fi31_1 nz23 q <| ql u23 ad.p2 q <| qf uf31 fi31_4 nz29 q <| ql u29 ad.p2 q <| qm q <| O aa fun a6 aq aa => qe ad (C4.c.c.c) aq u29 i89 q fun _ _ aE => qf uf89 fi89_2 nz23 q <| eV u23 aE.s.s q fun ba ag => qm q <| O aa fun bb ar aa => qe ag hR0 ar u23 i3 q fun _ _ aF => eI u3 aF q <| O aa fun bf au aa => qe ag (C1.c.c.c.c) au u23 i3 q fun _ _ aG => eI u3 aG q <| qi (qt_add q q) q <| qa q <| Qn ag fun a ha bj aH => zi <| X <| S1 ha <| Z <| qm q <| qi (qt_add q q) q <| qa q <| WL_nil fun a ha => ?_
    cases aa
    exact ⟨q, ha.s, aH.q0.q0.q0⟩
   cases aa
   exact WP_skip fun a ha => zi <| X <| S1 ha <| Z <| qm q <| qi (qt_add q q) q <| qa q <| WL_nil fun a ha => ⟨q, ha.s, ad.q0.q0⟩
  cases aa
  exact WP_exit fun a ha => zo (⟨exit_ne, q, ha.s, af.q0.q0⟩)
 rintro _ a bk ⟨rfl, ha, aL⟩
 refine zn <| X <| S1 ha <| rR <| qm q <| qa q <| B <| W fun a ha => ?_
 obtain rfl := L h
 exact ret1 q ha q ⟨q, aL⟩
theorem w_spec_l7Close {w G A0 B0 A1 B1 A2 B2 B3 A4 B4 p1 r} (h : spec_l7CloseS B0 B1 B2 B3 B4 p1 = some r) (H : Ctx w ([.sl 95 ty12 A0 B0, .sl 3 tI A1 B1, .sl 3 tI A2 B2, .sl 89 ty14 A4 B4] ++ G)) : Calls Tryz.prog 69 #[.agg #[A0, A1, A2, iV B3, A4], iV p1] w fun e w' => ∃ (v1 : Value) (v2 : Value) (v3 : Value) (v4 : Value), e = .returned (.tuple #[.agg #[v1, v2, v3, iV r.1.2.2.2.1, v4], .bool r.2]) ∧ Holds (([.sl 95 ty12 A0 B0, .sl 3 tI A1 B1, .sl 3 tI A2 B2, .sl 89 ty14 A4 B4] : List Res).flatMap Res.own) w w' [.sl 95 ty12 v1 r.1.1, .sl 3 tI v2 r.1.2.1, .sl 3 tI v3 r.1.2.2.1, .sl 89 ty14 v4 r.1.2.2.2.2] G := by
 refine F1 54 H Tryz.func69 q fun H => ?_
 refine C <| Z <| WL_box (cs := [A0, A1, A2, iV B3, A4]) H q q q q fun b1 w2 H3 => zq (cs := [nS, nS, nS, iV 0, nS]) H3 z31 q q q fun b5 w6 H7 => qa q <| B <| C <| C <| WP_quiet (by kernel_rfl) (by kernel_rfl) <| qm q <| qf uf31 fi31_4 nz29 q <| ql u29 H7.p1 q <| qz H7.ctx hS5 u29 q <| qi (qt_sub q q) q <| O h fun a0 az h => qc q c60 H7 (fun _ => w_spec_l1In az) <| qi (qt_not q) q <| qm q <| O h fun aA ab h => ?_
 refine Go (res := aA) 8 (if_t · ab) (fun aa a1 aB => ?_) ?_
 ·exact have ab := if_f aa ab; jf uf31 fi31_4 nz29 aa q <| jl u29 H7.p1 aa q <| jm aa q <| O ab fun a2 ap ab => je H7 hS5 ap u29 i89 aa q fun _ _ aC => jf uf89 fi89_1 nz87 aa q <| jV u87 aC.s.f aa q fun a6 aD => O ab fun a7 aE ab => jc aa q c109 aD (fun _ => w_spec_TicketDone aE hR0) <| ji (qt_not q) aa q <| aB 8 q q q ab
 refine qm q <| O h fun aF af h => ?_
 refine Go (res := aF) 7 (if_t · af) (fun ad a8 aG => ?_) ?_
 ·exact have af := if_f ad af; jf uf31 fi31_3 nz3 ad q <| jl u3 H7.p1 ad q <| jA H7.p1 us31 uo31 il31 ad q <| jm ad q <| O af fun a9 aH af => jc ad q c34 H7 (fun _ => w_spec_TableBill aH hS2 hS3 hS4 hS5) <| ji (qt_add q q) ad q <| ji (qt_gtr q q) ad q <| aG 7 q q q af
 refine Qn H7 fun a ha ba ae => X <| S1 ha ?_
 refine Yh q h (fun h => ?_) (fun h => ?_)
 ·cases h
  exact rR <| eA ae.p1 us31 uo31 il31 q <| zl (cs' := [A0, A1, A2, iV B3, A4]) ae q il31 q (T (ae.ctx.sliceOne hS2) (T (ae.ctx.sliceOne hS3) (T (ae.ctx.sliceOne hS4) (T q (T (ae.ctx.sliceOne hS5) q))))) q q q fun bb aq => qa q <| B <| W fun a ha => have aI := R aq.p0; m (retct q ha q q (run_loadVar_bx (cs := [A0, A1, A2, iV B3, A4]) us31 uo31 il31 aI) ⟨A0, A1, A2, A4, q, aq.q0.q0.p3.p3.p3.p3⟩)
 refine y <| C <| O h fun ag aK h => ?_
 refine WP_join (M := fun a w2 => (Fr a 54 [(1, iV p1), (2, pB b1), (4, pB b5)] ∧ Holds (([.sl 95 ty12 A0 B0, .sl 3 tI A1 B1, .sl 3 tI A2 B2, .sl 89 ty14 A4 B4] : List Res).flatMap Res.own) w w2 [.bx b1 31 [A0, A1, A2, iV (IntKind.wrap .i64 (B3 + ag)), A4], .sl 95 ty12 A0 B0, .sl 3 tI A1 B1, .sl 3 tI A2 B2, .sl 89 ty14 A4 B4, .bx b5 31 [nS, nS, nS, iV 0, nS]] G)) ?_ ?_
 ·refine WP_ordersT (fun w1 w2 => Chg M0 w1 w2) 6 (by kernel_rfl) fun ak aL => have ar := ae.grow aL; ?_
  have al : Ctx ak ([] ++ ([.bx b5 31 [nS, nS, nS, iV 0, nS], .bx b1 31 [A0, A1, A2, iV B3, A4], .sl 95 ty12 A0 B0, .sl 3 tI A1 B1, .sl 3 tI A2 B2, .sl 89 ty14 A4 B4] ++ G)) := ar.ctx
  have aM : Holds _ ak ak [] ([.bx b5 31 [nS, nS, nS, iV 0, nS], .bx b1 31 [A0, A1, A2, iV B3, A4], .sl 95 ty12 A0 B0, .sl 3 tI A1 B1, .sl 3 tI A2 B2, .sl 89 ty14 A4 B4] ++ G) := zb (Rs := []) al
  refine have Hc := aM; XQ (i := 0) q (by kernel_rfl) q Hc.chg q (fun _ => qt_fieldAddr uf31 fi31_3 nz3 q) q q <| have aN := HasB.bx (HasB.c (HasB.hd)) Hc.ctx; XT (i := 1) q (by kernel_rfl) q Hc.chg q (qs_cell u3 q q (aN.cell (i := 3) q) Hc.chg (Ctx.outB al (HasB.c (HasB.hd)))) q q <| have aO := HasB.bx (HasB.c (HasB.hd)) Hc.ctx; XT (i := 2) q (by kernel_rfl) q Hc.chg q (qs_agg (cs := [A0, A1, A2, iV B3, A4]) us31 uo31 il31 q (fun j z hj => by rw [Nat.zero_add]; exact aO.cell hj) Hc.chg (Ctx.outB al (HasB.c (HasB.hd)))) q q ?_
  change XC _ _ _ _ _ _ _ _ ((35, .agg #[A0, A1, A2, iV B3, A4]) :: _) _
  refine XQ (i := 3) q (by kernel_rfl) q Hc.chg q (fun _ => qt_move q) q q ?_
  repeat' first
   | refine XDo 4 q <| U0 q c34 (w_spec_TableBill aK hS2 hS3 hS4 hS5 Hc.ctx) fun _ HK => ?_; have Hc := Hc.cN0 [] HK; refine XN Hc.chg <| XQ (i := 5) q (by kernel_rfl) q Hc.chg q (fun _ => qt_add q q) q q ?_
   | have Hc := ar.cN0 [] Hc; refine XDo 6 q <| qf uf31 fi31_3 nz3 q <| XE q ?_
   | refine XDo 7 q ?_; have Hc := Hc.p1; refine WL_store_bx Hc q il3 q q q q q (fun _ Hc => ?_); refine XE q ?_
   | refine XV [4] (by decide +kernel) q (allc ?_ alln)
   | refine XV [6] (by decide +kernel) q (allc ?_ alln)
   | refine XV [7] (by decide +kernel) q (allc ?_ alln)
   | refine XC_done (by decide +kernel) (fun a ha => ?_); have Hc := ((((((Hc.p1).p5).p5).p5).p5).p5); exact ⟨ha.s, Hc⟩
 rintro a bc ⟨ha, aP⟩
 refine S1 ha <| C <| O h fun bd au h => O h fun be aQ h => O h fun bf av h => O h fun aR aS h => ?_
 refine WP_join (M := fun a w2 => ∃ ah, Fr a 54 [(2, pB b1), (4, pB b5)] ∧ Holds (([.sl 95 ty12 A0 B0, .sl 3 tI A1 B1, .sl 3 tI A2 B2, .sl 89 ty14 A4 B4] : List Res).flatMap Res.own) w w2 [.bx b1 31 [A0, A1, A2, iV (IntKind.wrap .i64 (B3 + ag)), ah], .sl 95 ty12 A0 B0, .sl 3 tI A1 B1, .sl 3 tI A2 B2, .sl 89 ty14 ah aR, .bx b5 31 [nS, nS, nS, iV 0, nS]] G) ?_ ?_
 ·refine WP_ordersT (fun w1 w2 => Chg M0 w1 w2) 12 (by kernel_rfl) fun am aT => have aw := aP.grow aT; ?_
  have ao : Ctx am ([] ++ ([.bx b1 31 [A0, A1, A2, iV (IntKind.wrap .i64 (B3 + ag)), A4], .sl 95 ty12 A0 B0, .sl 3 tI A1 B1, .sl 3 tI A2 B2, .sl 89 ty14 A4 B4, .bx b5 31 [nS, nS, nS, iV 0, nS]] ++ G)) := aw.ctx
  have aU : Holds _ am am [] ([.bx b1 31 [A0, A1, A2, iV (IntKind.wrap .i64 (B3 + ag)), A4], .sl 95 ty12 A0 B0, .sl 3 tI A1 B1, .sl 3 tI A2 B2, .sl 89 ty14 A4 B4, .bx b5 31 [nS, nS, nS, iV 0, nS]] ++ G) := zb (Rs := []) ao
  refine have Hc := aU; XQ (i := 1) q (by kernel_rfl) q Hc.chg q (fun _ => qt_fieldAddr uf31 fi31_4 nz29 q) q q <| have aV := HasB.bx (HasB.hd) Hc.ctx; XT (i := 2) q (by kernel_rfl) q Hc.chg q (qs_cell u29 q q (aV.cell (i := 4) q) Hc.chg (Ctx.outB ao (HasB.hd))) q q <| XQ (i := 3) q (by kernel_rfl) q Hc.chg q (fun _ => qt_move q) q q <| XT (i := 4) q (by kernel_rfl) q Hc.chg q (qs_slice Hc.ctx hS4 au u29 i89 q ⟨_, q⟩ q) q q <| XQ (i := 6) q (by kernel_rfl) q Hc.chg q (fun _ => qt_fieldAddr uf31 fi31_4 nz29 q) q q <| have aW := HasB.bx (HasB.hd) Hc.ctx; XT (i := 7) q (by kernel_rfl) q Hc.chg q (qs_cell u29 q q (aW.cell (i := 4) q) Hc.chg (Ctx.outB ao (HasB.hd))) q q <| XQ (i := 8) q (by kernel_rfl) q Hc.chg q (fun _ => qt_move q) q q <| XQ (i := 9) q (by kernel_rfl) q Hc.chg q (fun _ => qt_add q q) q q <| XT (i := 10) q (by kernel_rfl) q Hc.chg q (qs_slice Hc.ctx hS4 av u29 i89 ⟨_, q⟩ q q) q q ?_
  repeat' first
   | refine XDo 0 q ?_; refine zs (t := ty14) (args := []) (xs := ([] : LT)) Hc (BltL.nil) u29 j89 q q q q q q (fun bg _ Hc => ?_); refine XN Hc.chg ?_
   | refine XDo 5 q ?_; refine zw Hc (Has.sub hS5 au) aQ u29 j89 q q q q q q (fun bh _ Hc => ?_); refine XN Hc.chg ?_
   | refine XDo 11 q ?_; refine zw Hc (Has.sub hS5 av) aS u29 j89 q q q q q q (fun aX _ Hc => ?_); refine XN Hc.chg ?_
   | have Hc := aw.cN1 [] Hc; refine XDo 12 q <| qf uf31 fi31_4 nz29 q <| XE q ?_
   | refine XDo 13 q ?_; have Hc := Hc.p1; refine WL_store_bx Hc q il29 (Hc.ctx.sliceCells hS1) (Hc.ctx.sliceOne hS1) q q q (fun _ Hc => ?_); refine XE q ?_
   | refine XV [0] (by decide +kernel) q (allc ?_ alln)
   | refine XV [5] (by decide +kernel) q (allc ?_ alln)
   | refine XV [11] (by decide +kernel) q (allc ?_ alln)
   | refine XV [12] (by decide +kernel) q (allc ?_ alln)
   | refine XV [13] (by decide +kernel) q (allc ?_ alln)
   | refine XC_done (by decide +kernel) (fun a ha => ?_); have Hc := (((((((Hc.q5).p5).p2).p5).p5).p5).p5); exact ⟨aX, ha.s, Hc⟩
 rintro a bi ⟨ah, ha, ax⟩
 cases h
 exact S1 ha <| rR <| eA ax.p0 us31 uo31 il31 q <| have aj := ax.p5; zl (cs' := [A0, A1, A2, iV (IntKind.wrap .i64 (B3 + ag)), ah]) aj q il31 q (T (aj.ctx.sliceOne hS2) (T (aj.ctx.sliceOne hS3) (T (aj.ctx.sliceOne hS4) (T q (T (aj.ctx.sliceOne hS5) q))))) q q q fun bj ay => qa q <| B <| W fun a ha => have aY := R ay.p0; retct q ha q q (run_loadVar_bx (cs := [A0, A1, A2, iV (IntKind.wrap .i64 (B3 + ag)), ah]) us31 uo31 il31 aY) ⟨A0, A1, A2, ah, q, ay.q0.q0.p3.p3.p3.p3⟩
end Go.Proofs.YtpklpghbkhegnaaGreatDoor
