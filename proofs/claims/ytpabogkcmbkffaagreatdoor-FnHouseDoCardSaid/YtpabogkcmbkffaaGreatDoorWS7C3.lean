/- The walks: each Go function computes its shallow function. Printed by a program. -/
import Derived.Test.YtpabogkcmbkffaaGreatDoorWS7C2
set_option linter.unusedVariables false
set_option maxRecDepth 10000
set_option maxHeartbeats 8000000
namespace Go.Proofs.YtpabogkcmbkffaaGreatDoor
open Go Go.RowKit
theorem w_spec_l7Order (w : World) (G : List Res) (A0 : Value) (B0 : LI) (A1 : Value) (B1 : List Int) (A2 : Value) (B2 : List Int) (B3 : Int) (A4 : Value) (B4 : LT) (p1 : Int) (p2 : Int) (p3 : Int) (r : (LI × (List Int) × (List Int) × Int × LT) × Bool) (h : spec_l7OrderS B0 B1 B2 B3 B4 p1 p2 p3 = some r) (H : Ctx w ([.sl 55 ty10 A0 B0, .sl 3 tI A1 B1, .sl 3 tI A2 B2, .sl 47 ty12 A4 B4] ++ G)) : Calls Tryz.prog 36 #[.agg #[A0, A1, A2, iV B3, A4], iV p1, iV p2, iV p3] w fun e w' => ∃ (v1 : Value) (v2 : Value) (v3 : Value) (v4 : Value), e = .returned (.tuple #[.agg #[v1, v2, v3, iV r.1.2.2.2.1, v4], .bool r.2]) ∧ Holds (([.sl 55 ty10 A0 B0, .sl 3 tI A1 B1, .sl 3 tI A2 B2, .sl 47 ty12 A4 B4] : List Res).flatMap Res.own) w w' [.sl 55 ty10 v1 r.1.1, .sl 3 tI v2 r.1.2.1, .sl 3 tI v3 r.1.2.2.1, .sl 47 ty12 v4 r.1.2.2.2.2] G := by
 have H : Holds (([.sl 55 ty10 A0 B0, .sl 3 tI A1 B1, .sl 3 tI A2 B2, .sl 47 ty12 A4 B4] : List Res).flatMap Res.own) w w [.sl 55 ty10 A0 B0, .sl 3 tI A1 B1, .sl 3 tI A2 B2, .sl 47 ty12 A4 B4] G := zb H
 refine zg (args := [.agg #[A0, A1, A2, iV B3, A4], iV p1, iV p2, iV p3]) (n := 93) Tryz.func36 q q q ?_
 unfold spec_l7OrderS at h
 refine C <| Z ?_
 refine WL_box (cs := [A0, A1, A2, iV B3, A4]) H q q q q (fun b1 w2 H3 => ?_)
 refine zq (cs := [nS, nS, nS, iV 0, nS]) H3 z27 q q q (fun b5 w6 H7 => ?_)
 refine qA q q q <| B <| C <| C ?_
 obtain ⟨ay, aE, h⟩ := D h
 obtain ⟨df, a1, h⟩ := D h
 obtain ⟨dg, aM, h⟩ := D h
 obtain ⟨bf, aF, h⟩ := D h
 refine WP_join (M := fun a w2 => (Fr a 93 [(1, iV p1), (2, iV p2), (3, iV p3), (4, pB b1), (8, pB b5), (48, .bool bf)] ∧ Holds (([.sl 55 ty10 A0 B0, .sl 3 tI A1 B1, .sl 3 tI A2 B2, .sl 47 ty12 A4 B4] : List Res).flatMap Res.own) w w2 [.bx b1 27 [A0, A1, A2, iV B3, A4], .sl 55 ty10 A0 B0, .sl 3 tI A1 B1, .sl 3 tI A2 B2, .sl 47 ty12 A4 B4, .bx b5 27 [nS, nS, nS, iV 0, nS]] G)) ?_ ?_
 ·refine WP_ordersT (fun w1 w2 => Chg M0 w1 w2) 38 (by kernel_rfl) (fun au bg => ?_)
  have az := H7.grow bg
  have aj : Ctx au ([] ++ ([.bx b5 27 [nS, nS, nS, iV 0, nS], .bx b1 27 [A0, A1, A2, iV B3, A4], .sl 55 ty10 A0 B0, .sl 3 tI A1 B1, .sl 3 tI A2 B2, .sl 47 ty12 A4 B4] ++ G)) := az.ctx
  have aa : Holds _ au au [] ([.bx b5 27 [nS, nS, nS, iV 0, nS], .bx b1 27 [A0, A1, A2, iV B3, A4], .sl 55 ty10 A0 B0, .sl 3 tI A1 B1, .sl 3 tI A2 B2, .sl 47 ty12 A4 B4] ++ G) := zb (Rs := []) aj
  rcases btf (!ay) with ab | ab
  ·skip
   have bh := if_t ab a1
   obtain rfl := L bh
   have aq : true = true := q
   have bi := if_t aq aM
   obtain rfl := L bi
   have ak : true = true := q
   have bj := if_t ak aF
   obtain rfl := L bj
   refine XQ (i := 0) q (by kernel_rfl) q aa.chg q (fun _ => qt_move q) q q <| XQ (i := 1) q (by kernel_rfl) q aa.chg q (fun _ => qt_fieldAddr uf27 fi27_4 nz25 q) q q ?_
   have bk := HasB.bx (HasB.c (HasB.hd)) aa.ctx
   refine XT (i := 2) q (by kernel_rfl) q aa.chg q (qs_cell u25 q q (bk.cell (i := 4) q) aa.chg (Ctx.outB aj (HasB.c (HasB.hd)))) q q <| XT (i := 3) q (by kernel_rfl) q aa.chg q (qs_len (t := ty12) aa.ctx hS5 u25 q) q q <| XQ (i := 4) q (by kernel_rfl) q aa.chg q (fun _ => qt_sub q q) q q <| X1 5 (by kernel_rfl) q <| zd q q c52 (w_spec_l1In au _ p1 0 (IntKind.wrap .i64 ((List.length B4 : Int) - 1)) ay aE aa.ctx) (by rfl) ?_
   rintro _ dh ⟨rfl, bl⟩; refine ⟨_, q, ?_⟩
   have ae := aa.cN0 [] bl
   refine XN ae.chg <| XQ (i := 6) q (by kernel_rfl) q ae.chg q (fun _ => qt_not q) q q <| XQ (i := 7) q (by kernel_rfl) q ae.chg q (fun _ => qt_move q) q q <| XS (i := 8) q (by kernel_rfl) q ae.chg q ab q q <| XS (i := 9) q (by kernel_rfl) q ae.chg q ab q q <| XS (i := 10) q (by kernel_rfl) q ae.chg q ab q q <| XS (i := 11) q (by kernel_rfl) q ae.chg q ab q q <| XS (i := 12) q (by kernel_rfl) q ae.chg q ab q q <| XS (i := 13) q (by kernel_rfl) q ae.chg q ab q q <| XS (i := 14) q (by kernel_rfl) q ae.chg q ab q q ?_
   refine XQ (i := 15) q (by kernel_rfl) q ae.chg q (fun _ => ze q ab q) q q <| XQ (i := 16) q (by kernel_rfl) q ae.chg q (fun _ => qt_move q) q q <| XS (i := 17) q (by kernel_rfl) q ae.chg q aq q q <| XS (i := 18) q (by kernel_rfl) q ae.chg q aq q q <| XS (i := 19) q (by kernel_rfl) q ae.chg q aq q q <| XS (i := 20) q (by kernel_rfl) q ae.chg q aq q q <| XS (i := 21) q (by kernel_rfl) q ae.chg q aq q q <| XS (i := 22) q (by kernel_rfl) q ae.chg q aq q q <| XQ (i := 23) q (by kernel_rfl) q ae.chg q (fun _ => ze q aq q) q q <| XQ (i := 24) q (by kernel_rfl) q ae.chg q (fun _ => qt_move q) q q ?_
   refine XS (i := 25) q (by kernel_rfl) q ae.chg q ak q q <| XS (i := 26) q (by kernel_rfl) q ae.chg q ak q q <| XS (i := 27) q (by kernel_rfl) q ae.chg q ak q q <| XS (i := 28) q (by kernel_rfl) q ae.chg q ak q q <| XS (i := 29) q (by kernel_rfl) q ae.chg q ak q q <| XS (i := 30) q (by kernel_rfl) q ae.chg q ak q q <| XS (i := 31) q (by kernel_rfl) q ae.chg q ak q q <| XS (i := 32) q (by kernel_rfl) q ae.chg q ak q q <| XS (i := 33) q (by kernel_rfl) q ae.chg q ak q q <| XS (i := 34) q (by kernel_rfl) q ae.chg q ak q q ?_
   refine XS (i := 35) q (by kernel_rfl) q ae.chg q ak q q <| XS (i := 36) q (by kernel_rfl) q ae.chg q ak q q <| XQ (i := 37) q (by kernel_rfl) q ae.chg q (fun _ => ze q ak q) q q ?_
   have bm := az.cN0 [] ae
   refine XC_done (by kernel_rfl) (fun a ha => ?_)
   have bn := bm.p5.p5.p5.p5.p5
   exact ⟨ha.sub ⟨q, q, q, q, q, q, trivial⟩, bn⟩
  skip
  have aN := if_f ab a1
  obtain ⟨aG, aO, aN⟩ := D aN
  obtain rfl := L aN
  rcases btf (!aG) with ai | ai
  ·skip
   have bo := if_t ai aM
   obtain rfl := L bo
   have al : true = true := q
   have bp := if_t al aF
   obtain rfl := L bp
   refine XQ (i := 0) q (by kernel_rfl) q aa.chg q (fun _ => qt_move q) q q <| XQ (i := 1) q (by kernel_rfl) q aa.chg q (fun _ => qt_fieldAddr uf27 fi27_4 nz25 q) q q ?_
   have bq := HasB.bx (HasB.c (HasB.hd)) aa.ctx
   refine XT (i := 2) q (by kernel_rfl) q aa.chg q (qs_cell u25 q q (bq.cell (i := 4) q) aa.chg (Ctx.outB aj (HasB.c (HasB.hd)))) q q <| XT (i := 3) q (by kernel_rfl) q aa.chg q (qs_len (t := ty12) aa.ctx hS5 u25 q) q q <| XQ (i := 4) q (by kernel_rfl) q aa.chg q (fun _ => qt_sub q q) q q <| X1 5 (by kernel_rfl) q <| zd q q c52 (w_spec_l1In au _ p1 0 (IntKind.wrap .i64 ((List.length B4 : Int) - 1)) ay aE aa.ctx) (by rfl) ?_
   rintro _ br ⟨rfl, bs⟩; refine ⟨_, q, ?_⟩
   have am := aa.cN0 [] bs
   refine XN am.chg <| XQ (i := 6) q (by kernel_rfl) q am.chg q (fun _ => qt_not q) q q <| XQ (i := 7) q (by kernel_rfl) q am.chg q (fun _ => qt_move q) q q <| XQ (i := 8) q (by kernel_rfl) q am.chg (J q ab) (fun _ => qt_move q) q q <| XQ (i := 9) q (by kernel_rfl) q am.chg (J q ab) (fun _ => qt_fieldAddr uf27 fi27_0 nz23 q) q q ?_
   have bt := HasB.bx (HasB.c (HasB.hd)) am.ctx
   refine XT (i := 10) q (by kernel_rfl) q am.chg (J q ab) (qs_cell u23 q q (bt.cell (i := 0) q) am.chg (Ctx.outB aj (HasB.c (HasB.hd)))) q q <| XT (i := 11) q (by kernel_rfl) q am.chg (J q ab) (qs_len (t := ty10) am.ctx hS2 u23 q) q q <| XQ (i := 12) q (by kernel_rfl) q am.chg (J q ab) (fun _ => qt_sub q q) q q <| X1 13 (by kernel_rfl) q <| zd (J q ab) q c52 (w_spec_l1In br _ p2 0 (IntKind.wrap .i64 ((List.length B0 : Int) - 1)) aG aO am.ctx) (by rfl) ?_
   rintro _ di ⟨rfl, bu⟩; refine ⟨_, q, ?_⟩
   have ah := am.cN0 [] bu
   refine XN ah.chg <| XQ (i := 14) q (by kernel_rfl) q ah.chg (J q ab) (fun _ => qt_not q) q q <| XQ (i := 15) q (by kernel_rfl) q ah.chg q (fun _ => zf q ab q) q q <| XQ (i := 16) q (by kernel_rfl) q ah.chg q (fun _ => qt_move q) q q <| XS (i := 17) q (by kernel_rfl) q ah.chg q ai q q <| XS (i := 18) q (by kernel_rfl) q ah.chg q ai q q <| XS (i := 19) q (by kernel_rfl) q ah.chg q ai q q <| XS (i := 20) q (by kernel_rfl) q ah.chg q ai q q <| XS (i := 21) q (by kernel_rfl) q ah.chg q ai q q <| XS (i := 22) q (by kernel_rfl) q ah.chg q ai q q ?_
   refine XQ (i := 23) q (by kernel_rfl) q ah.chg q (fun _ => ze q ai q) q q <| XQ (i := 24) q (by kernel_rfl) q ah.chg q (fun _ => qt_move q) q q <| XS (i := 25) q (by kernel_rfl) q ah.chg q al q q <| XS (i := 26) q (by kernel_rfl) q ah.chg q al q q <| XS (i := 27) q (by kernel_rfl) q ah.chg q al q q <| XS (i := 28) q (by kernel_rfl) q ah.chg q al q q <| XS (i := 29) q (by kernel_rfl) q ah.chg q al q q <| XS (i := 30) q (by kernel_rfl) q ah.chg q al q q <| XS (i := 31) q (by kernel_rfl) q ah.chg q al q q <| XS (i := 32) q (by kernel_rfl) q ah.chg q al q q ?_
   refine XS (i := 33) q (by kernel_rfl) q ah.chg q al q q <| XS (i := 34) q (by kernel_rfl) q ah.chg q al q q <| XS (i := 35) q (by kernel_rfl) q ah.chg q al q q <| XS (i := 36) q (by kernel_rfl) q ah.chg q al q q <| XQ (i := 37) q (by kernel_rfl) q ah.chg q (fun _ => ze q al q) q q ?_
   have bv := az.cN0 [] ah
   refine XC_done (by kernel_rfl) (fun a ha => ?_)
   have bw := bv.p5.p5.p5.p5.p5
   exact ⟨ha.sub ⟨q, q, q, q, q, q, trivial⟩, bw⟩
  skip
  have aP := if_f ai aM
  obtain ⟨bz, ar, aP⟩ := D aP
  obtain rfl := L aP
  rcases btf (decide (bz < 1)) with ag | ag
  ·skip
   have bA := if_t ag aF
   obtain rfl := L bA
   refine XQ (i := 0) q (by kernel_rfl) q aa.chg q (fun _ => qt_move q) q q <| XQ (i := 1) q (by kernel_rfl) q aa.chg q (fun _ => qt_fieldAddr uf27 fi27_4 nz25 q) q q ?_
   have bB := HasB.bx (HasB.c (HasB.hd)) aa.ctx
   refine XT (i := 2) q (by kernel_rfl) q aa.chg q (qs_cell u25 q q (bB.cell (i := 4) q) aa.chg (Ctx.outB aj (HasB.c (HasB.hd)))) q q <| XT (i := 3) q (by kernel_rfl) q aa.chg q (qs_len (t := ty12) aa.ctx hS5 u25 q) q q <| XQ (i := 4) q (by kernel_rfl) q aa.chg q (fun _ => qt_sub q q) q q <| X1 5 (by kernel_rfl) q <| zd q q c52 (w_spec_l1In au _ p1 0 (IntKind.wrap .i64 ((List.length B4 : Int) - 1)) ay aE aa.ctx) (by rfl) ?_
   rintro _ bC ⟨rfl, bD⟩; refine ⟨_, q, ?_⟩
   have an := aa.cN0 [] bD
   refine XN an.chg <| XQ (i := 6) q (by kernel_rfl) q an.chg q (fun _ => qt_not q) q q <| XQ (i := 7) q (by kernel_rfl) q an.chg q (fun _ => qt_move q) q q <| XQ (i := 8) q (by kernel_rfl) q an.chg (J q ab) (fun _ => qt_move q) q q <| XQ (i := 9) q (by kernel_rfl) q an.chg (J q ab) (fun _ => qt_fieldAddr uf27 fi27_0 nz23 q) q q ?_
   have bE := HasB.bx (HasB.c (HasB.hd)) an.ctx
   refine XT (i := 10) q (by kernel_rfl) q an.chg (J q ab) (qs_cell u23 q q (bE.cell (i := 0) q) an.chg (Ctx.outB aj (HasB.c (HasB.hd)))) q q <| XT (i := 11) q (by kernel_rfl) q an.chg (J q ab) (qs_len (t := ty10) an.ctx hS2 u23 q) q q <| XQ (i := 12) q (by kernel_rfl) q an.chg (J q ab) (fun _ => qt_sub q q) q q <| X1 13 (by kernel_rfl) q <| zd (J q ab) q c52 (w_spec_l1In bC _ p2 0 (IntKind.wrap .i64 ((List.length B0 : Int) - 1)) aG aO an.ctx) (by rfl) ?_
   rintro _ dj ⟨rfl, bF⟩; refine ⟨_, q, ?_⟩
   have af := an.cN0 [] bF
   refine XN af.chg <| XQ (i := 14) q (by kernel_rfl) q af.chg (J q ab) (fun _ => qt_not q) q q <| XQ (i := 15) q (by kernel_rfl) q af.chg q (fun _ => zf q ab q) q q <| XQ (i := 16) q (by kernel_rfl) q af.chg q (fun _ => qt_move q) q q <| XQ (i := 17) q (by kernel_rfl) q af.chg (J q ai) (fun _ => qt_fieldAddr uf27 fi27_2 nz24 q) q q ?_
   have bG := HasB.bx (HasB.c (HasB.hd)) af.ctx
   refine XT (i := 18) q (by kernel_rfl) q af.chg (J q ai) (qs_cell u24 q q (bG.cell (i := 2) q) af.chg (Ctx.outB aj (HasB.c (HasB.hd)))) q q <| XQ (i := 19) q (by kernel_rfl) q af.chg (J q ai) (fun _ => qt_move q) q q ?_
   obtain ⟨dk, dl, dm, aQ⟩ := Ctx.isAt af.ctx hS4 ar
   refine XT (i := 20) q (by kernel_rfl) q af.chg (J q ai) (qs_index ar aQ u24 i3 q q) q q ?_
   obtain ⟨dn, bH, dq⟩ := af.at hS4 ar aQ
   refine XT (i := 21) q (by kernel_rfl) q af.chg (J q ai) (qs_cell u3 q q (AtP.cInt bH) af.chg (Ctx.outHas aj hS4 ar aQ)) q q <| XQ (i := 22) q (by kernel_rfl) q af.chg (J q ai) (fun _ => qt_lss q q) q q <| XQ (i := 23) q (by kernel_rfl) q af.chg q (fun _ => zf q ai q) q q <| XQ (i := 24) q (by kernel_rfl) q af.chg q (fun _ => qt_move q) q q <| XS (i := 25) q (by kernel_rfl) q af.chg q ag q q <| XS (i := 26) q (by kernel_rfl) q af.chg q ag q q <| XS (i := 27) q (by kernel_rfl) q af.chg q ag q q <| XS (i := 28) q (by kernel_rfl) q af.chg q ag q q <| XS (i := 29) q (by kernel_rfl) q af.chg q ag q q <| XS (i := 30) q (by kernel_rfl) q af.chg q ag q q ?_
   refine XS (i := 31) q (by kernel_rfl) q af.chg q ag q q <| XS (i := 32) q (by kernel_rfl) q af.chg q ag q q <| XS (i := 33) q (by kernel_rfl) q af.chg q ag q q <| XS (i := 34) q (by kernel_rfl) q af.chg q ag q q <| XS (i := 35) q (by kernel_rfl) q af.chg q ag q q <| XS (i := 36) q (by kernel_rfl) q af.chg q ag q q <| XQ (i := 37) q (by kernel_rfl) q af.chg q (fun _ => ze q ag q) q q ?_
   have bI := az.cN0 [] af
   refine XC_done (by kernel_rfl) (fun a ha => ?_)
   have bJ := bI.p5.p5.p5.p5.p5
   exact ⟨ha.sub ⟨q, q, q, q, q, q, trivial⟩, bJ⟩
  skip
  have av := if_f ag aF
  obtain ⟨bK, aH, av⟩ := D av
  obtain ⟨a2, bL, av⟩ := D av
  obtain ⟨bM, bN, av⟩ := D av
  obtain rfl := L av
  refine XQ (i := 0) q (by kernel_rfl) q aa.chg q (fun _ => qt_move q) q q <| XQ (i := 1) q (by kernel_rfl) q aa.chg q (fun _ => qt_fieldAddr uf27 fi27_4 nz25 q) q q ?_
  have bO := HasB.bx (HasB.c (HasB.hd)) aa.ctx
  refine XT (i := 2) q (by kernel_rfl) q aa.chg q (qs_cell u25 q q (bO.cell (i := 4) q) aa.chg (Ctx.outB aj (HasB.c (HasB.hd)))) q q <| XT (i := 3) q (by kernel_rfl) q aa.chg q (qs_len (t := ty12) aa.ctx hS5 u25 q) q q <| XQ (i := 4) q (by kernel_rfl) q aa.chg q (fun _ => qt_sub q q) q q <| X1 5 (by kernel_rfl) q <| zd q q c52 (w_spec_l1In au _ p1 0 (IntKind.wrap .i64 ((List.length B4 : Int) - 1)) ay aE aa.ctx) (by rfl) ?_
  rintro _ bP ⟨rfl, bQ⟩; refine ⟨_, q, ?_⟩
  have ao := aa.cN0 [] bQ
  refine XN ao.chg <| XQ (i := 6) q (by kernel_rfl) q ao.chg q (fun _ => qt_not q) q q <| XQ (i := 7) q (by kernel_rfl) q ao.chg q (fun _ => qt_move q) q q <| XQ (i := 8) q (by kernel_rfl) q ao.chg (J q ab) (fun _ => qt_move q) q q <| XQ (i := 9) q (by kernel_rfl) q ao.chg (J q ab) (fun _ => qt_fieldAddr uf27 fi27_0 nz23 q) q q ?_
  have bR := HasB.bx (HasB.c (HasB.hd)) ao.ctx
  refine XT (i := 10) q (by kernel_rfl) q ao.chg (J q ab) (qs_cell u23 q q (bR.cell (i := 0) q) ao.chg (Ctx.outB aj (HasB.c (HasB.hd)))) q q <| XT (i := 11) q (by kernel_rfl) q ao.chg (J q ab) (qs_len (t := ty10) ao.ctx hS2 u23 q) q q <| XQ (i := 12) q (by kernel_rfl) q ao.chg (J q ab) (fun _ => qt_sub q q) q q <| X1 13 (by kernel_rfl) q <| zd (J q ab) q c52 (w_spec_l1In bP _ p2 0 (IntKind.wrap .i64 ((List.length B0 : Int) - 1)) aG aO ao.ctx) (by rfl) ?_
  rintro _ bS ⟨rfl, bT⟩; refine ⟨_, q, ?_⟩
  have ad := ao.cN0 [] bT
  refine XN ad.chg <| XQ (i := 14) q (by kernel_rfl) q ad.chg (J q ab) (fun _ => qt_not q) q q <| XQ (i := 15) q (by kernel_rfl) q ad.chg q (fun _ => zf q ab q) q q <| XQ (i := 16) q (by kernel_rfl) q ad.chg q (fun _ => qt_move q) q q <| XQ (i := 17) q (by kernel_rfl) q ad.chg (J q ai) (fun _ => qt_fieldAddr uf27 fi27_2 nz24 q) q q ?_
  have bU := HasB.bx (HasB.c (HasB.hd)) ad.ctx
  refine XT (i := 18) q (by kernel_rfl) q ad.chg (J q ai) (qs_cell u24 q q (bU.cell (i := 2) q) ad.chg (Ctx.outB aj (HasB.c (HasB.hd)))) q q <| XQ (i := 19) q (by kernel_rfl) q ad.chg (J q ai) (fun _ => qt_move q) q q ?_
  obtain ⟨dr, ds, dt, aR⟩ := Ctx.isAt ad.ctx hS4 ar
  refine XT (i := 20) q (by kernel_rfl) q ad.chg (J q ai) (qs_index ar aR u24 i3 q q) q q ?_
  obtain ⟨du, bV, dv⟩ := ad.at hS4 ar aR
  refine XT (i := 21) q (by kernel_rfl) q ad.chg (J q ai) (qs_cell u3 q q (AtP.cInt bV) ad.chg (Ctx.outHas aj hS4 ar aR)) q q <| XQ (i := 22) q (by kernel_rfl) q ad.chg (J q ai) (fun _ => qt_lss q q) q q <| XQ (i := 23) q (by kernel_rfl) q ad.chg q (fun _ => zf q ai q) q q <| XQ (i := 24) q (by kernel_rfl) q ad.chg q (fun _ => qt_move q) q q <| XQ (i := 25) q (by kernel_rfl) q ad.chg (J q ag) (fun _ => qt_fieldAddr uf27 fi27_0 nz23 q) q q ?_
  have bW := HasB.bx (HasB.c (HasB.hd)) ad.ctx
  refine XT (i := 26) q (by kernel_rfl) q ad.chg (J q ag) (qs_cell u23 q q (bW.cell (i := 0) q) ad.chg (Ctx.outB aj (HasB.c (HasB.hd)))) q q <| XQ (i := 27) q (by kernel_rfl) q ad.chg (J q ag) (fun _ => qt_fieldAddr uf27 fi27_4 nz25 q) q q ?_
  have bX := HasB.bx (HasB.c (HasB.hd)) ad.ctx
  refine XT (i := 28) q (by kernel_rfl) q ad.chg (J q ag) (qs_cell u25 q q (bX.cell (i := 4) q) ad.chg (Ctx.outB aj (HasB.c (HasB.hd)))) q q <| XQ (i := 29) q (by kernel_rfl) q ad.chg (J q ag) (fun _ => qt_move q) q q ?_
  obtain ⟨dw, dx, dy, aS⟩ := Ctx.isAt ad.ctx hS5 aH
  refine XT (i := 30) q (by kernel_rfl) q ad.chg (J q ag) (qs_index aH aS u25 i47 q q) q q <| XQ (i := 31) q (by kernel_rfl) q ad.chg (J q ag) (fun _ => qt_fieldAddr uf47 fi47_0 nz3 q) q q ?_
  obtain ⟨dz, bY, dA⟩ := ad.at hS5 aH aS
  obtain ⟨dB, bZ, dC⟩ := AtP.fst bY
  refine XT (i := 32) q (by kernel_rfl) q ad.chg (J q ag) (qs_cell u3 q q (AtP.cInt bZ) ad.chg (Ctx.outHas aj hS5 aH aS)) q q <| XQ (i := 34) q (by kernel_rfl) q ad.chg (J q ag) (fun _ => qt_move q) q q <| X1 33 (by kernel_rfl) q <| zd (J q ag) q c54 (w_spec_FreeOf bS _ A0 B0 hS2 bK.1 a2 bL ad.ctx) (by rfl) ?_
  rintro _ b0 ⟨b4, rfl, b6⟩; refine ⟨_, q, ?_⟩
  have aT := ad.cN1 [] b6
  refine XN aT.chg <| X1 35 (by kernel_rfl) q <| zd (J q ag) q c55 (w_spec_l1Has b0 _ b4 a2 hS0 p2 bM bN aT.ctx) (by rfl) ?_
  rintro _ dD ⟨rfl, b7⟩; refine ⟨_, q, ?_⟩
  have aI := aT.cN0 [] b7
  refine XN aI.chg <| XQ (i := 36) q (by kernel_rfl) q aI.chg (J q ag) (fun _ => qt_not q) q q <| XQ (i := 37) q (by kernel_rfl) q aI.chg q (fun _ => zf q ag q) q q ?_
  have b8 := az.cN1 [] aI
  refine XC_done (by kernel_rfl) (fun a ha => ?_)
  have b9 := b8.q0.p5.p5.p5.p5.p5
  exact ⟨ha.sub ⟨q, q, q, q, q, q, trivial⟩, b9⟩
 intro a ca cb
 obtain ⟨ha, aA⟩ := cb
 refine S ?_ ha
 clear ha
 refine Y q (fun aU => ?_) (fun aU => ?_)
 ·have h := if_t aU h
  refine C <| Z ?_
  have cc := R aA.p0
  refine zm (cs := [A0, A1, A2, iV B3, A4]) us27 uo27 il27 cc q q q ?_
  change XL _ _ _ _ _ ((49, .agg #[A0, A1, A2, iV B3, A4]) :: _) _
  have aB := aA.p5
  refine zl (cs' := [A0, A1, A2, iV B3, A4]) aB q il27 q (T (aB.ctx.sliceOne hS2) (T (aB.ctx.sliceOne hS3) (T (aB.ctx.sliceOne hS4) (T q (T (aB.ctx.sliceOne hS5) q))))) q q q (fun dE a3 => ?_)
  refine qA q q q <| B <| W fun a ha => ?_
  obtain rfl := L h
  have cd := R a3.p0
  have ce := a3.q0.q0.p3.p3.p3.p3
  exact m (retct q ha q q (run_loadVar_bx (cs := [A0, A1, A2, iV B3, A4]) us27 uo27 il27 cd) ⟨A0, A1, A2, A4, q, ce⟩)
 have h := if_f aU h
 refine y <| rR <| qF uf27 fi27_4 nz25 q q q ?_
 have cf := R aA.p0
 refine l u25 q cf q q q q <| qM q q q ?_
 obtain ⟨ap, a4, h⟩ := D h
 refine b aA.ctx hS4 a4 u25 i47 q q q q (fun dF dG dH cg => ?_)
 obtain ⟨dI, ch, ci⟩ := aA.atN hS4 a4 cg
 refine XL_load_agg (t := ty12) us47 uo47 i47 ch q q q (fun dJ cj => ?_)
 obtain ⟨dK, dL, dM, dN, rfl, a5, ck, cl⟩ := cj
 obtain ⟨rfl, _⟩ := ck
 obtain ⟨dO, dP, dQ, dR, rfl, a6, cm, cn⟩ := cl
 obtain ⟨aJ, rfl, co⟩ := Rep.sl_inv cm
 obtain ⟨aK, rfl, cp⟩ := Rep.sl_inv cn
 have cq : Holds _ w ca [.ro ty2 aJ ap.2.1, .ro tI aK ap.2.2, .bx b1 27 [A0, A1, A2, iV B3, A4], .sl 55 ty10 A0 B0, .sl 3 tI A1 B1, .sl 3 tI A2 B2, .sl 47 ty12 A4 B4, .bx b5 27 [nS, nS, nS, iV 0, nS]] G := ci [.ro ty2 aJ ap.2.1, .ro tI aK ap.2.2] ⟨⟨_, _, _, _, q, co, (fun k h => (fun k h => (fun _ h => h) k (by rw [a5]; exact zx _ h)) k (by rw [a6]; exact List.mem_append_left _ h))⟩, ⟨_, _, _, _, q, cp, (fun k h => (fun k h => (fun _ h => h) k (by rw [a5]; exact zx _ h)) k (by rw [a6]; exact zx _ h))⟩, trivial⟩
 change XL _ _ _ _ _ ((54, .agg #[iV ap.1, aJ, aK]) :: _) _
 refine zq (cs := [iV 0, nS, nS]) cq z47 q q q (fun dS dT aV => ?_)
 refine zl (cs' := [iV ap.1, aJ, aK]) aV q il47 q (T q (T (aV.ctx.sliceOne hR1) (T (aV.ctx.sliceOne hR2) q))) q q q (fun dU cr => ?_)
 refine B <| C <| Z ?_
 refine zs (t := ty2) (args := []) (xs := ([] : LP)) cr (BltL.nil) u45 j49 q q q q q q (fun dV dW a7 => ?_)
 refine qF uf47 fi47_1 nz45 q q q ?_
 have ct := R a7.p1
 refine l u45 q ct q q q q ?_
 obtain ⟨dX, cu, h⟩ := D h
 refine zw a7 hR2 cu u45 j49 q q q q q q (fun dY dZ cv => ?_)
 refine qM q q q <| A q (qt_build (args := [(0, .tmp 59)]) (css := [#[iV p3]]) (cells := #[iV p3, iV 0]) q ⟨q, trivial⟩ (by kernel_rfl)) q q ?_
 refine zs (t := ty2) (args := [.tmp 60]) (xs := ([(p3, 0)] : LP)) cv (BltL.cons (Blt.pair (Blt.int) (Blt.int)) q (BltL.nil)) u45 j49 q q q q q q (fun d0 d1 cw => ?_)
 have cx := cw.p1
 obtain ⟨cy, cz, h⟩ := D h
 refine zw cx hS1 cz u45 j49 q q q q q q (fun aL d2 cA => ?_)
 refine qF uf47 fi47_1 nz45 q q q ?_
 have aW := cA.p2
 refine WL_store_bx aW q il45 (aW.ctx.sliceCells hS1) (aW.ctx.sliceOne hS1) q q q (fun d3 cB => ?_)
 refine B <| C <| Z ?_
 refine zs (t := tI) (args := []) (xs := ([] : List Int)) cB (BltL.nil) u24 j3 q q q q q q (fun d4 d5 a8 => ?_)
 refine qF uf47 fi47_2 nz24 q q q ?_
 have cC := R a8.p1
 refine l u24 q cC q q q q ?_
 obtain ⟨d6, cD, h⟩ := D h
 refine zw a8 hR5 cD u24 j3 q q q q q q (fun d7 d8 cE => ?_)
 refine qM q q q ?_
 refine zs (t := tI) (args := [.tmp 68]) (xs := ([p2] : List Int)) cE (BltL.cons (Blt.int) q (BltL.nil)) u24 j3 q q q q q q (fun d9 ea cF => ?_)
 have cG := cF.p1
 obtain ⟨eb, cH, h⟩ := D h
 refine zw cG hS1 cH u24 j3 q q q q q q (fun aX ec cI => ?_)
 refine qF uf47 fi47_2 nz24 q q q ?_
 have aY := cI.p2
 refine WL_store_bx aY q il24 (aY.ctx.sliceCells hS1) (aY.ctx.sliceOne hS1) q q q (fun ed aZ => ?_)
 refine B <| C <| C <| zk <| qF uf47 fi47_1 nz45 q q q ?_
 have cJ := R aZ.p0
 refine l u45 q cJ q q q q ?_
 obtain ⟨cK, cL, h⟩ := D h
 refine QC q q c53 (fun w' hb => w_spec_TicketValid w' _ aL cy hS3 cK cL (aZ.grow hb).ctx) (by rfl) <| A q (qt_not q) q q <| QL_nil fun a ha ee cM => ?_
 have aw := aZ.grow cM
 refine X (S ?_ ha)
 refine Y q (fun a0 => ?_) (fun a0 => ?_)
 ·have h := if_t a0 h
  refine C <| Z ?_
  have cN := R aw.p7
  refine zm (cs := [A0, A1, A2, iV B3, A4]) us27 uo27 il27 cN q q q ?_
  change XL _ _ _ _ _ ((76, .agg #[A0, A1, A2, iV B3, A4]) :: _) _
  have aC := aw.p12
  refine zl (cs' := [A0, A1, A2, iV B3, A4]) aC q il27 q (T (aC.ctx.sliceOne hS9) (T (aC.ctx.sliceOne hS10) (T (aC.ctx.sliceOne hS11) (T q (T (aC.ctx.sliceOne hS12) q))))) q q q (fun ef a9 => ?_)
  refine qA q q q <| B <| W fun a ha => ?_
  obtain rfl := L h
  have cO := R a9.p0
  have cP := a9.q0.q0.q0.q0.q0.q0.q0.q0.q0.p3.p3.p3.p3
  exact m (retct q ha q q (run_loadVar_bx (cs := [A0, A1, A2, iV B3, A4]) us27 uo27 il27 cO) ⟨A0, A1, A2, A4, q, cP⟩)
 have h := if_f a0 h
 refine y <| rR <| qF uf27 fi27_4 nz25 q q q ?_
 have cQ := R aw.p7
 refine l u25 q cQ q q q q <| qM q q q ?_
 have cR := R aw.p0
 refine zm (cs := [iV ap.1, aL, aX]) us47 uo47 il47 cR q q q ?_
 change XL _ _ _ _ _ ((80, .agg #[iV ap.1, aL, aX]) :: _) _
 obtain ⟨eg, ba, h⟩ := D h
 refine b aw.ctx hS11 ba u25 i47 q q q q (fun eh ei ej cS => ?_)
 have cT := aw.p11
 have cU := cT.p4
 have cV := cU.freeze
 have cW := cV.p3
 have cX := cW.freeze
 have cY := cX.p2
 refine WL_storeH (fo := 0) (cs' := [iV ap.1, aL, aX]) cY ba cS (Upd.whole (Blt.pair (Blt.int) (Blt.pair (Blt.slice hO2) (Blt.slice hO1)))) q il47 q q q q (fun ek cZ => ?_)
 refine B <| C ?_
 refine WP_tail 9 (by kernel_rfl) (by kernel_rfl) (fun el c0 => ?_)
 have ax := cZ.grow c0
 refine qF uf27 fi27_2 nz24 q q q ?_
 have c1 := R ax.p8
 refine l u24 q c1 q q q q <| qM q q q <| qF uf27 fi27_2 nz24 q q q ?_
 have c2 := R ax.p8
 refine l u24 q c2 q q q q <| qM q q q ?_
 obtain ⟨c3, bb, h⟩ := D h
 refine b ax.ctx hS11 bb u24 i3 q q q q (fun em en eo c4 => ?_)
 obtain ⟨ep, c5, er⟩ := ax.at hS11 bb c4
 refine zt (k := .i64) u3 q c5 q q q <| A q (qt_sub q q) q q <| SL_nil ?_
 obtain ⟨es, bc, h⟩ := D h
 refine b ax.ctx hS11 bc u24 i3 q q q q (fun et eu ew da => ?_)
 have db := ax.p11
 refine WL_storeH (fo := 0) (cs' := [iV (IntKind.wrap .i64 (c3 - 1))]) db bc da (Upd.whole (Blt.int)) q il3 q q q q (fun ey bd => ?_)
 refine B <| C <| Z ?_
 have dc := R bd.p9
 refine zm (cs := [A0, A1, A2, iV B3, A4]) us27 uo27 il27 dc q q q ?_
 change XL _ _ _ _ _ ((92, .agg #[A0, A1, A2, iV B3, A4]) :: _) _
 have aD := bd.p12
 refine zl (cs' := [A0, A1, A2, iV B3, A4]) aD q il27 q (T (aD.ctx.sliceOne hS11) (T (aD.ctx.sliceOne hS12) (T (aD.ctx.sliceOne hS1) (T q (T (aD.ctx.sliceOne hS2) q))))) q q q (fun ez be => ?_)
 refine qA q q q <| B <| W fun a ha => ?_
 obtain rfl := L h
 have dd := R be.p0
 have de := be.q0.q2.q2.q2.q2.q2.q2.q2.q2.p1.p1.p3.p3
 exact retct q ha q q (run_loadVar_bx (cs := [A0, A1, A2, iV B3, A4]) us27 uo27 il27 dd) ⟨A0, A1, A2, A4, q, de⟩
theorem w_spec_l7Tickets (w : World) (G : List Res) (A0 : Value) (B0 : LI) (C0 : Has G ty10 A0 B0) (A1 : Value) (B1 : List Int) (C1 : Has G tI A1 B1) (A2 : Value) (B2 : List Int) (C2 : Has G tI A2 B2) (B3 : Int) (A4 : Value) (B4 : LT) (C4 : Has G ty12 A4 B4) (r : (List LP)) (h : spec_l7TicketsS B0 B1 B2 B3 B4 = some r) (H : Ctx w G) : Calls Tryz.prog 49 #[.agg #[A0, A1, A2, iV B3, A4]] w fun e w' => ∃ (v1 : Value), e = .returned (v1) ∧ Holds M0 w w' [.sl 45 ty4 v1 r] G := by
 have H : Holds M0 w w [] G := zb H
 refine zg (args := [.agg #[A0, A1, A2, iV B3, A4]]) (n := 23) Tryz.func49 q q q ?_
 unfold spec_l7TicketsS at h
 refine C <| Z ?_
 refine WL_box (cs := [A0, A1, A2, iV B3, A4]) H q q q q (fun b1 w2 H3 => ?_)
 refine qA q q q <| B <| C <| Z ?_
 refine zs (t := ty4) (args := []) (xs := ([] : List LP)) H3 (BltL.nil) u81 j45 q q q q q q (fun v5 w6 H7 => ?_)
 refine qA q q q <| B <| C <| rR <| qA q q q <| B <| g ?_
 obtain ⟨af, am, h⟩ := D h
 have an := H7.p1
 refine fun ao ag => zp (I := fun s a w2 => match s with | (s9, ah) => ∃ ad, Fr a 23 [(1, pB b1), (3, ad), (4, iV ah)] ∧ Holds M0 w w2 [.bx b1 27 [A0, A1, A2, iV B3, A4], .sl 45 ty4 ad s9] G) (O := fun o e a w2 => match o with | q0 => e = .exit 0 ∧ ∃ ai, Fr a 23 [(3, ai)] ∧ Holds M0 w w2 [.sl 45 ty4 ai q0] G) am ?_ ?_ ?_
 ·exact ⟨v5, ag.sub ⟨q, q, q, trivial⟩, an⟩
 ·clear ag
  intro s aP a ap aa aq
  obtain ⟨s9, ah⟩ := s
  obtain ⟨ad, ha, ab⟩ := aq
  refine S ?_ ha
  clear ha
  refine C <| rR <| qM q q q <| qF uf27 fi27_4 nz25 q q q ?_
  have ar := R ab.p0
  refine l u25 q ar q q q q <| za ab.ctx (t := ty12) (C4.c.c) u25 q q q <| A q (qt_lss q q) q q <| B ?_
  refine Y q (fun ae => ?_) (fun ae => ?_)
  ·have aa := if_t ae aa
   refine y <| C <| g <| Z <| qM q q q <| qF uf27 fi27_4 nz25 q q q ?_
   have au := R ab.p0
   refine l u25 q au q q q q <| qM q q q ?_
   obtain ⟨aj, ak, aa⟩ := D aa
   refine b ab.ctx (C4.c.c) ak u25 i47 q q q q (fun aQ aR aS av => ?_)
   refine qF uf47 fi47_1 nz45 q q q ?_
   obtain ⟨aT, aw, ax⟩ := ab.at (C4.c.c) ak av
   obtain ⟨aU, ay, az⟩ := AtP.snd aw
   obtain ⟨aV, aA, aB⟩ := AtP.fst ay
   refine XL_load (t := ty4) u45 q q aA q q q (fun aC aD => ?_)
   have al : Holds _ w ap [.ro ty2 aC aj.2.1, .bx b1 27 [A0, A1, A2, iV B3, A4], .sl 45 ty4 ad s9] G := ax _ _ _ _ aD (fun k h => (fun k h => (fun _ h => h) k (az k h)) k (aB k h))
   refine zs (t := ty4) (args := [.tmp 19]) (xs := ([aj.2.1] : List LP)) al (BltL.cons (Blt.slice hO0) (al.ctx.sliceList hR0) (BltL.nil)) u81 j45 q q q q q q (fun aW aX aE => ?_)
   have aF := aE.p3
   obtain ⟨aY, aG, aa⟩ := D aa
   refine zw aF hS1 aG u81 j45 q q q q q q (fun aH aZ aI => ?_)
   refine qA q q q <| WL_nil fun a ha => ?_
   refine zi (X (S ?_ ha))
   refine Z <| qM q q q <| A q (qt_add q q) q q <| qA q q q <| WL_nil fun a ha => ?_
   obtain rfl := L aa
   have aJ := aI.q1.q1.p1
   exact ⟨q, aH, ha.sub ⟨q, q, q, trivial⟩, aJ⟩
  have aa := if_f ae aa
  refine WP_exit fun a ha => ?_
  obtain rfl := L aa
  have aK := ab.q0
  exact zo (⟨exit_ne, q, ad, ha.sub ⟨q, trivial⟩, aK⟩)
 intro e ao a0 aL
 obtain ⟨a1, rfl⟩ : ∃ z, z = af := ⟨af, q⟩
 obtain ⟨rfl, aM⟩ := aL
 obtain ⟨aN, ha, aO⟩ := aM
 refine zn (X (S ?_ ha))
 refine rR <| qM q q q <| qA q q q <| B <| W fun a ha => ?_
 obtain rfl := L h
 exact ret1 q ha q ⟨aN, q, aO⟩
theorem w_spec_KitchenValid (w : World) (G : List Res) (vp0 : Value) (p0 : List LP) (hp0 : Has G ty4 vp0 p0) (r : Bool) (h : spec_KitchenValidS p0 = some r) (H : Ctx w G) : Calls Tryz.prog 85 #[vp0] w fun e w' => e = .returned (.bool r) ∧ Holds M0 w w' [] G := by
 have H : Holds M0 w w [] G := zb H
 refine zg (args := [vp0]) (n := 19) Tryz.func85 q q q ?_
 unfold spec_KitchenValidS at h
 refine rR <| qA q q q <| B <| C <| rR <| qA q q q <| B <| g ?_
 obtain ⟨o2, an, h⟩ := D h
 refine fun a4 af => zp (I := fun s a w2 => match s with | s1 => (Fr a 19 [(0, vp0), (3, iV s1)] ∧ Holds M0 w w2 [] G)) (O := fun o e a w2 => match o with | .inl _ => e = .exit 0 ∧ (Fr a 19 [(0, vp0)] ∧ Holds M0 w w2 [] G) | .inr q0 => e = .ret ∧ (Fr a 19 [(2, .bool q0)] ∧ Holds M0 w w2 [] G)) an ?_ ?_ ?_
 ·exact ⟨af.sub ⟨q, q, trivial⟩, H⟩
 ·clear af
  intro s o8 a w6 aa ao
  obtain ⟨s1, rfl⟩ : ∃ z, z = s := ⟨s, q⟩
  obtain ⟨ha, ab⟩ := ao
  refine S ?_ ha
  clear ha
  refine C <| rR <| qM q q q <| qM q q q <| za ab.ctx (t := ty4) (hp0) u81 q q q <| A q (qt_lss q q) q q <| B ?_
  refine Y q (fun ad => ?_) (fun ad => ?_)
  ·have aa := if_t ad aa
   refine y <| C <| g <| C <| zk <| qM q q q <| qM q q q ?_
   obtain ⟨ag, ah, aa⟩ := D aa
   refine b ab.ctx (hp0) ah u81 i45 q q q q (fun aD aE aF ap => ?_)
   obtain ⟨aG, aq, ar⟩ := ab.at (hp0) ah ap
   refine XL_load (t := ty4) u45 q q aq q q q (fun ai au => ?_)
   have aj : Holds _ w w6 [.ro ty2 ai ag] G := ar _ _ _ _ au (fun _ h => h)
   obtain ⟨av, aw, aa⟩ := D aa
   refine QC q q c53 (fun w' hb => w_spec_TicketValid w' _ ai ag hR0 av aw (aj.grow hb).ctx) (by rfl) <| A q (qt_not q) q q <| QL_nil fun a ha aH ax => ?_
   have ak := aj.grow ax
   refine X (S ?_ ha)
   refine Y q (fun ae => ?_) (fun ae => ?_)
   ·have aa := if_t ae aa
    refine rR <| qA q q q <| B <| W fun a ha => ?_
    obtain rfl := L aa
    have ay := ak.q0
    exact zj (m (⟨ret_ne, q, ha.sub ⟨q, trivial⟩, ay⟩))
   have aa := if_f ae aa
   refine WP_skip fun a ha => ?_
   refine zi (X (S ?_ ha))
   refine Z <| qM q q q <| A q (qt_add q q) q q <| qA q q q <| WL_nil fun a ha => ?_
   obtain rfl := L aa
   have az := ak.q0
   exact ⟨q, ha.sub ⟨q, q, trivial⟩, az⟩
  have aa := if_f ad aa
  refine WP_exit fun a ha => ?_
  obtain rfl := L aa
  exact zo (⟨exit_ne, q, ha.sub ⟨q, trivial⟩, ab⟩)
 intro e a4 aI al
 rcases o2 with o2 | o2
 ·skip
  obtain ⟨rfl, aA⟩ := al
  obtain ⟨ha, am⟩ := aA
  refine zn (X (S ?_ ha))
  refine rR <| qM q q q <| za am.ctx (t := ty4) (hp0) u81 q q q <| A q (qt_leq q q) q q <| qA q q q <| B <| W fun a ha => ?_
  obtain rfl := L h
  exact ret1 q ha q ⟨q, am⟩
 skip
 obtain ⟨aJ, rfl⟩ : ∃ z, z = o2 := ⟨o2, q⟩
 obtain ⟨rfl, aB⟩ := al
 obtain ⟨ha, aC⟩ := aB
 obtain rfl := L h
 exact zj (m (ret1 q ha q ⟨q, aC⟩))
theorem w_spec_l4Copy (w : World) (G : List Res) (vp0 : Value) (p0 : List LP) (hp0 : Has G ty4 vp0 p0) (r : (List LP)) (h : spec_l4CopyS p0 = some r) (H : Ctx w G) : Calls Tryz.prog 98 #[vp0] w fun e w' => ∃ (v1 : Value), e = .returned (v1) ∧ Holds M0 w w' [.sl 45 ty4 v1 r] G := by
 have H : Holds M0 w w [] G := zb H
 refine zg (args := [vp0]) (n := 22) Tryz.func98 q q q ?_
 unfold spec_l4CopyS at h
 refine rR <| qA q q q <| B <| C <| Z ?_
 refine zs (t := ty4) (args := []) (xs := ([] : List LP)) H (BltL.nil) u81 j45 q q q q q q (fun v1 w2 H3 => ?_)
 refine qA q q q <| B <| C <| rR <| qA q q q <| B <| g ?_
 obtain ⟨o7, ak, h⟩ := D h
 refine fun a9 af => zp (I := fun s a w2 => match s with | (s5, s6) => ∃ ab, Fr a 22 [(0, vp0), (3, ab), (4, iV s6)] ∧ Holds M0 w w2 [.sl 45 ty4 ab s5] G) (O := fun o e a w2 => match o with | q0 => e = .exit 0 ∧ ∃ ag, Fr a 22 [(3, ag)] ∧ Holds M0 w w2 [.sl 45 ty4 ag q0] G) ak ?_ ?_ ?_
 ·exact ⟨v1, af.sub ⟨q, q, q, trivial⟩, H3⟩
 ·clear af
  intro s aL a aM aa al
  obtain ⟨s5, s6⟩ := s
  obtain ⟨ab, ha, ad⟩ := al
  refine S ?_ ha
  clear ha
  refine C <| rR <| qM q q q <| qM q q q <| za ad.ctx (t := ty4) (hp0.c) u81 q q q <| A q (qt_lss q q) q q <| B ?_
  refine Y q (fun ae => ?_) (fun ae => ?_)
  ·have aa := if_t ae aa
   refine y <| C <| g <| Z <| qM q q q ?_
   refine zs (t := ty2) (args := []) (xs := ([] : LP)) ad (BltL.nil) u45 j49 q q q q q q (fun am an ah => ?_)
   refine qM q q q <| qM q q q ?_
   obtain ⟨ao, ai, aa⟩ := D aa
   refine b ah.ctx (hp0.c.c) ai u81 i45 q q q q (fun aN aO aP ap => ?_)
   obtain ⟨aQ, aq, ar⟩ := ah.at (hp0.c.c) ai ap
   refine XL_load (t := ty4) u45 q q aq q q q (fun au av => ?_)
   have aw : Holds _ w an [.ro ty2 au ao, .sl 49 ty2 am ([]), .sl 45 ty4 ab s5] G := ar _ _ _ _ av (fun _ h => h)
   have ax := aw.p1
   obtain ⟨ay, az, aa⟩ := D aa
   refine zw ax hR1 az u45 j49 q q q q q q (fun aR aS aA => ?_)
   have aj := aA.freeze
   refine zs (t := ty4) (args := [.tmp 18]) (xs := ([ay] : List LP)) aj (BltL.cons (Blt.slice hO0) (aj.ctx.sliceList hR0) (BltL.nil)) u81 j45 q q q q q q (fun aT aU aB => ?_)
   have aC := aB.p3
   obtain ⟨aV, aD, aa⟩ := D aa
   refine zw aC hS1 aD u81 j45 q q q q q q (fun aE aW aF => ?_)
   refine qA q q q <| WL_nil fun a ha => ?_
   refine zi (X (S ?_ ha))
   refine Z <| qM q q q <| A q (qt_add q q) q q <| qA q q q <| WL_nil fun a ha => ?_
   obtain rfl := L aa
   have aG := aF.q1.q1.q1
   exact ⟨q, aE, ha.sub ⟨q, q, q, trivial⟩, aG⟩
  have aa := if_f ae aa
  refine WP_exit fun a ha => ?_
  obtain rfl := L aa
  exact zo (⟨exit_ne, q, ab, ha.sub ⟨q, trivial⟩, ad⟩)
 intro e a9 aX aH
 obtain ⟨aY, rfl⟩ : ∃ z, z = o7 := ⟨o7, q⟩
 obtain ⟨rfl, aI⟩ := aH
 obtain ⟨aJ, ha, aK⟩ := aI
 refine zn (X (S ?_ ha))
 refine rR <| qM q q q <| qA q q q <| B <| W fun a ha => ?_
 obtain rfl := L h
 exact ret1 q ha q ⟨aJ, q, aK⟩
theorem w_spec_l4Next (w : World) (G : List Res) (p0 : Int) (p1 : Int) (r : Int) (h : spec_l4NextS p0 p1 = some r) (H : Ctx w G) : Calls Tryz.prog 111 #[iV p0, iV p1] w fun e w' => e = .returned (iV r) ∧ Holds M0 w w' [] G := by
 have H : Holds M0 w w [] G := zb H
 refine zg (args := [iV p0, iV p1]) (n := 33) Tryz.func111 q q q ?_
 unfold spec_l4NextS at h
 refine rR <| qA q q q <| B <| C <| g <| rR <| qM q q q <| A q (qt_eql q q) q q ?_
 refine qM q q q ?_
 refine zh 3 11 (.bool ((p1 == 0) && (p0 == 0))) ?_ (fun md hmd hk => ?_)
 rotate_left
 ·obtain ⟨Q, rfl⟩ := Md.seq_of hmd
  rcases btf (p1 == 0) with aa | aa
  ·skip
   refine qM (J q aa) q q <| A (J q aa) (qt_eql q q) q q <| A q (ze q aa q) q q ?_
   exact hk _ (p (by rw [aa]; rfl) (cfn 2 q (u)))
  skip
  refine qS q aa q q <| qS q aa q q <| A q (zf q aa q) q q ?_
  exact hk _ (p (by rw [aa]; rfl) (cfn 2 q (u)))
 refine qA q q q <| B ?_
 refine Y q (fun af => ?_) (fun af => ?_)
 ·have h := if_t af h
  refine rR <| qA q q q <| B <| W fun a ha => ?_
  obtain rfl := L h
  exact zj (m (ret1 q ha q ⟨q, H⟩))
 have h := if_f af h
 refine rR <| qM q q q <| A q (qt_eql q q) q q <| qM q q q ?_
 refine zh 3 18 (.bool ((p1 == 1) && (p0 == 1))) ?_ (fun md hmd hk => ?_)
 rotate_left
 ·obtain ⟨Q, rfl⟩ := Md.seq_of hmd
  rcases btf (p1 == 1) with ab | ab
  ·skip
   refine qM (J q ab) q q <| A (J q ab) (qt_eql q q) q q <| A q (ze q ab q) q q ?_
   exact hk _ (p (by rw [ab]; rfl) (cfn 2 q (u)))
  skip
  refine qS q ab q q <| qS q ab q q <| A q (zf q ab q) q q ?_
  exact hk _ (p (by rw [ab]; rfl) (cfn 2 q (u)))
 refine qA q q q <| B ?_
 refine Y q (fun ag => ?_) (fun ag => ?_)
 ·have h := if_t ag h
  refine rR <| qA q q q <| B <| W fun a ha => ?_
  obtain rfl := L h
  exact zj (m (ret1 q ha q ⟨q, H⟩))
 have h := if_f ag h
 refine rR <| qM q q q <| A q (qt_eql q q) q q <| qM q q q ?_
 refine zh 3 25 (.bool ((p1 == 2) && (p0 == 2))) ?_ (fun md hmd hk => ?_)
 rotate_left
 ·obtain ⟨Q, rfl⟩ := Md.seq_of hmd
  rcases btf (p1 == 2) with ad | ad
  ·skip
   refine qM (J q ad) q q <| A (J q ad) (qt_eql q q) q q <| A q (ze q ad q) q q ?_
   exact hk _ (p (by rw [ad]; rfl) (cfn 2 q (u)))
  skip
  refine qS q ad q q <| qS q ad q q <| A q (zf q ad q) q q ?_
  exact hk _ (p (by rw [ad]; rfl) (cfn 2 q (u)))
 refine qA q q q <| B ?_
 refine Y q (fun ah => ?_) (fun ah => ?_)
 ·have h := if_t ah h
  refine rR <| qA q q q <| B <| W fun a ha => ?_
  obtain rfl := L h
  exact zj (m (ret1 q ha q ⟨q, H⟩))
 have h := if_f ah h
 refine rR <| qM q q q <| A q (qt_eql q q) q q <| qM q q q ?_
 refine zh 3 32 (.bool ((p1 == 3) && (decide (p0 < 3)))) ?_ (fun md hmd hk => ?_)
 rotate_left
 ·obtain ⟨Q, rfl⟩ := Md.seq_of hmd
  rcases btf (p1 == 3) with ae | ae
  ·skip
   refine qM (J q ae) q q <| A (J q ae) (qt_lss q q) q q <| A q (ze q ae q) q q ?_
   exact hk _ (p (by rw [ae]; rfl) (cfn 2 q (u)))
  skip
  refine qS q ae q q <| qS q ae q q <| A q (zf q ae q) q q ?_
  exact hk _ (p (by rw [ae]; rfl) (cfn 2 q (u)))
 refine qA q q q <| B ?_
 refine Y q (fun ai => ?_) (fun ai => ?_)
 ·have h := if_t ai h
  refine rR <| qA q q q <| B <| W fun a ha => ?_
  obtain rfl := L h
  exact zj (m (ret1 q ha q ⟨q, H⟩))
 have h := if_f ai h
 refine WP_skip fun a ha => ?_
 refine zi (X (S ?_ ha))
 refine rR <| qA q q q <| B <| W fun a ha => ?_
 obtain rfl := L h
 exact ret1 q ha q ⟨q, H⟩
theorem w_spec_TicketDo (w : World) (G : List Res) (vp0 : Value) (p0 : LP) (hp0 : Has G ty2 vp0 p0) (p1 : Int) (p2 : Int) (r : LP × Bool) (h : spec_TicketDoS p0 p1 p2 = some r) (H : Ctx w G) : Calls Tryz.prog 99 #[vp0, iV p1, iV p2] w fun e w' => ∃ (v1 : Value), e = .returned (.tuple #[v1, .bool r.2]) ∧ Holds M0 w w' [.sl 49 ty2 v1 r.1] G := by
 have H : Holds M0 w w [] G := zb H
 refine zg (args := [vp0, iV p1, iV p2]) (n := 46) Tryz.func99 q q q ?_
 unfold spec_TicketDoS at h
 refine rR <| qA q q q <| qA q q q <| B <| C <| C <| zk <| qM q q q ?_
 obtain ⟨x1, ao, h⟩ := D h
 refine QC q q c53 (fun w' hb => w_spec_TicketValid w' G vp0 p0 (hp0) x1 ao (H.grow hb).ctx) (by rfl) <| A q (qt_not q) q q <| QL_nil fun a ha w3 ap => ?_
 have H5 := H.grow ap
 refine X (S ?_ ha)
 refine Y q (fun ad => ?_) (fun ad => ?_)
 ·have h := if_t ad h
  refine C <| Z ?_
  refine zs (t := ty2) (args := []) (xs := ([] : LP)) H5 (BltL.nil) u45 j49 q q q q q q (fun v7 w8 H9 => ?_)
  refine qA q q q <| qA q q q <| B <| W fun a ha => ?_
  obtain rfl := L h
  exact m (ret2 q ha q q ⟨v7, q, H9⟩)
 have h := if_f ad h
 refine y <| C <| Z ?_
 refine zs (t := ty2) (args := []) (xs := ([] : LP)) H5 (BltL.nil) u45 j49 q q q q q q (fun aO aP aq => ?_)
 refine qM q q q ?_
 obtain ⟨ar, au, h⟩ := D h
 refine zw aq (hp0.c) au u45 j49 q q q q q q (fun ab aQ ae => ?_)
 refine qA q q q <| B <| C <| C <| zk <| qM q q q <| qM q q q <| za ae.ctx (t := ty2) (hp0.c) u45 q q q <| A q (qt_sub q q) q q ?_
 obtain ⟨av, aw, h⟩ := D h
 refine QC q q c52 (fun w' hb => w_spec_l1In w' _ p1 0 (IntKind.wrap .i64 ((List.length p0 : Int) - 1)) av aw (ae.grow hb).ctx) (by rfl) <| A q (qt_not q) q q <| QL_nil fun a ha aR ax => ?_
 have aa := ae.grow ax
 refine X (S ?_ ha)
 refine Y q (fun af => ?_) (fun af => ?_)
 ·have h := if_t af h
  refine rR <| qM q q q <| qA q q q <| qA q q q <| B <| W fun a ha => ?_
  obtain rfl := L h
  exact m (ret2 q ha q q ⟨ab, q, aa⟩)
 have h := if_f af h
 refine y <| C <| zk <| qM q q q <| qM q q q ?_
 obtain ⟨ay, ak, h⟩ := D h
 refine b aa.ctx (hp0.c) ak u45 i49 q q q q (fun aS aT aU az => ?_)
 refine qF uf49 fi49_1 nz3 q q q ?_
 obtain ⟨aV, aA, aW⟩ := aa.at (hp0.c) ak az
 obtain ⟨aX, aB, aY⟩ := AtP.snd aA
 refine zt (k := .i64) u3 q aB q q q <| qM q q q ?_
 obtain ⟨ag, aC, h⟩ := D h
 refine QC q q c111 (fun w' hb => w_spec_l4Next w' _ ay.2 p2 ag aC (aa.grow hb).ctx) (by rfl) <| qA q q q <| QL_nil fun a ha aZ aD => ?_
 have ah := aa.grow aD
 refine X (S ?_ ha)
 refine C <| rR <| qM q q q <| A q (qt_lss q q) q q <| B ?_
 refine Y q (fun ai => ?_) (fun ai => ?_)
 ·have h := if_t ai h
  refine rR <| qM q q q <| qA q q q <| qA q q q <| B <| W fun a ha => ?_
  obtain rfl := L h
  exact m (ret2 q ha q q ⟨ab, q, ah⟩)
 have h := if_f ai h
 refine y <| rR <| qM q q q <| qM q q q <| qM q q q ?_
 obtain ⟨aE, al, h⟩ := D h
 refine b ah.ctx hS0 al u45 i49 q q q q (fun a0 a1 a2 aF => ?_)
 refine qF uf49 fi49_1 nz3 q q q ?_
 refine WL_storeH (fo := 1) (cs' := [iV ag]) ah al aF (Upd.snd (Upd.whole (Blt.int))) q il3 q q q q (fun a3 am => ?_)
 refine B <| C <| C <| zk <| qM q q q ?_
 obtain ⟨aG, aH, h⟩ := D h
 refine QC q q c53 (fun w' hb => w_spec_TicketValid w' _ ab (List.set ar (Int.toNat p1) (aE.1, ag)) hS0 aG aH (am.grow hb).ctx) (by rfl) <| A q (qt_not q) q q <| QL_nil fun a ha a4 aI => ?_
 have an := am.grow aI
 refine X (S ?_ ha)
 refine Y q (fun aj => ?_) (fun aj => ?_)
 ·have h := if_t aj h
  refine C <| Z ?_
  refine zs (t := ty2) (args := []) (xs := ([] : LP)) an (BltL.nil) u45 j49 q q q q q q (fun a5 a6 aJ => ?_)
  refine qM q q q ?_
  obtain ⟨a7, aK, h⟩ := D h
  refine zw aJ (hp0.c.c) aK u45 j49 q q q q q q (fun aL a8 aM => ?_)
  refine qA q q q <| qA q q q <| B <| W fun a ha => ?_
  obtain rfl := L h
  have aN := aM.q1
  exact m (ret2 q ha q q ⟨aL, q, aN⟩)
 have h := if_f aj h
 refine y <| rR <| qM q q q <| qA q q q <| qA q q q <| B <| W fun a ha => ?_
 obtain rfl := L h
 exact ret2 q ha q q ⟨ab, q, an⟩
theorem w_spec_TicketMay (w : World) (G : List Res) (vp0 : Value) (p0 : LP) (hp0 : Has G ty2 vp0 p0) (r : (List Int)) (h : spec_TicketMayS p0 = some r) (H : Ctx w G) : Calls Tryz.prog 112 #[vp0] w fun e w' => ∃ (v1 : Value), e = .returned (v1) ∧ Holds M0 w w' [.sl 3 tI v1 r] G := by
 have H : Holds M0 w w [] G := zb H
 refine zg (args := [vp0]) (n := 26) Tryz.func112 q q q ?_
 unfold spec_TicketMayS at h
 refine rR <| qA q q q <| B <| C <| Z ?_
 refine zs (t := tI) (args := []) (xs := ([] : List Int)) H (BltL.nil) u24 j3 q q q q q q (fun v1 w2 H3 => ?_)
 refine qA q q q <| B <| C <| rR <| qA q q q <| B <| g ?_
 obtain ⟨o7, aj, h⟩ := D h
 refine fun a9 ag => zp (I := fun s a w2 => match s with | (s5, s6) => ∃ ab, Fr a 26 [(0, vp0), (3, ab), (4, iV s6)] ∧ Holds M0 w w2 [.sl 3 tI ab s5] G) (O := fun o e a w2 => match o with | q0 => e = .exit 0 ∧ ∃ ah, Fr a 26 [(3, ah)] ∧ Holds M0 w w2 [.sl 3 tI ah q0] G) aj ?_ ?_ ?_
 ·exact ⟨v1, ag.sub ⟨q, q, q, trivial⟩, H3⟩
 ·clear ag
  intro s aC a ak aa al
  obtain ⟨s5, s6⟩ := s
  obtain ⟨ab, ha, ad⟩ := al
  refine S ?_ ha
  clear ha
  refine C <| rR <| qM q q q <| qM q q q <| za ad.ctx (t := ty2) (hp0.c) u45 q q q <| A q (qt_lss q q) q q <| B ?_
  refine Y q (fun ae => ?_) (fun ae => ?_)
  ·have aa := if_t ae aa
   refine y <| C <| g <| rR <| qM q q q <| qM q q q ?_
   obtain ⟨am, an, aa⟩ := D aa
   refine zd q q c99 (w_spec_TicketDo ak _ vp0 p0 (hp0.c) s6 0 am an ad.ctx) (by rfl) ?_
   rintro _ aD ⟨aE, rfl, ao⟩; refine ⟨_, q, ?_⟩
   have ai := ad.cN1 [] ao
   refine qM q q q <| A q (zv q q) q q <| A q (zv q q) q q <| qA q q q <| qA q q q <| rN <| qM q q q <| B ?_
   refine Y q (fun af => ?_) (fun af => ?_)
   ·have aa := if_t af aa
    refine Z <| qM q q q <| qM q q q ?_
    refine zs (t := tI) (args := [.tmp 22]) (xs := ([s6] : List Int)) ai (BltL.cons (Blt.int) q (BltL.nil)) u24 j3 q q q q q q (fun aF aG ap => ?_)
    have aq := ap.p2
    obtain ⟨aH, ar, aa⟩ := D aa
    refine zw aq hS1 ar u24 j3 q q q q q q (fun au aI av => ?_)
    refine qA q q q <| WL_nil fun a ha => ?_
    refine zi (X (S ?_ ha))
    refine Z <| qM q q q <| A q (qt_add q q) q q <| qA q q q <| WL_nil fun a ha => ?_
    obtain rfl := L aa
    have aw := av.q1.q1
    exact ⟨q, au, ha.sub ⟨q, q, q, trivial⟩, aw⟩
   have aa := if_f af aa
   refine WP_skip fun a ha => ?_
   refine zi (X (S ?_ ha))
   refine Z <| qM q q q <| A q (qt_add q q) q q <| qA q q q <| WL_nil fun a ha => ?_
   obtain rfl := L aa
   have ax := ai.q0
   exact ⟨q, ab, ha.sub ⟨q, q, q, trivial⟩, ax⟩
  have aa := if_f ae aa
  refine WP_exit fun a ha => ?_
  obtain rfl := L aa
  exact zo (⟨exit_ne, q, ab, ha.sub ⟨q, trivial⟩, ad⟩)
 intro e a9 aJ ay
 obtain ⟨aK, rfl⟩ : ∃ z, z = o7 := ⟨o7, q⟩
 obtain ⟨rfl, az⟩ := ay
 obtain ⟨aA, ha, aB⟩ := az
 refine zn (X (S ?_ ha))
 refine rR <| qM q q q <| qA q q q <| B <| W fun a ha => ?_
 obtain rfl := L h
 exact ret1 q ha q ⟨aA, q, aB⟩
theorem w_spec_NextFire (w : World) (G : List Res) (vp0 : Value) (p0 : List LP) (hp0 : Has G ty4 vp0 p0) (r : Int × Int) (h : spec_NextFireS p0 = some r) (H : Ctx w G) : Calls Tryz.prog 100 #[vp0] w fun e w' => e = .returned (.tuple #[iV r.1, iV r.2]) ∧ Holds M0 w w' [] G := by
 have H : Holds M0 w w [] G := zb H
 refine zg (args := [vp0]) (n := 28) Tryz.func100 q q q ?_
 unfold spec_NextFireS at h
 refine rR <| qA q q q <| qA q q q <| B <| C <| rR <| qA q q q <| B ?_
 refine g ?_
 obtain ⟨o2, ar, h⟩ := D h
 refine fun a4 aj => zp (I := fun s a w2 => match s with | s1 => (Fr a 28 [(0, vp0), (4, iV s1)] ∧ Holds M0 w w2 [] G)) (O := fun o e a w2 => match o with | .inl _ => e = .exit 0 ∧ (Fr a 28 [] ∧ Holds M0 w w2 [] G) | .inr (q0, q1) => e = .ret ∧ (Fr a 28 [(2, iV q0), (3, iV q1)] ∧ Holds M0 w w2 [] G)) ar ?_ ?_ ?_
 ·exact ⟨aj.sub ⟨q, q, trivial⟩, H⟩
 ·clear aj
  intro s o8 a w6 aa au
  obtain ⟨s1, rfl⟩ : ∃ z, z = s := ⟨s, q⟩
  obtain ⟨ha, af⟩ := au
  refine S ?_ ha
  clear ha
  refine C <| C <| zk <| qM q q q <| qM q q q <| za af.ctx (t := ty4) (hp0) u81 q q q <| A q (qt_lss q q) q q <| qM q q q ?_
  obtain ⟨av, ad, aa⟩ := D aa
  refine zh 3 13 (.bool av) ?_ (fun md hmd hk => ?_)
  rotate_left
  ·obtain ⟨K, rfl⟩ := zr hmd
   rcases btf (decide (s1 < (List.length p0 : Int))) with ab | ab
   ·skip
    have ad := if_t ab ad
    refine qM (J q ab) q q ?_
    obtain ⟨aw, ax, ad⟩ := D ad
    refine QC (J q ab) q c85 (fun w' hb => w_spec_KitchenValid w' G vp0 p0 (hp0) aw ax (af.grow hb).ctx) (by rfl) <| A q (ze q ab q) q q ?_
    exact hk _ (p (vb ad) (cfn 2 q (u)))
   skip
   refine qS q ab q q <| qS q ab q q <| A q (zf q ab q) q q ?_
   exact hk _ (p (vb (if_f ab ad)) (cfn 2 q (u)))
  refine QL_nil fun a ha ak ay => ?_
  have ag := af.grow ay
  refine X (S ?_ ha)
  refine Y q (fun ah => ?_) (fun ah => ?_)
  ·have aa := if_t ah aa
   refine y <| C <| g <| rR <| qM q q q <| qM q q q ?_
   obtain ⟨al, am, aa⟩ := D aa
   refine b ag.ctx (hp0) am u81 i45 q q q q (fun aQ aR aS az => ?_)
   obtain ⟨aT, aA, aB⟩ := ag.at (hp0) am az
   refine XL_load (t := ty4) u45 q q aA q q q (fun an aC => ?_)
   have ao : Holds _ w ak [.ro ty2 an al] G := aB _ _ _ _ aC (fun _ h => h)
   obtain ⟨aD, aE, aa⟩ := D aa
   refine zd q q c112 (w_spec_TicketMay ak _ an al hR0 aD aE ao.ctx) (by rfl) ?_
   rintro _ aU ⟨aV, rfl, aF⟩; refine ⟨_, q, ?_⟩
   have ae := ao.cN1 [] aF
   refine qA q q q <| rN <| qM q q q <| za ae.ctx (t := tI) hS0 u24 q q q <| A q (qt_gtr q q) q q <| B ?_
   refine Y q (fun ai => ?_) (fun ai => ?_)
   ·have aa := if_t ai aa
    refine C <| WP_quiet (by kernel_rfl) (by kernel_rfl) <| qM q q q <| qM q q q ?_
    obtain ⟨aW, ap, aa⟩ := D aa
    refine b ae.ctx hS0 ap u24 i3 q q q q (fun aX aY aZ aG => ?_)
    obtain ⟨a0, aH, a1⟩ := ae.at hS0 ap aG
    refine zt (k := .i64) u3 q aH q q q <| qA q q q <| qA q q q <| QL_nil fun a ha a2 aI => ?_
    have aJ := ae.grow aI
    refine X (S ?_ ha)
    refine W fun a ha => ?_
    obtain rfl := L aa
    have aK := aJ.q0.q0
    exact zj (m (⟨ret_ne, q, ha.sub ⟨q, q, trivial⟩, aK⟩))
   have aa := if_f ai aa
   refine WP_skip fun a ha => ?_
   refine zi (X (S ?_ ha))
   refine Z <| qM q q q <| A q (qt_add q q) q q <| qA q q q <| WL_nil fun a ha => ?_
   obtain rfl := L aa
   have aL := ae.q0.q0
   exact ⟨q, ha.sub ⟨q, q, trivial⟩, aL⟩
  have aa := if_f ah aa
  refine WP_exit fun a ha => ?_
  obtain rfl := L aa
  exact zo (⟨exit_ne, q, ha.sub trivial, ag⟩)
 intro e a4 a3 aq
 rcases o2 with o2 | o2
 ·skip
  obtain ⟨rfl, aM⟩ := aq
  obtain ⟨ha, aN⟩ := aM
  refine zn (X (S ?_ ha))
  refine rR <| qA q q q <| qA q q q <| B <| W fun a ha => ?_
  obtain rfl := L h
  exact ret2 q ha q q ⟨q, aN⟩
 skip
 obtain ⟨a5, a6⟩ := o2
 obtain ⟨rfl, aO⟩ := aq
 obtain ⟨ha, aP⟩ := aO
 obtain rfl := L h
 exact zj (m (ret2 q ha q q ⟨q, aP⟩))
theorem w_spec_WorkStep (w : World) (G : List Res) (vp0 : Value) (p0 : List LP) (hp0 : Has G ty4 vp0 p0) (r : (List LP) × Bool) (h : spec_WorkStepS p0 = some r) (H : Ctx w G) : Calls Tryz.prog 73 #[vp0] w fun e w' => ∃ (v1 : Value), e = .returned (.tuple #[v1, .bool r.2]) ∧ Holds M0 w w' [.sl 45 ty4 v1 r.1] G := by
 have H : Holds M0 w w [] G := zb H
 refine zg (args := [vp0]) (n := 77) Tryz.func73 q q q ?_
 unfold spec_WorkStepS at h
 refine rR <| qA q q q <| qA q q q <| B <| C <| C <| zk <| qM q q q ?_
 obtain ⟨x1, a3, h⟩ := D h
 refine QC q q c85 (fun w' hb => w_spec_KitchenValid w' G vp0 p0 (hp0) x1 a3 (H.grow hb).ctx) (by rfl) <| A q (qt_not q) q q <| QL_nil fun a ha w3 a4 => ?_
 have H5 := H.grow a4
 refine X (S ?_ ha)
 refine Y q (fun an => ?_) (fun an => ?_)
 ·have h := if_t an h
  refine C <| Z ?_
  refine zs (t := ty4) (args := []) (xs := ([] : List LP)) H5 (BltL.nil) u81 j45 q q q q q q (fun v7 w8 H9 => ?_)
  refine qA q q q <| qA q q q <| B <| W fun a ha => ?_
  obtain rfl := L h
  exact m (ret2 q ha q q ⟨v7, q, H9⟩)
 have h := if_f an h
 refine y <| rR <| qM q q q ?_
 obtain ⟨a5, a6, h⟩ := D h
 refine zd q q c98 (w_spec_l4Copy w3 G vp0 p0 (hp0) a5 a6 H5.ctx) (by rfl) ?_
 rintro _ cd ⟨ab, rfl, a7⟩; refine ⟨_, q, ?_⟩
 have a8 := H5.cN1 [] a7
 refine qA q q q <| B <| C <| rR <| qA q q q <| B <| g ?_
 obtain ⟨ah, a9, h⟩ := D h
 refine fun ba aA => zp (I := fun s a w2 => match s with | (ag, aB) => (Fr a 77 [(0, vp0), (4, ab), (5, iV ag)] ∧ Holds M0 w w2 [.sl 45 ty4 ab aB] G)) (O := fun o e a w2 => match o with | .inl q0 => e = .exit 0 ∧ (Fr a 77 [(0, vp0), (4, ab)] ∧ Holds M0 w w2 [.sl 45 ty4 ab q0] G) | .inr (q0, q1, q2) => e = .ret ∧ ∃ af, Fr a 77 [(2, af), (3, .bool q1)] ∧ Holds M0 w w2 [.sl 45 ty4 af q0] G) a9 ?_ ?_ ?_
 ·exact ⟨aA.sub ⟨q, q, q, trivial⟩, a8⟩
 ·clear aA
  intro s ce a cf ad bb
  obtain ⟨ag, aB⟩ := s
  obtain ⟨ha, aC⟩ := bb
  refine S ?_ ha
  clear ha
  refine C <| rR <| qM q q q <| A q (qt_geq q q) q q <| B ?_
  refine Y q (fun ao => ?_) (fun ao => ?_)
  ·have ad := if_t ao ad
   refine y <| C <| g <| rR <| qA q q q <| B <| g ?_
   obtain ⟨ai, bc, ad⟩ := D ad
   refine fun bd aD => zp (I := fun s a w2 => match s with | (ak, aE) => (Fr a 77 [(0, vp0), (4, ab), (5, iV ag), (6, iV ak)] ∧ Holds M0 w w2 [.sl 45 ty4 ab aE] G)) (O := fun o e a w2 => match o with | .inl q0 => e = .exit 2 ∧ (Fr a 77 [(0, vp0), (4, ab), (5, iV ag)] ∧ Holds M0 w w2 [.sl 45 ty4 ab q0] G) | .inr (q0, q1, q2) => e = .ret ∧ ∃ af, Fr a 77 [(2, af), (3, .bool q1)] ∧ Holds M0 w w2 [.sl 45 ty4 af q0] G) bc ?_ ?_ ?_
   ·exact ⟨aD.sub ⟨q, q, q, q, trivial⟩, aC⟩
   ·clear aD
    intro s cg a ch ae be
    obtain ⟨ak, aE⟩ := s
    obtain ⟨ha, ap⟩ := be
    refine S ?_ ha
    clear ha
    refine C <| rR <| qM q q q <| qM q q q <| za ap.ctx (t := ty4) (hp0.c) u81 q q q <| A q (qt_lss q q) q q <| B ?_
    refine Y q (fun aq => ?_) (fun aq => ?_)
    ·have ae := if_t aq ae
     refine y <| C <| g <| rR <| qA q q q <| B <| g ?_
     obtain ⟨aj, bf, ae⟩ := D ae
     refine fun bg aF => zp (I := fun s a w2 => match s with | (ar, al) => (Fr a 77 [(0, vp0), (4, ab), (5, iV ag), (6, iV ak), (7, iV ar)] ∧ Holds M0 w w2 [.sl 45 ty4 ab al] G)) (O := fun o e a w2 => match o with | .inl q0 => e = .exit 4 ∧ (Fr a 77 [(0, vp0), (4, ab), (5, iV ag), (6, iV ak)] ∧ Holds M0 w w2 [.sl 45 ty4 ab q0] G) | .inr (q0, q1, q2) => e = .ret ∧ ∃ af, Fr a 77 [(2, af), (3, .bool q1)] ∧ Holds M0 w w2 [.sl 45 ty4 af q0] G) bf ?_ ?_ ?_
     ·exact ⟨aF.sub ⟨q, q, q, q, q, trivial⟩, ap⟩
     ·clear aF
      intro s ci a au aa bh
      obtain ⟨ar, al⟩ := s
      obtain ⟨ha, aG⟩ := bh
      refine S ?_ ha
      clear ha
      refine C <| rR <| qM q q q <| qM q q q <| qM q q q ?_
      obtain ⟨aH, aI, aa⟩ := D aa
      refine b aG.ctx (hp0.c) aI u81 i45 q q q q (fun cj ck cl bi => ?_)
      obtain ⟨cm, bj, bk⟩ := aG.at (hp0.c) aI bi
      refine XL_load (t := ty4) u45 q q bj q q q (fun aJ bl => ?_)
      have am : Holds _ w au [.ro ty2 aJ aH, .sl 45 ty4 ab al] G := bk _ _ _ _ bl (fun _ h => h)
      refine za am.ctx (t := ty2) hR0 u45 q q q <| A q (qt_lss q q) q q <| B ?_
      refine Y q (fun av => ?_) (fun av => ?_)
      ·have aa := if_t av aa
       refine y <| C <| g <| rR <| qM q q q <| qM q q q ?_
       obtain ⟨aK, aL, aa⟩ := D aa
       refine b am.ctx (hp0.c.c) aL u81 i45 q q q q (fun cn co cp bm => ?_)
       obtain ⟨cq, bn, bo⟩ := am.at (hp0.c.c) aL bm
       refine XL_load (t := ty4) u45 q q bn q q q (fun aM bp => ?_)
       have aN : Holds _ w au [.ro ty2 aM aK, .ro ty2 aJ aH, .sl 45 ty4 ab al] G := bo _ _ _ _ bp (fun _ h => h)
       refine qM q q q <| qM q q q ?_
       obtain ⟨bq, br, aa⟩ := D aa
       refine zd q q c99 (w_spec_TicketDo au _ aM aK hR0 ar ag bq br aN.ctx) (by rfl) ?_
       rintro _ cr ⟨bs, rfl, bt⟩; refine ⟨_, q, ?_⟩
       have aw := aN.cN1 [] bt
       refine qM q q q <| A q (zv q q) q q <| A q (zv q q) q q <| qA q q q <| qA q q q <| rN <| qM q q q <| B ?_
       refine Y q (fun ax => ?_) (fun ax => ?_)
       ·have aa := if_t ax aa
        refine rR <| qM q q q <| qM q q q <| qM q q q ?_
        obtain ⟨cs, aO, aa⟩ := D aa
        refine b aw.ctx hS3 aO u81 i45 q q q q (fun ct cu cv bu => ?_)
        have bv := aw.p3
        have bw := bv.p1
        have bz := bw.freeze
        have aP := bz.p1
        refine WL_storeH (fo := 0) (cs' := [bs]) aP aO bu (Upd.whole (Blt.slice hO1)) (aP.ctx.sliceList hR1) il45 q q q q (fun cw bA => ?_)
        refine rN <| qM q q q <| qA q q q <| qA q q q <| B <| W fun a ha => ?_
        obtain rfl := L aa
        have bB := bA.q1.q1.q1
        exact zj (m (⟨ret_ne, q, ab, ha.sub ⟨q, q, trivial⟩, bB⟩))
       have aa := if_f ax aa
       refine WP_skip fun a ha => ?_
       refine zi (X (S ?_ ha))
       refine Z <| qM q q q <| A q (qt_add q q) q q <| qA q q q <| WL_nil fun a ha => ?_
       obtain rfl := L aa
       have bC := aw.q0.q0.q0
       exact ⟨q, ha.sub ⟨q, q, q, q, q, trivial⟩, bC⟩
      have aa := if_f av aa
      refine WP_exit fun a ha => ?_
      obtain rfl := L aa
      have bD := am.q0
      exact zo (⟨exit_ne, q, ha.sub ⟨q, q, q, q, trivial⟩, bD⟩)
     intro e bg cx aQ
     rcases aj with aj | aj
     ·skip
      obtain ⟨cy, rfl⟩ : ∃ z, z = aj := ⟨aj, q⟩
      obtain ⟨rfl, bE⟩ := aQ
      obtain ⟨ha, bF⟩ := bE
      refine zn (zi (X (S ?_ ha)))
      refine Z <| qM q q q <| A q (qt_add q q) q q <| qA q q q <| WL_nil fun a ha => ?_
      obtain rfl := L ae
      exact ⟨q, ha.sub ⟨q, q, q, q, trivial⟩, bF⟩
     skip
     obtain ⟨p105, cz, cA⟩ := aj
     obtain ⟨rfl, bG⟩ := aQ
     obtain ⟨bH, ha, bI⟩ := bG
     obtain rfl := L ae
     exact zj (zj (m (⟨ret_ne, q, bH, ha.sub ⟨q, q, trivial⟩, bI⟩)))
    have ae := if_f aq ae
    refine WP_exit fun a ha => ?_
    obtain rfl := L ae
    exact zo (⟨exit_ne, q, ha.sub ⟨q, q, q, trivial⟩, ap⟩)
   intro e bd cB aR
   rcases ai with ai | ai
   ·skip
    obtain ⟨cC, rfl⟩ : ∃ z, z = ai := ⟨ai, q⟩
    obtain ⟨rfl, bJ⟩ := aR
    obtain ⟨ha, bK⟩ := bJ
    refine zn (zi (X (S ?_ ha)))
    refine Z <| qM q q q <| A q (qt_sub q q) q q <| qA q q q <| WL_nil fun a ha => ?_
    obtain rfl := L ad
    exact ⟨q, ha.sub ⟨q, q, q, trivial⟩, bK⟩
   skip
   obtain ⟨cD, cE, cF⟩ := ai
   obtain ⟨rfl, bL⟩ := aR
   obtain ⟨bM, ha, bN⟩ := bL
   obtain rfl := L ad
   exact zj (zj (m (⟨ret_ne, q, bM, ha.sub ⟨q, q, trivial⟩, bN⟩)))
  have ad := if_f ao ad
  refine WP_exit fun a ha => ?_
  obtain rfl := L ad
  exact zo (⟨exit_ne, q, ha.sub ⟨q, q, trivial⟩, aC⟩)
 intro e ba bO aS
 rcases ah with ah | ah
 ·skip
  obtain ⟨bP, rfl⟩ : ∃ z, z = ah := ⟨ah, q⟩
  obtain ⟨rfl, bQ⟩ := aS
  obtain ⟨ha, aT⟩ := bQ
  refine zn (X (S ?_ ha))
  refine rR <| qM q q q ?_
  obtain ⟨aU, bR, h⟩ := D h
  refine zd q q c100 (w_spec_NextFire bO _ vp0 p0 (hp0.c) aU bR aT.ctx) (by rfl) ?_
  rintro _ aV ⟨rfl, bS⟩; refine ⟨_, q, ?_⟩
  have ay := aT.cN0 [] bS
  refine qM q q q <| A q (zv q q) q q <| A q (zv q q) q q <| qA q q q <| qA q q q <| B <| C <| rR <| qM q q q ?_
  refine A q (qt_lss q q) q q <| B ?_
  refine Y q (fun az => ?_) (fun az => ?_)
  ·have h := if_t az h
   refine rR <| qM q q q <| qA q q q <| qA q q q <| B <| W fun a ha => ?_
   obtain rfl := L h
   exact m (ret2 q ha q q ⟨ab, q, ay⟩)
  have h := if_f az h
  refine y <| rR <| qM q q q <| qM q q q ?_
  obtain ⟨aW, aX, h⟩ := D h
  refine b ay.ctx (hp0.c) aX u81 i45 q q q q (fun cG cH cI bT => ?_)
  obtain ⟨cJ, bU, bV⟩ := ay.at (hp0.c) aX bT
  refine XL_load (t := ty4) u45 q q bU q q q (fun aY bW => ?_)
  have aZ : Holds _ w aV [.ro ty2 aY aW, .sl 45 ty4 ab bP] G := bV _ _ _ _ bW (fun _ h => h)
  refine qM q q q ?_
  obtain ⟨bX, bY, h⟩ := D h
  refine zd q q c99 (w_spec_TicketDo aV _ aY aW hR0 aU.2 0 bX bY aZ.ctx) (by rfl) ?_
  rintro _ cK ⟨bZ, rfl, b0⟩; refine ⟨_, q, ?_⟩
  have a0 := aZ.cN1 [] b0
  refine qM q q q <| A q (zv q q) q q <| A q (zv q q) q q <| qA q q q <| qA q q q <| rN <| qM q q q <| qM q q q ?_
  refine qM q q q ?_
  obtain ⟨cL, a1, h⟩ := D h
  refine b a0.ctx hS2 a1 u81 i45 q q q q (fun cM cN cO b4 => ?_)
  have b5 := a0.p2
  have b6 := b5.p1
  have b7 := b6.freeze
  have a2 := b7.p1
  refine WL_storeH (fo := 0) (cs' := [bZ]) a2 a1 b4 (Upd.whole (Blt.slice hO1)) (a2.ctx.sliceList hR1) il45 q q q q (fun cP b8 => ?_)
  refine rN <| qM q q q <| qA q q q <| qA q q q <| B <| W fun a ha => ?_
  obtain rfl := L h
  have b9 := b8.q1.q1
  exact ret2 q ha q q ⟨ab, q, b9⟩
 skip
 obtain ⟨cQ, cR, cS⟩ := ah
 obtain ⟨rfl, ca⟩ := aS
 obtain ⟨cb, ha, cc⟩ := ca
 obtain rfl := L h
 exact zj (m (ret2 q ha q q ⟨cb, q, cc⟩))
theorem w_spec_l7Work (w : World) (G : List Res) (A0 : Value) (B0 : LI) (A1 : Value) (B1 : List Int) (A2 : Value) (B2 : List Int) (B3 : Int) (A4 : Value) (B4 : LT) (r : (LI × (List Int) × (List Int) × Int × LT) × Bool) (h : spec_l7WorkS B0 B1 B2 B3 B4 = some r) (H : Ctx w ([.sl 55 ty10 A0 B0, .sl 3 tI A1 B1, .sl 3 tI A2 B2, .sl 47 ty12 A4 B4] ++ G)) : Calls Tryz.prog 37 #[.agg #[A0, A1, A2, iV B3, A4]] w fun e w' => ∃ (v1 : Value) (v2 : Value) (v3 : Value) (v4 : Value), e = .returned (.tuple #[.agg #[v1, v2, v3, iV r.1.2.2.2.1, v4], .bool r.2]) ∧ Holds (([.sl 55 ty10 A0 B0, .sl 3 tI A1 B1, .sl 3 tI A2 B2, .sl 47 ty12 A4 B4] : List Res).flatMap Res.own) w w' [.sl 55 ty10 v1 r.1.1, .sl 3 tI v2 r.1.2.1, .sl 3 tI v3 r.1.2.2.1, .sl 47 ty12 v4 r.1.2.2.2.2] G := by
 have H : Holds (([.sl 55 ty10 A0 B0, .sl 3 tI A1 B1, .sl 3 tI A2 B2, .sl 47 ty12 A4 B4] : List Res).flatMap Res.own) w w [.sl 55 ty10 A0 B0, .sl 3 tI A1 B1, .sl 3 tI A2 B2, .sl 47 ty12 A4 B4] G := zb H
 refine zg (args := [.agg #[A0, A1, A2, iV B3, A4]]) (n := 33) Tryz.func37 q q q ?_
 unfold spec_l7WorkS at h
 refine C <| Z ?_
 refine WL_box (cs := [A0, A1, A2, iV B3, A4]) H q q q q (fun b1 w2 H3 => ?_)
 refine zq (cs := [nS, nS, nS, iV 0, nS]) H3 z27 q q q (fun b5 w6 H7 => ?_)
 refine qA q q q <| B <| C <| Z ?_
 have aB := R H7.p1
 refine zm (cs := [A0, A1, A2, iV B3, A4]) us27 uo27 il27 aB q q q ?_
 change XL _ _ _ _ _ ((8, .agg #[A0, A1, A2, iV B3, A4]) :: _) _
 obtain ⟨am, aC, h⟩ := D h
 refine zd q q c49 (w_spec_l7Tickets w6 _ A0 B0 hS2 A1 B1 hS3 A2 B2 hS4 B3 A4 B4 hS5 am aC H7.ctx) (by rfl) ?_
 rintro _ aD ⟨aE, rfl, aF⟩; refine ⟨_, q, ?_⟩
 have an := H7.cN1 [] aF
 obtain ⟨af, aG, h⟩ := D h
 refine zd q q c73 (w_spec_WorkStep aD _ aE am hS0 af aG an.ctx) (by rfl) ?_
 rintro _ a7 ⟨ag, rfl, aH⟩; refine ⟨_, q, ?_⟩
 have ah := an.cN1 [] aH
 refine qM q q q <| A q (zv q q) q q <| A q (zv q q) q q <| qA q q q <| qA q q q <| B <| C <| rR <| qM q q q ?_
 refine A q (qt_not q) q q <| B ?_
 refine Y q (fun ai => ?_) (fun ai => ?_)
 ·have h := if_t ai h
  refine C <| Z ?_
  have aI := R ah.p3
  refine zm (cs := [A0, A1, A2, iV B3, A4]) us27 uo27 il27 aI q q q ?_
  change XL _ _ _ _ _ ((15, .agg #[A0, A1, A2, iV B3, A4]) :: _) _
  have ab := ah.p2
  refine zl (cs' := [A0, A1, A2, iV B3, A4]) ab q il27 q (T (ab.ctx.sliceOne hS4) (T (ab.ctx.sliceOne hS5) (T (ab.ctx.sliceOne hS6) (T q (T (ab.ctx.sliceOne hS7) q))))) q q q (fun a8 ao => ?_)
  refine qA q q q <| B <| W fun a ha => ?_
  obtain rfl := L h
  have aJ := R ao.p0
  have aK := ao.q0.q0.q0.q0.p3.p3.p3.p3
  exact m (retct q ha q q (run_loadVar_bx (cs := [A0, A1, A2, iV B3, A4]) us27 uo27 il27 aJ) ⟨A0, A1, A2, A4, q, aK⟩)
 have h := if_f ai h
 refine y <| C <| rR <| qA q q q <| B <| g ?_
 obtain ⟨ap, aL, h⟩ := D h
 have aM := ah.q1.p1.p6.p6.p6.p6.p6
 refine fun aN aq => zp (I := fun s a w2 => match s with | (ar, aj) => (Fr a 33 [(1, pB b1), (2, pB b5), (4, ag), (6, iV ar)] ∧ Holds (([.sl 55 ty10 A0 B0, .sl 3 tI A1 B1, .sl 3 tI A2 B2, .sl 47 ty12 A4 B4] : List Res).flatMap Res.own) w w2 [.bx b1 27 [A0, A1, A2, iV B3, A4], .sl 55 ty10 A0 B0, .sl 3 tI A1 B1, .sl 3 tI A2 B2, .sl 47 ty12 A4 aj, .bx b5 27 [nS, nS, nS, iV 0, nS], .sl 45 ty4 ag af.1] G)) (O := fun o e a w2 => match o with | q0 => e = .exit 0 ∧ (Fr a 33 [(1, pB b1), (2, pB b5)] ∧ Holds (([.sl 55 ty10 A0 B0, .sl 3 tI A1 B1, .sl 3 tI A2 B2, .sl 47 ty12 A4 B4] : List Res).flatMap Res.own) w w2 [.bx b1 27 [A0, A1, A2, iV B3, A4], .sl 55 ty10 A0 B0, .sl 3 tI A1 B1, .sl 3 tI A2 B2, .sl 47 ty12 A4 q0, .bx b5 27 [nS, nS, nS, iV 0, nS]] G)) aL ?_ ?_ ?_
 ·exact ⟨aq.sub ⟨q, q, q, q, trivial⟩, aM⟩
 ·clear aq
  intro s a9 a ba aa aO
  obtain ⟨ar, aj⟩ := s
  obtain ⟨ha, ae⟩ := aO
  refine S ?_ ha
  clear ha
  refine C <| rR <| qM q q q <| qF uf27 fi27_4 nz25 q q q ?_
  have aP := R ae.p0
  refine l u25 q aP q q q q <| za ae.ctx (t := ty12) hS4 u25 q q q <| A q (qt_lss q q) q q <| B ?_
  refine Y q (fun ak => ?_) (fun ak => ?_)
  ·have aa := if_t ak aa
   refine y <| C <| g ?_
   refine WP_tail 7 (by kernel_rfl) (by kernel_rfl) (fun aQ aR => ?_)
   have al := ae.grow aR
   refine qF uf27 fi27_4 nz25 q q q ?_
   have aS := R al.p0
   refine l u25 q aS q q q q <| qM q q q <| qM q q q <| qM q q q ?_
   obtain ⟨aT, au, aa⟩ := D aa
   refine b al.ctx hS6 au u81 i45 q q q q (fun bb bc bd aU => ?_)
   obtain ⟨be, aV, aW⟩ := al.at hS6 au aU
   refine XL_load (t := ty4) u45 q q aV q q q (fun av aX => ?_)
   have aw : Holds _ w aQ [.ro ty2 av aT, .bx b1 27 [A0, A1, A2, iV B3, A4], .sl 55 ty10 A0 B0, .sl 3 tI A1 B1, .sl 3 tI A2 B2, .sl 47 ty12 A4 aj, .bx b5 27 [nS, nS, nS, iV 0, nS], .sl 45 ty4 ag af.1] G := aW _ _ _ _ aX (fun _ h => h)
   refine SL_nil ?_
   obtain ⟨bf, ax, aa⟩ := D aa
   refine b aw.ctx hS5 ax u25 i47 q q q q (fun bg bh bi aY => ?_)
   refine qF uf47 fi47_1 nz45 q q q ?_
   have ay := aw.p5
   refine WL_storeH (fo := 1) (cs' := [av]) ay ax aY (Upd.snd (Upd.fst (Upd.whole (Blt.slice hO1)) q)) (ay.ctx.sliceList hR1) il45 q q q q (fun bj aZ => ?_)
   refine WL_nil fun a ha => ?_
   refine zi (X (S ?_ ha))
   refine Z <| qM q q q <| A q (qt_add q q) q q <| qA q q q <| WL_nil fun a ha => ?_
   obtain rfl := L aa
   have a0 := aZ.q1.p6.p6.p2.p6.p6.p6.p6
   exact ⟨q, ha.sub ⟨q, q, q, q, trivial⟩, a0⟩
  have aa := if_f ak aa
  refine WP_exit fun a ha => ?_
  obtain rfl := L aa
  have a1 := ae.q6.p5.p5.p5.p5.p5.p5
  exact zo (⟨exit_ne, q, ha.sub ⟨q, q, trivial⟩, a1⟩)
 intro e aN bk a2
 obtain ⟨bl, rfl⟩ : ∃ z, z = ap := ⟨ap, q⟩
 obtain ⟨rfl, a3⟩ := a2
 obtain ⟨ha, az⟩ := a3
 refine zn (X (S ?_ ha))
 refine C <| Z ?_
 have a4 := R az.p0
 refine zm (cs := [A0, A1, A2, iV B3, A4]) us27 uo27 il27 a4 q q q ?_
 change XL _ _ _ _ _ ((32, .agg #[A0, A1, A2, iV B3, A4]) :: _) _
 have ad := az.p5
 refine zl (cs' := [A0, A1, A2, iV B3, A4]) ad q il27 q (T (ad.ctx.sliceOne hS2) (T (ad.ctx.sliceOne hS3) (T (ad.ctx.sliceOne hS4) (T q (T (ad.ctx.sliceOne hS5) q))))) q q q (fun bm aA => ?_)
 refine qA q q q <| B <| W fun a ha => ?_
 obtain rfl := L h
 have a5 := R aA.p0
 have a6 := aA.q0.q0.p3.p3.p3.p3
 exact retct q ha q q (run_loadVar_bx (cs := [A0, A1, A2, iV B3, A4]) us27 uo27 il27 a5) ⟨A0, A1, A2, A4, q, a6⟩
theorem w_spec_TicketCourse (w : World) (G : List Res) (vp0 : Value) (p0 : LP) (hp0 : Has G ty2 vp0 p0) (r : Int) (h : spec_TicketCourseS p0 = some r) (H : Ctx w G) : Calls Tryz.prog 101 #[vp0] w fun e w' => e = .returned (iV r) ∧ Holds M0 w w' [] G := by
 have H : Holds M0 w w [] G := zb H
 refine zg (args := [vp0]) (n := 40) Tryz.func101 q q q ?_
 unfold spec_TicketCourseS at h
 refine rR <| qA q q q <| rN <| qA q q q <| B <| C <| C ?_
 refine Z <| qA q q q <| B <| g ?_
 obtain ⟨o3, aq, h⟩ := D h
 refine fun a5 am => zp (I := fun s a w2 => match s with | (s1, s2) => (Fr a 40 [(0, vp0), (3, iV s1), (4, iV s2)] ∧ Holds M0 w w2 [] G)) (O := fun o e a w2 => match o with | q0 => e = .exit 0 ∧ (Fr a 40 [(3, iV q0)] ∧ Holds M0 w w2 [] G)) aq ?_ ?_ ?_
 ·exact ⟨am.sub ⟨q, q, q, trivial⟩, H⟩
 ·clear am
  intro s o9 a w7 aa ar
  obtain ⟨s1, s2⟩ := s
  obtain ⟨ha, aj⟩ := ar
  refine S ?_ ha
  clear ha
  refine C <| C <| zk <| qM q q q <| qM q q q <| za aj.ctx (t := ty2) (hp0) u45 q q q <| A q (qt_lss q q) q q <| qM q q q ?_
  obtain ⟨au, ag, aa⟩ := D aa
  refine zh 3 12 (.bool au) ?_ (fun md hmd hk => ?_)
  rotate_left
  ·obtain ⟨K, rfl⟩ := zr hmd
   rcases btf (decide (s2 < (List.length p0 : Int))) with ae | ae
   ·skip
    have ag := if_t ae ag
    refine qM (J q ae) q q ?_
    obtain ⟨av, aw, ag⟩ := D ag
    refine QC (J q ae) q c53 (fun w' hb => w_spec_TicketValid w' G vp0 p0 (hp0) av aw (aj.grow hb).ctx) (by rfl) <| A q (ze q ae q) q q ?_
    exact hk _ (p (vb ag) (cfn 2 q (u)))
   skip
   refine qS q ae q q <| qS q ae q q <| A q (zf q ae q) q q ?_
   exact hk _ (p (vb (if_f ae ag)) (cfn 2 q (u)))
  refine QL_nil fun a ha aN ax => ?_
  have af := aj.grow ax
  refine X (S ?_ ha)
  refine Y q (fun ak => ?_) (fun ak => ?_)
  ·have aa := if_t ak aa
   refine y <| C <| g <| rR <| qM q q q <| qM q q q ?_
   obtain ⟨ay, an, aa⟩ := D aa
   refine b af.ctx (hp0) an u45 i49 q q q q (fun aO aP aQ az => ?_)
   refine qF uf49 fi49_1 nz3 q q q ?_
   obtain ⟨aR, aA, aS⟩ := af.at (hp0) an az
   obtain ⟨aT, aB, aU⟩ := AtP.snd aA
   refine zt (k := .i64) u3 q aB q q q <| A q (qt_lss q q) q q <| qM q q q ?_
   obtain ⟨aC, ah, aa⟩ := D aa
   refine zh 12 33 (.bool aC) ?_ (fun md hmd hk => ?_)
   rotate_left
   ·obtain ⟨Q, rfl⟩ := Md.seq_of hmd
    rcases btf (decide (ay.2 < 3)) with ad | ad
    ·skip
     have ah := if_t ad ah
     refine qM (J q ad) q q <| A (J q ad) (qt_lss q q) q q <| qM (J q ad) q q ?_
     obtain ⟨aD, ai, ah⟩ := D ah
     refine zh 8 32 (.bool aD) ?_ (fun md hmd hk => ?_)
     rotate_left
     ·obtain ⟨Q, rfl⟩ := Md.seq_of hmd
      rcases btf (decide (s1 < 0)) with ab | ab
      ·skip
       refine qS q ab q q <| qS q ab q q <| qS q ab q q <| qS q ab q q <| qS q ab q q <| qS q ab q q <| qS q ab q q <| A (J q ad) (ze q ab q) q q ?_
       exact hk _ (p (vb (if_t ab ai)) (cfn 7 q (u)))
      skip
      have ai := if_f ab ai
      refine qM (J q ab) q q <| qM (J q ab) q q ?_
      obtain ⟨aV, ao, ai⟩ := D ai
      refine b af.ctx (hp0) ao u45 i49 (J q ab) q q q (fun aW aX aY aE => ?_)
      refine qF uf49 fi49_0 nz3 (J q ab) q q ?_
      obtain ⟨aZ, aF, a0⟩ := af.at (hp0) ao aE
      obtain ⟨a1, aG, a2⟩ := AtP.fst aF
      refine zt (k := .i64) u3 q aG (J q ab) q q <| qM (J q ab) q q <| A (J q ab) (qt_lss q q) q q <| A (J q ad) (zf q ab q) q q ?_
      exact hk _ (p (vb ai) (cfn 7 q (u)))
     refine A q (ze q ad q) q q ?_
     exact hk _ (p (vb ah) (cfn 4 q (u)))
    skip
    refine qS q ad q q <| qS q ad q q <| qS q ad q q <| XL_skip q q q <| XL_skip q q q <| XL_skip q q q <| XL_skip q q q <| XL_skip q q q <| XL_skip q q q <| XL_skip q q q ?_
    refine qS q ad q q <| A q (zf q ad q) q q ?_
    exact hk _ (p (vb (if_f ad ah)) (cfn 11 q (u)))
   refine B ?_
   refine Y q (fun al => ?_) (fun al => ?_)
   ·have aa := if_t al aa
    refine Z <| qM q q q <| qM q q q ?_
    obtain ⟨a3, ap, aa⟩ := D aa
    refine b af.ctx (hp0) ap u45 i49 q q q q (fun a4 a6 a7 aH => ?_)
    refine qF uf49 fi49_0 nz3 q q q ?_
    obtain ⟨a8, aI, a9⟩ := af.at (hp0) ap aH
    obtain ⟨ba, aJ, bb⟩ := AtP.fst aI
    refine zt (k := .i64) u3 q aJ q q q <| qA q q q <| WL_nil fun a ha => ?_
    refine zi (X (S ?_ ha))
    refine Z <| qM q q q <| A q (qt_add q q) q q <| qA q q q <| WL_nil fun a ha => ?_
    obtain rfl := L aa
    exact ⟨q, ha.sub ⟨q, q, q, trivial⟩, af⟩
   have aa := if_f al aa
   refine WP_skip fun a ha => ?_
   refine zi (X (S ?_ ha))
   refine Z <| qM q q q <| A q (qt_add q q) q q <| qA q q q <| WL_nil fun a ha => ?_
   obtain rfl := L aa
   exact ⟨q, ha.sub ⟨q, q, q, trivial⟩, af⟩
  have aa := if_f ak aa
  refine WP_exit fun a ha => ?_
  obtain rfl := L aa
  exact zo (⟨exit_ne, q, ha.sub ⟨q, trivial⟩, af⟩)
 intro e a5 bc aK
 obtain ⟨bd, rfl⟩ : ∃ z, z = o3 := ⟨o3, q⟩
 obtain ⟨rfl, aL⟩ := aK
 obtain ⟨ha, aM⟩ := aL
 refine zn (X (S ?_ ha))
 refine rR <| qM q q q <| qA q q q <| B <| W fun a ha => ?_
 obtain rfl := L h
 exact ret1 q ha q ⟨q, aM⟩
theorem w_spec_TicketDone (w : World) (G : List Res) (vp0 : Value) (p0 : LP) (hp0 : Has G ty2 vp0 p0) (r : Bool) (h : spec_TicketDoneS p0 = some r) (H : Ctx w G) : Calls Tryz.prog 74 #[vp0] w fun e w' => e = .returned (.bool r) ∧ Holds M0 w w' [] G := by
 have H : Holds M0 w w [] G := zb H
 refine zg (args := [vp0]) (n := 10) Tryz.func74 q q q ?_
 unfold spec_TicketDoneS at h
 refine rR <| qA q q q <| B <| C <| zk <| qM q q q ?_
 obtain ⟨x1, ad, h⟩ := D h
 refine QC q q c53 (fun w' hb => w_spec_TicketValid w' G vp0 p0 (hp0) x1 ad (H.grow hb).ctx) (by rfl) <| qM q q q ?_
 obtain ⟨b3, ab, h⟩ := D h
 refine zh 4 9 (.bool b3) ?_ (fun md hmd hk => ?_)
 rotate_left
 ·obtain ⟨K, rfl⟩ := zr hmd
  rcases btf x1 with aa | aa
  ·skip
   have ab := if_t aa ab
   refine qM (J q aa) q q ?_
   obtain ⟨x6, ae, ab⟩ := D ab
   refine QC (J q aa) q c101 (fun w' hb => w_spec_TicketCourse w' G vp0 p0 (hp0) x6 ae (H.grow hb).ctx) (by rfl) <| A (J q aa) (qt_lss q q) q q <| A q (ze q aa q) q q ?_
   exact hk _ (p (vb ab) (cfn 3 q (u)))
  skip
  refine qS q aa q q <| qS q aa q q <| qS q aa q q <| A q (zf q aa q) q q ?_
  exact hk _ (p (vb (if_f aa ab)) (cfn 3 q (u)))
 refine qA q q q <| QL_nil fun a ha w8 af => ?_
 have ag := H.grow af
 refine X (S ?_ ha)
 refine W fun a ha => ?_
 obtain rfl := L h
 exact ret1 q ha q ⟨q, ag⟩
theorem w_spec_TableBill (w : World) (G : List Res) (A0 : Value) (B0 : LI) (C0 : Has G ty10 A0 B0) (A1 : Value) (B1 : List Int) (C1 : Has G tI A1 B1) (A2 : Value) (B2 : List Int) (C2 : Has G tI A2 B2) (B3 : Int) (A4 : Value) (B4 : LT) (C4 : Has G ty12 A4 B4) (p1 : Int) (r : Int) (h : spec_TableBillS B0 B1 B2 B3 B4 p1 = some r) (H : Ctx w G) : Calls Tryz.prog 75 #[.agg #[A0, A1, A2, iV B3, A4], iV p1] w fun e w' => e = .returned (iV r) ∧ Holds M0 w w' [] G := by
 have H : Holds M0 w w [] G := zb H
 refine zg (args := [.agg #[A0, A1, A2, iV B3, A4], iV p1]) (n := 57) Tryz.func75 q q q ?_
 unfold spec_TableBillS at h
 refine C <| Z ?_
 refine WL_box (cs := [A0, A1, A2, iV B3, A4]) H q q q q (fun b1 w2 H3 => ?_)
 refine qA q q q <| B <| C <| C <| zk ?_
 have aD := R H3.p0
 refine zm (cs := [A0, A1, A2, iV B3, A4]) us27 uo27 il27 aD q q q ?_
 change XL _ _ _ _ _ ((7, .agg #[A0, A1, A2, iV B3, A4]) :: _) _
 obtain ⟨x6, aE, h⟩ := D h
 refine QC q q c17 (fun w' hb => w_spec_HouseValid w' _ A0 B0 (C0.c) A1 B1 (C1.c) A2 B2 (C2.c) B3 A4 B4 (C4.c) x6 aE (H3.grow hb).ctx) (by rfl) <| A q (qt_not q) q q <| qM q q q ?_
 obtain ⟨b8, ae, h⟩ := D h
 refine zh 8 18 (.bool b8) ?_ (fun md hmd hk => ?_)
 rotate_left
 ·obtain ⟨K, rfl⟩ := zr hmd
  rcases btf (!x6) with ab | ab
  ·skip
   refine qS q ab q q <| qS q ab q q <| qS q ab q q <| qS q ab q q <| qS q ab q q <| qS q ab q q <| qS q ab q q <| A q (ze q ab q) q q ?_
   exact hk _ (p (vb (if_t ab ae)) (cfn 7 q (u)))
  skip
  have ae := if_f ab ae
  refine qM (J q ab) q q <| qF uf27 fi27_4 nz25 (J q ab) q q ?_
  have aF := R H3.p0
  refine l u25 q aF q (J q ab) q q <| za H3.ctx (t := ty12) (C4.c) u25 (J q ab) q q <| A (J q ab) (qt_sub q q) q q ?_
  obtain ⟨aG, aH, ae⟩ := D ae
  refine QC (J q ab) q c52 (fun w' hb => w_spec_l1In w' _ p1 0 (IntKind.wrap .i64 ((List.length B4 : Int) - 1)) aG aH (H3.grow hb).ctx) (by rfl) <| A (J q ab) (qt_not q) q q <| A q (zf q ab q) q q ?_
  exact hk _ (p (vb ae) (cfn 7 q (u)))
 refine QL_nil fun a ha bw aI => ?_
 have ao := H3.grow aI
 refine X (S ?_ ha)
 refine Y q (fun ah => ?_) (fun ah => ?_)
 ·have h := if_t ah h
  refine rR <| qA q q q <| B <| W fun a ha => ?_
  obtain rfl := L h
  have aJ := ao.q0
  exact m (ret1 q ha q ⟨q, aJ⟩)
 have h := if_f ah h
 refine y <| rR <| qA q q q <| B <| C <| rR <| qA q q q <| B ?_
 refine g ?_
 obtain ⟨ap, aK, h⟩ := D h
 refine fun aL aq => zp (I := fun s a w2 => match s with | (ar, au) => (Fr a 57 [(1, iV p1), (2, pB b1), (5, iV ar), (6, iV au)] ∧ Holds M0 w w2 [.bx b1 27 [A0, A1, A2, iV B3, A4]] G)) (O := fun o e a w2 => match o with | q0 => e = .exit 0 ∧ (Fr a 57 [(5, iV q0)] ∧ Holds M0 w w2 [] G)) aK ?_ ?_ ?_
 ·exact ⟨aq.sub ⟨q, q, q, q, trivial⟩, ao⟩
 ·clear aq
  intro s bz a ai aa aM
  obtain ⟨ar, au⟩ := s
  obtain ⟨ha, aj⟩ := aM
  refine S ?_ ha
  clear ha
  refine C <| rR <| qM q q q <| qF uf27 fi27_4 nz25 q q q ?_
  have aN := R aj.p0
  refine l u25 q aN q q q q <| qM q q q ?_
  obtain ⟨ak, av, aa⟩ := D aa
  refine b aj.ctx (C4.c) av u25 i47 q q q q (fun bA bB bC aO => ?_)
  refine qF uf47 fi47_1 nz45 q q q ?_
  obtain ⟨bD, aP, aQ⟩ := aj.at (C4.c) av aO
  obtain ⟨bE, aR, aS⟩ := AtP.snd aP
  obtain ⟨bF, aT, aU⟩ := AtP.fst aR
  refine XL_load (t := ty4) u45 q q aT q q q (fun al aV => ?_)
  have af : Holds _ w ai [.ro ty2 al ak.2.1, .bx b1 27 [A0, A1, A2, iV B3, A4]] G := aQ _ _ _ _ aV (fun k h => (fun k h => (fun _ h => h) k (aS k h)) k (aU k h))
  refine za af.ctx (t := ty2) hR0 u45 q q q <| A q (qt_lss q q) q q <| B ?_
  refine Y q (fun am => ?_) (fun am => ?_)
  ·have aa := if_t am aa
   refine y <| C <| g <| rR <| qF uf27 fi27_4 nz25 q q q ?_
   have aW := R af.p1
   refine l u25 q aW q q q q <| qM q q q ?_
   obtain ⟨aw, ax, aa⟩ := D aa
   refine b af.ctx (C4.c.c) ax u25 i47 q q q q (fun bG bH bI aX => ?_)
   refine qF uf47 fi47_1 nz45 q q q ?_
   obtain ⟨bJ, aY, aZ⟩ := af.at (C4.c.c) ax aX
   obtain ⟨bK, a0, a1⟩ := AtP.snd aY
   obtain ⟨bL, a2, a3⟩ := AtP.fst a0
   refine XL_load (t := ty4) u45 q q a2 q q q (fun ay a4 => ?_)
   have ad : Holds _ w ai [.ro ty2 ay aw.2.1, .ro ty2 al ak.2.1, .bx b1 27 [A0, A1, A2, iV B3, A4]] G := aZ _ _ _ _ a4 (fun k h => (fun k h => (fun _ h => h) k (a1 k h)) k (a3 k h))
   refine qM q q q ?_
   obtain ⟨bM, az, aa⟩ := D aa
   refine b ad.ctx hR0 az u45 i49 q q q q (fun bN bO bP a5 => ?_)
   refine qF uf49 fi49_1 nz3 q q q ?_
   obtain ⟨bQ, a6, bR⟩ := ad.at hR0 az a5
   obtain ⟨bS, a7, bT⟩ := AtP.snd a6
   refine zt (k := .i64) u3 q a7 q q q <| A q (qt_eql q q) q q <| B ?_
   refine Y q (fun an => ?_) (fun an => ?_)
   ·have aa := if_t an aa
    refine WP_quiet (by kernel_rfl) (by kernel_rfl) <| qM q q q <| qF uf27 fi27_1 nz24 q q q ?_
    have a8 := R ad.p2
    refine l u24 q a8 q q q q <| qF uf27 fi27_4 nz25 q q q ?_
    have a9 := R ad.p2
    refine l u25 q a9 q q q q <| qM q q q ?_
    obtain ⟨ba, aA, aa⟩ := D aa
    refine b ad.ctx (C4.c.c.c) aA u25 i47 q q q q (fun bU bV bW bb => ?_)
    refine qF uf47 fi47_2 nz24 q q q ?_
    obtain ⟨bX, bc, bd⟩ := ad.at (C4.c.c.c) aA bb
    obtain ⟨bY, be, bf⟩ := AtP.snd bc
    obtain ⟨bZ, bg, bh⟩ := AtP.snd be
    refine XL_load (t := (.slice tI)) u24 q q bg q q q (fun bi bj => ?_)
    have ag : Holds _ w ai [.ro tI bi ba.2.2, .ro ty2 ay aw.2.1, .ro ty2 al ak.2.1, .bx b1 27 [A0, A1, A2, iV B3, A4]] G := bd _ _ _ _ bj (fun k h => (fun k h => (fun _ h => h) k (bf k h)) k (bh k h))
    refine qM q q q ?_
    obtain ⟨b0, aB, aa⟩ := D aa
    refine b ag.ctx hR0 aB u24 i3 q q q q (fun b4 b5 b6 bk => ?_)
    obtain ⟨b7, bl, b9⟩ := ag.at hR0 aB bk
    refine zt (k := .i64) u3 q bl q q q ?_
    obtain ⟨ca, aC, aa⟩ := D aa
    refine b ag.ctx (C1.c.c.c.c) aC u24 i3 q q q q (fun cb cc cd bm => ?_)
    obtain ⟨ce, bn, cf⟩ := ag.at (C1.c.c.c.c) aC bm
    refine zt (k := .i64) u3 q bn q q q <| A q (qt_add q q) q q <| qA q q q <| QL_nil fun a ha cg bo => ?_
    have bp := ag.grow bo
    refine zi (X (S ?_ ha))
    refine Z <| qM q q q <| A q (qt_add q q) q q <| qA q q q <| WL_nil fun a ha => ?_
    obtain rfl := L aa
    have bq := bp.q0.q0.q0
    exact ⟨q, ha.sub ⟨q, q, q, q, trivial⟩, bq⟩
   have aa := if_f an aa
   refine WP_skip fun a ha => ?_
   refine zi (X (S ?_ ha))
   refine Z <| qM q q q <| A q (qt_add q q) q q <| qA q q q <| WL_nil fun a ha => ?_
   obtain rfl := L aa
   have br := ad.q0.q0
   exact ⟨q, ha.sub ⟨q, q, q, q, trivial⟩, br⟩
  have aa := if_f am aa
  refine WP_exit fun a ha => ?_
  obtain rfl := L aa
  have bs := af.q0.q0
  exact zo (⟨exit_ne, q, ha.sub ⟨q, trivial⟩, bs⟩)
 intro e aL ch bt
 obtain ⟨ci, rfl⟩ : ∃ z, z = ap := ⟨ap, q⟩
 obtain ⟨rfl, bu⟩ := bt
 obtain ⟨ha, bv⟩ := bu
 refine zn (X (S ?_ ha))
 refine rR <| qM q q q <| qA q q q <| B <| W fun a ha => ?_
 obtain rfl := L h
 exact ret1 q ha q ⟨q, bv⟩
end Go.Proofs.YtpabogkcmbkffaaGreatDoor
