/- The walks: each Go function computes its shallow function. Printed by a program. -/
import Derived.Test.YthofjabphcheeaaDoorWS7T1
set_option linter.unusedVariables false
set_option maxRecDepth 10000
namespace Go.Proofs.YthofjabphcheeaaDoor
open Go Go.RowKit
theorem w_spec_l20HouseDeed (w : World) (G : List Res) (bp0 : Nat) (A0 : Value) (B0 : List Int) (C0 : Has G (.int .u8) A0 B0) (B1 : Int) (A1_0 : Value) (p1_0 : LI) (hp1_0 : Has G ty7 A1_0 p1_0) (A1_1 : Value) (p1_1 : List Int) (hp1_1 : Has G tI A1_1 p1_1) (A1_2 : Value) (p1_2 : List Int) (hp1_2 : Has G tI A1_2 p1_2) (p1_3 : Int) (A1_4 : Value) (p1_4 : LT) (hp1_4 : Has G ty8 A1_4 p1_4) (r : Int × (Int × Int × Int × Int)) (h : spec_l20HouseDeedS B0 B1 p1_0 p1_1 p1_2 p1_3 p1_4 = some r) (H : Ctx w ([.bx bp0 104 [A0, iV B1]] ++ G)) : Calls Tryd.prog 45 #[pB bp0, .agg #[A1_0, A1_1, A1_2, iV p1_3, A1_4]] w fun e w' => e = .returned (.agg #[iV r.2.1, iV r.2.2.1, iV r.2.2.2.1, iV r.2.2.2.2]) ∧ Holds (([.bx bp0 104 [A0, iV B1]] : List Res).flatMap Res.own) w w' [.bx bp0 104 [A0, iV r.1]] G := by
 have H : Holds (([.bx bp0 104 [A0, iV B1]] : List Res).flatMap Res.own) w w [.bx bp0 104 [A0, iV B1]] G := zb H
 refine zg (args := [pB bp0, .agg #[A1_0, A1_1, A1_2, iV p1_3, A1_4]]) (n := 87) Tryd.func45 q q q ?_
 unfold spec_l20HouseDeedS at h
 refine C <| Z ?_
 refine WL_box (cs := [A1_0, A1_1, A1_2, iV p1_3, A1_4]) H q q q q (fun b1 w2 H3 => ?_)
 refine zq (cs := [iV 0, iV 0, iV 0, iV 0]) H3 z43 q q q (fun b5 w6 H7 => ?_)
 refine B <| C ?_
 obtain ⟨x13, hx14, h⟩ := D h
 obtain ⟨x19, hx20, h⟩ := D h
 obtain ⟨x28, hx29, h⟩ := D h
 obtain ⟨x34, hx35, h⟩ := D h
 refine WP_join (M := fun a w2 => ∃ bz8_0, Fr a 87 [(0, pB bp0), (3, pB b1), (4, pB b5), (5, pB bz8_0)] ∧ Holds (([.bx bp0 104 [A0, iV B1]] : List Res).flatMap Res.own) w w2 [.bx bp0 104 [A0, iV x34.1], .bx b1 27 [A1_0, A1_1, A1_2, iV p1_3, A1_4], .bx b5 43 [iV 0, iV 0, iV 0, iV 0], .bx bz8_0 43 [iV (IntKind.wrap .i64 (x19 + (IntKind.wrap .i64 ((IntKind.wrap .i64 (Int.tdiv x28.2 59)) * 6)))), iV x34.2, iV 0, iV 0]] G) ?_ ?_
 ·refine WP_ordersT (fun w1 w2 => Chg (([.bx bp0 104 [A0, iV B1]] : List Res).flatMap Res.own) w1 w2) 18 (by kernel_rfl) (fun w209 hb210 => ?_)
  have H211 := H7.grow hb210
  have H212 := H211.p2
  have C213 : Ctx w209 ([.bx bp0 104 [A0, iV B1]] ++ ([.bx b5 43 [iV 0, iV 0, iV 0, iV 0], .bx b1 27 [A1_0, A1_1, A1_2, iV p1_3, A1_4]] ++ G)) := H212.ctx
  have H214 : Holds _ w209 w209 [.bx bp0 104 [A0, iV B1]] ([.bx b5 43 [iV 0, iV 0, iV 0, iV 0], .bx b1 27 [A1_0, A1_1, A1_2, iV p1_3, A1_4]] ++ G) := zb (Rs := [.bx bp0 104 [A0, iV B1]]) C213
  refine XQ (i := 1) q (by kernel_rfl) q H214.chg q (fun _ => qt_move q) q q <| XQ (i := 5) q (by kernel_rfl) q H214.chg q (fun _ => qt_move q) q q <| XQ (i := 10) q (by kernel_rfl) q H214.chg q (fun _ => qt_move q) q q <| XQ (i := 11) q (by kernel_rfl) q H214.chg q (fun _ => qt_fieldAddr uf27 fi27_0 nz23 q) q q ?_
  have hB435 := HasB.bx (HasB.c (HasB.c (HasB.hd))) H214.ctx
  refine XT (i := 12) q (by kernel_rfl) q H214.chg q (qs_cell u23 q q (hB435.cell (i := 0) q) H214.chg (Ctx.outB C213 (HasB.c (HasB.hd)))) q q <| XT (i := 13) q (by kernel_rfl) q H214.chg q (qs_len (t := ty7) H214.ctx (hp1_0.c.c.c) u23 q) q q <| XQ (i := 14) q (by kernel_rfl) q H214.chg q (fun _ => qt_max q q) q q ?_
  refine zy [0, 2, 17] (by kernel_rfl) (by simp) (allc ?_ (allc ?_ (allc ?_ alln)))
  ·refine XC_do q ?_
   refine zs (t := tI) (args := [.const (iV 0), .const (iV 0), .const (iV 1), .const (iV 1), .const (iV 2), .const (iV 3), .const (iV 3), .const (iV 3), .const (iV 4), .const (iV 4), .const (iV 4), .const (iV 5)]) (xs := ([0, 0, 1, 1, 2, 3, 3, 3, 4, 4, 4, 5] : List Int)) H214 (BltL.cons (Blt.int) q (BltL.cons (Blt.int) q (BltL.cons (Blt.int) q (BltL.cons (Blt.int) q (BltL.cons (Blt.int) q (BltL.cons (Blt.int) q (BltL.cons (Blt.int) q (BltL.cons (Blt.int) q (BltL.cons (Blt.int) q (BltL.cons (Blt.int) q (BltL.cons (Blt.int) q (BltL.cons (Blt.int) q (BltL.nil))))))))))))) u24 j3 q q q q q q (fun v436 w437 H438 => ?_)
   refine XN H438.chg ?_
   refine zy [2, 17] (by kernel_rfl) (by simp) (allc ?_ (allc ?_ alln))
   ·refine XC_do q ?_
    have H440 := H438.p1
    refine zd q q c44 (w_spec_l20Rd__pick w437 _ bp0 A0 B0 (C0.c.c.c) B1 12 x13 hx14 H440.ctx) (by rfl) ?_
    rintro _ w441 ⟨rfl, H442⟩; refine ⟨_, q, ?_⟩
    have H443 := H440.cN1 [_] H442
    refine XN H443.chg ?_
    obtain ⟨b444, off445, cap446, hv447⟩ := Ctx.isAt H443.ctx hS1 hx20
    refine XT (i := 3) q (by kernel_rfl) q H443.chg q (qs_index hx20 hv447 u24 i3 q q) q q ?_
    refine zy [4, 6, 17] (by kernel_rfl) (by simp) (allc ?_ (allc ?_ (allc ?_ alln)))
    ·refine XC_do q ?_
     obtain ⟨F448, hat449, hdup450⟩ := H443.at hS1 hx20 hv447
     refine zt (k := .i64) u3 q hat449 q q q <| XN H443.chg ?_
     refine zy [6, 17] (by kernel_rfl) (by simp) (allc ?_ (allc ?_ alln))
     ·refine XC_do q ?_
      refine zd q q c44 (w_spec_l20Rd__pick w441 _ bp0 A0 B0 (C0.c.c.c) x13.1 60 x28 hx29 H443.ctx) (by rfl) ?_
      rintro _ w451 ⟨rfl, H452⟩; refine ⟨_, q, ?_⟩
      have H453 := H443.cN1 [_] H452
      refine XN H453.chg <| XQ (i := 7) q (by kernel_rfl) q H453.chg q (fun _ => qt_quo q q (by decide)) q q <| XQ (i := 8) q (by kernel_rfl) q H453.chg q (fun _ => qt_mul q q) q q <| XQ (i := 9) q (by kernel_rfl) q H453.chg q (fun _ => qt_add q q) q q ?_
      refine zy [15, 17] (by kernel_rfl) (by simp) (allc ?_ (allc ?_ alln))
      ·refine XC_do q ?_
       refine zd q q c44 (w_spec_l20Rd__pick w451 _ bp0 A0 B0 (C0.c.c.c) x28.1 (if 1 > (List.length p1_0 : Int) then 1 else (List.length p1_0 : Int)) x34 hx35 H453.ctx) (by rfl) ?_
       rintro _ w454 ⟨rfl, H455⟩; refine ⟨_, q, ?_⟩
       have H456 := H453.cN1 [_] H455
       refine XN H456.chg <| XQ (i := 16) q (by kernel_rfl) q H456.chg q (fun _ => qt_build (args := [(0, .tmp 15), (1, .tmp 21)]) (css := [#[iV (IntKind.wrap .i64 (x19 + (IntKind.wrap .i64 ((IntKind.wrap .i64 (Int.tdiv x28.2 59)) * 6))))], #[iV x34.2]]) (cells := #[iV (IntKind.wrap .i64 (x19 + (IntKind.wrap .i64 ((IntKind.wrap .i64 (Int.tdiv x28.2 59)) * 6)))), iV x34.2, iV 0, iV 0]) q ⟨q, q, trivial⟩ (by kernel_rfl)) q q <| X1 17 (by kernel_rfl) q ?_
       refine zq (cs := [iV 0, iV 0, iV 0, iV 0]) H456 z43 q q q (fun b457 w458 H459 => ?_)
       refine XN H459.chg ?_
       have H461 := H212.cN3 [_] H459
       refine X1 18 (by kernel_rfl) q ?_
       refine zl (cs' := [iV (IntKind.wrap .i64 (x19 + (IntKind.wrap .i64 ((IntKind.wrap .i64 (Int.tdiv x28.2 59)) * 6)))), iV x34.2, iV 0, iV 0]) H461 q il43 q q q q q (fun w462 H463 => ?_)
       refine XE q ?_
       refine XC_done (by kernel_rfl) (fun a ha => ?_)
       have H465 := H463.q2.p2.p3.p3
       exact ⟨b457, ha.sub ⟨q, q, q, q, trivial⟩, H465⟩
      refine XC_do q ?_
      refine zq (cs := [iV 0, iV 0, iV 0, iV 0]) H453 z43 q q q (fun b466 w467 H468 => ?_)
      refine XN H468.chg <| X1 15 (by kernel_rfl) q ?_
      have H470 := H468.p1
      refine zd q q c44 (w_spec_l20Rd__pick w467 _ bp0 A0 B0 (C0.c.c.c.c) x28.1 (if 1 > (List.length p1_0 : Int) then 1 else (List.length p1_0 : Int)) x34 hx35 H470.ctx) (by rfl) ?_
      rintro _ w471 ⟨rfl, H472⟩; refine ⟨_, q, ?_⟩
      have H473 := H470.cN1 [_] H472
      refine XN H473.chg <| XQ (i := 16) q (by kernel_rfl) q H473.chg q (fun _ => qt_build (args := [(0, .tmp 15), (1, .tmp 21)]) (css := [#[iV (IntKind.wrap .i64 (x19 + (IntKind.wrap .i64 ((IntKind.wrap .i64 (Int.tdiv x28.2 59)) * 6))))], #[iV x34.2]]) (cells := #[iV (IntKind.wrap .i64 (x19 + (IntKind.wrap .i64 ((IntKind.wrap .i64 (Int.tdiv x28.2 59)) * 6)))), iV x34.2, iV 0, iV 0]) q ⟨q, q, trivial⟩ (by kernel_rfl)) q q ?_
      have H474 := H212.cN3 [_] H473
      refine X1 18 (by kernel_rfl) q ?_
      have H475 := H474.p1
      refine zl (cs' := [iV (IntKind.wrap .i64 (x19 + (IntKind.wrap .i64 ((IntKind.wrap .i64 (Int.tdiv x28.2 59)) * 6)))), iV x34.2, iV 0, iV 0]) H475 q il43 q q q q q (fun w476 H477 => ?_)
      refine XE q ?_
      refine XC_done (by kernel_rfl) (fun a ha => ?_)
      have H479 := H477.q2.p2.p3.p3
      exact ⟨b466, ha.sub ⟨q, q, q, q, trivial⟩, H479⟩
     refine XC_do q ?_
     refine zq (cs := [iV 0, iV 0, iV 0, iV 0]) H443 z43 q q q (fun b480 w481 H482 => ?_)
     refine XN H482.chg <| X1 6 (by kernel_rfl) q ?_
     have H484 := H482.p1
     refine zd q q c44 (w_spec_l20Rd__pick w481 _ bp0 A0 B0 (C0.c.c.c.c) x13.1 60 x28 hx29 H484.ctx) (by rfl) ?_
     rintro _ w485 ⟨rfl, H486⟩; refine ⟨_, q, ?_⟩
     have H487 := H484.cN1 [_] H486
     refine XN H487.chg <| XQ (i := 7) q (by kernel_rfl) q H487.chg q (fun _ => qt_quo q q (by decide)) q q <| XQ (i := 8) q (by kernel_rfl) q H487.chg q (fun _ => qt_mul q q) q q <| XQ (i := 9) q (by kernel_rfl) q H487.chg q (fun _ => qt_add q q) q q <| X1 15 (by kernel_rfl) q <| zd q q c44 (w_spec_l20Rd__pick w485 _ bp0 A0 B0 (C0.c.c.c.c) x28.1 (if 1 > (List.length p1_0 : Int) then 1 else (List.length p1_0 : Int)) x34 hx35 H487.ctx) (by rfl) ?_
     rintro _ w488 ⟨rfl, H489⟩; refine ⟨_, q, ?_⟩
     have H490 := H487.cN1 [_] H489
     refine XN H490.chg <| XQ (i := 16) q (by kernel_rfl) q H490.chg q (fun _ => qt_build (args := [(0, .tmp 15), (1, .tmp 21)]) (css := [#[iV (IntKind.wrap .i64 (x19 + (IntKind.wrap .i64 ((IntKind.wrap .i64 (Int.tdiv x28.2 59)) * 6))))], #[iV x34.2]]) (cells := #[iV (IntKind.wrap .i64 (x19 + (IntKind.wrap .i64 ((IntKind.wrap .i64 (Int.tdiv x28.2 59)) * 6)))), iV x34.2, iV 0, iV 0]) q ⟨q, q, trivial⟩ (by kernel_rfl)) q q ?_
     have H491 := H212.cN3 [_] H490
     refine X1 18 (by kernel_rfl) q ?_
     have H492 := H491.p1
     refine zl (cs' := [iV (IntKind.wrap .i64 (x19 + (IntKind.wrap .i64 ((IntKind.wrap .i64 (Int.tdiv x28.2 59)) * 6)))), iV x34.2, iV 0, iV 0]) H492 q il43 q q q q q (fun w493 H494 => ?_)
     refine XE q ?_
     refine XC_done (by kernel_rfl) (fun a ha => ?_)
     have H496 := H494.q2.p2.p3.p3
     exact ⟨b480, ha.sub ⟨q, q, q, q, trivial⟩, H496⟩
    ·refine XC_do q ?_
     refine zd q q c44 (w_spec_l20Rd__pick w441 _ bp0 A0 B0 (C0.c.c.c) x13.1 60 x28 hx29 H443.ctx) (by rfl) ?_
     rintro _ w497 ⟨rfl, H498⟩; refine ⟨_, q, ?_⟩
     have H499 := H443.cN1 [_] H498
     refine XN H499.chg <| XQ (i := 7) q (by kernel_rfl) q H499.chg q (fun _ => qt_quo q q (by decide)) q q <| XQ (i := 8) q (by kernel_rfl) q H499.chg q (fun _ => qt_mul q q) q q ?_
     refine zy [4, 15, 17] (by kernel_rfl) (by simp) (allc ?_ (allc ?_ (allc ?_ alln)))
     ·refine XC_do q ?_
      obtain ⟨F500, hat501, hdup502⟩ := H499.at hS1 hx20 hv447
      refine zt (k := .i64) u3 q hat501 q q q <| XN H499.chg <| XQ (i := 9) q (by kernel_rfl) q H499.chg q (fun _ => qt_add q q) q q ?_
      refine zy [15, 17] (by kernel_rfl) (by simp) (allc ?_ (allc ?_ alln))
      ·refine XC_do q ?_
       refine zd q q c44 (w_spec_l20Rd__pick w497 _ bp0 A0 B0 (C0.c.c.c) x28.1 (if 1 > (List.length p1_0 : Int) then 1 else (List.length p1_0 : Int)) x34 hx35 H499.ctx) (by rfl) ?_
       rintro _ w503 ⟨rfl, H504⟩; refine ⟨_, q, ?_⟩
       have H505 := H499.cN1 [_] H504
       refine XN H505.chg <| XQ (i := 16) q (by kernel_rfl) q H505.chg q (fun _ => qt_build (args := [(0, .tmp 15), (1, .tmp 21)]) (css := [#[iV (IntKind.wrap .i64 (x19 + (IntKind.wrap .i64 ((IntKind.wrap .i64 (Int.tdiv x28.2 59)) * 6))))], #[iV x34.2]]) (cells := #[iV (IntKind.wrap .i64 (x19 + (IntKind.wrap .i64 ((IntKind.wrap .i64 (Int.tdiv x28.2 59)) * 6)))), iV x34.2, iV 0, iV 0]) q ⟨q, q, trivial⟩ (by kernel_rfl)) q q <| X1 17 (by kernel_rfl) q ?_
       refine zq (cs := [iV 0, iV 0, iV 0, iV 0]) H505 z43 q q q (fun b506 w507 H508 => ?_)
       refine XN H508.chg ?_
       have H510 := H212.cN3 [_] H508
       refine X1 18 (by kernel_rfl) q ?_
       refine zl (cs' := [iV (IntKind.wrap .i64 (x19 + (IntKind.wrap .i64 ((IntKind.wrap .i64 (Int.tdiv x28.2 59)) * 6)))), iV x34.2, iV 0, iV 0]) H510 q il43 q q q q q (fun w511 H512 => ?_)
       refine XE q ?_
       refine XC_done (by kernel_rfl) (fun a ha => ?_)
       have H514 := H512.q2.p2.p3.p3
       exact ⟨b506, ha.sub ⟨q, q, q, q, trivial⟩, H514⟩
      refine XC_do q ?_
      refine zq (cs := [iV 0, iV 0, iV 0, iV 0]) H499 z43 q q q (fun b515 w516 H517 => ?_)
      refine XN H517.chg <| X1 15 (by kernel_rfl) q ?_
      have H519 := H517.p1
      refine zd q q c44 (w_spec_l20Rd__pick w516 _ bp0 A0 B0 (C0.c.c.c.c) x28.1 (if 1 > (List.length p1_0 : Int) then 1 else (List.length p1_0 : Int)) x34 hx35 H519.ctx) (by rfl) ?_
      rintro _ w520 ⟨rfl, H521⟩; refine ⟨_, q, ?_⟩
      have H522 := H519.cN1 [_] H521
      refine XN H522.chg <| XQ (i := 16) q (by kernel_rfl) q H522.chg q (fun _ => qt_build (args := [(0, .tmp 15), (1, .tmp 21)]) (css := [#[iV (IntKind.wrap .i64 (x19 + (IntKind.wrap .i64 ((IntKind.wrap .i64 (Int.tdiv x28.2 59)) * 6))))], #[iV x34.2]]) (cells := #[iV (IntKind.wrap .i64 (x19 + (IntKind.wrap .i64 ((IntKind.wrap .i64 (Int.tdiv x28.2 59)) * 6)))), iV x34.2, iV 0, iV 0]) q ⟨q, q, trivial⟩ (by kernel_rfl)) q q ?_
      have H523 := H212.cN3 [_] H522
      refine X1 18 (by kernel_rfl) q ?_
      have H524 := H523.p1
      refine zl (cs' := [iV (IntKind.wrap .i64 (x19 + (IntKind.wrap .i64 ((IntKind.wrap .i64 (Int.tdiv x28.2 59)) * 6)))), iV x34.2, iV 0, iV 0]) H524 q il43 q q q q q (fun w525 H526 => ?_)
      refine XE q ?_
      refine XC_done (by kernel_rfl) (fun a ha => ?_)
      have H528 := H526.q2.p2.p3.p3
      exact ⟨b515, ha.sub ⟨q, q, q, q, trivial⟩, H528⟩
     ·refine XC_do q ?_
      refine zd q q c44 (w_spec_l20Rd__pick w497 _ bp0 A0 B0 (C0.c.c.c) x28.1 (if 1 > (List.length p1_0 : Int) then 1 else (List.length p1_0 : Int)) x34 hx35 H499.ctx) (by rfl) ?_
      rintro _ w529 ⟨rfl, H530⟩; refine ⟨_, q, ?_⟩
      have H531 := H499.cN1 [_] H530
      refine XN H531.chg ?_
      refine zy [4, 17] (by kernel_rfl) (by simp) (allc ?_ (allc ?_ alln))
      ·refine XC_do q ?_
       obtain ⟨F532, hat533, hdup534⟩ := H531.at hS1 hx20 hv447
       refine zt (k := .i64) u3 q hat533 q q q <| XN H531.chg <| XQ (i := 9) q (by kernel_rfl) q H531.chg q (fun _ => qt_add q q) q q <| XQ (i := 16) q (by kernel_rfl) q H531.chg q (fun _ => qt_build (args := [(0, .tmp 15), (1, .tmp 21)]) (css := [#[iV (IntKind.wrap .i64 (x19 + (IntKind.wrap .i64 ((IntKind.wrap .i64 (Int.tdiv x28.2 59)) * 6))))], #[iV x34.2]]) (cells := #[iV (IntKind.wrap .i64 (x19 + (IntKind.wrap .i64 ((IntKind.wrap .i64 (Int.tdiv x28.2 59)) * 6)))), iV x34.2, iV 0, iV 0]) q ⟨q, q, trivial⟩ (by kernel_rfl)) q q <| X1 17 (by kernel_rfl) q ?_
       refine zq (cs := [iV 0, iV 0, iV 0, iV 0]) H531 z43 q q q (fun b535 w536 H537 => ?_)
       refine XN H537.chg ?_
       have H539 := H212.cN3 [_] H537
       refine X1 18 (by kernel_rfl) q ?_
       refine zl (cs' := [iV (IntKind.wrap .i64 (x19 + (IntKind.wrap .i64 ((IntKind.wrap .i64 (Int.tdiv x28.2 59)) * 6)))), iV x34.2, iV 0, iV 0]) H539 q il43 q q q q q (fun w540 H541 => ?_)
       refine XE q ?_
       refine XC_done (by kernel_rfl) (fun a ha => ?_)
       have H543 := H541.q2.p2.p3.p3
       exact ⟨b535, ha.sub ⟨q, q, q, q, trivial⟩, H543⟩
      refine XC_do q ?_
      refine zq (cs := [iV 0, iV 0, iV 0, iV 0]) H531 z43 q q q (fun b544 w545 H546 => ?_)
      refine XN H546.chg <| X1 4 (by kernel_rfl) q ?_
      obtain ⟨F548, hat549, hdup550⟩ := H546.at hS2 hx20 hv447
      refine zt (k := .i64) u3 q hat549 q q q <| XN H546.chg <| XQ (i := 9) q (by kernel_rfl) q H546.chg q (fun _ => qt_add q q) q q <| XQ (i := 16) q (by kernel_rfl) q H546.chg q (fun _ => qt_build (args := [(0, .tmp 15), (1, .tmp 21)]) (css := [#[iV (IntKind.wrap .i64 (x19 + (IntKind.wrap .i64 ((IntKind.wrap .i64 (Int.tdiv x28.2 59)) * 6))))], #[iV x34.2]]) (cells := #[iV (IntKind.wrap .i64 (x19 + (IntKind.wrap .i64 ((IntKind.wrap .i64 (Int.tdiv x28.2 59)) * 6)))), iV x34.2, iV 0, iV 0]) q ⟨q, q, trivial⟩ (by kernel_rfl)) q q ?_
      have H551 := H212.cN3 [_] H546
      refine X1 18 (by kernel_rfl) q ?_
      refine zl (cs' := [iV (IntKind.wrap .i64 (x19 + (IntKind.wrap .i64 ((IntKind.wrap .i64 (Int.tdiv x28.2 59)) * 6)))), iV x34.2, iV 0, iV 0]) H551 q il43 q q q q q (fun w552 H553 => ?_)
      refine XE q ?_
      refine XC_done (by kernel_rfl) (fun a ha => ?_)
      have H555 := H553.q2.p2.p3.p3
      exact ⟨b544, ha.sub ⟨q, q, q, q, trivial⟩, H555⟩
     refine XC_do q ?_
     refine zq (cs := [iV 0, iV 0, iV 0, iV 0]) H499 z43 q q q (fun b556 w557 H558 => ?_)
     refine XN H558.chg ?_
     refine zy [4, 15] (by kernel_rfl) (by simp) (allc ?_ (allc ?_ alln))
     ·refine XC_do q ?_
      obtain ⟨F560, hat561, hdup562⟩ := H558.at hS2 hx20 hv447
      refine zt (k := .i64) u3 q hat561 q q q <| XN H558.chg <| XQ (i := 9) q (by kernel_rfl) q H558.chg q (fun _ => qt_add q q) q q <| X1 15 (by kernel_rfl) q ?_
      have H563 := H558.p1
      refine zd q q c44 (w_spec_l20Rd__pick w557 _ bp0 A0 B0 (C0.c.c.c.c) x28.1 (if 1 > (List.length p1_0 : Int) then 1 else (List.length p1_0 : Int)) x34 hx35 H563.ctx) (by rfl) ?_
      rintro _ w564 ⟨rfl, H565⟩; refine ⟨_, q, ?_⟩
      have H566 := H563.cN1 [_] H565
      refine XN H566.chg <| XQ (i := 16) q (by kernel_rfl) q H566.chg q (fun _ => qt_build (args := [(0, .tmp 15), (1, .tmp 21)]) (css := [#[iV (IntKind.wrap .i64 (x19 + (IntKind.wrap .i64 ((IntKind.wrap .i64 (Int.tdiv x28.2 59)) * 6))))], #[iV x34.2]]) (cells := #[iV (IntKind.wrap .i64 (x19 + (IntKind.wrap .i64 ((IntKind.wrap .i64 (Int.tdiv x28.2 59)) * 6)))), iV x34.2, iV 0, iV 0]) q ⟨q, q, trivial⟩ (by kernel_rfl)) q q ?_
      have H567 := H212.cN3 [_] H566
      refine X1 18 (by kernel_rfl) q ?_
      have H568 := H567.p1
      refine zl (cs' := [iV (IntKind.wrap .i64 (x19 + (IntKind.wrap .i64 ((IntKind.wrap .i64 (Int.tdiv x28.2 59)) * 6)))), iV x34.2, iV 0, iV 0]) H568 q il43 q q q q q (fun w569 H570 => ?_)
      refine XE q ?_
      refine XC_done (by kernel_rfl) (fun a ha => ?_)
      have H572 := H570.q2.p2.p3.p3
      exact ⟨b556, ha.sub ⟨q, q, q, q, trivial⟩, H572⟩
     refine XC_do q ?_
     have H573 := H558.p1
     refine zd q q c44 (w_spec_l20Rd__pick w557 _ bp0 A0 B0 (C0.c.c.c.c) x28.1 (if 1 > (List.length p1_0 : Int) then 1 else (List.length p1_0 : Int)) x34 hx35 H573.ctx) (by rfl) ?_
     rintro _ w574 ⟨rfl, H575⟩; refine ⟨_, q, ?_⟩
     have H576 := H573.cN1 [_] H575
     refine XN H576.chg <| X1 4 (by kernel_rfl) q ?_
     obtain ⟨F577, hat578, hdup579⟩ := H576.at hS2 hx20 hv447
     refine zt (k := .i64) u3 q hat578 q q q <| XN H576.chg <| XQ (i := 9) q (by kernel_rfl) q H576.chg q (fun _ => qt_add q q) q q <| XQ (i := 16) q (by kernel_rfl) q H576.chg q (fun _ => qt_build (args := [(0, .tmp 15), (1, .tmp 21)]) (css := [#[iV (IntKind.wrap .i64 (x19 + (IntKind.wrap .i64 ((IntKind.wrap .i64 (Int.tdiv x28.2 59)) * 6))))], #[iV x34.2]]) (cells := #[iV (IntKind.wrap .i64 (x19 + (IntKind.wrap .i64 ((IntKind.wrap .i64 (Int.tdiv x28.2 59)) * 6)))), iV x34.2, iV 0, iV 0]) q ⟨q, q, trivial⟩ (by kernel_rfl)) q q ?_
     have H580 := H212.cN3 [_] H576
     refine X1 18 (by kernel_rfl) q ?_
     have H581 := H580.p1
     refine zl (cs' := [iV (IntKind.wrap .i64 (x19 + (IntKind.wrap .i64 ((IntKind.wrap .i64 (Int.tdiv x28.2 59)) * 6)))), iV x34.2, iV 0, iV 0]) H581 q il43 q q q q q (fun w582 H583 => ?_)
     refine XE q ?_
     refine XC_done (by kernel_rfl) (fun a ha => ?_)
     have H585 := H583.q2.p2.p3.p3
     exact ⟨b556, ha.sub ⟨q, q, q, q, trivial⟩, H585⟩
    refine XC_do q ?_
    refine zq (cs := [iV 0, iV 0, iV 0, iV 0]) H443 z43 q q q (fun b586 w587 H588 => ?_)
    refine XN H588.chg ?_
    refine zy [4, 6] (by kernel_rfl) (by simp) (allc ?_ (allc ?_ alln))
    ·refine XC_do q ?_
     obtain ⟨F590, hat591, hdup592⟩ := H588.at hS2 hx20 hv447
     refine zt (k := .i64) u3 q hat591 q q q <| XN H588.chg <| X1 6 (by kernel_rfl) q ?_
     have H593 := H588.p1
     refine zd q q c44 (w_spec_l20Rd__pick w587 _ bp0 A0 B0 (C0.c.c.c.c) x13.1 60 x28 hx29 H593.ctx) (by rfl) ?_
     rintro _ w594 ⟨rfl, H595⟩; refine ⟨_, q, ?_⟩
     have H596 := H593.cN1 [_] H595
     refine XN H596.chg <| XQ (i := 7) q (by kernel_rfl) q H596.chg q (fun _ => qt_quo q q (by decide)) q q <| XQ (i := 8) q (by kernel_rfl) q H596.chg q (fun _ => qt_mul q q) q q <| XQ (i := 9) q (by kernel_rfl) q H596.chg q (fun _ => qt_add q q) q q <| X1 15 (by kernel_rfl) q <| zd q q c44 (w_spec_l20Rd__pick w594 _ bp0 A0 B0 (C0.c.c.c.c) x28.1 (if 1 > (List.length p1_0 : Int) then 1 else (List.length p1_0 : Int)) x34 hx35 H596.ctx) (by rfl) ?_
     rintro _ w597 ⟨rfl, H598⟩; refine ⟨_, q, ?_⟩
     have H599 := H596.cN1 [_] H598
     refine XN H599.chg <| XQ (i := 16) q (by kernel_rfl) q H599.chg q (fun _ => qt_build (args := [(0, .tmp 15), (1, .tmp 21)]) (css := [#[iV (IntKind.wrap .i64 (x19 + (IntKind.wrap .i64 ((IntKind.wrap .i64 (Int.tdiv x28.2 59)) * 6))))], #[iV x34.2]]) (cells := #[iV (IntKind.wrap .i64 (x19 + (IntKind.wrap .i64 ((IntKind.wrap .i64 (Int.tdiv x28.2 59)) * 6)))), iV x34.2, iV 0, iV 0]) q ⟨q, q, trivial⟩ (by kernel_rfl)) q q ?_
     have H600 := H212.cN3 [_] H599
     refine X1 18 (by kernel_rfl) q ?_
     have H601 := H600.p1
     refine zl (cs' := [iV (IntKind.wrap .i64 (x19 + (IntKind.wrap .i64 ((IntKind.wrap .i64 (Int.tdiv x28.2 59)) * 6)))), iV x34.2, iV 0, iV 0]) H601 q il43 q q q q q (fun w602 H603 => ?_)
     refine XE q ?_
     refine XC_done (by kernel_rfl) (fun a ha => ?_)
     have H605 := H603.q2.p2.p3.p3
     exact ⟨b586, ha.sub ⟨q, q, q, q, trivial⟩, H605⟩
    refine XC_do q ?_
    have H606 := H588.p1
    refine zd q q c44 (w_spec_l20Rd__pick w587 _ bp0 A0 B0 (C0.c.c.c.c) x13.1 60 x28 hx29 H606.ctx) (by rfl) ?_
    rintro _ w607 ⟨rfl, H608⟩; refine ⟨_, q, ?_⟩
    have H609 := H606.cN1 [_] H608
    refine XN H609.chg <| XQ (i := 7) q (by kernel_rfl) q H609.chg q (fun _ => qt_quo q q (by decide)) q q <| XQ (i := 8) q (by kernel_rfl) q H609.chg q (fun _ => qt_mul q q) q q ?_
    refine zy [4, 15] (by kernel_rfl) (by simp) (allc ?_ (allc ?_ alln))
    ·refine XC_do q ?_
     obtain ⟨F610, hat611, hdup612⟩ := H609.at hS2 hx20 hv447
     refine zt (k := .i64) u3 q hat611 q q q <| XN H609.chg <| XQ (i := 9) q (by kernel_rfl) q H609.chg q (fun _ => qt_add q q) q q <| X1 15 (by kernel_rfl) q <| zd q q c44 (w_spec_l20Rd__pick w607 _ bp0 A0 B0 (C0.c.c.c.c) x28.1 (if 1 > (List.length p1_0 : Int) then 1 else (List.length p1_0 : Int)) x34 hx35 H609.ctx) (by rfl) ?_
     rintro _ w613 ⟨rfl, H614⟩; refine ⟨_, q, ?_⟩
     have H615 := H609.cN1 [_] H614
     refine XN H615.chg <| XQ (i := 16) q (by kernel_rfl) q H615.chg q (fun _ => qt_build (args := [(0, .tmp 15), (1, .tmp 21)]) (css := [#[iV (IntKind.wrap .i64 (x19 + (IntKind.wrap .i64 ((IntKind.wrap .i64 (Int.tdiv x28.2 59)) * 6))))], #[iV x34.2]]) (cells := #[iV (IntKind.wrap .i64 (x19 + (IntKind.wrap .i64 ((IntKind.wrap .i64 (Int.tdiv x28.2 59)) * 6)))), iV x34.2, iV 0, iV 0]) q ⟨q, q, trivial⟩ (by kernel_rfl)) q q ?_
     have H616 := H212.cN3 [_] H615
     refine X1 18 (by kernel_rfl) q ?_
     have H617 := H616.p1
     refine zl (cs' := [iV (IntKind.wrap .i64 (x19 + (IntKind.wrap .i64 ((IntKind.wrap .i64 (Int.tdiv x28.2 59)) * 6)))), iV x34.2, iV 0, iV 0]) H617 q il43 q q q q q (fun w618 H619 => ?_)
     refine XE q ?_
     refine XC_done (by kernel_rfl) (fun a ha => ?_)
     have H621 := H619.q2.p2.p3.p3
     exact ⟨b586, ha.sub ⟨q, q, q, q, trivial⟩, H621⟩
    refine XC_do q <| zd q q c44 (w_spec_l20Rd__pick w607 _ bp0 A0 B0 (C0.c.c.c.c) x28.1 (if 1 > (List.length p1_0 : Int) then 1 else (List.length p1_0 : Int)) x34 hx35 H609.ctx) (by rfl) ?_
    rintro _ w622 ⟨rfl, H623⟩; refine ⟨_, q, ?_⟩
    have H624 := H609.cN1 [_] H623
    refine XN H624.chg <| X1 4 (by kernel_rfl) q ?_
    obtain ⟨F625, hat626, hdup627⟩ := H624.at hS2 hx20 hv447
    refine zt (k := .i64) u3 q hat626 q q q <| XN H624.chg <| XQ (i := 9) q (by kernel_rfl) q H624.chg q (fun _ => qt_add q q) q q <| XQ (i := 16) q (by kernel_rfl) q H624.chg q (fun _ => qt_build (args := [(0, .tmp 15), (1, .tmp 21)]) (css := [#[iV (IntKind.wrap .i64 (x19 + (IntKind.wrap .i64 ((IntKind.wrap .i64 (Int.tdiv x28.2 59)) * 6))))], #[iV x34.2]]) (cells := #[iV (IntKind.wrap .i64 (x19 + (IntKind.wrap .i64 ((IntKind.wrap .i64 (Int.tdiv x28.2 59)) * 6)))), iV x34.2, iV 0, iV 0]) q ⟨q, q, trivial⟩ (by kernel_rfl)) q q ?_
    have H628 := H212.cN3 [_] H624
    refine X1 18 (by kernel_rfl) q ?_
    have H629 := H628.p1
    refine zl (cs' := [iV (IntKind.wrap .i64 (x19 + (IntKind.wrap .i64 ((IntKind.wrap .i64 (Int.tdiv x28.2 59)) * 6)))), iV x34.2, iV 0, iV 0]) H629 q il43 q q q q q (fun w630 H631 => ?_)
    refine XE q ?_
    refine XC_done (by kernel_rfl) (fun a ha => ?_)
    have H633 := H631.q2.p2.p3.p3
    exact ⟨b586, ha.sub ⟨q, q, q, q, trivial⟩, H633⟩
   refine XC_do q ?_
   refine zq (cs := [iV 0, iV 0, iV 0, iV 0]) H438 z43 q q q (fun b634 w635 H636 => ?_)
   refine XN H636.chg <| X1 2 (by kernel_rfl) q ?_
   have H638 := H636.p2
   refine zd q q c44 (w_spec_l20Rd__pick w635 _ bp0 A0 B0 (C0.c.c.c.c) B1 12 x13 hx14 H638.ctx) (by rfl) ?_
   rintro _ w639 ⟨rfl, H640⟩; refine ⟨_, q, ?_⟩
   have H641 := H638.cN1 [_] H640
   refine XN H641.chg ?_
   obtain ⟨b642, off643, cap644, hv645⟩ := Ctx.isAt H641.ctx hS2 hx20
   refine XT (i := 3) q (by kernel_rfl) q H641.chg q (qs_index hx20 hv645 u24 i3 q q) q q ?_
   refine zy [4, 6] (by kernel_rfl) (by simp) (allc ?_ (allc ?_ alln))
   ·refine XC_do q ?_
    obtain ⟨F646, hat647, hdup648⟩ := H641.at hS2 hx20 hv645
    refine zt (k := .i64) u3 q hat647 q q q <| XN H641.chg <| X1 6 (by kernel_rfl) q <| zd q q c44 (w_spec_l20Rd__pick w639 _ bp0 A0 B0 (C0.c.c.c.c) x13.1 60 x28 hx29 H641.ctx) (by rfl) ?_
    rintro _ w649 ⟨rfl, H650⟩; refine ⟨_, q, ?_⟩
    have H651 := H641.cN1 [_] H650
    refine XN H651.chg <| XQ (i := 7) q (by kernel_rfl) q H651.chg q (fun _ => qt_quo q q (by decide)) q q <| XQ (i := 8) q (by kernel_rfl) q H651.chg q (fun _ => qt_mul q q) q q <| XQ (i := 9) q (by kernel_rfl) q H651.chg q (fun _ => qt_add q q) q q <| X1 15 (by kernel_rfl) q <| zd q q c44 (w_spec_l20Rd__pick w649 _ bp0 A0 B0 (C0.c.c.c.c) x28.1 (if 1 > (List.length p1_0 : Int) then 1 else (List.length p1_0 : Int)) x34 hx35 H651.ctx) (by rfl) ?_
    rintro _ w652 ⟨rfl, H653⟩; refine ⟨_, q, ?_⟩
    have H654 := H651.cN1 [_] H653
    refine XN H654.chg <| XQ (i := 16) q (by kernel_rfl) q H654.chg q (fun _ => qt_build (args := [(0, .tmp 15), (1, .tmp 21)]) (css := [#[iV (IntKind.wrap .i64 (x19 + (IntKind.wrap .i64 ((IntKind.wrap .i64 (Int.tdiv x28.2 59)) * 6))))], #[iV x34.2]]) (cells := #[iV (IntKind.wrap .i64 (x19 + (IntKind.wrap .i64 ((IntKind.wrap .i64 (Int.tdiv x28.2 59)) * 6)))), iV x34.2, iV 0, iV 0]) q ⟨q, q, trivial⟩ (by kernel_rfl)) q q ?_
    have H655 := H212.cN3 [_] H654
    refine X1 18 (by kernel_rfl) q ?_
    have H656 := H655.p1
    refine zl (cs' := [iV (IntKind.wrap .i64 (x19 + (IntKind.wrap .i64 ((IntKind.wrap .i64 (Int.tdiv x28.2 59)) * 6)))), iV x34.2, iV 0, iV 0]) H656 q il43 q q q q q (fun w657 H658 => ?_)
    refine XE q ?_
    refine XC_done (by kernel_rfl) (fun a ha => ?_)
    have H660 := H658.q2.p2.p3.p3
    exact ⟨b634, ha.sub ⟨q, q, q, q, trivial⟩, H660⟩
   refine XC_do q <| zd q q c44 (w_spec_l20Rd__pick w639 _ bp0 A0 B0 (C0.c.c.c.c) x13.1 60 x28 hx29 H641.ctx) (by rfl) ?_
   rintro _ w661 ⟨rfl, H662⟩; refine ⟨_, q, ?_⟩
   have H663 := H641.cN1 [_] H662
   refine XN H663.chg <| XQ (i := 7) q (by kernel_rfl) q H663.chg q (fun _ => qt_quo q q (by decide)) q q <| XQ (i := 8) q (by kernel_rfl) q H663.chg q (fun _ => qt_mul q q) q q ?_
   refine zy [4, 15] (by kernel_rfl) (by simp) (allc ?_ (allc ?_ alln))
   ·refine XC_do q ?_
    obtain ⟨F664, hat665, hdup666⟩ := H663.at hS2 hx20 hv645
    refine zt (k := .i64) u3 q hat665 q q q <| XN H663.chg <| XQ (i := 9) q (by kernel_rfl) q H663.chg q (fun _ => qt_add q q) q q <| X1 15 (by kernel_rfl) q <| zd q q c44 (w_spec_l20Rd__pick w661 _ bp0 A0 B0 (C0.c.c.c.c) x28.1 (if 1 > (List.length p1_0 : Int) then 1 else (List.length p1_0 : Int)) x34 hx35 H663.ctx) (by rfl) ?_
    rintro _ w667 ⟨rfl, H668⟩; refine ⟨_, q, ?_⟩
    have H669 := H663.cN1 [_] H668
    refine XN H669.chg <| XQ (i := 16) q (by kernel_rfl) q H669.chg q (fun _ => qt_build (args := [(0, .tmp 15), (1, .tmp 21)]) (css := [#[iV (IntKind.wrap .i64 (x19 + (IntKind.wrap .i64 ((IntKind.wrap .i64 (Int.tdiv x28.2 59)) * 6))))], #[iV x34.2]]) (cells := #[iV (IntKind.wrap .i64 (x19 + (IntKind.wrap .i64 ((IntKind.wrap .i64 (Int.tdiv x28.2 59)) * 6)))), iV x34.2, iV 0, iV 0]) q ⟨q, q, trivial⟩ (by kernel_rfl)) q q ?_
    have H670 := H212.cN3 [_] H669
    refine X1 18 (by kernel_rfl) q ?_
    have H671 := H670.p1
    refine zl (cs' := [iV (IntKind.wrap .i64 (x19 + (IntKind.wrap .i64 ((IntKind.wrap .i64 (Int.tdiv x28.2 59)) * 6)))), iV x34.2, iV 0, iV 0]) H671 q il43 q q q q q (fun w672 H673 => ?_)
    refine XE q ?_
    refine XC_done (by kernel_rfl) (fun a ha => ?_)
    have H675 := H673.q2.p2.p3.p3
    exact ⟨b634, ha.sub ⟨q, q, q, q, trivial⟩, H675⟩
   refine XC_do q <| zd q q c44 (w_spec_l20Rd__pick w661 _ bp0 A0 B0 (C0.c.c.c.c) x28.1 (if 1 > (List.length p1_0 : Int) then 1 else (List.length p1_0 : Int)) x34 hx35 H663.ctx) (by rfl) ?_
   rintro _ w676 ⟨rfl, H677⟩; refine ⟨_, q, ?_⟩
   have H678 := H663.cN1 [_] H677
   refine XN H678.chg <| X1 4 (by kernel_rfl) q ?_
   obtain ⟨F679, hat680, hdup681⟩ := H678.at hS2 hx20 hv645
   refine zt (k := .i64) u3 q hat680 q q q <| XN H678.chg <| XQ (i := 9) q (by kernel_rfl) q H678.chg q (fun _ => qt_add q q) q q <| XQ (i := 16) q (by kernel_rfl) q H678.chg q (fun _ => qt_build (args := [(0, .tmp 15), (1, .tmp 21)]) (css := [#[iV (IntKind.wrap .i64 (x19 + (IntKind.wrap .i64 ((IntKind.wrap .i64 (Int.tdiv x28.2 59)) * 6))))], #[iV x34.2]]) (cells := #[iV (IntKind.wrap .i64 (x19 + (IntKind.wrap .i64 ((IntKind.wrap .i64 (Int.tdiv x28.2 59)) * 6)))), iV x34.2, iV 0, iV 0]) q ⟨q, q, trivial⟩ (by kernel_rfl)) q q ?_
   have H682 := H212.cN3 [_] H678
   refine X1 18 (by kernel_rfl) q ?_
   have H683 := H682.p1
   refine zl (cs' := [iV (IntKind.wrap .i64 (x19 + (IntKind.wrap .i64 ((IntKind.wrap .i64 (Int.tdiv x28.2 59)) * 6)))), iV x34.2, iV 0, iV 0]) H683 q il43 q q q q q (fun w684 H685 => ?_)
   refine XE q ?_
   refine XC_done (by kernel_rfl) (fun a ha => ?_)
   have H687 := H685.q2.p2.p3.p3
   exact ⟨b634, ha.sub ⟨q, q, q, q, trivial⟩, H687⟩
  ·refine XC_do q ?_
   refine zd q q c44 (w_spec_l20Rd__pick w209 _ bp0 A0 B0 (C0.c.c) B1 12 x13 hx14 H214.ctx) (by rfl) ?_
   rintro _ w688 ⟨rfl, H689⟩; refine ⟨_, q, ?_⟩
   have H690 := H214.cN1 [_] H689
   refine XN H690.chg ?_
   refine zy [0, 6, 17] (by kernel_rfl) (by simp) (allc ?_ (allc ?_ (allc ?_ alln)))
   ·refine XC_do q ?_
    refine zs (t := tI) (args := [.const (iV 0), .const (iV 0), .const (iV 1), .const (iV 1), .const (iV 2), .const (iV 3), .const (iV 3), .const (iV 3), .const (iV 4), .const (iV 4), .const (iV 4), .const (iV 5)]) (xs := ([0, 0, 1, 1, 2, 3, 3, 3, 4, 4, 4, 5] : List Int)) H690 (BltL.cons (Blt.int) q (BltL.cons (Blt.int) q (BltL.cons (Blt.int) q (BltL.cons (Blt.int) q (BltL.cons (Blt.int) q (BltL.cons (Blt.int) q (BltL.cons (Blt.int) q (BltL.cons (Blt.int) q (BltL.cons (Blt.int) q (BltL.cons (Blt.int) q (BltL.cons (Blt.int) q (BltL.cons (Blt.int) q (BltL.nil))))))))))))) u24 j3 q q q q q q (fun v691 w692 H693 => ?_)
    refine XN H693.chg ?_
    obtain ⟨b695, off696, cap697, hv698⟩ := Ctx.isAt H693.ctx hS0 hx20
    refine XT (i := 3) q (by kernel_rfl) q H693.chg q (qs_index hx20 hv698 u24 i3 q q) q q ?_
    refine zy [4, 6, 17] (by kernel_rfl) (by simp) (allc ?_ (allc ?_ (allc ?_ alln)))
    ·refine XC_do q ?_
     obtain ⟨F699, hat700, hdup701⟩ := H693.at hS0 hx20 hv698
     refine zt (k := .i64) u3 q hat700 q q q <| XN H693.chg ?_
     refine zy [6, 17] (by kernel_rfl) (by simp) (allc ?_ (allc ?_ alln))
     ·refine XC_do q ?_
      have H702 := H693.p1
      refine zd q q c44 (w_spec_l20Rd__pick w692 _ bp0 A0 B0 (C0.c.c.c) x13.1 60 x28 hx29 H702.ctx) (by rfl) ?_
      rintro _ w703 ⟨rfl, H704⟩; refine ⟨_, q, ?_⟩
      have H705 := H702.cN1 [_] H704
      refine XN H705.chg <| XQ (i := 7) q (by kernel_rfl) q H705.chg q (fun _ => qt_quo q q (by decide)) q q <| XQ (i := 8) q (by kernel_rfl) q H705.chg q (fun _ => qt_mul q q) q q <| XQ (i := 9) q (by kernel_rfl) q H705.chg q (fun _ => qt_add q q) q q ?_
      refine zy [15, 17] (by kernel_rfl) (by simp) (allc ?_ (allc ?_ alln))
      ·refine XC_do q ?_
       refine zd q q c44 (w_spec_l20Rd__pick w703 _ bp0 A0 B0 (C0.c.c.c) x28.1 (if 1 > (List.length p1_0 : Int) then 1 else (List.length p1_0 : Int)) x34 hx35 H705.ctx) (by rfl) ?_
       rintro _ w706 ⟨rfl, H707⟩; refine ⟨_, q, ?_⟩
       have H708 := H705.cN1 [_] H707
       refine XN H708.chg <| XQ (i := 16) q (by kernel_rfl) q H708.chg q (fun _ => qt_build (args := [(0, .tmp 15), (1, .tmp 21)]) (css := [#[iV (IntKind.wrap .i64 (x19 + (IntKind.wrap .i64 ((IntKind.wrap .i64 (Int.tdiv x28.2 59)) * 6))))], #[iV x34.2]]) (cells := #[iV (IntKind.wrap .i64 (x19 + (IntKind.wrap .i64 ((IntKind.wrap .i64 (Int.tdiv x28.2 59)) * 6)))), iV x34.2, iV 0, iV 0]) q ⟨q, q, trivial⟩ (by kernel_rfl)) q q <| X1 17 (by kernel_rfl) q ?_
       refine zq (cs := [iV 0, iV 0, iV 0, iV 0]) H708 z43 q q q (fun b709 w710 H711 => ?_)
       refine XN H711.chg ?_
       have H713 := H212.cN3 [_] H711
       refine X1 18 (by kernel_rfl) q ?_
       refine zl (cs' := [iV (IntKind.wrap .i64 (x19 + (IntKind.wrap .i64 ((IntKind.wrap .i64 (Int.tdiv x28.2 59)) * 6)))), iV x34.2, iV 0, iV 0]) H713 q il43 q q q q q (fun w714 H715 => ?_)
       refine XE q ?_
       refine XC_done (by kernel_rfl) (fun a ha => ?_)
       have H717 := H715.q2.p2.p3.p3
       exact ⟨b709, ha.sub ⟨q, q, q, q, trivial⟩, H717⟩
      refine XC_do q ?_
      refine zq (cs := [iV 0, iV 0, iV 0, iV 0]) H705 z43 q q q (fun b718 w719 H720 => ?_)
      refine XN H720.chg <| X1 15 (by kernel_rfl) q ?_
      have H722 := H720.p1
      refine zd q q c44 (w_spec_l20Rd__pick w719 _ bp0 A0 B0 (C0.c.c.c.c) x28.1 (if 1 > (List.length p1_0 : Int) then 1 else (List.length p1_0 : Int)) x34 hx35 H722.ctx) (by rfl) ?_
      rintro _ w723 ⟨rfl, H724⟩; refine ⟨_, q, ?_⟩
      have H725 := H722.cN1 [_] H724
      refine XN H725.chg <| XQ (i := 16) q (by kernel_rfl) q H725.chg q (fun _ => qt_build (args := [(0, .tmp 15), (1, .tmp 21)]) (css := [#[iV (IntKind.wrap .i64 (x19 + (IntKind.wrap .i64 ((IntKind.wrap .i64 (Int.tdiv x28.2 59)) * 6))))], #[iV x34.2]]) (cells := #[iV (IntKind.wrap .i64 (x19 + (IntKind.wrap .i64 ((IntKind.wrap .i64 (Int.tdiv x28.2 59)) * 6)))), iV x34.2, iV 0, iV 0]) q ⟨q, q, trivial⟩ (by kernel_rfl)) q q ?_
      have H726 := H212.cN3 [_] H725
      refine X1 18 (by kernel_rfl) q ?_
      have H727 := H726.p1
      refine zl (cs' := [iV (IntKind.wrap .i64 (x19 + (IntKind.wrap .i64 ((IntKind.wrap .i64 (Int.tdiv x28.2 59)) * 6)))), iV x34.2, iV 0, iV 0]) H727 q il43 q q q q q (fun w728 H729 => ?_)
      refine XE q ?_
      refine XC_done (by kernel_rfl) (fun a ha => ?_)
      have H731 := H729.q2.p2.p3.p3
      exact ⟨b718, ha.sub ⟨q, q, q, q, trivial⟩, H731⟩
     refine XC_do q ?_
     refine zq (cs := [iV 0, iV 0, iV 0, iV 0]) H693 z43 q q q (fun b732 w733 H734 => ?_)
     refine XN H734.chg <| X1 6 (by kernel_rfl) q ?_
     have H736 := H734.p2
     refine zd q q c44 (w_spec_l20Rd__pick w733 _ bp0 A0 B0 (C0.c.c.c.c) x13.1 60 x28 hx29 H736.ctx) (by rfl) ?_
     rintro _ w737 ⟨rfl, H738⟩; refine ⟨_, q, ?_⟩
     have H739 := H736.cN1 [_] H738
     refine XN H739.chg <| XQ (i := 7) q (by kernel_rfl) q H739.chg q (fun _ => qt_quo q q (by decide)) q q <| XQ (i := 8) q (by kernel_rfl) q H739.chg q (fun _ => qt_mul q q) q q <| XQ (i := 9) q (by kernel_rfl) q H739.chg q (fun _ => qt_add q q) q q <| X1 15 (by kernel_rfl) q <| zd q q c44 (w_spec_l20Rd__pick w737 _ bp0 A0 B0 (C0.c.c.c.c) x28.1 (if 1 > (List.length p1_0 : Int) then 1 else (List.length p1_0 : Int)) x34 hx35 H739.ctx) (by rfl) ?_
     rintro _ w740 ⟨rfl, H741⟩; refine ⟨_, q, ?_⟩
     have H742 := H739.cN1 [_] H741
     refine XN H742.chg <| XQ (i := 16) q (by kernel_rfl) q H742.chg q (fun _ => qt_build (args := [(0, .tmp 15), (1, .tmp 21)]) (css := [#[iV (IntKind.wrap .i64 (x19 + (IntKind.wrap .i64 ((IntKind.wrap .i64 (Int.tdiv x28.2 59)) * 6))))], #[iV x34.2]]) (cells := #[iV (IntKind.wrap .i64 (x19 + (IntKind.wrap .i64 ((IntKind.wrap .i64 (Int.tdiv x28.2 59)) * 6)))), iV x34.2, iV 0, iV 0]) q ⟨q, q, trivial⟩ (by kernel_rfl)) q q ?_
     have H743 := H212.cN3 [_] H742
     refine X1 18 (by kernel_rfl) q ?_
     have H744 := H743.p1
     refine zl (cs' := [iV (IntKind.wrap .i64 (x19 + (IntKind.wrap .i64 ((IntKind.wrap .i64 (Int.tdiv x28.2 59)) * 6)))), iV x34.2, iV 0, iV 0]) H744 q il43 q q q q q (fun w745 H746 => ?_)
     refine XE q ?_
     refine XC_done (by kernel_rfl) (fun a ha => ?_)
     have H748 := H746.q2.p2.p3.p3
     exact ⟨b732, ha.sub ⟨q, q, q, q, trivial⟩, H748⟩
    ·refine XC_do q ?_
     have H749 := H693.p1
     refine zd q q c44 (w_spec_l20Rd__pick w692 _ bp0 A0 B0 (C0.c.c.c) x13.1 60 x28 hx29 H749.ctx) (by rfl) ?_
     rintro _ w750 ⟨rfl, H751⟩; refine ⟨_, q, ?_⟩
     have H752 := H749.cN1 [_] H751
     refine XN H752.chg <| XQ (i := 7) q (by kernel_rfl) q H752.chg q (fun _ => qt_quo q q (by decide)) q q <| XQ (i := 8) q (by kernel_rfl) q H752.chg q (fun _ => qt_mul q q) q q ?_
     refine zy [4, 15, 17] (by kernel_rfl) (by simp) (allc ?_ (allc ?_ (allc ?_ alln)))
     ·refine XC_do q ?_
      obtain ⟨F753, hat754, hdup755⟩ := H752.at hS1 hx20 hv698
      refine zt (k := .i64) u3 q hat754 q q q <| XN H752.chg <| XQ (i := 9) q (by kernel_rfl) q H752.chg q (fun _ => qt_add q q) q q ?_
      refine zy [15, 17] (by kernel_rfl) (by simp) (allc ?_ (allc ?_ alln))
      ·refine XC_do q ?_
       refine zd q q c44 (w_spec_l20Rd__pick w750 _ bp0 A0 B0 (C0.c.c.c) x28.1 (if 1 > (List.length p1_0 : Int) then 1 else (List.length p1_0 : Int)) x34 hx35 H752.ctx) (by rfl) ?_
       rintro _ w756 ⟨rfl, H757⟩; refine ⟨_, q, ?_⟩
       have H758 := H752.cN1 [_] H757
       refine XN H758.chg <| XQ (i := 16) q (by kernel_rfl) q H758.chg q (fun _ => qt_build (args := [(0, .tmp 15), (1, .tmp 21)]) (css := [#[iV (IntKind.wrap .i64 (x19 + (IntKind.wrap .i64 ((IntKind.wrap .i64 (Int.tdiv x28.2 59)) * 6))))], #[iV x34.2]]) (cells := #[iV (IntKind.wrap .i64 (x19 + (IntKind.wrap .i64 ((IntKind.wrap .i64 (Int.tdiv x28.2 59)) * 6)))), iV x34.2, iV 0, iV 0]) q ⟨q, q, trivial⟩ (by kernel_rfl)) q q <| X1 17 (by kernel_rfl) q ?_
       refine zq (cs := [iV 0, iV 0, iV 0, iV 0]) H758 z43 q q q (fun b759 w760 H761 => ?_)
       refine XN H761.chg ?_
       have H763 := H212.cN3 [_] H761
       refine X1 18 (by kernel_rfl) q ?_
       refine zl (cs' := [iV (IntKind.wrap .i64 (x19 + (IntKind.wrap .i64 ((IntKind.wrap .i64 (Int.tdiv x28.2 59)) * 6)))), iV x34.2, iV 0, iV 0]) H763 q il43 q q q q q (fun w764 H765 => ?_)
       refine XE q ?_
       refine XC_done (by kernel_rfl) (fun a ha => ?_)
       have H767 := H765.q2.p2.p3.p3
       exact ⟨b759, ha.sub ⟨q, q, q, q, trivial⟩, H767⟩
      refine XC_do q ?_
      refine zq (cs := [iV 0, iV 0, iV 0, iV 0]) H752 z43 q q q (fun b768 w769 H770 => ?_)
      refine XN H770.chg <| X1 15 (by kernel_rfl) q ?_
      have H772 := H770.p1
      refine zd q q c44 (w_spec_l20Rd__pick w769 _ bp0 A0 B0 (C0.c.c.c.c) x28.1 (if 1 > (List.length p1_0 : Int) then 1 else (List.length p1_0 : Int)) x34 hx35 H772.ctx) (by rfl) ?_
      rintro _ w773 ⟨rfl, H774⟩; refine ⟨_, q, ?_⟩
      have H775 := H772.cN1 [_] H774
      refine XN H775.chg <| XQ (i := 16) q (by kernel_rfl) q H775.chg q (fun _ => qt_build (args := [(0, .tmp 15), (1, .tmp 21)]) (css := [#[iV (IntKind.wrap .i64 (x19 + (IntKind.wrap .i64 ((IntKind.wrap .i64 (Int.tdiv x28.2 59)) * 6))))], #[iV x34.2]]) (cells := #[iV (IntKind.wrap .i64 (x19 + (IntKind.wrap .i64 ((IntKind.wrap .i64 (Int.tdiv x28.2 59)) * 6)))), iV x34.2, iV 0, iV 0]) q ⟨q, q, trivial⟩ (by kernel_rfl)) q q ?_
      have H776 := H212.cN3 [_] H775
      refine X1 18 (by kernel_rfl) q ?_
      have H777 := H776.p1
      refine zl (cs' := [iV (IntKind.wrap .i64 (x19 + (IntKind.wrap .i64 ((IntKind.wrap .i64 (Int.tdiv x28.2 59)) * 6)))), iV x34.2, iV 0, iV 0]) H777 q il43 q q q q q (fun w778 H779 => ?_)
      refine XE q ?_
      refine XC_done (by kernel_rfl) (fun a ha => ?_)
      have H781 := H779.q2.p2.p3.p3
      exact ⟨b768, ha.sub ⟨q, q, q, q, trivial⟩, H781⟩
     ·refine XC_do q ?_
      refine zd q q c44 (w_spec_l20Rd__pick w750 _ bp0 A0 B0 (C0.c.c.c) x28.1 (if 1 > (List.length p1_0 : Int) then 1 else (List.length p1_0 : Int)) x34 hx35 H752.ctx) (by rfl) ?_
      rintro _ w782 ⟨rfl, H783⟩; refine ⟨_, q, ?_⟩
      have H784 := H752.cN1 [_] H783
      refine XN H784.chg ?_
      refine zy [4, 17] (by kernel_rfl) (by simp) (allc ?_ (allc ?_ alln))
      ·refine XC_do q ?_
       obtain ⟨F785, hat786, hdup787⟩ := H784.at hS1 hx20 hv698
       refine zt (k := .i64) u3 q hat786 q q q <| XN H784.chg <| XQ (i := 9) q (by kernel_rfl) q H784.chg q (fun _ => qt_add q q) q q <| XQ (i := 16) q (by kernel_rfl) q H784.chg q (fun _ => qt_build (args := [(0, .tmp 15), (1, .tmp 21)]) (css := [#[iV (IntKind.wrap .i64 (x19 + (IntKind.wrap .i64 ((IntKind.wrap .i64 (Int.tdiv x28.2 59)) * 6))))], #[iV x34.2]]) (cells := #[iV (IntKind.wrap .i64 (x19 + (IntKind.wrap .i64 ((IntKind.wrap .i64 (Int.tdiv x28.2 59)) * 6)))), iV x34.2, iV 0, iV 0]) q ⟨q, q, trivial⟩ (by kernel_rfl)) q q <| X1 17 (by kernel_rfl) q ?_
       refine zq (cs := [iV 0, iV 0, iV 0, iV 0]) H784 z43 q q q (fun b788 w789 H790 => ?_)
       refine XN H790.chg ?_
       have H792 := H212.cN3 [_] H790
       refine X1 18 (by kernel_rfl) q ?_
       refine zl (cs' := [iV (IntKind.wrap .i64 (x19 + (IntKind.wrap .i64 ((IntKind.wrap .i64 (Int.tdiv x28.2 59)) * 6)))), iV x34.2, iV 0, iV 0]) H792 q il43 q q q q q (fun w793 H794 => ?_)
       refine XE q ?_
       refine XC_done (by kernel_rfl) (fun a ha => ?_)
       have H796 := H794.q2.p2.p3.p3
       exact ⟨b788, ha.sub ⟨q, q, q, q, trivial⟩, H796⟩
      refine XC_do q ?_
      refine zq (cs := [iV 0, iV 0, iV 0, iV 0]) H784 z43 q q q (fun b797 w798 H799 => ?_)
      refine XN H799.chg <| X1 4 (by kernel_rfl) q ?_
      obtain ⟨F801, hat802, hdup803⟩ := H799.at hS2 hx20 hv698
      refine zt (k := .i64) u3 q hat802 q q q <| XN H799.chg <| XQ (i := 9) q (by kernel_rfl) q H799.chg q (fun _ => qt_add q q) q q <| XQ (i := 16) q (by kernel_rfl) q H799.chg q (fun _ => qt_build (args := [(0, .tmp 15), (1, .tmp 21)]) (css := [#[iV (IntKind.wrap .i64 (x19 + (IntKind.wrap .i64 ((IntKind.wrap .i64 (Int.tdiv x28.2 59)) * 6))))], #[iV x34.2]]) (cells := #[iV (IntKind.wrap .i64 (x19 + (IntKind.wrap .i64 ((IntKind.wrap .i64 (Int.tdiv x28.2 59)) * 6)))), iV x34.2, iV 0, iV 0]) q ⟨q, q, trivial⟩ (by kernel_rfl)) q q ?_
      have H804 := H212.cN3 [_] H799
      refine X1 18 (by kernel_rfl) q ?_
      refine zl (cs' := [iV (IntKind.wrap .i64 (x19 + (IntKind.wrap .i64 ((IntKind.wrap .i64 (Int.tdiv x28.2 59)) * 6)))), iV x34.2, iV 0, iV 0]) H804 q il43 q q q q q (fun w805 H806 => ?_)
      refine XE q ?_
      refine XC_done (by kernel_rfl) (fun a ha => ?_)
      have H808 := H806.q2.p2.p3.p3
      exact ⟨b797, ha.sub ⟨q, q, q, q, trivial⟩, H808⟩
     refine XC_do q ?_
     refine zq (cs := [iV 0, iV 0, iV 0, iV 0]) H752 z43 q q q (fun b809 w810 H811 => ?_)
     refine XN H811.chg ?_
     refine zy [4, 15] (by kernel_rfl) (by simp) (allc ?_ (allc ?_ alln))
     ·refine XC_do q ?_
      obtain ⟨F813, hat814, hdup815⟩ := H811.at hS2 hx20 hv698
      refine zt (k := .i64) u3 q hat814 q q q <| XN H811.chg <| XQ (i := 9) q (by kernel_rfl) q H811.chg q (fun _ => qt_add q q) q q <| X1 15 (by kernel_rfl) q ?_
      have H816 := H811.p1
      refine zd q q c44 (w_spec_l20Rd__pick w810 _ bp0 A0 B0 (C0.c.c.c.c) x28.1 (if 1 > (List.length p1_0 : Int) then 1 else (List.length p1_0 : Int)) x34 hx35 H816.ctx) (by rfl) ?_
      rintro _ w817 ⟨rfl, H818⟩; refine ⟨_, q, ?_⟩
      have H819 := H816.cN1 [_] H818
      refine XN H819.chg <| XQ (i := 16) q (by kernel_rfl) q H819.chg q (fun _ => qt_build (args := [(0, .tmp 15), (1, .tmp 21)]) (css := [#[iV (IntKind.wrap .i64 (x19 + (IntKind.wrap .i64 ((IntKind.wrap .i64 (Int.tdiv x28.2 59)) * 6))))], #[iV x34.2]]) (cells := #[iV (IntKind.wrap .i64 (x19 + (IntKind.wrap .i64 ((IntKind.wrap .i64 (Int.tdiv x28.2 59)) * 6)))), iV x34.2, iV 0, iV 0]) q ⟨q, q, trivial⟩ (by kernel_rfl)) q q ?_
      have H820 := H212.cN3 [_] H819
      refine X1 18 (by kernel_rfl) q ?_
      have H821 := H820.p1
      refine zl (cs' := [iV (IntKind.wrap .i64 (x19 + (IntKind.wrap .i64 ((IntKind.wrap .i64 (Int.tdiv x28.2 59)) * 6)))), iV x34.2, iV 0, iV 0]) H821 q il43 q q q q q (fun w822 H823 => ?_)
      refine XE q ?_
      refine XC_done (by kernel_rfl) (fun a ha => ?_)
      have H825 := H823.q2.p2.p3.p3
      exact ⟨b809, ha.sub ⟨q, q, q, q, trivial⟩, H825⟩
     refine XC_do q ?_
     have H826 := H811.p1
     refine zd q q c44 (w_spec_l20Rd__pick w810 _ bp0 A0 B0 (C0.c.c.c.c) x28.1 (if 1 > (List.length p1_0 : Int) then 1 else (List.length p1_0 : Int)) x34 hx35 H826.ctx) (by rfl) ?_
     rintro _ w827 ⟨rfl, H828⟩; refine ⟨_, q, ?_⟩
     have H829 := H826.cN1 [_] H828
     refine XN H829.chg <| X1 4 (by kernel_rfl) q ?_
     obtain ⟨F830, hat831, hdup832⟩ := H829.at hS2 hx20 hv698
     refine zt (k := .i64) u3 q hat831 q q q <| XN H829.chg <| XQ (i := 9) q (by kernel_rfl) q H829.chg q (fun _ => qt_add q q) q q <| XQ (i := 16) q (by kernel_rfl) q H829.chg q (fun _ => qt_build (args := [(0, .tmp 15), (1, .tmp 21)]) (css := [#[iV (IntKind.wrap .i64 (x19 + (IntKind.wrap .i64 ((IntKind.wrap .i64 (Int.tdiv x28.2 59)) * 6))))], #[iV x34.2]]) (cells := #[iV (IntKind.wrap .i64 (x19 + (IntKind.wrap .i64 ((IntKind.wrap .i64 (Int.tdiv x28.2 59)) * 6)))), iV x34.2, iV 0, iV 0]) q ⟨q, q, trivial⟩ (by kernel_rfl)) q q ?_
     have H833 := H212.cN3 [_] H829
     refine X1 18 (by kernel_rfl) q ?_
     have H834 := H833.p1
     refine zl (cs' := [iV (IntKind.wrap .i64 (x19 + (IntKind.wrap .i64 ((IntKind.wrap .i64 (Int.tdiv x28.2 59)) * 6)))), iV x34.2, iV 0, iV 0]) H834 q il43 q q q q q (fun w835 H836 => ?_)
     refine XE q ?_
     refine XC_done (by kernel_rfl) (fun a ha => ?_)
     have H838 := H836.q2.p2.p3.p3
     exact ⟨b809, ha.sub ⟨q, q, q, q, trivial⟩, H838⟩
    refine XC_do q ?_
    refine zq (cs := [iV 0, iV 0, iV 0, iV 0]) H693 z43 q q q (fun b839 w840 H841 => ?_)
    refine XN H841.chg ?_
    refine zy [4, 6] (by kernel_rfl) (by simp) (allc ?_ (allc ?_ alln))
    ·refine XC_do q ?_
     obtain ⟨F843, hat844, hdup845⟩ := H841.at hS1 hx20 hv698
     refine zt (k := .i64) u3 q hat844 q q q <| XN H841.chg <| X1 6 (by kernel_rfl) q ?_
     have H846 := H841.p2
     refine zd q q c44 (w_spec_l20Rd__pick w840 _ bp0 A0 B0 (C0.c.c.c.c) x13.1 60 x28 hx29 H846.ctx) (by rfl) ?_
     rintro _ w847 ⟨rfl, H848⟩; refine ⟨_, q, ?_⟩
     have H849 := H846.cN1 [_] H848
     refine XN H849.chg <| XQ (i := 7) q (by kernel_rfl) q H849.chg q (fun _ => qt_quo q q (by decide)) q q <| XQ (i := 8) q (by kernel_rfl) q H849.chg q (fun _ => qt_mul q q) q q <| XQ (i := 9) q (by kernel_rfl) q H849.chg q (fun _ => qt_add q q) q q <| X1 15 (by kernel_rfl) q <| zd q q c44 (w_spec_l20Rd__pick w847 _ bp0 A0 B0 (C0.c.c.c.c) x28.1 (if 1 > (List.length p1_0 : Int) then 1 else (List.length p1_0 : Int)) x34 hx35 H849.ctx) (by rfl) ?_
     rintro _ w850 ⟨rfl, H851⟩; refine ⟨_, q, ?_⟩
     have H852 := H849.cN1 [_] H851
     refine XN H852.chg <| XQ (i := 16) q (by kernel_rfl) q H852.chg q (fun _ => qt_build (args := [(0, .tmp 15), (1, .tmp 21)]) (css := [#[iV (IntKind.wrap .i64 (x19 + (IntKind.wrap .i64 ((IntKind.wrap .i64 (Int.tdiv x28.2 59)) * 6))))], #[iV x34.2]]) (cells := #[iV (IntKind.wrap .i64 (x19 + (IntKind.wrap .i64 ((IntKind.wrap .i64 (Int.tdiv x28.2 59)) * 6)))), iV x34.2, iV 0, iV 0]) q ⟨q, q, trivial⟩ (by kernel_rfl)) q q ?_
     have H853 := H212.cN3 [_] H852
     refine X1 18 (by kernel_rfl) q ?_
     have H854 := H853.p1
     refine zl (cs' := [iV (IntKind.wrap .i64 (x19 + (IntKind.wrap .i64 ((IntKind.wrap .i64 (Int.tdiv x28.2 59)) * 6)))), iV x34.2, iV 0, iV 0]) H854 q il43 q q q q q (fun w855 H856 => ?_)
     refine XE q ?_
     refine XC_done (by kernel_rfl) (fun a ha => ?_)
     have H858 := H856.q2.p2.p3.p3
     exact ⟨b839, ha.sub ⟨q, q, q, q, trivial⟩, H858⟩
    refine XC_do q ?_
    have H859 := H841.p2
    refine zd q q c44 (w_spec_l20Rd__pick w840 _ bp0 A0 B0 (C0.c.c.c.c) x13.1 60 x28 hx29 H859.ctx) (by rfl) ?_
    rintro _ w860 ⟨rfl, H861⟩; refine ⟨_, q, ?_⟩
    have H862 := H859.cN1 [_] H861
    refine XN H862.chg <| XQ (i := 7) q (by kernel_rfl) q H862.chg q (fun _ => qt_quo q q (by decide)) q q <| XQ (i := 8) q (by kernel_rfl) q H862.chg q (fun _ => qt_mul q q) q q ?_
    refine zy [4, 15] (by kernel_rfl) (by simp) (allc ?_ (allc ?_ alln))
    ·refine XC_do q ?_
     obtain ⟨F863, hat864, hdup865⟩ := H862.at hS2 hx20 hv698
     refine zt (k := .i64) u3 q hat864 q q q <| XN H862.chg <| XQ (i := 9) q (by kernel_rfl) q H862.chg q (fun _ => qt_add q q) q q <| X1 15 (by kernel_rfl) q <| zd q q c44 (w_spec_l20Rd__pick w860 _ bp0 A0 B0 (C0.c.c.c.c) x28.1 (if 1 > (List.length p1_0 : Int) then 1 else (List.length p1_0 : Int)) x34 hx35 H862.ctx) (by rfl) ?_
     rintro _ w866 ⟨rfl, H867⟩; refine ⟨_, q, ?_⟩
     have H868 := H862.cN1 [_] H867
     refine XN H868.chg <| XQ (i := 16) q (by kernel_rfl) q H868.chg q (fun _ => qt_build (args := [(0, .tmp 15), (1, .tmp 21)]) (css := [#[iV (IntKind.wrap .i64 (x19 + (IntKind.wrap .i64 ((IntKind.wrap .i64 (Int.tdiv x28.2 59)) * 6))))], #[iV x34.2]]) (cells := #[iV (IntKind.wrap .i64 (x19 + (IntKind.wrap .i64 ((IntKind.wrap .i64 (Int.tdiv x28.2 59)) * 6)))), iV x34.2, iV 0, iV 0]) q ⟨q, q, trivial⟩ (by kernel_rfl)) q q ?_
     have H869 := H212.cN3 [_] H868
     refine X1 18 (by kernel_rfl) q ?_
     have H870 := H869.p1
     refine zl (cs' := [iV (IntKind.wrap .i64 (x19 + (IntKind.wrap .i64 ((IntKind.wrap .i64 (Int.tdiv x28.2 59)) * 6)))), iV x34.2, iV 0, iV 0]) H870 q il43 q q q q q (fun w871 H872 => ?_)
     refine XE q ?_
     refine XC_done (by kernel_rfl) (fun a ha => ?_)
     have H874 := H872.q2.p2.p3.p3
     exact ⟨b839, ha.sub ⟨q, q, q, q, trivial⟩, H874⟩
    refine XC_do q <| zd q q c44 (w_spec_l20Rd__pick w860 _ bp0 A0 B0 (C0.c.c.c.c) x28.1 (if 1 > (List.length p1_0 : Int) then 1 else (List.length p1_0 : Int)) x34 hx35 H862.ctx) (by rfl) ?_
    rintro _ w875 ⟨rfl, H876⟩; refine ⟨_, q, ?_⟩
    have H877 := H862.cN1 [_] H876
    refine XN H877.chg <| X1 4 (by kernel_rfl) q ?_
    obtain ⟨F878, hat879, hdup880⟩ := H877.at hS2 hx20 hv698
    refine zt (k := .i64) u3 q hat879 q q q <| XN H877.chg <| XQ (i := 9) q (by kernel_rfl) q H877.chg q (fun _ => qt_add q q) q q <| XQ (i := 16) q (by kernel_rfl) q H877.chg q (fun _ => qt_build (args := [(0, .tmp 15), (1, .tmp 21)]) (css := [#[iV (IntKind.wrap .i64 (x19 + (IntKind.wrap .i64 ((IntKind.wrap .i64 (Int.tdiv x28.2 59)) * 6))))], #[iV x34.2]]) (cells := #[iV (IntKind.wrap .i64 (x19 + (IntKind.wrap .i64 ((IntKind.wrap .i64 (Int.tdiv x28.2 59)) * 6)))), iV x34.2, iV 0, iV 0]) q ⟨q, q, trivial⟩ (by kernel_rfl)) q q ?_
    have H881 := H212.cN3 [_] H877
    refine X1 18 (by kernel_rfl) q ?_
    have H882 := H881.p1
    refine zl (cs' := [iV (IntKind.wrap .i64 (x19 + (IntKind.wrap .i64 ((IntKind.wrap .i64 (Int.tdiv x28.2 59)) * 6)))), iV x34.2, iV 0, iV 0]) H882 q il43 q q q q q (fun w883 H884 => ?_)
    refine XE q ?_
    refine XC_done (by kernel_rfl) (fun a ha => ?_)
    have H886 := H884.q2.p2.p3.p3
    exact ⟨b839, ha.sub ⟨q, q, q, q, trivial⟩, H886⟩
   ·refine XC_do q ?_
    refine zd q q c44 (w_spec_l20Rd__pick w688 _ bp0 A0 B0 (C0.c.c) x13.1 60 x28 hx29 H690.ctx) (by rfl) ?_
    rintro _ w887 ⟨rfl, H888⟩; refine ⟨_, q, ?_⟩
    have H889 := H690.cN1 [_] H888
    refine XN H889.chg <| XQ (i := 7) q (by kernel_rfl) q H889.chg q (fun _ => qt_quo q q (by decide)) q q <| XQ (i := 8) q (by kernel_rfl) q H889.chg q (fun _ => qt_mul q q) q q ?_
    refine zy [0, 15, 17] (by kernel_rfl) (by simp) (allc ?_ (allc ?_ (allc ?_ alln)))
    ·refine XC_do q ?_
     refine zs (t := tI) (args := [.const (iV 0), .const (iV 0), .const (iV 1), .const (iV 1), .const (iV 2), .const (iV 3), .const (iV 3), .const (iV 3), .const (iV 4), .const (iV 4), .const (iV 4), .const (iV 5)]) (xs := ([0, 0, 1, 1, 2, 3, 3, 3, 4, 4, 4, 5] : List Int)) H889 (BltL.cons (Blt.int) q (BltL.cons (Blt.int) q (BltL.cons (Blt.int) q (BltL.cons (Blt.int) q (BltL.cons (Blt.int) q (BltL.cons (Blt.int) q (BltL.cons (Blt.int) q (BltL.cons (Blt.int) q (BltL.cons (Blt.int) q (BltL.cons (Blt.int) q (BltL.cons (Blt.int) q (BltL.cons (Blt.int) q (BltL.nil))))))))))))) u24 j3 q q q q q q (fun v890 w891 H892 => ?_)
     refine XN H892.chg ?_
     obtain ⟨b894, off895, cap896, hv897⟩ := Ctx.isAt H892.ctx hS0 hx20
     refine XT (i := 3) q (by kernel_rfl) q H892.chg q (qs_index hx20 hv897 u24 i3 q q) q q ?_
     refine zy [4, 15, 17] (by kernel_rfl) (by simp) (allc ?_ (allc ?_ (allc ?_ alln)))
     ·refine XC_do q ?_
      obtain ⟨F898, hat899, hdup900⟩ := H892.at hS0 hx20 hv897
      refine zt (k := .i64) u3 q hat899 q q q <| XN H892.chg <| XQ (i := 9) q (by kernel_rfl) q H892.chg q (fun _ => qt_add q q) q q ?_
      refine zy [15, 17] (by kernel_rfl) (by simp) (allc ?_ (allc ?_ alln))
      ·refine XC_do q ?_
       have H901 := H892.p1
       refine zd q q c44 (w_spec_l20Rd__pick w891 _ bp0 A0 B0 (C0.c.c.c) x28.1 (if 1 > (List.length p1_0 : Int) then 1 else (List.length p1_0 : Int)) x34 hx35 H901.ctx) (by rfl) ?_
       rintro _ w902 ⟨rfl, H903⟩; refine ⟨_, q, ?_⟩
       have H904 := H901.cN1 [_] H903
       refine XN H904.chg <| XQ (i := 16) q (by kernel_rfl) q H904.chg q (fun _ => qt_build (args := [(0, .tmp 15), (1, .tmp 21)]) (css := [#[iV (IntKind.wrap .i64 (x19 + (IntKind.wrap .i64 ((IntKind.wrap .i64 (Int.tdiv x28.2 59)) * 6))))], #[iV x34.2]]) (cells := #[iV (IntKind.wrap .i64 (x19 + (IntKind.wrap .i64 ((IntKind.wrap .i64 (Int.tdiv x28.2 59)) * 6)))), iV x34.2, iV 0, iV 0]) q ⟨q, q, trivial⟩ (by kernel_rfl)) q q <| X1 17 (by kernel_rfl) q ?_
       refine zq (cs := [iV 0, iV 0, iV 0, iV 0]) H904 z43 q q q (fun b905 w906 H907 => ?_)
       refine XN H907.chg ?_
       have H909 := H212.cN3 [_] H907
       refine X1 18 (by kernel_rfl) q ?_
       refine zl (cs' := [iV (IntKind.wrap .i64 (x19 + (IntKind.wrap .i64 ((IntKind.wrap .i64 (Int.tdiv x28.2 59)) * 6)))), iV x34.2, iV 0, iV 0]) H909 q il43 q q q q q (fun w910 H911 => ?_)
       refine XE q ?_
       refine XC_done (by kernel_rfl) (fun a ha => ?_)
       have H913 := H911.q2.p2.p3.p3
       exact ⟨b905, ha.sub ⟨q, q, q, q, trivial⟩, H913⟩
      refine XC_do q ?_
      refine zq (cs := [iV 0, iV 0, iV 0, iV 0]) H892 z43 q q q (fun b914 w915 H916 => ?_)
      refine XN H916.chg <| X1 15 (by kernel_rfl) q ?_
      have H918 := H916.p2
      refine zd q q c44 (w_spec_l20Rd__pick w915 _ bp0 A0 B0 (C0.c.c.c.c) x28.1 (if 1 > (List.length p1_0 : Int) then 1 else (List.length p1_0 : Int)) x34 hx35 H918.ctx) (by rfl) ?_
      rintro _ w919 ⟨rfl, H920⟩; refine ⟨_, q, ?_⟩
      have H921 := H918.cN1 [_] H920
      refine XN H921.chg <| XQ (i := 16) q (by kernel_rfl) q H921.chg q (fun _ => qt_build (args := [(0, .tmp 15), (1, .tmp 21)]) (css := [#[iV (IntKind.wrap .i64 (x19 + (IntKind.wrap .i64 ((IntKind.wrap .i64 (Int.tdiv x28.2 59)) * 6))))], #[iV x34.2]]) (cells := #[iV (IntKind.wrap .i64 (x19 + (IntKind.wrap .i64 ((IntKind.wrap .i64 (Int.tdiv x28.2 59)) * 6)))), iV x34.2, iV 0, iV 0]) q ⟨q, q, trivial⟩ (by kernel_rfl)) q q ?_
      have H922 := H212.cN3 [_] H921
      refine X1 18 (by kernel_rfl) q ?_
      have H923 := H922.p1
      refine zl (cs' := [iV (IntKind.wrap .i64 (x19 + (IntKind.wrap .i64 ((IntKind.wrap .i64 (Int.tdiv x28.2 59)) * 6)))), iV x34.2, iV 0, iV 0]) H923 q il43 q q q q q (fun w924 H925 => ?_)
      refine XE q ?_
      refine XC_done (by kernel_rfl) (fun a ha => ?_)
      have H927 := H925.q2.p2.p3.p3
      exact ⟨b914, ha.sub ⟨q, q, q, q, trivial⟩, H927⟩
     ·refine XC_do q ?_
      have H928 := H892.p1
      refine zd q q c44 (w_spec_l20Rd__pick w891 _ bp0 A0 B0 (C0.c.c.c) x28.1 (if 1 > (List.length p1_0 : Int) then 1 else (List.length p1_0 : Int)) x34 hx35 H928.ctx) (by rfl) ?_
      rintro _ w929 ⟨rfl, H930⟩; refine ⟨_, q, ?_⟩
      have H931 := H928.cN1 [_] H930
      refine XN H931.chg ?_
      refine zy [4, 17] (by kernel_rfl) (by simp) (allc ?_ (allc ?_ alln))
      ·refine XC_do q ?_
       obtain ⟨F932, hat933, hdup934⟩ := H931.at hS1 hx20 hv897
       refine zt (k := .i64) u3 q hat933 q q q <| XN H931.chg <| XQ (i := 9) q (by kernel_rfl) q H931.chg q (fun _ => qt_add q q) q q <| XQ (i := 16) q (by kernel_rfl) q H931.chg q (fun _ => qt_build (args := [(0, .tmp 15), (1, .tmp 21)]) (css := [#[iV (IntKind.wrap .i64 (x19 + (IntKind.wrap .i64 ((IntKind.wrap .i64 (Int.tdiv x28.2 59)) * 6))))], #[iV x34.2]]) (cells := #[iV (IntKind.wrap .i64 (x19 + (IntKind.wrap .i64 ((IntKind.wrap .i64 (Int.tdiv x28.2 59)) * 6)))), iV x34.2, iV 0, iV 0]) q ⟨q, q, trivial⟩ (by kernel_rfl)) q q <| X1 17 (by kernel_rfl) q ?_
       refine zq (cs := [iV 0, iV 0, iV 0, iV 0]) H931 z43 q q q (fun b935 w936 H937 => ?_)
       refine XN H937.chg ?_
       have H939 := H212.cN3 [_] H937
       refine X1 18 (by kernel_rfl) q ?_
       refine zl (cs' := [iV (IntKind.wrap .i64 (x19 + (IntKind.wrap .i64 ((IntKind.wrap .i64 (Int.tdiv x28.2 59)) * 6)))), iV x34.2, iV 0, iV 0]) H939 q il43 q q q q q (fun w940 H941 => ?_)
       refine XE q ?_
       refine XC_done (by kernel_rfl) (fun a ha => ?_)
       have H943 := H941.q2.p2.p3.p3
       exact ⟨b935, ha.sub ⟨q, q, q, q, trivial⟩, H943⟩
      refine XC_do q ?_
      refine zq (cs := [iV 0, iV 0, iV 0, iV 0]) H931 z43 q q q (fun b944 w945 H946 => ?_)
      refine XN H946.chg <| X1 4 (by kernel_rfl) q ?_
      obtain ⟨F948, hat949, hdup950⟩ := H946.at hS2 hx20 hv897
      refine zt (k := .i64) u3 q hat949 q q q <| XN H946.chg <| XQ (i := 9) q (by kernel_rfl) q H946.chg q (fun _ => qt_add q q) q q <| XQ (i := 16) q (by kernel_rfl) q H946.chg q (fun _ => qt_build (args := [(0, .tmp 15), (1, .tmp 21)]) (css := [#[iV (IntKind.wrap .i64 (x19 + (IntKind.wrap .i64 ((IntKind.wrap .i64 (Int.tdiv x28.2 59)) * 6))))], #[iV x34.2]]) (cells := #[iV (IntKind.wrap .i64 (x19 + (IntKind.wrap .i64 ((IntKind.wrap .i64 (Int.tdiv x28.2 59)) * 6)))), iV x34.2, iV 0, iV 0]) q ⟨q, q, trivial⟩ (by kernel_rfl)) q q ?_
      have H951 := H212.cN3 [_] H946
      refine X1 18 (by kernel_rfl) q ?_
      refine zl (cs' := [iV (IntKind.wrap .i64 (x19 + (IntKind.wrap .i64 ((IntKind.wrap .i64 (Int.tdiv x28.2 59)) * 6)))), iV x34.2, iV 0, iV 0]) H951 q il43 q q q q q (fun w952 H953 => ?_)
      refine XE q ?_
      refine XC_done (by kernel_rfl) (fun a ha => ?_)
      have H955 := H953.q2.p2.p3.p3
      exact ⟨b944, ha.sub ⟨q, q, q, q, trivial⟩, H955⟩
     refine XC_do q ?_
     refine zq (cs := [iV 0, iV 0, iV 0, iV 0]) H892 z43 q q q (fun b956 w957 H958 => ?_)
     refine XN H958.chg ?_
     refine zy [4, 15] (by kernel_rfl) (by simp) (allc ?_ (allc ?_ alln))
     ·refine XC_do q ?_
      obtain ⟨F960, hat961, hdup962⟩ := H958.at hS1 hx20 hv897
      refine zt (k := .i64) u3 q hat961 q q q <| XN H958.chg <| XQ (i := 9) q (by kernel_rfl) q H958.chg q (fun _ => qt_add q q) q q <| X1 15 (by kernel_rfl) q ?_
      have H963 := H958.p2
      refine zd q q c44 (w_spec_l20Rd__pick w957 _ bp0 A0 B0 (C0.c.c.c.c) x28.1 (if 1 > (List.length p1_0 : Int) then 1 else (List.length p1_0 : Int)) x34 hx35 H963.ctx) (by rfl) ?_
      rintro _ w964 ⟨rfl, H965⟩; refine ⟨_, q, ?_⟩
      have H966 := H963.cN1 [_] H965
      refine XN H966.chg <| XQ (i := 16) q (by kernel_rfl) q H966.chg q (fun _ => qt_build (args := [(0, .tmp 15), (1, .tmp 21)]) (css := [#[iV (IntKind.wrap .i64 (x19 + (IntKind.wrap .i64 ((IntKind.wrap .i64 (Int.tdiv x28.2 59)) * 6))))], #[iV x34.2]]) (cells := #[iV (IntKind.wrap .i64 (x19 + (IntKind.wrap .i64 ((IntKind.wrap .i64 (Int.tdiv x28.2 59)) * 6)))), iV x34.2, iV 0, iV 0]) q ⟨q, q, trivial⟩ (by kernel_rfl)) q q ?_
      have H967 := H212.cN3 [_] H966
      refine X1 18 (by kernel_rfl) q ?_
      have H968 := H967.p1
      refine zl (cs' := [iV (IntKind.wrap .i64 (x19 + (IntKind.wrap .i64 ((IntKind.wrap .i64 (Int.tdiv x28.2 59)) * 6)))), iV x34.2, iV 0, iV 0]) H968 q il43 q q q q q (fun w969 H970 => ?_)
      refine XE q ?_
      refine XC_done (by kernel_rfl) (fun a ha => ?_)
      have H972 := H970.q2.p2.p3.p3
      exact ⟨b956, ha.sub ⟨q, q, q, q, trivial⟩, H972⟩
     refine XC_do q ?_
     have H973 := H958.p2
     refine zd q q c44 (w_spec_l20Rd__pick w957 _ bp0 A0 B0 (C0.c.c.c.c) x28.1 (if 1 > (List.length p1_0 : Int) then 1 else (List.length p1_0 : Int)) x34 hx35 H973.ctx) (by rfl) ?_
     rintro _ w974 ⟨rfl, H975⟩; refine ⟨_, q, ?_⟩
     have H976 := H973.cN1 [_] H975
     refine XN H976.chg <| X1 4 (by kernel_rfl) q ?_
     obtain ⟨F977, hat978, hdup979⟩ := H976.at hS2 hx20 hv897
     refine zt (k := .i64) u3 q hat978 q q q <| XN H976.chg <| XQ (i := 9) q (by kernel_rfl) q H976.chg q (fun _ => qt_add q q) q q <| XQ (i := 16) q (by kernel_rfl) q H976.chg q (fun _ => qt_build (args := [(0, .tmp 15), (1, .tmp 21)]) (css := [#[iV (IntKind.wrap .i64 (x19 + (IntKind.wrap .i64 ((IntKind.wrap .i64 (Int.tdiv x28.2 59)) * 6))))], #[iV x34.2]]) (cells := #[iV (IntKind.wrap .i64 (x19 + (IntKind.wrap .i64 ((IntKind.wrap .i64 (Int.tdiv x28.2 59)) * 6)))), iV x34.2, iV 0, iV 0]) q ⟨q, q, trivial⟩ (by kernel_rfl)) q q ?_
     have H980 := H212.cN3 [_] H976
     refine X1 18 (by kernel_rfl) q ?_
     have H981 := H980.p1
     refine zl (cs' := [iV (IntKind.wrap .i64 (x19 + (IntKind.wrap .i64 ((IntKind.wrap .i64 (Int.tdiv x28.2 59)) * 6)))), iV x34.2, iV 0, iV 0]) H981 q il43 q q q q q (fun w982 H983 => ?_)
     refine XE q ?_
     refine XC_done (by kernel_rfl) (fun a ha => ?_)
     have H985 := H983.q2.p2.p3.p3
     exact ⟨b956, ha.sub ⟨q, q, q, q, trivial⟩, H985⟩
    ·refine XC_do q ?_
     refine zd q q c44 (w_spec_l20Rd__pick w887 _ bp0 A0 B0 (C0.c.c) x28.1 (if 1 > (List.length p1_0 : Int) then 1 else (List.length p1_0 : Int)) x34 hx35 H889.ctx) (by rfl) ?_
     rintro _ w986 ⟨rfl, H987⟩; refine ⟨_, q, ?_⟩
     have H988 := H889.cN1 [_] H987
     refine XN H988.chg ?_
     refine zy [0, 17] (by kernel_rfl) (by simp) (allc ?_ (allc ?_ alln))
     ·refine XC_do q ?_
      refine zs (t := tI) (args := [.const (iV 0), .const (iV 0), .const (iV 1), .const (iV 1), .const (iV 2), .const (iV 3), .const (iV 3), .const (iV 3), .const (iV 4), .const (iV 4), .const (iV 4), .const (iV 5)]) (xs := ([0, 0, 1, 1, 2, 3, 3, 3, 4, 4, 4, 5] : List Int)) H988 (BltL.cons (Blt.int) q (BltL.cons (Blt.int) q (BltL.cons (Blt.int) q (BltL.cons (Blt.int) q (BltL.cons (Blt.int) q (BltL.cons (Blt.int) q (BltL.cons (Blt.int) q (BltL.cons (Blt.int) q (BltL.cons (Blt.int) q (BltL.cons (Blt.int) q (BltL.cons (Blt.int) q (BltL.cons (Blt.int) q (BltL.nil))))))))))))) u24 j3 q q q q q q (fun v989 w990 H991 => ?_)
      refine XN H991.chg ?_
      obtain ⟨b993, off994, cap995, hv996⟩ := Ctx.isAt H991.ctx hS0 hx20
      refine XT (i := 3) q (by kernel_rfl) q H991.chg q (qs_index hx20 hv996 u24 i3 q q) q q ?_
      refine zy [4, 17] (by kernel_rfl) (by simp) (allc ?_ (allc ?_ alln))
      ·refine XC_do q ?_
       obtain ⟨F997, hat998, hdup999⟩ := H991.at hS0 hx20 hv996
       refine zt (k := .i64) u3 q hat998 q q q <| XN H991.chg <| XQ (i := 9) q (by kernel_rfl) q H991.chg q (fun _ => qt_add q q) q q <| XQ (i := 16) q (by kernel_rfl) q H991.chg q (fun _ => qt_build (args := [(0, .tmp 15), (1, .tmp 21)]) (css := [#[iV (IntKind.wrap .i64 (x19 + (IntKind.wrap .i64 ((IntKind.wrap .i64 (Int.tdiv x28.2 59)) * 6))))], #[iV x34.2]]) (cells := #[iV (IntKind.wrap .i64 (x19 + (IntKind.wrap .i64 ((IntKind.wrap .i64 (Int.tdiv x28.2 59)) * 6)))), iV x34.2, iV 0, iV 0]) q ⟨q, q, trivial⟩ (by kernel_rfl)) q q <| X1 17 (by kernel_rfl) q ?_
       refine zq (cs := [iV 0, iV 0, iV 0, iV 0]) H991 z43 q q q (fun b1000 w1001 H1002 => ?_)
       refine XN H1002.chg ?_
       have H1004 := H212.cN3 [_] H1002
       refine X1 18 (by kernel_rfl) q ?_
       refine zl (cs' := [iV (IntKind.wrap .i64 (x19 + (IntKind.wrap .i64 ((IntKind.wrap .i64 (Int.tdiv x28.2 59)) * 6)))), iV x34.2, iV 0, iV 0]) H1004 q il43 q q q q q (fun w1005 H1006 => ?_)
       refine XE q ?_
       refine XC_done (by kernel_rfl) (fun a ha => ?_)
       have H1008 := H1006.q1.p2.p3.p3
       exact ⟨b1000, ha.sub ⟨q, q, q, q, trivial⟩, H1008⟩
      refine XC_do q ?_
      refine zq (cs := [iV 0, iV 0, iV 0, iV 0]) H991 z43 q q q (fun b1009 w1010 H1011 => ?_)
      refine XN H1011.chg <| X1 4 (by kernel_rfl) q ?_
      obtain ⟨F1013, hat1014, hdup1015⟩ := H1011.at hS1 hx20 hv996
      refine zt (k := .i64) u3 q hat1014 q q q <| XN H1011.chg <| XQ (i := 9) q (by kernel_rfl) q H1011.chg q (fun _ => qt_add q q) q q <| XQ (i := 16) q (by kernel_rfl) q H1011.chg q (fun _ => qt_build (args := [(0, .tmp 15), (1, .tmp 21)]) (css := [#[iV (IntKind.wrap .i64 (x19 + (IntKind.wrap .i64 ((IntKind.wrap .i64 (Int.tdiv x28.2 59)) * 6))))], #[iV x34.2]]) (cells := #[iV (IntKind.wrap .i64 (x19 + (IntKind.wrap .i64 ((IntKind.wrap .i64 (Int.tdiv x28.2 59)) * 6)))), iV x34.2, iV 0, iV 0]) q ⟨q, q, trivial⟩ (by kernel_rfl)) q q ?_
      have H1016 := H212.cN3 [_] H1011
      refine X1 18 (by kernel_rfl) q ?_
      refine zl (cs' := [iV (IntKind.wrap .i64 (x19 + (IntKind.wrap .i64 ((IntKind.wrap .i64 (Int.tdiv x28.2 59)) * 6)))), iV x34.2, iV 0, iV 0]) H1016 q il43 q q q q q (fun w1017 H1018 => ?_)
      refine XE q ?_
      refine XC_done (by kernel_rfl) (fun a ha => ?_)
      have H1020 := H1018.q1.p2.p3.p3
      exact ⟨b1009, ha.sub ⟨q, q, q, q, trivial⟩, H1020⟩
     refine XC_do q ?_
     refine zq (cs := [iV 0, iV 0, iV 0, iV 0]) H988 z43 q q q (fun b1021 w1022 H1023 => ?_)
     refine XN H1023.chg <| X1 0 (by kernel_rfl) q ?_
     refine zs (t := tI) (args := [.const (iV 0), .const (iV 0), .const (iV 1), .const (iV 1), .const (iV 2), .const (iV 3), .const (iV 3), .const (iV 3), .const (iV 4), .const (iV 4), .const (iV 4), .const (iV 5)]) (xs := ([0, 0, 1, 1, 2, 3, 3, 3, 4, 4, 4, 5] : List Int)) H1023 (BltL.cons (Blt.int) q (BltL.cons (Blt.int) q (BltL.cons (Blt.int) q (BltL.cons (Blt.int) q (BltL.cons (Blt.int) q (BltL.cons (Blt.int) q (BltL.cons (Blt.int) q (BltL.cons (Blt.int) q (BltL.cons (Blt.int) q (BltL.cons (Blt.int) q (BltL.cons (Blt.int) q (BltL.cons (Blt.int) q (BltL.nil))))))))))))) u24 j3 q q q q q q (fun v1025 w1026 H1027 => ?_)
     refine XN H1027.chg ?_
     obtain ⟨b1029, off1030, cap1031, hv1032⟩ := Ctx.isAt H1027.ctx hS0 hx20
     refine XT (i := 3) q (by kernel_rfl) q H1027.chg q (qs_index hx20 hv1032 u24 i3 q q) q q <| X1 4 (by kernel_rfl) q ?_
     obtain ⟨F1033, hat1034, hdup1035⟩ := H1027.at hS0 hx20 hv1032
     refine zt (k := .i64) u3 q hat1034 q q q <| XN H1027.chg <| XQ (i := 9) q (by kernel_rfl) q H1027.chg q (fun _ => qt_add q q) q q <| XQ (i := 16) q (by kernel_rfl) q H1027.chg q (fun _ => qt_build (args := [(0, .tmp 15), (1, .tmp 21)]) (css := [#[iV (IntKind.wrap .i64 (x19 + (IntKind.wrap .i64 ((IntKind.wrap .i64 (Int.tdiv x28.2 59)) * 6))))], #[iV x34.2]]) (cells := #[iV (IntKind.wrap .i64 (x19 + (IntKind.wrap .i64 ((IntKind.wrap .i64 (Int.tdiv x28.2 59)) * 6)))), iV x34.2, iV 0, iV 0]) q ⟨q, q, trivial⟩ (by kernel_rfl)) q q ?_
     have H1036 := H212.cN3 [_] H1027
     refine X1 18 (by kernel_rfl) q ?_
     have H1037 := H1036.p1
     refine zl (cs' := [iV (IntKind.wrap .i64 (x19 + (IntKind.wrap .i64 ((IntKind.wrap .i64 (Int.tdiv x28.2 59)) * 6)))), iV x34.2, iV 0, iV 0]) H1037 q il43 q q q q q (fun w1038 H1039 => ?_)
     refine XE q ?_
     refine XC_done (by kernel_rfl) (fun a ha => ?_)
     have H1041 := H1039.q1.p2.p3.p3
     exact ⟨b1021, ha.sub ⟨q, q, q, q, trivial⟩, H1041⟩
    refine XC_do q ?_
    refine zq (cs := [iV 0, iV 0, iV 0, iV 0]) H889 z43 q q q (fun b1042 w1043 H1044 => ?_)
    refine XN H1044.chg ?_
    refine zy [0, 15] (by kernel_rfl) (by simp) (allc ?_ (allc ?_ alln))
    ·refine XC_do q ?_
     refine zs (t := tI) (args := [.const (iV 0), .const (iV 0), .const (iV 1), .const (iV 1), .const (iV 2), .const (iV 3), .const (iV 3), .const (iV 3), .const (iV 4), .const (iV 4), .const (iV 4), .const (iV 5)]) (xs := ([0, 0, 1, 1, 2, 3, 3, 3, 4, 4, 4, 5] : List Int)) H1044 (BltL.cons (Blt.int) q (BltL.cons (Blt.int) q (BltL.cons (Blt.int) q (BltL.cons (Blt.int) q (BltL.cons (Blt.int) q (BltL.cons (Blt.int) q (BltL.cons (Blt.int) q (BltL.cons (Blt.int) q (BltL.cons (Blt.int) q (BltL.cons (Blt.int) q (BltL.cons (Blt.int) q (BltL.cons (Blt.int) q (BltL.nil))))))))))))) u24 j3 q q q q q q (fun v1046 w1047 H1048 => ?_)
     refine XN H1048.chg ?_
     obtain ⟨b1050, off1051, cap1052, hv1053⟩ := Ctx.isAt H1048.ctx hS0 hx20
     refine XT (i := 3) q (by kernel_rfl) q H1048.chg q (qs_index hx20 hv1053 u24 i3 q q) q q ?_
     refine zy [4, 15] (by kernel_rfl) (by simp) (allc ?_ (allc ?_ alln))
     ·refine XC_do q ?_
      obtain ⟨F1054, hat1055, hdup1056⟩ := H1048.at hS0 hx20 hv1053
      refine zt (k := .i64) u3 q hat1055 q q q <| XN H1048.chg <| XQ (i := 9) q (by kernel_rfl) q H1048.chg q (fun _ => qt_add q q) q q <| X1 15 (by kernel_rfl) q ?_
      have H1057 := H1048.p2
      refine zd q q c44 (w_spec_l20Rd__pick w1047 _ bp0 A0 B0 (C0.c.c.c.c) x28.1 (if 1 > (List.length p1_0 : Int) then 1 else (List.length p1_0 : Int)) x34 hx35 H1057.ctx) (by rfl) ?_
      rintro _ w1058 ⟨rfl, H1059⟩; refine ⟨_, q, ?_⟩
      have H1060 := H1057.cN1 [_] H1059
      refine XN H1060.chg <| XQ (i := 16) q (by kernel_rfl) q H1060.chg q (fun _ => qt_build (args := [(0, .tmp 15), (1, .tmp 21)]) (css := [#[iV (IntKind.wrap .i64 (x19 + (IntKind.wrap .i64 ((IntKind.wrap .i64 (Int.tdiv x28.2 59)) * 6))))], #[iV x34.2]]) (cells := #[iV (IntKind.wrap .i64 (x19 + (IntKind.wrap .i64 ((IntKind.wrap .i64 (Int.tdiv x28.2 59)) * 6)))), iV x34.2, iV 0, iV 0]) q ⟨q, q, trivial⟩ (by kernel_rfl)) q q ?_
      have H1061 := H212.cN3 [_] H1060
      refine X1 18 (by kernel_rfl) q ?_
      have H1062 := H1061.p2
      refine zl (cs' := [iV (IntKind.wrap .i64 (x19 + (IntKind.wrap .i64 ((IntKind.wrap .i64 (Int.tdiv x28.2 59)) * 6)))), iV x34.2, iV 0, iV 0]) H1062 q il43 q q q q q (fun w1063 H1064 => ?_)
      refine XE q ?_
      refine XC_done (by kernel_rfl) (fun a ha => ?_)
      have H1066 := H1064.q2.p2.p3.p3
      exact ⟨b1042, ha.sub ⟨q, q, q, q, trivial⟩, H1066⟩
     refine XC_do q ?_
     have H1067 := H1048.p2
     refine zd q q c44 (w_spec_l20Rd__pick w1047 _ bp0 A0 B0 (C0.c.c.c.c) x28.1 (if 1 > (List.length p1_0 : Int) then 1 else (List.length p1_0 : Int)) x34 hx35 H1067.ctx) (by rfl) ?_
     rintro _ w1068 ⟨rfl, H1069⟩; refine ⟨_, q, ?_⟩
     have H1070 := H1067.cN1 [_] H1069
     refine XN H1070.chg <| X1 4 (by kernel_rfl) q ?_
     obtain ⟨F1071, hat1072, hdup1073⟩ := H1070.at hS1 hx20 hv1053
     refine zt (k := .i64) u3 q hat1072 q q q <| XN H1070.chg <| XQ (i := 9) q (by kernel_rfl) q H1070.chg q (fun _ => qt_add q q) q q <| XQ (i := 16) q (by kernel_rfl) q H1070.chg q (fun _ => qt_build (args := [(0, .tmp 15), (1, .tmp 21)]) (css := [#[iV (IntKind.wrap .i64 (x19 + (IntKind.wrap .i64 ((IntKind.wrap .i64 (Int.tdiv x28.2 59)) * 6))))], #[iV x34.2]]) (cells := #[iV (IntKind.wrap .i64 (x19 + (IntKind.wrap .i64 ((IntKind.wrap .i64 (Int.tdiv x28.2 59)) * 6)))), iV x34.2, iV 0, iV 0]) q ⟨q, q, trivial⟩ (by kernel_rfl)) q q ?_
     have H1074 := H212.cN3 [_] H1070
     refine X1 18 (by kernel_rfl) q ?_
     have H1075 := H1074.p2
     refine zl (cs' := [iV (IntKind.wrap .i64 (x19 + (IntKind.wrap .i64 ((IntKind.wrap .i64 (Int.tdiv x28.2 59)) * 6)))), iV x34.2, iV 0, iV 0]) H1075 q il43 q q q q q (fun w1076 H1077 => ?_)
     refine XE q ?_
     refine XC_done (by kernel_rfl) (fun a ha => ?_)
     have H1079 := H1077.q2.p2.p3.p3
     exact ⟨b1042, ha.sub ⟨q, q, q, q, trivial⟩, H1079⟩
    refine XC_do q ?_
    have H1080 := H1044.p1
    refine zd q q c44 (w_spec_l20Rd__pick w1043 _ bp0 A0 B0 (C0.c.c.c) x28.1 (if 1 > (List.length p1_0 : Int) then 1 else (List.length p1_0 : Int)) x34 hx35 H1080.ctx) (by rfl) ?_
    rintro _ w1081 ⟨rfl, H1082⟩; refine ⟨_, q, ?_⟩
    have H1083 := H1080.cN1 [_] H1082
    refine XN H1083.chg <| X1 0 (by kernel_rfl) q ?_
    refine zs (t := tI) (args := [.const (iV 0), .const (iV 0), .const (iV 1), .const (iV 1), .const (iV 2), .const (iV 3), .const (iV 3), .const (iV 3), .const (iV 4), .const (iV 4), .const (iV 4), .const (iV 5)]) (xs := ([0, 0, 1, 1, 2, 3, 3, 3, 4, 4, 4, 5] : List Int)) H1083 (BltL.cons (Blt.int) q (BltL.cons (Blt.int) q (BltL.cons (Blt.int) q (BltL.cons (Blt.int) q (BltL.cons (Blt.int) q (BltL.cons (Blt.int) q (BltL.cons (Blt.int) q (BltL.cons (Blt.int) q (BltL.cons (Blt.int) q (BltL.cons (Blt.int) q (BltL.cons (Blt.int) q (BltL.cons (Blt.int) q (BltL.nil))))))))))))) u24 j3 q q q q q q (fun v1084 w1085 H1086 => ?_)
    refine XN H1086.chg ?_
    obtain ⟨b1088, off1089, cap1090, hv1091⟩ := Ctx.isAt H1086.ctx hS0 hx20
    refine XT (i := 3) q (by kernel_rfl) q H1086.chg q (qs_index hx20 hv1091 u24 i3 q q) q q <| X1 4 (by kernel_rfl) q ?_
    obtain ⟨F1092, hat1093, hdup1094⟩ := H1086.at hS0 hx20 hv1091
    refine zt (k := .i64) u3 q hat1093 q q q <| XN H1086.chg <| XQ (i := 9) q (by kernel_rfl) q H1086.chg q (fun _ => qt_add q q) q q <| XQ (i := 16) q (by kernel_rfl) q H1086.chg q (fun _ => qt_build (args := [(0, .tmp 15), (1, .tmp 21)]) (css := [#[iV (IntKind.wrap .i64 (x19 + (IntKind.wrap .i64 ((IntKind.wrap .i64 (Int.tdiv x28.2 59)) * 6))))], #[iV x34.2]]) (cells := #[iV (IntKind.wrap .i64 (x19 + (IntKind.wrap .i64 ((IntKind.wrap .i64 (Int.tdiv x28.2 59)) * 6)))), iV x34.2, iV 0, iV 0]) q ⟨q, q, trivial⟩ (by kernel_rfl)) q q ?_
    have H1095 := H212.cN3 [_] H1086
    refine X1 18 (by kernel_rfl) q ?_
    have H1096 := H1095.p2
    refine zl (cs' := [iV (IntKind.wrap .i64 (x19 + (IntKind.wrap .i64 ((IntKind.wrap .i64 (Int.tdiv x28.2 59)) * 6)))), iV x34.2, iV 0, iV 0]) H1096 q il43 q q q q q (fun w1097 H1098 => ?_)
    refine XE q ?_
    refine XC_done (by kernel_rfl) (fun a ha => ?_)
    have H1100 := H1098.q1.p2.p3.p3
    exact ⟨b1042, ha.sub ⟨q, q, q, q, trivial⟩, H1100⟩
   refine XC_do q ?_
   refine zq (cs := [iV 0, iV 0, iV 0, iV 0]) H690 z43 q q q (fun b1101 w1102 H1103 => ?_)
   refine XN H1103.chg ?_
   refine zy [0, 6] (by kernel_rfl) (by simp) (allc ?_ (allc ?_ alln))
   ·refine XC_do q ?_
    refine zs (t := tI) (args := [.const (iV 0), .const (iV 0), .const (iV 1), .const (iV 1), .const (iV 2), .const (iV 3), .const (iV 3), .const (iV 3), .const (iV 4), .const (iV 4), .const (iV 4), .const (iV 5)]) (xs := ([0, 0, 1, 1, 2, 3, 3, 3, 4, 4, 4, 5] : List Int)) H1103 (BltL.cons (Blt.int) q (BltL.cons (Blt.int) q (BltL.cons (Blt.int) q (BltL.cons (Blt.int) q (BltL.cons (Blt.int) q (BltL.cons (Blt.int) q (BltL.cons (Blt.int) q (BltL.cons (Blt.int) q (BltL.cons (Blt.int) q (BltL.cons (Blt.int) q (BltL.cons (Blt.int) q (BltL.cons (Blt.int) q (BltL.nil))))))))))))) u24 j3 q q q q q q (fun v1105 w1106 H1107 => ?_)
    refine XN H1107.chg ?_
    obtain ⟨b1109, off1110, cap1111, hv1112⟩ := Ctx.isAt H1107.ctx hS0 hx20
    refine XT (i := 3) q (by kernel_rfl) q H1107.chg q (qs_index hx20 hv1112 u24 i3 q q) q q ?_
    refine zy [4, 6] (by kernel_rfl) (by simp) (allc ?_ (allc ?_ alln))
    ·refine XC_do q ?_
     obtain ⟨F1113, hat1114, hdup1115⟩ := H1107.at hS0 hx20 hv1112
     refine zt (k := .i64) u3 q hat1114 q q q <| XN H1107.chg <| X1 6 (by kernel_rfl) q ?_
     have H1116 := H1107.p2
     refine zd q q c44 (w_spec_l20Rd__pick w1106 _ bp0 A0 B0 (C0.c.c.c.c) x13.1 60 x28 hx29 H1116.ctx) (by rfl) ?_
     rintro _ w1117 ⟨rfl, H1118⟩; refine ⟨_, q, ?_⟩
     have H1119 := H1116.cN1 [_] H1118
     refine XN H1119.chg <| XQ (i := 7) q (by kernel_rfl) q H1119.chg q (fun _ => qt_quo q q (by decide)) q q <| XQ (i := 8) q (by kernel_rfl) q H1119.chg q (fun _ => qt_mul q q) q q <| XQ (i := 9) q (by kernel_rfl) q H1119.chg q (fun _ => qt_add q q) q q <| X1 15 (by kernel_rfl) q <| zd q q c44 (w_spec_l20Rd__pick w1117 _ bp0 A0 B0 (C0.c.c.c.c) x28.1 (if 1 > (List.length p1_0 : Int) then 1 else (List.length p1_0 : Int)) x34 hx35 H1119.ctx) (by rfl) ?_
     rintro _ w1120 ⟨rfl, H1121⟩; refine ⟨_, q, ?_⟩
     have H1122 := H1119.cN1 [_] H1121
     refine XN H1122.chg <| XQ (i := 16) q (by kernel_rfl) q H1122.chg q (fun _ => qt_build (args := [(0, .tmp 15), (1, .tmp 21)]) (css := [#[iV (IntKind.wrap .i64 (x19 + (IntKind.wrap .i64 ((IntKind.wrap .i64 (Int.tdiv x28.2 59)) * 6))))], #[iV x34.2]]) (cells := #[iV (IntKind.wrap .i64 (x19 + (IntKind.wrap .i64 ((IntKind.wrap .i64 (Int.tdiv x28.2 59)) * 6)))), iV x34.2, iV 0, iV 0]) q ⟨q, q, trivial⟩ (by kernel_rfl)) q q ?_
     have H1123 := H212.cN3 [_] H1122
     refine X1 18 (by kernel_rfl) q ?_
     have H1124 := H1123.p2
     refine zl (cs' := [iV (IntKind.wrap .i64 (x19 + (IntKind.wrap .i64 ((IntKind.wrap .i64 (Int.tdiv x28.2 59)) * 6)))), iV x34.2, iV 0, iV 0]) H1124 q il43 q q q q q (fun w1125 H1126 => ?_)
     refine XE q ?_
     refine XC_done (by kernel_rfl) (fun a ha => ?_)
     have H1128 := H1126.q2.p2.p3.p3
     exact ⟨b1101, ha.sub ⟨q, q, q, q, trivial⟩, H1128⟩
    refine XC_do q ?_
    have H1129 := H1107.p2
    refine zd q q c44 (w_spec_l20Rd__pick w1106 _ bp0 A0 B0 (C0.c.c.c.c) x13.1 60 x28 hx29 H1129.ctx) (by rfl) ?_
    rintro _ w1130 ⟨rfl, H1131⟩; refine ⟨_, q, ?_⟩
    have H1132 := H1129.cN1 [_] H1131
    refine XN H1132.chg <| XQ (i := 7) q (by kernel_rfl) q H1132.chg q (fun _ => qt_quo q q (by decide)) q q <| XQ (i := 8) q (by kernel_rfl) q H1132.chg q (fun _ => qt_mul q q) q q ?_
    refine zy [4, 15] (by kernel_rfl) (by simp) (allc ?_ (allc ?_ alln))
    ·refine XC_do q ?_
     obtain ⟨F1133, hat1134, hdup1135⟩ := H1132.at hS1 hx20 hv1112
     refine zt (k := .i64) u3 q hat1134 q q q <| XN H1132.chg <| XQ (i := 9) q (by kernel_rfl) q H1132.chg q (fun _ => qt_add q q) q q <| X1 15 (by kernel_rfl) q <| zd q q c44 (w_spec_l20Rd__pick w1130 _ bp0 A0 B0 (C0.c.c.c.c) x28.1 (if 1 > (List.length p1_0 : Int) then 1 else (List.length p1_0 : Int)) x34 hx35 H1132.ctx) (by rfl) ?_
     rintro _ w1136 ⟨rfl, H1137⟩; refine ⟨_, q, ?_⟩
     have H1138 := H1132.cN1 [_] H1137
     refine XN H1138.chg <| XQ (i := 16) q (by kernel_rfl) q H1138.chg q (fun _ => qt_build (args := [(0, .tmp 15), (1, .tmp 21)]) (css := [#[iV (IntKind.wrap .i64 (x19 + (IntKind.wrap .i64 ((IntKind.wrap .i64 (Int.tdiv x28.2 59)) * 6))))], #[iV x34.2]]) (cells := #[iV (IntKind.wrap .i64 (x19 + (IntKind.wrap .i64 ((IntKind.wrap .i64 (Int.tdiv x28.2 59)) * 6)))), iV x34.2, iV 0, iV 0]) q ⟨q, q, trivial⟩ (by kernel_rfl)) q q ?_
     have H1139 := H212.cN3 [_] H1138
     refine X1 18 (by kernel_rfl) q ?_
     have H1140 := H1139.p2
     refine zl (cs' := [iV (IntKind.wrap .i64 (x19 + (IntKind.wrap .i64 ((IntKind.wrap .i64 (Int.tdiv x28.2 59)) * 6)))), iV x34.2, iV 0, iV 0]) H1140 q il43 q q q q q (fun w1141 H1142 => ?_)
     refine XE q ?_
     refine XC_done (by kernel_rfl) (fun a ha => ?_)
     have H1144 := H1142.q2.p2.p3.p3
     exact ⟨b1101, ha.sub ⟨q, q, q, q, trivial⟩, H1144⟩
    refine XC_do q <| zd q q c44 (w_spec_l20Rd__pick w1130 _ bp0 A0 B0 (C0.c.c.c.c) x28.1 (if 1 > (List.length p1_0 : Int) then 1 else (List.length p1_0 : Int)) x34 hx35 H1132.ctx) (by rfl) ?_
    rintro _ w1145 ⟨rfl, H1146⟩; refine ⟨_, q, ?_⟩
    have H1147 := H1132.cN1 [_] H1146
    refine XN H1147.chg <| X1 4 (by kernel_rfl) q ?_
    obtain ⟨F1148, hat1149, hdup1150⟩ := H1147.at hS1 hx20 hv1112
    refine zt (k := .i64) u3 q hat1149 q q q <| XN H1147.chg <| XQ (i := 9) q (by kernel_rfl) q H1147.chg q (fun _ => qt_add q q) q q <| XQ (i := 16) q (by kernel_rfl) q H1147.chg q (fun _ => qt_build (args := [(0, .tmp 15), (1, .tmp 21)]) (css := [#[iV (IntKind.wrap .i64 (x19 + (IntKind.wrap .i64 ((IntKind.wrap .i64 (Int.tdiv x28.2 59)) * 6))))], #[iV x34.2]]) (cells := #[iV (IntKind.wrap .i64 (x19 + (IntKind.wrap .i64 ((IntKind.wrap .i64 (Int.tdiv x28.2 59)) * 6)))), iV x34.2, iV 0, iV 0]) q ⟨q, q, trivial⟩ (by kernel_rfl)) q q ?_
    have H1151 := H212.cN3 [_] H1147
    refine X1 18 (by kernel_rfl) q ?_
    have H1152 := H1151.p2
    refine zl (cs' := [iV (IntKind.wrap .i64 (x19 + (IntKind.wrap .i64 ((IntKind.wrap .i64 (Int.tdiv x28.2 59)) * 6)))), iV x34.2, iV 0, iV 0]) H1152 q il43 q q q q q (fun w1153 H1154 => ?_)
    refine XE q ?_
    refine XC_done (by kernel_rfl) (fun a ha => ?_)
    have H1156 := H1154.q2.p2.p3.p3
    exact ⟨b1101, ha.sub ⟨q, q, q, q, trivial⟩, H1156⟩
   refine XC_do q ?_
   have H1157 := H1103.p1
   refine zd q q c44 (w_spec_l20Rd__pick w1102 _ bp0 A0 B0 (C0.c.c.c) x13.1 60 x28 hx29 H1157.ctx) (by rfl) ?_
   rintro _ w1158 ⟨rfl, H1159⟩; refine ⟨_, q, ?_⟩
   have H1160 := H1157.cN1 [_] H1159
   refine XN H1160.chg <| XQ (i := 7) q (by kernel_rfl) q H1160.chg q (fun _ => qt_quo q q (by decide)) q q <| XQ (i := 8) q (by kernel_rfl) q H1160.chg q (fun _ => qt_mul q q) q q ?_
   refine zy [0, 15] (by kernel_rfl) (by simp) (allc ?_ (allc ?_ alln))
   ·refine XC_do q ?_
    refine zs (t := tI) (args := [.const (iV 0), .const (iV 0), .const (iV 1), .const (iV 1), .const (iV 2), .const (iV 3), .const (iV 3), .const (iV 3), .const (iV 4), .const (iV 4), .const (iV 4), .const (iV 5)]) (xs := ([0, 0, 1, 1, 2, 3, 3, 3, 4, 4, 4, 5] : List Int)) H1160 (BltL.cons (Blt.int) q (BltL.cons (Blt.int) q (BltL.cons (Blt.int) q (BltL.cons (Blt.int) q (BltL.cons (Blt.int) q (BltL.cons (Blt.int) q (BltL.cons (Blt.int) q (BltL.cons (Blt.int) q (BltL.cons (Blt.int) q (BltL.cons (Blt.int) q (BltL.cons (Blt.int) q (BltL.cons (Blt.int) q (BltL.nil))))))))))))) u24 j3 q q q q q q (fun v1161 w1162 H1163 => ?_)
    refine XN H1163.chg ?_
    obtain ⟨b1165, off1166, cap1167, hv1168⟩ := Ctx.isAt H1163.ctx hS0 hx20
    refine XT (i := 3) q (by kernel_rfl) q H1163.chg q (qs_index hx20 hv1168 u24 i3 q q) q q ?_
    refine zy [4, 15] (by kernel_rfl) (by simp) (allc ?_ (allc ?_ alln))
    ·refine XC_do q ?_
     obtain ⟨F1169, hat1170, hdup1171⟩ := H1163.at hS0 hx20 hv1168
     refine zt (k := .i64) u3 q hat1170 q q q <| XN H1163.chg <| XQ (i := 9) q (by kernel_rfl) q H1163.chg q (fun _ => qt_add q q) q q <| X1 15 (by kernel_rfl) q ?_
     have H1172 := H1163.p1
     refine zd q q c44 (w_spec_l20Rd__pick w1162 _ bp0 A0 B0 (C0.c.c.c.c) x28.1 (if 1 > (List.length p1_0 : Int) then 1 else (List.length p1_0 : Int)) x34 hx35 H1172.ctx) (by rfl) ?_
     rintro _ w1173 ⟨rfl, H1174⟩; refine ⟨_, q, ?_⟩
     have H1175 := H1172.cN1 [_] H1174
     refine XN H1175.chg <| XQ (i := 16) q (by kernel_rfl) q H1175.chg q (fun _ => qt_build (args := [(0, .tmp 15), (1, .tmp 21)]) (css := [#[iV (IntKind.wrap .i64 (x19 + (IntKind.wrap .i64 ((IntKind.wrap .i64 (Int.tdiv x28.2 59)) * 6))))], #[iV x34.2]]) (cells := #[iV (IntKind.wrap .i64 (x19 + (IntKind.wrap .i64 ((IntKind.wrap .i64 (Int.tdiv x28.2 59)) * 6)))), iV x34.2, iV 0, iV 0]) q ⟨q, q, trivial⟩ (by kernel_rfl)) q q ?_
     have H1176 := H212.cN3 [_] H1175
     refine X1 18 (by kernel_rfl) q ?_
     have H1177 := H1176.p2
     refine zl (cs' := [iV (IntKind.wrap .i64 (x19 + (IntKind.wrap .i64 ((IntKind.wrap .i64 (Int.tdiv x28.2 59)) * 6)))), iV x34.2, iV 0, iV 0]) H1177 q il43 q q q q q (fun w1178 H1179 => ?_)
     refine XE q ?_
     refine XC_done (by kernel_rfl) (fun a ha => ?_)
     have H1181 := H1179.q2.p2.p3.p3
     exact ⟨b1101, ha.sub ⟨q, q, q, q, trivial⟩, H1181⟩
    refine XC_do q ?_
    have H1182 := H1163.p1
    refine zd q q c44 (w_spec_l20Rd__pick w1162 _ bp0 A0 B0 (C0.c.c.c.c) x28.1 (if 1 > (List.length p1_0 : Int) then 1 else (List.length p1_0 : Int)) x34 hx35 H1182.ctx) (by rfl) ?_
    rintro _ w1183 ⟨rfl, H1184⟩; refine ⟨_, q, ?_⟩
    have H1185 := H1182.cN1 [_] H1184
    refine XN H1185.chg <| X1 4 (by kernel_rfl) q ?_
    obtain ⟨F1186, hat1187, hdup1188⟩ := H1185.at hS1 hx20 hv1168
    refine zt (k := .i64) u3 q hat1187 q q q <| XN H1185.chg <| XQ (i := 9) q (by kernel_rfl) q H1185.chg q (fun _ => qt_add q q) q q <| XQ (i := 16) q (by kernel_rfl) q H1185.chg q (fun _ => qt_build (args := [(0, .tmp 15), (1, .tmp 21)]) (css := [#[iV (IntKind.wrap .i64 (x19 + (IntKind.wrap .i64 ((IntKind.wrap .i64 (Int.tdiv x28.2 59)) * 6))))], #[iV x34.2]]) (cells := #[iV (IntKind.wrap .i64 (x19 + (IntKind.wrap .i64 ((IntKind.wrap .i64 (Int.tdiv x28.2 59)) * 6)))), iV x34.2, iV 0, iV 0]) q ⟨q, q, trivial⟩ (by kernel_rfl)) q q ?_
    have H1189 := H212.cN3 [_] H1185
    refine X1 18 (by kernel_rfl) q ?_
    have H1190 := H1189.p2
    refine zl (cs' := [iV (IntKind.wrap .i64 (x19 + (IntKind.wrap .i64 ((IntKind.wrap .i64 (Int.tdiv x28.2 59)) * 6)))), iV x34.2, iV 0, iV 0]) H1190 q il43 q q q q q (fun w1191 H1192 => ?_)
    refine XE q ?_
    refine XC_done (by kernel_rfl) (fun a ha => ?_)
    have H1194 := H1192.q2.p2.p3.p3
    exact ⟨b1101, ha.sub ⟨q, q, q, q, trivial⟩, H1194⟩
   refine XC_do q <| zd q q c44 (w_spec_l20Rd__pick w1158 _ bp0 A0 B0 (C0.c.c.c) x28.1 (if 1 > (List.length p1_0 : Int) then 1 else (List.length p1_0 : Int)) x34 hx35 H1160.ctx) (by rfl) ?_
   rintro _ w1195 ⟨rfl, H1196⟩; refine ⟨_, q, ?_⟩
   have H1197 := H1160.cN1 [_] H1196
   refine XN H1197.chg <| X1 0 (by kernel_rfl) q ?_
   refine zs (t := tI) (args := [.const (iV 0), .const (iV 0), .const (iV 1), .const (iV 1), .const (iV 2), .const (iV 3), .const (iV 3), .const (iV 3), .const (iV 4), .const (iV 4), .const (iV 4), .const (iV 5)]) (xs := ([0, 0, 1, 1, 2, 3, 3, 3, 4, 4, 4, 5] : List Int)) H1197 (BltL.cons (Blt.int) q (BltL.cons (Blt.int) q (BltL.cons (Blt.int) q (BltL.cons (Blt.int) q (BltL.cons (Blt.int) q (BltL.cons (Blt.int) q (BltL.cons (Blt.int) q (BltL.cons (Blt.int) q (BltL.cons (Blt.int) q (BltL.cons (Blt.int) q (BltL.cons (Blt.int) q (BltL.cons (Blt.int) q (BltL.nil))))))))))))) u24 j3 q q q q q q (fun v1198 w1199 H1200 => ?_)
   refine XN H1200.chg ?_
   obtain ⟨b1202, off1203, cap1204, hv1205⟩ := Ctx.isAt H1200.ctx hS0 hx20
   refine XT (i := 3) q (by kernel_rfl) q H1200.chg q (qs_index hx20 hv1205 u24 i3 q q) q q <| X1 4 (by kernel_rfl) q ?_
   obtain ⟨F1206, hat1207, hdup1208⟩ := H1200.at hS0 hx20 hv1205
   refine zt (k := .i64) u3 q hat1207 q q q <| XN H1200.chg <| XQ (i := 9) q (by kernel_rfl) q H1200.chg q (fun _ => qt_add q q) q q <| XQ (i := 16) q (by kernel_rfl) q H1200.chg q (fun _ => qt_build (args := [(0, .tmp 15), (1, .tmp 21)]) (css := [#[iV (IntKind.wrap .i64 (x19 + (IntKind.wrap .i64 ((IntKind.wrap .i64 (Int.tdiv x28.2 59)) * 6))))], #[iV x34.2]]) (cells := #[iV (IntKind.wrap .i64 (x19 + (IntKind.wrap .i64 ((IntKind.wrap .i64 (Int.tdiv x28.2 59)) * 6)))), iV x34.2, iV 0, iV 0]) q ⟨q, q, trivial⟩ (by kernel_rfl)) q q ?_
   have H1209 := H212.cN3 [_] H1200
   refine X1 18 (by kernel_rfl) q ?_
   have H1210 := H1209.p2
   refine zl (cs' := [iV (IntKind.wrap .i64 (x19 + (IntKind.wrap .i64 ((IntKind.wrap .i64 (Int.tdiv x28.2 59)) * 6)))), iV x34.2, iV 0, iV 0]) H1210 q il43 q q q q q (fun w1211 H1212 => ?_)
   refine XE q ?_
   refine XC_done (by kernel_rfl) (fun a ha => ?_)
   have H1214 := H1212.q1.p2.p3.p3
   exact ⟨b1101, ha.sub ⟨q, q, q, q, trivial⟩, H1214⟩
  refine XC_do q ?_
  refine zq (cs := [iV 0, iV 0, iV 0, iV 0]) H214 z43 q q q (fun b1215 w1216 H1217 => ?_)
  refine XN H1217.chg ?_
  refine zy [0, 2] (by kernel_rfl) (by simp) (allc ?_ (allc ?_ alln))
  ·refine XC_do q ?_
   refine zs (t := tI) (args := [.const (iV 0), .const (iV 0), .const (iV 1), .const (iV 1), .const (iV 2), .const (iV 3), .const (iV 3), .const (iV 3), .const (iV 4), .const (iV 4), .const (iV 4), .const (iV 5)]) (xs := ([0, 0, 1, 1, 2, 3, 3, 3, 4, 4, 4, 5] : List Int)) H1217 (BltL.cons (Blt.int) q (BltL.cons (Blt.int) q (BltL.cons (Blt.int) q (BltL.cons (Blt.int) q (BltL.cons (Blt.int) q (BltL.cons (Blt.int) q (BltL.cons (Blt.int) q (BltL.cons (Blt.int) q (BltL.cons (Blt.int) q (BltL.cons (Blt.int) q (BltL.cons (Blt.int) q (BltL.cons (Blt.int) q (BltL.nil))))))))))))) u24 j3 q q q q q q (fun v1219 w1220 H1221 => ?_)
   refine XN H1221.chg <| X1 2 (by kernel_rfl) q ?_
   have H1223 := H1221.p2
   refine zd q q c44 (w_spec_l20Rd__pick w1220 _ bp0 A0 B0 (C0.c.c.c.c) B1 12 x13 hx14 H1223.ctx) (by rfl) ?_
   rintro _ w1224 ⟨rfl, H1225⟩; refine ⟨_, q, ?_⟩
   have H1226 := H1223.cN1 [_] H1225
   refine XN H1226.chg ?_
   obtain ⟨b1227, off1228, cap1229, hv1230⟩ := Ctx.isAt H1226.ctx hS1 hx20
   refine XT (i := 3) q (by kernel_rfl) q H1226.chg q (qs_index hx20 hv1230 u24 i3 q q) q q ?_
   refine zy [4, 6] (by kernel_rfl) (by simp) (allc ?_ (allc ?_ alln))
   ·refine XC_do q ?_
    obtain ⟨F1231, hat1232, hdup1233⟩ := H1226.at hS1 hx20 hv1230
    refine zt (k := .i64) u3 q hat1232 q q q <| XN H1226.chg <| X1 6 (by kernel_rfl) q <| zd q q c44 (w_spec_l20Rd__pick w1224 _ bp0 A0 B0 (C0.c.c.c.c) x13.1 60 x28 hx29 H1226.ctx) (by rfl) ?_
    rintro _ w1234 ⟨rfl, H1235⟩; refine ⟨_, q, ?_⟩
    have H1236 := H1226.cN1 [_] H1235
    refine XN H1236.chg <| XQ (i := 7) q (by kernel_rfl) q H1236.chg q (fun _ => qt_quo q q (by decide)) q q <| XQ (i := 8) q (by kernel_rfl) q H1236.chg q (fun _ => qt_mul q q) q q <| XQ (i := 9) q (by kernel_rfl) q H1236.chg q (fun _ => qt_add q q) q q <| X1 15 (by kernel_rfl) q <| zd q q c44 (w_spec_l20Rd__pick w1234 _ bp0 A0 B0 (C0.c.c.c.c) x28.1 (if 1 > (List.length p1_0 : Int) then 1 else (List.length p1_0 : Int)) x34 hx35 H1236.ctx) (by rfl) ?_
    rintro _ w1237 ⟨rfl, H1238⟩; refine ⟨_, q, ?_⟩
    have H1239 := H1236.cN1 [_] H1238
    refine XN H1239.chg <| XQ (i := 16) q (by kernel_rfl) q H1239.chg q (fun _ => qt_build (args := [(0, .tmp 15), (1, .tmp 21)]) (css := [#[iV (IntKind.wrap .i64 (x19 + (IntKind.wrap .i64 ((IntKind.wrap .i64 (Int.tdiv x28.2 59)) * 6))))], #[iV x34.2]]) (cells := #[iV (IntKind.wrap .i64 (x19 + (IntKind.wrap .i64 ((IntKind.wrap .i64 (Int.tdiv x28.2 59)) * 6)))), iV x34.2, iV 0, iV 0]) q ⟨q, q, trivial⟩ (by kernel_rfl)) q q ?_
    have H1240 := H212.cN3 [_] H1239
    refine X1 18 (by kernel_rfl) q ?_
    have H1241 := H1240.p2
    refine zl (cs' := [iV (IntKind.wrap .i64 (x19 + (IntKind.wrap .i64 ((IntKind.wrap .i64 (Int.tdiv x28.2 59)) * 6)))), iV x34.2, iV 0, iV 0]) H1241 q il43 q q q q q (fun w1242 H1243 => ?_)
    refine XE q ?_
    refine XC_done (by kernel_rfl) (fun a ha => ?_)
    have H1245 := H1243.q2.p2.p3.p3
    exact ⟨b1215, ha.sub ⟨q, q, q, q, trivial⟩, H1245⟩
   refine XC_do q <| zd q q c44 (w_spec_l20Rd__pick w1224 _ bp0 A0 B0 (C0.c.c.c.c) x13.1 60 x28 hx29 H1226.ctx) (by rfl) ?_
   rintro _ w1246 ⟨rfl, H1247⟩; refine ⟨_, q, ?_⟩
   have H1248 := H1226.cN1 [_] H1247
   refine XN H1248.chg <| XQ (i := 7) q (by kernel_rfl) q H1248.chg q (fun _ => qt_quo q q (by decide)) q q <| XQ (i := 8) q (by kernel_rfl) q H1248.chg q (fun _ => qt_mul q q) q q ?_
   refine zy [4, 15] (by kernel_rfl) (by simp) (allc ?_ (allc ?_ alln))
   ·refine XC_do q ?_
    obtain ⟨F1249, hat1250, hdup1251⟩ := H1248.at hS1 hx20 hv1230
    refine zt (k := .i64) u3 q hat1250 q q q <| XN H1248.chg <| XQ (i := 9) q (by kernel_rfl) q H1248.chg q (fun _ => qt_add q q) q q <| X1 15 (by kernel_rfl) q <| zd q q c44 (w_spec_l20Rd__pick w1246 _ bp0 A0 B0 (C0.c.c.c.c) x28.1 (if 1 > (List.length p1_0 : Int) then 1 else (List.length p1_0 : Int)) x34 hx35 H1248.ctx) (by rfl) ?_
    rintro _ w1252 ⟨rfl, H1253⟩; refine ⟨_, q, ?_⟩
    have H1254 := H1248.cN1 [_] H1253
    refine XN H1254.chg <| XQ (i := 16) q (by kernel_rfl) q H1254.chg q (fun _ => qt_build (args := [(0, .tmp 15), (1, .tmp 21)]) (css := [#[iV (IntKind.wrap .i64 (x19 + (IntKind.wrap .i64 ((IntKind.wrap .i64 (Int.tdiv x28.2 59)) * 6))))], #[iV x34.2]]) (cells := #[iV (IntKind.wrap .i64 (x19 + (IntKind.wrap .i64 ((IntKind.wrap .i64 (Int.tdiv x28.2 59)) * 6)))), iV x34.2, iV 0, iV 0]) q ⟨q, q, trivial⟩ (by kernel_rfl)) q q ?_
    have H1255 := H212.cN3 [_] H1254
    refine X1 18 (by kernel_rfl) q ?_
    have H1256 := H1255.p2
    refine zl (cs' := [iV (IntKind.wrap .i64 (x19 + (IntKind.wrap .i64 ((IntKind.wrap .i64 (Int.tdiv x28.2 59)) * 6)))), iV x34.2, iV 0, iV 0]) H1256 q il43 q q q q q (fun w1257 H1258 => ?_)
    refine XE q ?_
    refine XC_done (by kernel_rfl) (fun a ha => ?_)
    have H1260 := H1258.q2.p2.p3.p3
    exact ⟨b1215, ha.sub ⟨q, q, q, q, trivial⟩, H1260⟩
   refine XC_do q <| zd q q c44 (w_spec_l20Rd__pick w1246 _ bp0 A0 B0 (C0.c.c.c.c) x28.1 (if 1 > (List.length p1_0 : Int) then 1 else (List.length p1_0 : Int)) x34 hx35 H1248.ctx) (by rfl) ?_
   rintro _ w1261 ⟨rfl, H1262⟩; refine ⟨_, q, ?_⟩
   have H1263 := H1248.cN1 [_] H1262
   refine XN H1263.chg <| X1 4 (by kernel_rfl) q ?_
   obtain ⟨F1264, hat1265, hdup1266⟩ := H1263.at hS1 hx20 hv1230
   refine zt (k := .i64) u3 q hat1265 q q q <| XN H1263.chg <| XQ (i := 9) q (by kernel_rfl) q H1263.chg q (fun _ => qt_add q q) q q <| XQ (i := 16) q (by kernel_rfl) q H1263.chg q (fun _ => qt_build (args := [(0, .tmp 15), (1, .tmp 21)]) (css := [#[iV (IntKind.wrap .i64 (x19 + (IntKind.wrap .i64 ((IntKind.wrap .i64 (Int.tdiv x28.2 59)) * 6))))], #[iV x34.2]]) (cells := #[iV (IntKind.wrap .i64 (x19 + (IntKind.wrap .i64 ((IntKind.wrap .i64 (Int.tdiv x28.2 59)) * 6)))), iV x34.2, iV 0, iV 0]) q ⟨q, q, trivial⟩ (by kernel_rfl)) q q ?_
   have H1267 := H212.cN3 [_] H1263
   refine X1 18 (by kernel_rfl) q ?_
   have H1268 := H1267.p2
   refine zl (cs' := [iV (IntKind.wrap .i64 (x19 + (IntKind.wrap .i64 ((IntKind.wrap .i64 (Int.tdiv x28.2 59)) * 6)))), iV x34.2, iV 0, iV 0]) H1268 q il43 q q q q q (fun w1269 H1270 => ?_)
   refine XE q ?_
   refine XC_done (by kernel_rfl) (fun a ha => ?_)
   have H1272 := H1270.q2.p2.p3.p3
   exact ⟨b1215, ha.sub ⟨q, q, q, q, trivial⟩, H1272⟩
  refine XC_do q ?_
  have H1273 := H1217.p1
  refine zd q q c44 (w_spec_l20Rd__pick w1216 _ bp0 A0 B0 (C0.c.c.c) B1 12 x13 hx14 H1273.ctx) (by rfl) ?_
  rintro _ w1274 ⟨rfl, H1275⟩; refine ⟨_, q, ?_⟩
  have H1276 := H1273.cN1 [_] H1275
  refine XN H1276.chg ?_
  refine zy [0, 6] (by kernel_rfl) (by simp) (allc ?_ (allc ?_ alln))
  ·refine XC_do q ?_
   refine zs (t := tI) (args := [.const (iV 0), .const (iV 0), .const (iV 1), .const (iV 1), .const (iV 2), .const (iV 3), .const (iV 3), .const (iV 3), .const (iV 4), .const (iV 4), .const (iV 4), .const (iV 5)]) (xs := ([0, 0, 1, 1, 2, 3, 3, 3, 4, 4, 4, 5] : List Int)) H1276 (BltL.cons (Blt.int) q (BltL.cons (Blt.int) q (BltL.cons (Blt.int) q (BltL.cons (Blt.int) q (BltL.cons (Blt.int) q (BltL.cons (Blt.int) q (BltL.cons (Blt.int) q (BltL.cons (Blt.int) q (BltL.cons (Blt.int) q (BltL.cons (Blt.int) q (BltL.cons (Blt.int) q (BltL.cons (Blt.int) q (BltL.nil))))))))))))) u24 j3 q q q q q q (fun v1277 w1278 H1279 => ?_)
   refine XN H1279.chg ?_
   obtain ⟨b1281, off1282, cap1283, hv1284⟩ := Ctx.isAt H1279.ctx hS0 hx20
   refine XT (i := 3) q (by kernel_rfl) q H1279.chg q (qs_index hx20 hv1284 u24 i3 q q) q q ?_
   refine zy [4, 6] (by kernel_rfl) (by simp) (allc ?_ (allc ?_ alln))
   ·refine XC_do q ?_
    obtain ⟨F1285, hat1286, hdup1287⟩ := H1279.at hS0 hx20 hv1284
    refine zt (k := .i64) u3 q hat1286 q q q <| XN H1279.chg <| X1 6 (by kernel_rfl) q ?_
    have H1288 := H1279.p1
    refine zd q q c44 (w_spec_l20Rd__pick w1278 _ bp0 A0 B0 (C0.c.c.c.c) x13.1 60 x28 hx29 H1288.ctx) (by rfl) ?_
    rintro _ w1289 ⟨rfl, H1290⟩; refine ⟨_, q, ?_⟩
    have H1291 := H1288.cN1 [_] H1290
    refine XN H1291.chg <| XQ (i := 7) q (by kernel_rfl) q H1291.chg q (fun _ => qt_quo q q (by decide)) q q <| XQ (i := 8) q (by kernel_rfl) q H1291.chg q (fun _ => qt_mul q q) q q <| XQ (i := 9) q (by kernel_rfl) q H1291.chg q (fun _ => qt_add q q) q q <| X1 15 (by kernel_rfl) q <| zd q q c44 (w_spec_l20Rd__pick w1289 _ bp0 A0 B0 (C0.c.c.c.c) x28.1 (if 1 > (List.length p1_0 : Int) then 1 else (List.length p1_0 : Int)) x34 hx35 H1291.ctx) (by rfl) ?_
    rintro _ w1292 ⟨rfl, H1293⟩; refine ⟨_, q, ?_⟩
    have H1294 := H1291.cN1 [_] H1293
    refine XN H1294.chg <| XQ (i := 16) q (by kernel_rfl) q H1294.chg q (fun _ => qt_build (args := [(0, .tmp 15), (1, .tmp 21)]) (css := [#[iV (IntKind.wrap .i64 (x19 + (IntKind.wrap .i64 ((IntKind.wrap .i64 (Int.tdiv x28.2 59)) * 6))))], #[iV x34.2]]) (cells := #[iV (IntKind.wrap .i64 (x19 + (IntKind.wrap .i64 ((IntKind.wrap .i64 (Int.tdiv x28.2 59)) * 6)))), iV x34.2, iV 0, iV 0]) q ⟨q, q, trivial⟩ (by kernel_rfl)) q q ?_
    have H1295 := H212.cN3 [_] H1294
    refine X1 18 (by kernel_rfl) q ?_
    have H1296 := H1295.p2
    refine zl (cs' := [iV (IntKind.wrap .i64 (x19 + (IntKind.wrap .i64 ((IntKind.wrap .i64 (Int.tdiv x28.2 59)) * 6)))), iV x34.2, iV 0, iV 0]) H1296 q il43 q q q q q (fun w1297 H1298 => ?_)
    refine XE q ?_
    refine XC_done (by kernel_rfl) (fun a ha => ?_)
    have H1300 := H1298.q2.p2.p3.p3
    exact ⟨b1215, ha.sub ⟨q, q, q, q, trivial⟩, H1300⟩
   refine XC_do q ?_
   have H1301 := H1279.p1
   refine zd q q c44 (w_spec_l20Rd__pick w1278 _ bp0 A0 B0 (C0.c.c.c.c) x13.1 60 x28 hx29 H1301.ctx) (by rfl) ?_
   rintro _ w1302 ⟨rfl, H1303⟩; refine ⟨_, q, ?_⟩
   have H1304 := H1301.cN1 [_] H1303
   refine XN H1304.chg <| XQ (i := 7) q (by kernel_rfl) q H1304.chg q (fun _ => qt_quo q q (by decide)) q q <| XQ (i := 8) q (by kernel_rfl) q H1304.chg q (fun _ => qt_mul q q) q q ?_
   refine zy [4, 15] (by kernel_rfl) (by simp) (allc ?_ (allc ?_ alln))
   ·refine XC_do q ?_
    obtain ⟨F1305, hat1306, hdup1307⟩ := H1304.at hS1 hx20 hv1284
    refine zt (k := .i64) u3 q hat1306 q q q <| XN H1304.chg <| XQ (i := 9) q (by kernel_rfl) q H1304.chg q (fun _ => qt_add q q) q q <| X1 15 (by kernel_rfl) q <| zd q q c44 (w_spec_l20Rd__pick w1302 _ bp0 A0 B0 (C0.c.c.c.c) x28.1 (if 1 > (List.length p1_0 : Int) then 1 else (List.length p1_0 : Int)) x34 hx35 H1304.ctx) (by rfl) ?_
    rintro _ w1308 ⟨rfl, H1309⟩; refine ⟨_, q, ?_⟩
    have H1310 := H1304.cN1 [_] H1309
    refine XN H1310.chg <| XQ (i := 16) q (by kernel_rfl) q H1310.chg q (fun _ => qt_build (args := [(0, .tmp 15), (1, .tmp 21)]) (css := [#[iV (IntKind.wrap .i64 (x19 + (IntKind.wrap .i64 ((IntKind.wrap .i64 (Int.tdiv x28.2 59)) * 6))))], #[iV x34.2]]) (cells := #[iV (IntKind.wrap .i64 (x19 + (IntKind.wrap .i64 ((IntKind.wrap .i64 (Int.tdiv x28.2 59)) * 6)))), iV x34.2, iV 0, iV 0]) q ⟨q, q, trivial⟩ (by kernel_rfl)) q q ?_
    have H1311 := H212.cN3 [_] H1310
    refine X1 18 (by kernel_rfl) q ?_
    have H1312 := H1311.p2
    refine zl (cs' := [iV (IntKind.wrap .i64 (x19 + (IntKind.wrap .i64 ((IntKind.wrap .i64 (Int.tdiv x28.2 59)) * 6)))), iV x34.2, iV 0, iV 0]) H1312 q il43 q q q q q (fun w1313 H1314 => ?_)
    refine XE q ?_
    refine XC_done (by kernel_rfl) (fun a ha => ?_)
    have H1316 := H1314.q2.p2.p3.p3
    exact ⟨b1215, ha.sub ⟨q, q, q, q, trivial⟩, H1316⟩
   refine XC_do q <| zd q q c44 (w_spec_l20Rd__pick w1302 _ bp0 A0 B0 (C0.c.c.c.c) x28.1 (if 1 > (List.length p1_0 : Int) then 1 else (List.length p1_0 : Int)) x34 hx35 H1304.ctx) (by rfl) ?_
   rintro _ w1317 ⟨rfl, H1318⟩; refine ⟨_, q, ?_⟩
   have H1319 := H1304.cN1 [_] H1318
   refine XN H1319.chg <| X1 4 (by kernel_rfl) q ?_
   obtain ⟨F1320, hat1321, hdup1322⟩ := H1319.at hS1 hx20 hv1284
   refine zt (k := .i64) u3 q hat1321 q q q <| XN H1319.chg <| XQ (i := 9) q (by kernel_rfl) q H1319.chg q (fun _ => qt_add q q) q q <| XQ (i := 16) q (by kernel_rfl) q H1319.chg q (fun _ => qt_build (args := [(0, .tmp 15), (1, .tmp 21)]) (css := [#[iV (IntKind.wrap .i64 (x19 + (IntKind.wrap .i64 ((IntKind.wrap .i64 (Int.tdiv x28.2 59)) * 6))))], #[iV x34.2]]) (cells := #[iV (IntKind.wrap .i64 (x19 + (IntKind.wrap .i64 ((IntKind.wrap .i64 (Int.tdiv x28.2 59)) * 6)))), iV x34.2, iV 0, iV 0]) q ⟨q, q, trivial⟩ (by kernel_rfl)) q q ?_
   have H1323 := H212.cN3 [_] H1319
   refine X1 18 (by kernel_rfl) q ?_
   have H1324 := H1323.p2
   refine zl (cs' := [iV (IntKind.wrap .i64 (x19 + (IntKind.wrap .i64 ((IntKind.wrap .i64 (Int.tdiv x28.2 59)) * 6)))), iV x34.2, iV 0, iV 0]) H1324 q il43 q q q q q (fun w1325 H1326 => ?_)
   refine XE q ?_
   refine XC_done (by kernel_rfl) (fun a ha => ?_)
   have H1328 := H1326.q2.p2.p3.p3
   exact ⟨b1215, ha.sub ⟨q, q, q, q, trivial⟩, H1328⟩
  refine XC_do q <| zd q q c44 (w_spec_l20Rd__pick w1274 _ bp0 A0 B0 (C0.c.c.c) x13.1 60 x28 hx29 H1276.ctx) (by rfl) ?_
  rintro _ w1329 ⟨rfl, H1330⟩; refine ⟨_, q, ?_⟩
  have H1331 := H1276.cN1 [_] H1330
  refine XN H1331.chg <| XQ (i := 7) q (by kernel_rfl) q H1331.chg q (fun _ => qt_quo q q (by decide)) q q <| XQ (i := 8) q (by kernel_rfl) q H1331.chg q (fun _ => qt_mul q q) q q ?_
  refine zy [0, 15] (by kernel_rfl) (by simp) (allc ?_ (allc ?_ alln))
  ·refine XC_do q ?_
   refine zs (t := tI) (args := [.const (iV 0), .const (iV 0), .const (iV 1), .const (iV 1), .const (iV 2), .const (iV 3), .const (iV 3), .const (iV 3), .const (iV 4), .const (iV 4), .const (iV 4), .const (iV 5)]) (xs := ([0, 0, 1, 1, 2, 3, 3, 3, 4, 4, 4, 5] : List Int)) H1331 (BltL.cons (Blt.int) q (BltL.cons (Blt.int) q (BltL.cons (Blt.int) q (BltL.cons (Blt.int) q (BltL.cons (Blt.int) q (BltL.cons (Blt.int) q (BltL.cons (Blt.int) q (BltL.cons (Blt.int) q (BltL.cons (Blt.int) q (BltL.cons (Blt.int) q (BltL.cons (Blt.int) q (BltL.cons (Blt.int) q (BltL.nil))))))))))))) u24 j3 q q q q q q (fun v1332 w1333 H1334 => ?_)
   refine XN H1334.chg ?_
   obtain ⟨b1336, off1337, cap1338, hv1339⟩ := Ctx.isAt H1334.ctx hS0 hx20
   refine XT (i := 3) q (by kernel_rfl) q H1334.chg q (qs_index hx20 hv1339 u24 i3 q q) q q ?_
   refine zy [4, 15] (by kernel_rfl) (by simp) (allc ?_ (allc ?_ alln))
   ·refine XC_do q ?_
    obtain ⟨F1340, hat1341, hdup1342⟩ := H1334.at hS0 hx20 hv1339
    refine zt (k := .i64) u3 q hat1341 q q q <| XN H1334.chg <| XQ (i := 9) q (by kernel_rfl) q H1334.chg q (fun _ => qt_add q q) q q <| X1 15 (by kernel_rfl) q ?_
    have H1343 := H1334.p1
    refine zd q q c44 (w_spec_l20Rd__pick w1333 _ bp0 A0 B0 (C0.c.c.c.c) x28.1 (if 1 > (List.length p1_0 : Int) then 1 else (List.length p1_0 : Int)) x34 hx35 H1343.ctx) (by rfl) ?_
    rintro _ w1344 ⟨rfl, H1345⟩; refine ⟨_, q, ?_⟩
    have H1346 := H1343.cN1 [_] H1345
    refine XN H1346.chg <| XQ (i := 16) q (by kernel_rfl) q H1346.chg q (fun _ => qt_build (args := [(0, .tmp 15), (1, .tmp 21)]) (css := [#[iV (IntKind.wrap .i64 (x19 + (IntKind.wrap .i64 ((IntKind.wrap .i64 (Int.tdiv x28.2 59)) * 6))))], #[iV x34.2]]) (cells := #[iV (IntKind.wrap .i64 (x19 + (IntKind.wrap .i64 ((IntKind.wrap .i64 (Int.tdiv x28.2 59)) * 6)))), iV x34.2, iV 0, iV 0]) q ⟨q, q, trivial⟩ (by kernel_rfl)) q q ?_
    have H1347 := H212.cN3 [_] H1346
    refine X1 18 (by kernel_rfl) q ?_
    have H1348 := H1347.p2
    refine zl (cs' := [iV (IntKind.wrap .i64 (x19 + (IntKind.wrap .i64 ((IntKind.wrap .i64 (Int.tdiv x28.2 59)) * 6)))), iV x34.2, iV 0, iV 0]) H1348 q il43 q q q q q (fun w1349 H1350 => ?_)
    refine XE q ?_
    refine XC_done (by kernel_rfl) (fun a ha => ?_)
    have H1352 := H1350.q2.p2.p3.p3
    exact ⟨b1215, ha.sub ⟨q, q, q, q, trivial⟩, H1352⟩
   refine XC_do q ?_
   have H1353 := H1334.p1
   refine zd q q c44 (w_spec_l20Rd__pick w1333 _ bp0 A0 B0 (C0.c.c.c.c) x28.1 (if 1 > (List.length p1_0 : Int) then 1 else (List.length p1_0 : Int)) x34 hx35 H1353.ctx) (by rfl) ?_
   rintro _ w1354 ⟨rfl, H1355⟩; refine ⟨_, q, ?_⟩
   have H1356 := H1353.cN1 [_] H1355
   refine XN H1356.chg <| X1 4 (by kernel_rfl) q ?_
   obtain ⟨F1357, hat1358, hdup1359⟩ := H1356.at hS1 hx20 hv1339
   refine zt (k := .i64) u3 q hat1358 q q q <| XN H1356.chg <| XQ (i := 9) q (by kernel_rfl) q H1356.chg q (fun _ => qt_add q q) q q <| XQ (i := 16) q (by kernel_rfl) q H1356.chg q (fun _ => qt_build (args := [(0, .tmp 15), (1, .tmp 21)]) (css := [#[iV (IntKind.wrap .i64 (x19 + (IntKind.wrap .i64 ((IntKind.wrap .i64 (Int.tdiv x28.2 59)) * 6))))], #[iV x34.2]]) (cells := #[iV (IntKind.wrap .i64 (x19 + (IntKind.wrap .i64 ((IntKind.wrap .i64 (Int.tdiv x28.2 59)) * 6)))), iV x34.2, iV 0, iV 0]) q ⟨q, q, trivial⟩ (by kernel_rfl)) q q ?_
   have H1360 := H212.cN3 [_] H1356
   refine X1 18 (by kernel_rfl) q ?_
   have H1361 := H1360.p2
   refine zl (cs' := [iV (IntKind.wrap .i64 (x19 + (IntKind.wrap .i64 ((IntKind.wrap .i64 (Int.tdiv x28.2 59)) * 6)))), iV x34.2, iV 0, iV 0]) H1361 q il43 q q q q q (fun w1362 H1363 => ?_)
   refine XE q ?_
   refine XC_done (by kernel_rfl) (fun a ha => ?_)
   have H1365 := H1363.q2.p2.p3.p3
   exact ⟨b1215, ha.sub ⟨q, q, q, q, trivial⟩, H1365⟩
  refine XC_do q <| zd q q c44 (w_spec_l20Rd__pick w1329 _ bp0 A0 B0 (C0.c.c.c) x28.1 (if 1 > (List.length p1_0 : Int) then 1 else (List.length p1_0 : Int)) x34 hx35 H1331.ctx) (by rfl) ?_
  rintro _ w1366 ⟨rfl, H1367⟩; refine ⟨_, q, ?_⟩
  have H1368 := H1331.cN1 [_] H1367
  refine XN H1368.chg <| X1 0 (by kernel_rfl) q ?_
  refine zs (t := tI) (args := [.const (iV 0), .const (iV 0), .const (iV 1), .const (iV 1), .const (iV 2), .const (iV 3), .const (iV 3), .const (iV 3), .const (iV 4), .const (iV 4), .const (iV 4), .const (iV 5)]) (xs := ([0, 0, 1, 1, 2, 3, 3, 3, 4, 4, 4, 5] : List Int)) H1368 (BltL.cons (Blt.int) q (BltL.cons (Blt.int) q (BltL.cons (Blt.int) q (BltL.cons (Blt.int) q (BltL.cons (Blt.int) q (BltL.cons (Blt.int) q (BltL.cons (Blt.int) q (BltL.cons (Blt.int) q (BltL.cons (Blt.int) q (BltL.cons (Blt.int) q (BltL.cons (Blt.int) q (BltL.cons (Blt.int) q (BltL.nil))))))))))))) u24 j3 q q q q q q (fun v1369 w1370 H1371 => ?_)
  refine XN H1371.chg ?_
  obtain ⟨b1373, off1374, cap1375, hv1376⟩ := Ctx.isAt H1371.ctx hS0 hx20
  refine XT (i := 3) q (by kernel_rfl) q H1371.chg q (qs_index hx20 hv1376 u24 i3 q q) q q <| X1 4 (by kernel_rfl) q ?_
  obtain ⟨F1377, hat1378, hdup1379⟩ := H1371.at hS0 hx20 hv1376
  refine zt (k := .i64) u3 q hat1378 q q q <| XN H1371.chg <| XQ (i := 9) q (by kernel_rfl) q H1371.chg q (fun _ => qt_add q q) q q <| XQ (i := 16) q (by kernel_rfl) q H1371.chg q (fun _ => qt_build (args := [(0, .tmp 15), (1, .tmp 21)]) (css := [#[iV (IntKind.wrap .i64 (x19 + (IntKind.wrap .i64 ((IntKind.wrap .i64 (Int.tdiv x28.2 59)) * 6))))], #[iV x34.2]]) (cells := #[iV (IntKind.wrap .i64 (x19 + (IntKind.wrap .i64 ((IntKind.wrap .i64 (Int.tdiv x28.2 59)) * 6)))), iV x34.2, iV 0, iV 0]) q ⟨q, q, trivial⟩ (by kernel_rfl)) q q ?_
  have H1380 := H212.cN3 [_] H1371
  refine X1 18 (by kernel_rfl) q ?_
  have H1381 := H1380.p2
  refine zl (cs' := [iV (IntKind.wrap .i64 (x19 + (IntKind.wrap .i64 ((IntKind.wrap .i64 (Int.tdiv x28.2 59)) * 6)))), iV x34.2, iV 0, iV 0]) H1381 q il43 q q q q q (fun w1382 H1383 => ?_)
  refine XE q ?_
  refine XC_done (by kernel_rfl) (fun a ha => ?_)
  have H1385 := H1383.q1.p2.p3.p3
  exact ⟨b1215, ha.sub ⟨q, q, q, q, trivial⟩, H1385⟩
 intro a w1386 hI1387
 obtain ⟨bz8_0, ha, H1388⟩ := hI1387
 refine S ?_ ha
 clear ha
 refine C <| rR <| qF uf43 fi43_0 nz3 q q q ?_
 have hB1389 := R H1388.p3
 refine l u3 q hB1389 q q q q <| B <| g <| rR <| A q (qt_eql q q) q q <| qA q q q <| B ?_
 refine Y q (fun hc1390 => ?_) (fun hc1390 => ?_)
 ·have h := if_t hc1390 h
  refine Z <| qM q q q ?_
  obtain ⟨x1391, hx1392, h⟩ := D h
  refine zd q q c44 (w_spec_l20Rd__pick w1386 _ bp0 A0 B0 (C0.c.c.c) x34.1 12 x1391 hx1392 H1388.ctx) (by rfl) ?_
  rintro _ w1393 ⟨rfl, H1394⟩; refine ⟨_, q, ?_⟩
  have H1395 := H1388.cN1 [_] H1394
  refine A q (qt_add q q) q q <| qF uf43 fi43_2 nz3 q q q ?_
  have H1396 := H1395.p3
  refine WL_store_bx H1396 q il3 q q q q q (fun w1397 H1398 => ?_)
  refine WL_nil fun a ha => ?_
  refine zi (X (S ?_ ha))
  refine C <| rR <| qM q q q ?_
  have H1402 := H1398.p1
  obtain ⟨x1400, hx1401, h⟩ := D h
  refine zd q q c46 (w_spec_l20Rd__odd w1397 _ bp0 A0 B0 (C0.c.c.c) x1391.1 30 x1400 hx1401 H1402.ctx) (by rfl) ?_
  rintro _ w1403 ⟨rfl, H1404⟩; refine ⟨_, q, ?_⟩
  have H1405 := H1402.cN1 [_] H1404
  refine B ?_
  obtain ⟨o1408, ho1409, h⟩ := D h
  obtain ⟨j1406, j1407⟩ := o1408
  refine WP_join (M := fun a w2 => (Fr a 87 [(0, pB bp0), (4, pB b5), (5, pB bz8_0)] ∧ Holds (([.bx bp0 104 [A0, iV B1]] : List Res).flatMap Res.own) w w2 [.bx bp0 104 [A0, iV j1406], .bx b5 43 [iV 0, iV 0, iV 0, iV 0], .bx bz8_0 43 [iV (IntKind.wrap .i64 (x19 + (IntKind.wrap .i64 ((IntKind.wrap .i64 (Int.tdiv x28.2 59)) * 6)))), iV x34.2, iV j1407, iV 0]] G)) ?_ ?_
  ·refine Y q (fun hc1410 => ?_) (fun hc1410 => ?_)
   ·have ho1409 := if_t hc1410 ho1409
    obtain ⟨x1412, hx1413, ho1409⟩ := D ho1409
    refine WP_mid (Mid := fun a w2 => (Fr a 87 [(0, pB bp0), (4, pB b5), (5, pB bz8_0)] ∧ Holds (([.bx bp0 104 [A0, iV B1]] : List Res).flatMap Res.own) w w2 [.bx bp0 104 [A0, iV x1412.1], .bx b5 43 [iV 0, iV 0, iV 0, iV 0], .bx bz8_0 43 [iV (IntKind.wrap .i64 (x19 + (IntKind.wrap .i64 ((IntKind.wrap .i64 (Int.tdiv x28.2 59)) * 6)))), iV x34.2, iV (IntKind.wrap .i64 ((IntKind.wrap .i64 ((IntKind.wrap .i64 (1 + x1391.2)) + x1412.2)) - 5)), iV 0]] G)) ?_ ?_
    ·refine WP_ordersT (fun w1 w2 => Chg (([.bx bp0 104 [A0, iV x1400.1]] : List Res).flatMap Res.own) w1 w2) 6 (by kernel_rfl) (fun w1611 hb1612 => ?_)
     have H1613 := H1405.grow hb1612
     have C1614 : Ctx w1611 ([.bx bp0 104 [A0, iV x1400.1]] ++ ([.bx bz8_0 43 [iV (IntKind.wrap .i64 (x19 + (IntKind.wrap .i64 ((IntKind.wrap .i64 (Int.tdiv x28.2 59)) * 6)))), iV x34.2, iV (IntKind.wrap .i64 (1 + x1391.2)), iV 0], .bx b1 27 [A1_0, A1_1, A1_2, iV p1_3, A1_4], .bx b5 43 [iV 0, iV 0, iV 0, iV 0]] ++ G)) := H1613.ctx
     have H1615 : Holds _ w1611 w1611 [.bx bp0 104 [A0, iV x1400.1]] ([.bx bz8_0 43 [iV (IntKind.wrap .i64 (x19 + (IntKind.wrap .i64 ((IntKind.wrap .i64 (Int.tdiv x28.2 59)) * 6)))), iV x34.2, iV (IntKind.wrap .i64 (1 + x1391.2)), iV 0], .bx b1 27 [A1_0, A1_1, A1_2, iV p1_3, A1_4], .bx b5 43 [iV 0, iV 0, iV 0, iV 0]] ++ G) := zb (Rs := [.bx bp0 104 [A0, iV x1400.1]]) C1614
     refine XQ (i := 0) q (by kernel_rfl) q H1615.chg q (fun _ => qt_fieldAddr uf43 fi43_2 nz3 q) q q ?_
     have hB1633 := HasB.bx (HasB.c (HasB.hd)) H1615.ctx
     refine XT (i := 1) q (by kernel_rfl) q H1615.chg q (qs_cell u3 q q (hB1633.cell (i := 2) q) H1615.chg (Ctx.outB C1614 (HasB.hd))) q q <| XQ (i := 2) q (by kernel_rfl) q H1615.chg q (fun _ => qt_move q) q q <| X1 3 (by kernel_rfl) q <| zd q q c44 (w_spec_l20Rd__pick w1611 _ bp0 A0 B0 (C0.c.c.c) x1400.1 60 x1412 hx1413 H1615.ctx) (by rfl) ?_
     rintro _ w1634 ⟨rfl, H1635⟩; refine ⟨_, q, ?_⟩
     have H1636 := H1615.cN1 [_] H1635
     refine XN H1636.chg <| XQ (i := 4) q (by kernel_rfl) q H1636.chg q (fun _ => qt_add q q) q q <| XQ (i := 5) q (by kernel_rfl) q H1636.chg q (fun _ => qt_sub q q) q q ?_
     have H1637 := H1613.cN1 [_] H1636
     refine X1 6 (by kernel_rfl) q <| qF uf43 fi43_2 nz3 q q q <| XE q <| X1 7 (by kernel_rfl) q ?_
     have H1638 := H1637.p1
     refine WL_store_bx H1638 q il3 q q q q q (fun w1639 H1640 => ?_)
     refine XE q ?_
     refine XC_done (by kernel_rfl) (fun a ha => ?_)
     have H1642 := H1640.q2.p2.p2
     exact ⟨ha.sub ⟨q, q, q, trivial⟩, H1642⟩
    intro a w1643 hI1644
    obtain ⟨ha, H1645⟩ := hI1644
    obtain ⟨rfl, rfl⟩ := L ho1409 |> Prod.mk.inj
    have H1646 := H1645.p2.p2.p2
    exact X (⟨ha.sub ⟨q, q, q, trivial⟩, H1646⟩)
   have ho1409 := if_f hc1410 ho1409
   refine WP_skip fun a ha => ?_
   obtain ⟨rfl, rfl⟩ := L ho1409 |> Prod.mk.inj
   have H1647 := H1405.q2.p1.p2.p2
   exact X (⟨ha.sub ⟨q, q, q, trivial⟩, H1647⟩)
  intro a w1648 hI1649
  obtain ⟨ha, H1650⟩ := hI1649
  refine S ?_ ha
  clear ha
  refine C <| Z ?_
  have hB1651 := R H1650.p2
  refine zm (cs := [iV (IntKind.wrap .i64 (x19 + (IntKind.wrap .i64 ((IntKind.wrap .i64 (Int.tdiv x28.2 59)) * 6)))), iV x34.2, iV j1407, iV 0]) us43 uo43 il43 hB1651 q q q ?_
  change XL _ _ _ _ _ ((86, .agg #[iV (IntKind.wrap .i64 (x19 + (IntKind.wrap .i64 ((IntKind.wrap .i64 (Int.tdiv x28.2 59)) * 6)))), iV x34.2, iV j1407, iV 0]) :: _) _
  have H1652 := H1650.p1
  refine zl (cs' := [iV (IntKind.wrap .i64 (x19 + (IntKind.wrap .i64 ((IntKind.wrap .i64 (Int.tdiv x28.2 59)) * 6)))), iV x34.2, iV j1407, iV 0]) H1652 q il43 q q q q q (fun w1653 H1654 => ?_)
  refine B <| W fun a ha => ?_
  obtain rfl := L h
  have hB1656 := R H1654.p0
  have H1657 := H1654.q0.q1
  exact retc q ha q (run_loadVar_bx (cs := [iV (IntKind.wrap .i64 (x19 + (IntKind.wrap .i64 ((IntKind.wrap .i64 (Int.tdiv x28.2 59)) * 6)))), iV x34.2, iV j1407, iV 0]) us43 uo43 il43 hB1656) ⟨q, H1657⟩
 have h := if_f hc1390 h
 refine rR <| A q (qt_eql q q) q q <| qA q q q <| B ?_
 refine Y q (fun hc1658 => ?_) (fun hc1658 => ?_)
 ·have h := if_t hc1658 h
  refine Z <| qM q q q ?_
  obtain ⟨x1659, hx1660, h⟩ := D h
  refine zd q q c44 (w_spec_l20Rd__pick w1386 _ bp0 A0 B0 (C0.c.c.c) x34.1 3 x1659 hx1660 H1388.ctx) (by rfl) ?_
  rintro _ w1661 ⟨rfl, H1662⟩; refine ⟨_, q, ?_⟩
  have H1663 := H1388.cN1 [_] H1662
  refine A q (qt_add q q) q q <| qF uf43 fi43_2 nz3 q q q ?_
  have H1664 := H1663.p3
  refine WL_store_bx H1664 q il3 q q q q q (fun w1665 H1666 => ?_)
  refine WL_nil fun a ha => ?_
  refine zi (X (S ?_ ha))
  refine C <| rR <| qM q q q ?_
  have H1670 := H1666.p1
  obtain ⟨x1668, hx1669, h⟩ := D h
  refine zd q q c46 (w_spec_l20Rd__odd w1665 _ bp0 A0 B0 (C0.c.c.c) x1659.1 30 x1668 hx1669 H1670.ctx) (by rfl) ?_
  rintro _ w1671 ⟨rfl, H1672⟩; refine ⟨_, q, ?_⟩
  have H1673 := H1670.cN1 [_] H1672
  refine B ?_
  obtain ⟨o1676, ho1677, h⟩ := D h
  obtain ⟨j1674, j1675⟩ := o1676
  refine WP_join (M := fun a w2 => (Fr a 87 [(0, pB bp0), (4, pB b5), (5, pB bz8_0)] ∧ Holds (([.bx bp0 104 [A0, iV B1]] : List Res).flatMap Res.own) w w2 [.bx bp0 104 [A0, iV j1674], .bx b5 43 [iV 0, iV 0, iV 0, iV 0], .bx bz8_0 43 [iV (IntKind.wrap .i64 (x19 + (IntKind.wrap .i64 ((IntKind.wrap .i64 (Int.tdiv x28.2 59)) * 6)))), iV x34.2, iV j1675, iV 0]] G)) ?_ ?_
  ·refine Y q (fun hc1678 => ?_) (fun hc1678 => ?_)
   ·have ho1677 := if_t hc1678 ho1677
    obtain ⟨x1680, hx1681, ho1677⟩ := D ho1677
    refine WP_mid (Mid := fun a w2 => (Fr a 87 [(0, pB bp0), (4, pB b5), (5, pB bz8_0)] ∧ Holds (([.bx bp0 104 [A0, iV B1]] : List Res).flatMap Res.own) w w2 [.bx bp0 104 [A0, iV x1680.1], .bx b5 43 [iV 0, iV 0, iV 0, iV 0], .bx bz8_0 43 [iV (IntKind.wrap .i64 (x19 + (IntKind.wrap .i64 ((IntKind.wrap .i64 (Int.tdiv x28.2 59)) * 6)))), iV x34.2, iV (IntKind.wrap .i64 ((IntKind.wrap .i64 ((IntKind.wrap .i64 (1 + x1659.2)) + x1680.2)) - 5)), iV 0]] G)) ?_ ?_
    ·refine WP_ordersT (fun w1 w2 => Chg (([.bx bp0 104 [A0, iV x1668.1]] : List Res).flatMap Res.own) w1 w2) 6 (by kernel_rfl) (fun w1879 hb1880 => ?_)
     have H1881 := H1673.grow hb1880
     have C1882 : Ctx w1879 ([.bx bp0 104 [A0, iV x1668.1]] ++ ([.bx bz8_0 43 [iV (IntKind.wrap .i64 (x19 + (IntKind.wrap .i64 ((IntKind.wrap .i64 (Int.tdiv x28.2 59)) * 6)))), iV x34.2, iV (IntKind.wrap .i64 (1 + x1659.2)), iV 0], .bx b1 27 [A1_0, A1_1, A1_2, iV p1_3, A1_4], .bx b5 43 [iV 0, iV 0, iV 0, iV 0]] ++ G)) := H1881.ctx
     have H1883 : Holds _ w1879 w1879 [.bx bp0 104 [A0, iV x1668.1]] ([.bx bz8_0 43 [iV (IntKind.wrap .i64 (x19 + (IntKind.wrap .i64 ((IntKind.wrap .i64 (Int.tdiv x28.2 59)) * 6)))), iV x34.2, iV (IntKind.wrap .i64 (1 + x1659.2)), iV 0], .bx b1 27 [A1_0, A1_1, A1_2, iV p1_3, A1_4], .bx b5 43 [iV 0, iV 0, iV 0, iV 0]] ++ G) := zb (Rs := [.bx bp0 104 [A0, iV x1668.1]]) C1882
     refine XQ (i := 0) q (by kernel_rfl) q H1883.chg q (fun _ => qt_fieldAddr uf43 fi43_2 nz3 q) q q ?_
     have hB1901 := HasB.bx (HasB.c (HasB.hd)) H1883.ctx
     refine XT (i := 1) q (by kernel_rfl) q H1883.chg q (qs_cell u3 q q (hB1901.cell (i := 2) q) H1883.chg (Ctx.outB C1882 (HasB.hd))) q q <| XQ (i := 2) q (by kernel_rfl) q H1883.chg q (fun _ => qt_move q) q q <| X1 3 (by kernel_rfl) q <| zd q q c44 (w_spec_l20Rd__pick w1879 _ bp0 A0 B0 (C0.c.c.c) x1668.1 60 x1680 hx1681 H1883.ctx) (by rfl) ?_
     rintro _ w1902 ⟨rfl, H1903⟩; refine ⟨_, q, ?_⟩
     have H1904 := H1883.cN1 [_] H1903
     refine XN H1904.chg <| XQ (i := 4) q (by kernel_rfl) q H1904.chg q (fun _ => qt_add q q) q q <| XQ (i := 5) q (by kernel_rfl) q H1904.chg q (fun _ => qt_sub q q) q q ?_
     have H1905 := H1881.cN1 [_] H1904
     refine X1 6 (by kernel_rfl) q <| qF uf43 fi43_2 nz3 q q q <| XE q <| X1 7 (by kernel_rfl) q ?_
     have H1906 := H1905.p1
     refine WL_store_bx H1906 q il3 q q q q q (fun w1907 H1908 => ?_)
     refine XE q ?_
     refine XC_done (by kernel_rfl) (fun a ha => ?_)
     have H1910 := H1908.q2.p2.p2
     exact ⟨ha.sub ⟨q, q, q, trivial⟩, H1910⟩
    intro a w1911 hI1912
    obtain ⟨ha, H1913⟩ := hI1912
    obtain ⟨rfl, rfl⟩ := L ho1677 |> Prod.mk.inj
    have H1914 := H1913.p2.p2.p2
    exact X (⟨ha.sub ⟨q, q, q, trivial⟩, H1914⟩)
   have ho1677 := if_f hc1678 ho1677
   refine WP_skip fun a ha => ?_
   obtain ⟨rfl, rfl⟩ := L ho1677 |> Prod.mk.inj
   have H1915 := H1673.q2.p1.p2.p2
   exact X (⟨ha.sub ⟨q, q, q, trivial⟩, H1915⟩)
  intro a w1916 hI1917
  obtain ⟨ha, H1918⟩ := hI1917
  refine S ?_ ha
  clear ha
  refine C <| Z ?_
  have hB1919 := R H1918.p2
  refine zm (cs := [iV (IntKind.wrap .i64 (x19 + (IntKind.wrap .i64 ((IntKind.wrap .i64 (Int.tdiv x28.2 59)) * 6)))), iV x34.2, iV j1675, iV 0]) us43 uo43 il43 hB1919 q q q ?_
  change XL _ _ _ _ _ ((86, .agg #[iV (IntKind.wrap .i64 (x19 + (IntKind.wrap .i64 ((IntKind.wrap .i64 (Int.tdiv x28.2 59)) * 6)))), iV x34.2, iV j1675, iV 0]) :: _) _
  have H1920 := H1918.p1
  refine zl (cs' := [iV (IntKind.wrap .i64 (x19 + (IntKind.wrap .i64 ((IntKind.wrap .i64 (Int.tdiv x28.2 59)) * 6)))), iV x34.2, iV j1675, iV 0]) H1920 q il43 q q q q q (fun w1921 H1922 => ?_)
  refine B <| W fun a ha => ?_
  obtain rfl := L h
  have hB1924 := R H1922.p0
  have H1925 := H1922.q0.q1
  exact retc q ha q (run_loadVar_bx (cs := [iV (IntKind.wrap .i64 (x19 + (IntKind.wrap .i64 ((IntKind.wrap .i64 (Int.tdiv x28.2 59)) * 6)))), iV x34.2, iV j1675, iV 0]) us43 uo43 il43 hB1924) ⟨q, H1925⟩
 have h := if_f hc1658 h
 refine rR <| A q (qt_eql q q) q q <| qA q q q <| B ?_
 refine Y q (fun hc1926 => ?_) (fun hc1926 => ?_)
 ·have h := if_t hc1926 h
  refine Z <| qM q q q ?_
  obtain ⟨x1927, hx1928, h⟩ := D h
  refine zd q q c44 (w_spec_l20Rd__pick w1386 _ bp0 A0 B0 (C0.c.c.c) x34.1 32 x1927 hx1928 H1388.ctx) (by rfl) ?_
  rintro _ w1929 ⟨rfl, H1930⟩; refine ⟨_, q, ?_⟩
  have H1931 := H1388.cN1 [_] H1930
  refine qM q q q ?_
  obtain ⟨x1932, hx1933, h⟩ := D h
  refine zd q q c44 (w_spec_l20Rd__pick w1929 _ bp0 A0 B0 (C0.c.c.c) x1927.1 3 x1932 hx1933 H1931.ctx) (by rfl) ?_
  rintro _ w1934 ⟨rfl, H1935⟩; refine ⟨_, q, ?_⟩
  have H1936 := H1931.cN1 [_] H1935
  refine A q (qt_quo q q (by decide)) q q <| A q (qt_mul q q) q q <| qF uf43 fi43_1 nz3 q q q ?_
  have H1937 := H1936.p3
  refine WL_store_bx H1937 q il3 q q q q q (fun w1938 H1939 => ?_)
  refine WL_nil fun a ha => ?_
  refine zi (X (S ?_ ha))
  refine C <| rR <| qM q q q ?_
  have H1943 := H1939.p1
  obtain ⟨x1941, hx1942, h⟩ := D h
  refine zd q q c46 (w_spec_l20Rd__odd w1938 _ bp0 A0 B0 (C0.c.c.c) x1932.1 30 x1941 hx1942 H1943.ctx) (by rfl) ?_
  rintro _ w1944 ⟨rfl, H1945⟩; refine ⟨_, q, ?_⟩
  have H1946 := H1943.cN1 [_] H1945
  refine B ?_
  obtain ⟨o1949, ho1950, h⟩ := D h
  obtain ⟨j1947, j1948⟩ := o1949
  refine WP_join (M := fun a w2 => (Fr a 87 [(0, pB bp0), (4, pB b5), (5, pB bz8_0)] ∧ Holds (([.bx bp0 104 [A0, iV B1]] : List Res).flatMap Res.own) w w2 [.bx bp0 104 [A0, iV j1947], .bx b5 43 [iV 0, iV 0, iV 0, iV 0], .bx bz8_0 43 [iV (IntKind.wrap .i64 (x19 + (IntKind.wrap .i64 ((IntKind.wrap .i64 (Int.tdiv x28.2 59)) * 6)))), iV (IntKind.wrap .i64 (x1927.2 * (IntKind.wrap .i64 (Int.tdiv x1932.2 2)))), iV j1948, iV 0]] G)) ?_ ?_
  ·refine Y q (fun hc1951 => ?_) (fun hc1951 => ?_)
   ·have ho1950 := if_t hc1951 ho1950
    obtain ⟨x1953, hx1954, ho1950⟩ := D ho1950
    refine WP_mid (Mid := fun a w2 => (Fr a 87 [(0, pB bp0), (4, pB b5), (5, pB bz8_0)] ∧ Holds (([.bx bp0 104 [A0, iV B1]] : List Res).flatMap Res.own) w w2 [.bx bp0 104 [A0, iV x1953.1], .bx b5 43 [iV 0, iV 0, iV 0, iV 0], .bx bz8_0 43 [iV (IntKind.wrap .i64 (x19 + (IntKind.wrap .i64 ((IntKind.wrap .i64 (Int.tdiv x28.2 59)) * 6)))), iV (IntKind.wrap .i64 (x1927.2 * (IntKind.wrap .i64 (Int.tdiv x1932.2 2)))), iV (IntKind.wrap .i64 ((IntKind.wrap .i64 (0 + x1953.2)) - 5)), iV 0]] G)) ?_ ?_
    ·refine WP_ordersT (fun w1 w2 => Chg (([.bx bp0 104 [A0, iV x1941.1]] : List Res).flatMap Res.own) w1 w2) 6 (by kernel_rfl) (fun w2152 hb2153 => ?_)
     have H2154 := H1946.grow hb2153
     have C2155 : Ctx w2152 ([.bx bp0 104 [A0, iV x1941.1]] ++ ([.bx bz8_0 43 [iV (IntKind.wrap .i64 (x19 + (IntKind.wrap .i64 ((IntKind.wrap .i64 (Int.tdiv x28.2 59)) * 6)))), iV (IntKind.wrap .i64 (x1927.2 * (IntKind.wrap .i64 (Int.tdiv x1932.2 2)))), iV 0, iV 0], .bx b1 27 [A1_0, A1_1, A1_2, iV p1_3, A1_4], .bx b5 43 [iV 0, iV 0, iV 0, iV 0]] ++ G)) := H2154.ctx
     have H2156 : Holds _ w2152 w2152 [.bx bp0 104 [A0, iV x1941.1]] ([.bx bz8_0 43 [iV (IntKind.wrap .i64 (x19 + (IntKind.wrap .i64 ((IntKind.wrap .i64 (Int.tdiv x28.2 59)) * 6)))), iV (IntKind.wrap .i64 (x1927.2 * (IntKind.wrap .i64 (Int.tdiv x1932.2 2)))), iV 0, iV 0], .bx b1 27 [A1_0, A1_1, A1_2, iV p1_3, A1_4], .bx b5 43 [iV 0, iV 0, iV 0, iV 0]] ++ G) := zb (Rs := [.bx bp0 104 [A0, iV x1941.1]]) C2155
     refine XQ (i := 0) q (by kernel_rfl) q H2156.chg q (fun _ => qt_fieldAddr uf43 fi43_2 nz3 q) q q ?_
     have hB2174 := HasB.bx (HasB.c (HasB.hd)) H2156.ctx
     refine XT (i := 1) q (by kernel_rfl) q H2156.chg q (qs_cell u3 q q (hB2174.cell (i := 2) q) H2156.chg (Ctx.outB C2155 (HasB.hd))) q q <| XQ (i := 2) q (by kernel_rfl) q H2156.chg q (fun _ => qt_move q) q q <| X1 3 (by kernel_rfl) q <| zd q q c44 (w_spec_l20Rd__pick w2152 _ bp0 A0 B0 (C0.c.c.c) x1941.1 60 x1953 hx1954 H2156.ctx) (by rfl) ?_
     rintro _ w2175 ⟨rfl, H2176⟩; refine ⟨_, q, ?_⟩
     have H2177 := H2156.cN1 [_] H2176
     refine XN H2177.chg <| XQ (i := 4) q (by kernel_rfl) q H2177.chg q (fun _ => qt_add q q) q q <| XQ (i := 5) q (by kernel_rfl) q H2177.chg q (fun _ => qt_sub q q) q q ?_
     have H2178 := H2154.cN1 [_] H2177
     refine X1 6 (by kernel_rfl) q <| qF uf43 fi43_2 nz3 q q q <| XE q <| X1 7 (by kernel_rfl) q ?_
     have H2179 := H2178.p1
     refine WL_store_bx H2179 q il3 q q q q q (fun w2180 H2181 => ?_)
     refine XE q ?_
     refine XC_done (by kernel_rfl) (fun a ha => ?_)
     have H2183 := H2181.q2.p2.p2
     exact ⟨ha.sub ⟨q, q, q, trivial⟩, H2183⟩
    intro a w2184 hI2185
    obtain ⟨ha, H2186⟩ := hI2185
    obtain ⟨rfl, rfl⟩ := L ho1950 |> Prod.mk.inj
    have H2187 := H2186.p2.p2.p2
    exact X (⟨ha.sub ⟨q, q, q, trivial⟩, H2187⟩)
   have ho1950 := if_f hc1951 ho1950
   refine WP_skip fun a ha => ?_
   obtain ⟨rfl, rfl⟩ := L ho1950 |> Prod.mk.inj
   have H2188 := H1946.q2.p1.p2.p2
   exact X (⟨ha.sub ⟨q, q, q, trivial⟩, H2188⟩)
  intro a w2189 hI2190
  obtain ⟨ha, H2191⟩ := hI2190
  refine S ?_ ha
  clear ha
  refine C <| Z ?_
  have hB2192 := R H2191.p2
  refine zm (cs := [iV (IntKind.wrap .i64 (x19 + (IntKind.wrap .i64 ((IntKind.wrap .i64 (Int.tdiv x28.2 59)) * 6)))), iV (IntKind.wrap .i64 (x1927.2 * (IntKind.wrap .i64 (Int.tdiv x1932.2 2)))), iV j1948, iV 0]) us43 uo43 il43 hB2192 q q q ?_
  change XL _ _ _ _ _ ((86, .agg #[iV (IntKind.wrap .i64 (x19 + (IntKind.wrap .i64 ((IntKind.wrap .i64 (Int.tdiv x28.2 59)) * 6)))), iV (IntKind.wrap .i64 (x1927.2 * (IntKind.wrap .i64 (Int.tdiv x1932.2 2)))), iV j1948, iV 0]) :: _) _
  have H2193 := H2191.p1
  refine zl (cs' := [iV (IntKind.wrap .i64 (x19 + (IntKind.wrap .i64 ((IntKind.wrap .i64 (Int.tdiv x28.2 59)) * 6)))), iV (IntKind.wrap .i64 (x1927.2 * (IntKind.wrap .i64 (Int.tdiv x1932.2 2)))), iV j1948, iV 0]) H2193 q il43 q q q q q (fun w2194 H2195 => ?_)
  refine B <| W fun a ha => ?_
  obtain rfl := L h
  have hB2197 := R H2195.p0
  have H2198 := H2195.q0.q1
  exact retc q ha q (run_loadVar_bx (cs := [iV (IntKind.wrap .i64 (x19 + (IntKind.wrap .i64 ((IntKind.wrap .i64 (Int.tdiv x28.2 59)) * 6)))), iV (IntKind.wrap .i64 (x1927.2 * (IntKind.wrap .i64 (Int.tdiv x1932.2 2)))), iV j1948, iV 0]) us43 uo43 il43 hB2197) ⟨q, H2198⟩
 have h := if_f hc1926 h
 refine rR <| A q (qt_eql q q) q q <| qA q q q <| B ?_
 refine Y q (fun hc2199 => ?_) (fun hc2199 => ?_)
 ·have h := if_t hc2199 h
  refine rR <| qM q q q <| qF uf27 fi27_4 nz25 q q q ?_
  have hB2200 := R H1388.p1
  refine l u25 q hB2200 q q q q <| za H1388.ctx (t := ty8) (hp1_4.c.c.c.c) u25 q q q <| A q (qt_add q q) q q ?_
  obtain ⟨x2201, hx2202, h⟩ := D h
  refine zd q q c44 (w_spec_l20Rd__pick w1386 _ bp0 A0 B0 (C0.c.c.c) x34.1 (IntKind.wrap .i64 ((List.length p1_4 : Int) + 1)) x2201 hx2202 H1388.ctx) (by rfl) ?_
  rintro _ w2203 ⟨rfl, H2204⟩; refine ⟨_, q, ?_⟩
  have H2205 := H1388.cN1 [_] H2204
  refine qF uf43 fi43_1 nz3 q q q ?_
  have H2206 := H2205.p3
  refine WL_store_bx H2206 q il3 q q q q q (fun w2207 H2208 => ?_)
  refine rN <| qM q q q <| qF uf27 fi27_0 nz23 q q q ?_
  have hB2210 := R H2208.p2
  refine l u23 q hB2210 q q q q <| za H2208.ctx (t := ty7) (hp1_0.c.c.c.c) u23 q q q <| A q (qt_max q q) q q ?_
  have H2213 := H2208.p1
  obtain ⟨x2211, hx2212, h⟩ := D h
  refine zd q q c44 (w_spec_l20Rd__pick w2207 _ bp0 A0 B0 (C0.c.c.c) x2201.1 (if 1 > (List.length p1_0 : Int) then 1 else (List.length p1_0 : Int)) x2211 hx2212 H2213.ctx) (by rfl) ?_
  rintro _ w2214 ⟨rfl, H2215⟩; refine ⟨_, q, ?_⟩
  have H2216 := H2213.cN1 [_] H2215
  refine qF uf43 fi43_2 nz3 q q q ?_
  have H2217 := H2216.p1
  refine WL_store_bx H2217 q il3 q q q q q (fun w2218 H2219 => ?_)
  refine B <| Z <| qM q q q ?_
  have H2223 := H2219.p1
  obtain ⟨x2221, hx2222, h⟩ := D h
  refine zd q q c44 (w_spec_l20Rd__pick w2218 _ bp0 A0 B0 (C0.c.c.c) x2211.1 3 x2221 hx2222 H2223.ctx) (by rfl) ?_
  rintro _ w2224 ⟨rfl, H2225⟩; refine ⟨_, q, ?_⟩
  have H2226 := H2223.cN1 [_] H2225
  refine qF uf43 fi43_3 nz3 q q q ?_
  have H2227 := H2226.p1
  refine WL_store_bx H2227 q il3 q q q q q (fun w2228 H2229 => ?_)
  refine WL_nil fun a ha => ?_
  refine zi (X (S ?_ ha))
  refine C <| rR <| qM q q q ?_
  have H2233 := H2229.p1
  obtain ⟨x2231, hx2232, h⟩ := D h
  refine zd q q c46 (w_spec_l20Rd__odd w2228 _ bp0 A0 B0 (C0.c.c.c) x2221.1 30 x2231 hx2232 H2233.ctx) (by rfl) ?_
  rintro _ w2234 ⟨rfl, H2235⟩; refine ⟨_, q, ?_⟩
  have H2236 := H2233.cN1 [_] H2235
  refine B ?_
  obtain ⟨o2239, ho2240, h⟩ := D h
  obtain ⟨j2237, j2238⟩ := o2239
  refine WP_join (M := fun a w2 => (Fr a 87 [(0, pB bp0), (4, pB b5), (5, pB bz8_0)] ∧ Holds (([.bx bp0 104 [A0, iV B1]] : List Res).flatMap Res.own) w w2 [.bx bp0 104 [A0, iV j2237], .bx b5 43 [iV 0, iV 0, iV 0, iV 0], .bx bz8_0 43 [iV (IntKind.wrap .i64 (x19 + (IntKind.wrap .i64 ((IntKind.wrap .i64 (Int.tdiv x28.2 59)) * 6)))), iV x2201.2, iV j2238, iV x2221.2]] G)) ?_ ?_
  ·refine Y q (fun hc2241 => ?_) (fun hc2241 => ?_)
   ·have ho2240 := if_t hc2241 ho2240
    obtain ⟨x2243, hx2244, ho2240⟩ := D ho2240
    refine WP_mid (Mid := fun a w2 => (Fr a 87 [(0, pB bp0), (4, pB b5), (5, pB bz8_0)] ∧ Holds (([.bx bp0 104 [A0, iV B1]] : List Res).flatMap Res.own) w w2 [.bx bp0 104 [A0, iV x2243.1], .bx b5 43 [iV 0, iV 0, iV 0, iV 0], .bx bz8_0 43 [iV (IntKind.wrap .i64 (x19 + (IntKind.wrap .i64 ((IntKind.wrap .i64 (Int.tdiv x28.2 59)) * 6)))), iV x2201.2, iV (IntKind.wrap .i64 ((IntKind.wrap .i64 (x2211.2 + x2243.2)) - 5)), iV x2221.2]] G)) ?_ ?_
    ·refine WP_ordersT (fun w1 w2 => Chg (([.bx bp0 104 [A0, iV x2231.1]] : List Res).flatMap Res.own) w1 w2) 6 (by kernel_rfl) (fun w2442 hb2443 => ?_)
     have H2444 := H2236.grow hb2443
     have C2445 : Ctx w2442 ([.bx bp0 104 [A0, iV x2231.1]] ++ ([.bx bz8_0 43 [iV (IntKind.wrap .i64 (x19 + (IntKind.wrap .i64 ((IntKind.wrap .i64 (Int.tdiv x28.2 59)) * 6)))), iV x2201.2, iV x2211.2, iV x2221.2], .bx b1 27 [A1_0, A1_1, A1_2, iV p1_3, A1_4], .bx b5 43 [iV 0, iV 0, iV 0, iV 0]] ++ G)) := H2444.ctx
     have H2446 : Holds _ w2442 w2442 [.bx bp0 104 [A0, iV x2231.1]] ([.bx bz8_0 43 [iV (IntKind.wrap .i64 (x19 + (IntKind.wrap .i64 ((IntKind.wrap .i64 (Int.tdiv x28.2 59)) * 6)))), iV x2201.2, iV x2211.2, iV x2221.2], .bx b1 27 [A1_0, A1_1, A1_2, iV p1_3, A1_4], .bx b5 43 [iV 0, iV 0, iV 0, iV 0]] ++ G) := zb (Rs := [.bx bp0 104 [A0, iV x2231.1]]) C2445
     refine XQ (i := 0) q (by kernel_rfl) q H2446.chg q (fun _ => qt_fieldAddr uf43 fi43_2 nz3 q) q q ?_
     have hB2464 := HasB.bx (HasB.c (HasB.hd)) H2446.ctx
     refine XT (i := 1) q (by kernel_rfl) q H2446.chg q (qs_cell u3 q q (hB2464.cell (i := 2) q) H2446.chg (Ctx.outB C2445 (HasB.hd))) q q <| XQ (i := 2) q (by kernel_rfl) q H2446.chg q (fun _ => qt_move q) q q <| X1 3 (by kernel_rfl) q <| zd q q c44 (w_spec_l20Rd__pick w2442 _ bp0 A0 B0 (C0.c.c.c) x2231.1 60 x2243 hx2244 H2446.ctx) (by rfl) ?_
     rintro _ w2465 ⟨rfl, H2466⟩; refine ⟨_, q, ?_⟩
     have H2467 := H2446.cN1 [_] H2466
     refine XN H2467.chg <| XQ (i := 4) q (by kernel_rfl) q H2467.chg q (fun _ => qt_add q q) q q <| XQ (i := 5) q (by kernel_rfl) q H2467.chg q (fun _ => qt_sub q q) q q ?_
     have H2468 := H2444.cN1 [_] H2467
     refine X1 6 (by kernel_rfl) q <| qF uf43 fi43_2 nz3 q q q <| XE q <| X1 7 (by kernel_rfl) q ?_
     have H2469 := H2468.p1
     refine WL_store_bx H2469 q il3 q q q q q (fun w2470 H2471 => ?_)
     refine XE q ?_
     refine XC_done (by kernel_rfl) (fun a ha => ?_)
     have H2473 := H2471.q2.p2.p2
     exact ⟨ha.sub ⟨q, q, q, trivial⟩, H2473⟩
    intro a w2474 hI2475
    obtain ⟨ha, H2476⟩ := hI2475
    obtain ⟨rfl, rfl⟩ := L ho2240 |> Prod.mk.inj
    have H2477 := H2476.p2.p2.p2
    exact X (⟨ha.sub ⟨q, q, q, trivial⟩, H2477⟩)
   have ho2240 := if_f hc2241 ho2240
   refine WP_skip fun a ha => ?_
   obtain ⟨rfl, rfl⟩ := L ho2240 |> Prod.mk.inj
   have H2478 := H2236.q2.p1.p2.p2
   exact X (⟨ha.sub ⟨q, q, q, trivial⟩, H2478⟩)
  intro a w2479 hI2480
  obtain ⟨ha, H2481⟩ := hI2480
  refine S ?_ ha
  clear ha
  refine C <| Z ?_
  have hB2482 := R H2481.p2
  refine zm (cs := [iV (IntKind.wrap .i64 (x19 + (IntKind.wrap .i64 ((IntKind.wrap .i64 (Int.tdiv x28.2 59)) * 6)))), iV x2201.2, iV j2238, iV x2221.2]) us43 uo43 il43 hB2482 q q q ?_
  change XL _ _ _ _ _ ((86, .agg #[iV (IntKind.wrap .i64 (x19 + (IntKind.wrap .i64 ((IntKind.wrap .i64 (Int.tdiv x28.2 59)) * 6)))), iV x2201.2, iV j2238, iV x2221.2]) :: _) _
  have H2483 := H2481.p1
  refine zl (cs' := [iV (IntKind.wrap .i64 (x19 + (IntKind.wrap .i64 ((IntKind.wrap .i64 (Int.tdiv x28.2 59)) * 6)))), iV x2201.2, iV j2238, iV x2221.2]) H2483 q il43 q q q q q (fun w2484 H2485 => ?_)
  refine B <| W fun a ha => ?_
  obtain rfl := L h
  have hB2487 := R H2485.p0
  have H2488 := H2485.q0.q1
  exact retc q ha q (run_loadVar_bx (cs := [iV (IntKind.wrap .i64 (x19 + (IntKind.wrap .i64 ((IntKind.wrap .i64 (Int.tdiv x28.2 59)) * 6)))), iV x2201.2, iV j2238, iV x2221.2]) us43 uo43 il43 hB2487) ⟨q, H2488⟩
 have h := if_f hc2199 h
 refine rR <| A q (qt_eql q q) q q <| qA q q q <| B ?_
 refine Y q (fun hc2489 => ?_) (fun hc2489 => ?_)
 ·have h := if_t hc2489 h
  refine Z <| qF uf43 fi43_1 nz3 q q q ?_
  have H2490 := H1388.p3
  refine WL_store_bx H2490 q il3 q q q q q (fun w2491 H2492 => ?_)
  refine WL_nil fun a ha => ?_
  refine zi (X (S ?_ ha))
  refine C <| rR <| qM q q q ?_
  have H2496 := H2492.p1
  obtain ⟨x2494, hx2495, h⟩ := D h
  refine zd q q c46 (w_spec_l20Rd__odd w2491 _ bp0 A0 B0 (C0.c.c.c) x34.1 30 x2494 hx2495 H2496.ctx) (by rfl) ?_
  rintro _ w2497 ⟨rfl, H2498⟩; refine ⟨_, q, ?_⟩
  have H2499 := H2496.cN1 [_] H2498
  refine B ?_
  obtain ⟨o2502, ho2503, h⟩ := D h
  obtain ⟨j2500, j2501⟩ := o2502
  refine WP_join (M := fun a w2 => (Fr a 87 [(0, pB bp0), (4, pB b5), (5, pB bz8_0)] ∧ Holds (([.bx bp0 104 [A0, iV B1]] : List Res).flatMap Res.own) w w2 [.bx bp0 104 [A0, iV j2500], .bx b5 43 [iV 0, iV 0, iV 0, iV 0], .bx bz8_0 43 [iV (IntKind.wrap .i64 (x19 + (IntKind.wrap .i64 ((IntKind.wrap .i64 (Int.tdiv x28.2 59)) * 6)))), iV 0, iV j2501, iV 0]] G)) ?_ ?_
  ·refine Y q (fun hc2504 => ?_) (fun hc2504 => ?_)
   ·have ho2503 := if_t hc2504 ho2503
    obtain ⟨x2506, hx2507, ho2503⟩ := D ho2503
    refine WP_mid (Mid := fun a w2 => (Fr a 87 [(0, pB bp0), (4, pB b5), (5, pB bz8_0)] ∧ Holds (([.bx bp0 104 [A0, iV B1]] : List Res).flatMap Res.own) w w2 [.bx bp0 104 [A0, iV x2506.1], .bx b5 43 [iV 0, iV 0, iV 0, iV 0], .bx bz8_0 43 [iV (IntKind.wrap .i64 (x19 + (IntKind.wrap .i64 ((IntKind.wrap .i64 (Int.tdiv x28.2 59)) * 6)))), iV 0, iV (IntKind.wrap .i64 ((IntKind.wrap .i64 (0 + x2506.2)) - 5)), iV 0]] G)) ?_ ?_
    ·refine WP_ordersT (fun w1 w2 => Chg (([.bx bp0 104 [A0, iV x2494.1]] : List Res).flatMap Res.own) w1 w2) 6 (by kernel_rfl) (fun w2705 hb2706 => ?_)
     have H2707 := H2499.grow hb2706
     have C2708 : Ctx w2705 ([.bx bp0 104 [A0, iV x2494.1]] ++ ([.bx bz8_0 43 [iV (IntKind.wrap .i64 (x19 + (IntKind.wrap .i64 ((IntKind.wrap .i64 (Int.tdiv x28.2 59)) * 6)))), iV 0, iV 0, iV 0], .bx b1 27 [A1_0, A1_1, A1_2, iV p1_3, A1_4], .bx b5 43 [iV 0, iV 0, iV 0, iV 0]] ++ G)) := H2707.ctx
     have H2709 : Holds _ w2705 w2705 [.bx bp0 104 [A0, iV x2494.1]] ([.bx bz8_0 43 [iV (IntKind.wrap .i64 (x19 + (IntKind.wrap .i64 ((IntKind.wrap .i64 (Int.tdiv x28.2 59)) * 6)))), iV 0, iV 0, iV 0], .bx b1 27 [A1_0, A1_1, A1_2, iV p1_3, A1_4], .bx b5 43 [iV 0, iV 0, iV 0, iV 0]] ++ G) := zb (Rs := [.bx bp0 104 [A0, iV x2494.1]]) C2708
     refine XQ (i := 0) q (by kernel_rfl) q H2709.chg q (fun _ => qt_fieldAddr uf43 fi43_2 nz3 q) q q ?_
     have hB2727 := HasB.bx (HasB.c (HasB.hd)) H2709.ctx
     refine XT (i := 1) q (by kernel_rfl) q H2709.chg q (qs_cell u3 q q (hB2727.cell (i := 2) q) H2709.chg (Ctx.outB C2708 (HasB.hd))) q q <| XQ (i := 2) q (by kernel_rfl) q H2709.chg q (fun _ => qt_move q) q q <| X1 3 (by kernel_rfl) q <| zd q q c44 (w_spec_l20Rd__pick w2705 _ bp0 A0 B0 (C0.c.c.c) x2494.1 60 x2506 hx2507 H2709.ctx) (by rfl) ?_
     rintro _ w2728 ⟨rfl, H2729⟩; refine ⟨_, q, ?_⟩
     have H2730 := H2709.cN1 [_] H2729
     refine XN H2730.chg <| XQ (i := 4) q (by kernel_rfl) q H2730.chg q (fun _ => qt_add q q) q q <| XQ (i := 5) q (by kernel_rfl) q H2730.chg q (fun _ => qt_sub q q) q q ?_
     have H2731 := H2707.cN1 [_] H2730
     refine X1 6 (by kernel_rfl) q <| qF uf43 fi43_2 nz3 q q q <| XE q <| X1 7 (by kernel_rfl) q ?_
     have H2732 := H2731.p1
     refine WL_store_bx H2732 q il3 q q q q q (fun w2733 H2734 => ?_)
     refine XE q ?_
     refine XC_done (by kernel_rfl) (fun a ha => ?_)
     have H2736 := H2734.q2.p2.p2
     exact ⟨ha.sub ⟨q, q, q, trivial⟩, H2736⟩
    intro a w2737 hI2738
    obtain ⟨ha, H2739⟩ := hI2738
    obtain ⟨rfl, rfl⟩ := L ho2503 |> Prod.mk.inj
    have H2740 := H2739.p2.p2.p2
    exact X (⟨ha.sub ⟨q, q, q, trivial⟩, H2740⟩)
   have ho2503 := if_f hc2504 ho2503
   refine WP_skip fun a ha => ?_
   obtain ⟨rfl, rfl⟩ := L ho2503 |> Prod.mk.inj
   have H2741 := H2499.q2.p1.p2.p2
   exact X (⟨ha.sub ⟨q, q, q, trivial⟩, H2741⟩)
  intro a w2742 hI2743
  obtain ⟨ha, H2744⟩ := hI2743
  refine S ?_ ha
  clear ha
  refine C <| Z ?_
  have hB2745 := R H2744.p2
  refine zm (cs := [iV (IntKind.wrap .i64 (x19 + (IntKind.wrap .i64 ((IntKind.wrap .i64 (Int.tdiv x28.2 59)) * 6)))), iV 0, iV j2501, iV 0]) us43 uo43 il43 hB2745 q q q ?_
  change XL _ _ _ _ _ ((86, .agg #[iV (IntKind.wrap .i64 (x19 + (IntKind.wrap .i64 ((IntKind.wrap .i64 (Int.tdiv x28.2 59)) * 6)))), iV 0, iV j2501, iV 0]) :: _) _
  have H2746 := H2744.p1
  refine zl (cs' := [iV (IntKind.wrap .i64 (x19 + (IntKind.wrap .i64 ((IntKind.wrap .i64 (Int.tdiv x28.2 59)) * 6)))), iV 0, iV j2501, iV 0]) H2746 q il43 q q q q q (fun w2747 H2748 => ?_)
  refine B <| W fun a ha => ?_
  obtain rfl := L h
  have hB2750 := R H2748.p0
  have H2751 := H2748.q0.q1
  exact retc q ha q (run_loadVar_bx (cs := [iV (IntKind.wrap .i64 (x19 + (IntKind.wrap .i64 ((IntKind.wrap .i64 (Int.tdiv x28.2 59)) * 6)))), iV 0, iV j2501, iV 0]) us43 uo43 il43 hB2750) ⟨q, H2751⟩
 have h := if_f hc2489 h
 refine rR <| A q (qt_eql q q) q q <| qA q q q <| B ?_
 refine Y q (fun hc2752 => ?_) (fun hc2752 => ?_)
 ·have h := if_t hc2752 h
  refine Z <| qM q q q <| qF uf27 fi27_4 nz25 q q q ?_
  have hB2753 := R H1388.p1
  refine l u25 q hB2753 q q q q <| za H1388.ctx (t := ty8) (hp1_4.c.c.c.c) u25 q q q <| A q (qt_add q q) q q ?_
  obtain ⟨x2754, hx2755, h⟩ := D h
  refine zd q q c44 (w_spec_l20Rd__pick w1386 _ bp0 A0 B0 (C0.c.c.c) x34.1 (IntKind.wrap .i64 ((List.length p1_4 : Int) + 1)) x2754 hx2755 H1388.ctx) (by rfl) ?_
  rintro _ w2756 ⟨rfl, H2757⟩; refine ⟨_, q, ?_⟩
  have H2758 := H1388.cN1 [_] H2757
  refine qF uf43 fi43_1 nz3 q q q ?_
  have H2759 := H2758.p3
  refine WL_store_bx H2759 q il3 q q q q q (fun w2760 H2761 => ?_)
  refine WL_nil fun a ha => ?_
  refine zi (X (S ?_ ha))
  refine C <| rR <| qM q q q ?_
  have H2765 := H2761.p1
  obtain ⟨x2763, hx2764, h⟩ := D h
  refine zd q q c46 (w_spec_l20Rd__odd w2760 _ bp0 A0 B0 (C0.c.c.c) x2754.1 30 x2763 hx2764 H2765.ctx) (by rfl) ?_
  rintro _ w2766 ⟨rfl, H2767⟩; refine ⟨_, q, ?_⟩
  have H2768 := H2765.cN1 [_] H2767
  refine B ?_
  obtain ⟨o2771, ho2772, h⟩ := D h
  obtain ⟨j2769, j2770⟩ := o2771
  refine WP_join (M := fun a w2 => (Fr a 87 [(0, pB bp0), (4, pB b5), (5, pB bz8_0)] ∧ Holds (([.bx bp0 104 [A0, iV B1]] : List Res).flatMap Res.own) w w2 [.bx bp0 104 [A0, iV j2769], .bx b5 43 [iV 0, iV 0, iV 0, iV 0], .bx bz8_0 43 [iV (IntKind.wrap .i64 (x19 + (IntKind.wrap .i64 ((IntKind.wrap .i64 (Int.tdiv x28.2 59)) * 6)))), iV x2754.2, iV j2770, iV 0]] G)) ?_ ?_
  ·refine Y q (fun hc2773 => ?_) (fun hc2773 => ?_)
   ·have ho2772 := if_t hc2773 ho2772
    obtain ⟨x2775, hx2776, ho2772⟩ := D ho2772
    refine WP_mid (Mid := fun a w2 => (Fr a 87 [(0, pB bp0), (4, pB b5), (5, pB bz8_0)] ∧ Holds (([.bx bp0 104 [A0, iV B1]] : List Res).flatMap Res.own) w w2 [.bx bp0 104 [A0, iV x2775.1], .bx b5 43 [iV 0, iV 0, iV 0, iV 0], .bx bz8_0 43 [iV (IntKind.wrap .i64 (x19 + (IntKind.wrap .i64 ((IntKind.wrap .i64 (Int.tdiv x28.2 59)) * 6)))), iV x2754.2, iV (IntKind.wrap .i64 ((IntKind.wrap .i64 (0 + x2775.2)) - 5)), iV 0]] G)) ?_ ?_
    ·refine WP_ordersT (fun w1 w2 => Chg (([.bx bp0 104 [A0, iV x2763.1]] : List Res).flatMap Res.own) w1 w2) 6 (by kernel_rfl) (fun w2974 hb2975 => ?_)
     have H2976 := H2768.grow hb2975
     have C2977 : Ctx w2974 ([.bx bp0 104 [A0, iV x2763.1]] ++ ([.bx bz8_0 43 [iV (IntKind.wrap .i64 (x19 + (IntKind.wrap .i64 ((IntKind.wrap .i64 (Int.tdiv x28.2 59)) * 6)))), iV x2754.2, iV 0, iV 0], .bx b1 27 [A1_0, A1_1, A1_2, iV p1_3, A1_4], .bx b5 43 [iV 0, iV 0, iV 0, iV 0]] ++ G)) := H2976.ctx
     have H2978 : Holds _ w2974 w2974 [.bx bp0 104 [A0, iV x2763.1]] ([.bx bz8_0 43 [iV (IntKind.wrap .i64 (x19 + (IntKind.wrap .i64 ((IntKind.wrap .i64 (Int.tdiv x28.2 59)) * 6)))), iV x2754.2, iV 0, iV 0], .bx b1 27 [A1_0, A1_1, A1_2, iV p1_3, A1_4], .bx b5 43 [iV 0, iV 0, iV 0, iV 0]] ++ G) := zb (Rs := [.bx bp0 104 [A0, iV x2763.1]]) C2977
     refine XQ (i := 0) q (by kernel_rfl) q H2978.chg q (fun _ => qt_fieldAddr uf43 fi43_2 nz3 q) q q ?_
     have hB2996 := HasB.bx (HasB.c (HasB.hd)) H2978.ctx
     refine XT (i := 1) q (by kernel_rfl) q H2978.chg q (qs_cell u3 q q (hB2996.cell (i := 2) q) H2978.chg (Ctx.outB C2977 (HasB.hd))) q q <| XQ (i := 2) q (by kernel_rfl) q H2978.chg q (fun _ => qt_move q) q q <| X1 3 (by kernel_rfl) q <| zd q q c44 (w_spec_l20Rd__pick w2974 _ bp0 A0 B0 (C0.c.c.c) x2763.1 60 x2775 hx2776 H2978.ctx) (by rfl) ?_
     rintro _ w2997 ⟨rfl, H2998⟩; refine ⟨_, q, ?_⟩
     have H2999 := H2978.cN1 [_] H2998
     refine XN H2999.chg <| XQ (i := 4) q (by kernel_rfl) q H2999.chg q (fun _ => qt_add q q) q q <| XQ (i := 5) q (by kernel_rfl) q H2999.chg q (fun _ => qt_sub q q) q q ?_
     have H3000 := H2976.cN1 [_] H2999
     refine X1 6 (by kernel_rfl) q <| qF uf43 fi43_2 nz3 q q q <| XE q <| X1 7 (by kernel_rfl) q ?_
     have H3001 := H3000.p1
     refine WL_store_bx H3001 q il3 q q q q q (fun w3002 H3003 => ?_)
     refine XE q ?_
     refine XC_done (by kernel_rfl) (fun a ha => ?_)
     have H3005 := H3003.q2.p2.p2
     exact ⟨ha.sub ⟨q, q, q, trivial⟩, H3005⟩
    intro a w3006 hI3007
    obtain ⟨ha, H3008⟩ := hI3007
    obtain ⟨rfl, rfl⟩ := L ho2772 |> Prod.mk.inj
    have H3009 := H3008.p2.p2.p2
    exact X (⟨ha.sub ⟨q, q, q, trivial⟩, H3009⟩)
   have ho2772 := if_f hc2773 ho2772
   refine WP_skip fun a ha => ?_
   obtain ⟨rfl, rfl⟩ := L ho2772 |> Prod.mk.inj
   have H3010 := H2768.q2.p1.p2.p2
   exact X (⟨ha.sub ⟨q, q, q, trivial⟩, H3010⟩)
  intro a w3011 hI3012
  obtain ⟨ha, H3013⟩ := hI3012
  refine S ?_ ha
  clear ha
  refine C <| Z ?_
  have hB3014 := R H3013.p2
  refine zm (cs := [iV (IntKind.wrap .i64 (x19 + (IntKind.wrap .i64 ((IntKind.wrap .i64 (Int.tdiv x28.2 59)) * 6)))), iV x2754.2, iV j2770, iV 0]) us43 uo43 il43 hB3014 q q q ?_
  change XL _ _ _ _ _ ((86, .agg #[iV (IntKind.wrap .i64 (x19 + (IntKind.wrap .i64 ((IntKind.wrap .i64 (Int.tdiv x28.2 59)) * 6)))), iV x2754.2, iV j2770, iV 0]) :: _) _
  have H3015 := H3013.p1
  refine zl (cs' := [iV (IntKind.wrap .i64 (x19 + (IntKind.wrap .i64 ((IntKind.wrap .i64 (Int.tdiv x28.2 59)) * 6)))), iV x2754.2, iV j2770, iV 0]) H3015 q il43 q q q q q (fun w3016 H3017 => ?_)
  refine B <| W fun a ha => ?_
  obtain rfl := L h
  have hB3019 := R H3017.p0
  have H3020 := H3017.q0.q1
  exact retc q ha q (run_loadVar_bx (cs := [iV (IntKind.wrap .i64 (x19 + (IntKind.wrap .i64 ((IntKind.wrap .i64 (Int.tdiv x28.2 59)) * 6)))), iV x2754.2, iV j2770, iV 0]) us43 uo43 il43 hB3019) ⟨q, H3020⟩
 have h := if_f hc2752 h
 refine WP_skip fun a ha => ?_
 refine zi (X (S ?_ ha))
 refine C <| rR <| qM q q q ?_
 obtain ⟨x3021, hx3022, h⟩ := D h
 refine zd q q c46 (w_spec_l20Rd__odd w1386 _ bp0 A0 B0 (C0.c.c.c) x34.1 30 x3021 hx3022 H1388.ctx) (by rfl) ?_
 rintro _ w3023 ⟨rfl, H3024⟩; refine ⟨_, q, ?_⟩
 have H3025 := H1388.cN1 [_] H3024
 refine B ?_
 obtain ⟨o3028, ho3029, h⟩ := D h
 obtain ⟨j3026, j3027⟩ := o3028
 refine WP_join (M := fun a w2 => (Fr a 87 [(0, pB bp0), (4, pB b5), (5, pB bz8_0)] ∧ Holds (([.bx bp0 104 [A0, iV B1]] : List Res).flatMap Res.own) w w2 [.bx bp0 104 [A0, iV j3026], .bx b5 43 [iV 0, iV 0, iV 0, iV 0], .bx bz8_0 43 [iV (IntKind.wrap .i64 (x19 + (IntKind.wrap .i64 ((IntKind.wrap .i64 (Int.tdiv x28.2 59)) * 6)))), iV x34.2, iV j3027, iV 0]] G)) ?_ ?_
 ·refine Y q (fun hc3030 => ?_) (fun hc3030 => ?_)
  ·have ho3029 := if_t hc3030 ho3029
   obtain ⟨x3032, hx3033, ho3029⟩ := D ho3029
   refine WP_mid (Mid := fun a w2 => (Fr a 87 [(0, pB bp0), (4, pB b5), (5, pB bz8_0)] ∧ Holds (([.bx bp0 104 [A0, iV B1]] : List Res).flatMap Res.own) w w2 [.bx bp0 104 [A0, iV x3032.1], .bx b5 43 [iV 0, iV 0, iV 0, iV 0], .bx bz8_0 43 [iV (IntKind.wrap .i64 (x19 + (IntKind.wrap .i64 ((IntKind.wrap .i64 (Int.tdiv x28.2 59)) * 6)))), iV x34.2, iV (IntKind.wrap .i64 ((IntKind.wrap .i64 (0 + x3032.2)) - 5)), iV 0]] G)) ?_ ?_
   ·refine WP_ordersT (fun w1 w2 => Chg (([.bx bp0 104 [A0, iV x3021.1]] : List Res).flatMap Res.own) w1 w2) 6 (by kernel_rfl) (fun w3231 hb3232 => ?_)
    have H3233 := H3025.grow hb3232
    have C3234 : Ctx w3231 ([.bx bp0 104 [A0, iV x3021.1]] ++ ([.bx b1 27 [A1_0, A1_1, A1_2, iV p1_3, A1_4], .bx b5 43 [iV 0, iV 0, iV 0, iV 0], .bx bz8_0 43 [iV (IntKind.wrap .i64 (x19 + (IntKind.wrap .i64 ((IntKind.wrap .i64 (Int.tdiv x28.2 59)) * 6)))), iV x34.2, iV 0, iV 0]] ++ G)) := H3233.ctx
    have H3235 : Holds _ w3231 w3231 [.bx bp0 104 [A0, iV x3021.1]] ([.bx b1 27 [A1_0, A1_1, A1_2, iV p1_3, A1_4], .bx b5 43 [iV 0, iV 0, iV 0, iV 0], .bx bz8_0 43 [iV (IntKind.wrap .i64 (x19 + (IntKind.wrap .i64 ((IntKind.wrap .i64 (Int.tdiv x28.2 59)) * 6)))), iV x34.2, iV 0, iV 0]] ++ G) := zb (Rs := [.bx bp0 104 [A0, iV x3021.1]]) C3234
    refine XQ (i := 0) q (by kernel_rfl) q H3235.chg q (fun _ => qt_fieldAddr uf43 fi43_2 nz3 q) q q ?_
    have hB3253 := HasB.bx (HasB.c (HasB.c (HasB.c (HasB.hd)))) H3235.ctx
    refine XT (i := 1) q (by kernel_rfl) q H3235.chg q (qs_cell u3 q q (hB3253.cell (i := 2) q) H3235.chg (Ctx.outB C3234 (HasB.c (HasB.c (HasB.hd))))) q q <| XQ (i := 2) q (by kernel_rfl) q H3235.chg q (fun _ => qt_move q) q q <| X1 3 (by kernel_rfl) q <| zd q q c44 (w_spec_l20Rd__pick w3231 _ bp0 A0 B0 (C0.c.c.c) x3021.1 60 x3032 hx3033 H3235.ctx) (by rfl) ?_
    rintro _ w3254 ⟨rfl, H3255⟩; refine ⟨_, q, ?_⟩
    have H3256 := H3235.cN1 [_] H3255
    refine XN H3256.chg <| XQ (i := 4) q (by kernel_rfl) q H3256.chg q (fun _ => qt_add q q) q q <| XQ (i := 5) q (by kernel_rfl) q H3256.chg q (fun _ => qt_sub q q) q q ?_
    have H3257 := H3233.cN1 [_] H3256
    refine X1 6 (by kernel_rfl) q <| qF uf43 fi43_2 nz3 q q q <| XE q <| X1 7 (by kernel_rfl) q ?_
    have H3258 := H3257.p3
    refine WL_store_bx H3258 q il3 q q q q q (fun w3259 H3260 => ?_)
    refine XE q ?_
    refine XC_done (by kernel_rfl) (fun a ha => ?_)
    have H3262 := H3260.q2.p2.p2
    exact ⟨ha.sub ⟨q, q, q, trivial⟩, H3262⟩
   intro a w3263 hI3264
   obtain ⟨ha, H3265⟩ := hI3264
   obtain ⟨rfl, rfl⟩ := L ho3029 |> Prod.mk.inj
   have H3266 := H3265.p2.p2.p2
   exact X (⟨ha.sub ⟨q, q, q, trivial⟩, H3266⟩)
  have ho3029 := if_f hc3030 ho3029
  refine WP_skip fun a ha => ?_
  obtain ⟨rfl, rfl⟩ := L ho3029 |> Prod.mk.inj
  have H3267 := H3025.q1.p2.p2.p2
  exact X (⟨ha.sub ⟨q, q, q, trivial⟩, H3267⟩)
 intro a w3268 hI3269
 obtain ⟨ha, H3270⟩ := hI3269
 refine S ?_ ha
 clear ha
 refine C <| Z ?_
 have hB3271 := R H3270.p2
 refine zm (cs := [iV (IntKind.wrap .i64 (x19 + (IntKind.wrap .i64 ((IntKind.wrap .i64 (Int.tdiv x28.2 59)) * 6)))), iV x34.2, iV j3027, iV 0]) us43 uo43 il43 hB3271 q q q ?_
 change XL _ _ _ _ _ ((86, .agg #[iV (IntKind.wrap .i64 (x19 + (IntKind.wrap .i64 ((IntKind.wrap .i64 (Int.tdiv x28.2 59)) * 6)))), iV x34.2, iV j3027, iV 0]) :: _) _
 have H3272 := H3270.p1
 refine zl (cs' := [iV (IntKind.wrap .i64 (x19 + (IntKind.wrap .i64 ((IntKind.wrap .i64 (Int.tdiv x28.2 59)) * 6)))), iV x34.2, iV j3027, iV 0]) H3272 q il43 q q q q q (fun w3273 H3274 => ?_)
 refine B <| W fun a ha => ?_
 obtain rfl := L h
 have hB3276 := R H3274.p0
 have H3277 := H3274.q0.q1
 exact retc q ha q (run_loadVar_bx (cs := [iV (IntKind.wrap .i64 (x19 + (IntKind.wrap .i64 ((IntKind.wrap .i64 (Int.tdiv x28.2 59)) * 6)))), iV x34.2, iV j3027, iV 0]) us43 uo43 il43 hB3276) ⟨q, H3277⟩
end Go.Proofs.YthofjabphcheeaaDoor
