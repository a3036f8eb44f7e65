/- The walks: each Go function computes its shallow function. Printed by a program. -/
import Derived.Test.YtcjkbcdlpfgbgaaGreatDoorWX7H9
set_option linter.unusedVariables false
set_option maxRecDepth 10000
namespace Go.Proofs.YtcjkbcdlpfgbgaaGreatDoor
open Go Go.RowKit
theorem w_laws_FnExactHouseDo (w : World) (G : List Res) (hGl : Glob G) (A0 : Value) (B0 : LI) (C0 : Has G ty10 A0 B0) (A1 : Value) (B1 : List Int) (C1 : Has G tI A1 B1) (A2 : Value) (B2 : List Int) (C2 : Has G tI A2 B2) (B3 : Int) (A4 : Value) (B4 : LT) (C4 : Has G ty12 A4 B4) (p1_0 : Int) (p1_1 : Int) (p1_2 : Int) (p1_3 : Int) (r : Bool) (h : laws_FnExactHouseDoS B0 B1 B2 B3 B4 p1_0 p1_1 p1_2 p1_3 = some r) (H : Ctx w G) : Calls Tryz.prog 5 #[.agg #[A0, A1, A2, iV B3, A4], .agg #[iV p1_0, iV p1_1, iV p1_2, iV p1_3]] w fun e w' => e = .returned (.bool r) ∧ Holds M0 w w' [] G := by
 have H : Holds M0 w w [] G := zb H
 refine zg (args := [.agg #[A0, A1, A2, iV B3, A4], .agg #[iV p1_0, iV p1_1, iV p1_2, iV p1_3]]) (n := 104) Tryz.func5 q q q ?_
 unfold laws_FnExactHouseDoS at h
 refine C <| Z ?_
 refine WL_box (cs := [A0, A1, A2, iV B3, A4]) H q q q q (fun b1 w2 H3 => ?_)
 refine WL_box (cs := [iV p1_0, iV p1_1, iV p1_2, iV p1_3]) H3 q q q q (fun b5 w6 H7 => ?_)
 refine qA q q q <| rN <| qA q q q <| B <| C <| zk ?_
 have hB9 := R H7.p1
 refine zm (cs := [A0, A1, A2, iV B3, A4]) us26 uo26 il26 hB9 q q q ?_
 change XL _ _ _ _ _ ((16, .agg #[A0, A1, A2, iV B3, A4]) :: _) _
 refine qM q q q ?_
 obtain ⟨x10, hx11, h⟩ := D h
 refine QC q q c7 (fun w' hb => w_laws_szHouse w' _ A0 B0 (C0.c.c) A1 B1 (C1.c.c) A2 B2 (C2.c.c) B3 A4 B4 (C4.c.c) 1048576 x10 hx11 (H7.grow hb).ctx) (by rfl) <| qA q q q <| QL_nil fun a ha w12 hb13 => ?_
 have H14 := H7.grow hb13
 refine X (S ?_ ha)
 refine C <| rR <| qM q q q <| A q (qt_lss q q) q q <| B ?_
 refine Y q (fun hc15 => ?_) (fun hc15 => ?_)
 ·have h := if_t hc15 h
  refine rR <| qA q q q <| B <| W fun a ha => ?_
  obtain rfl := L h
  have H16 := H14.q0.q0
  exact m (ret1 q ha q ⟨q, H16⟩)
 have h := if_f hc15 h
 refine y <| C ?_
 obtain ⟨x18, hx19, h⟩ := D h
 obtain ⟨x32, hx33, h⟩ := D h
 obtain ⟨x38, hx39, h⟩ := D h
 refine WP_join (M := fun a w2 => ∃ bz16_0 vz16_1 vz16_2 vz16_3 vz16_4, Fr a 104 [(2, pB b1), (3, pB b5), (6, pB bz16_0), (7, .bool x38.2)] ∧ Holds M0 w w2 [.bx b1 26 [A0, A1, A2, iV B3, A4], .bx b5 46 [iV p1_0, iV p1_1, iV p1_2, iV p1_3], .bx bz16_0 31 [vz16_1, vz16_2, vz16_3, iV x38.1.2.2.2.1, vz16_4], .sl 115 ty10 vz16_1 x38.1.1, .sl 3 tI vz16_2 x38.1.2.1, .sl 3 tI vz16_3 x38.1.2.2.1, .sl 89 ty12 vz16_4 x38.1.2.2.2.2] G) ?_ ?_
 ·refine WP_ordersT (fun w1 w2 => Chg M0 w1 w2) 10 (by kernel_rfl) (fun w217 hb218 => ?_)
  have H219 := H14.grow hb218
  have C220 : Ctx w217 ([] ++ ([.bx b5 46 [iV p1_0, iV p1_1, iV p1_2, iV p1_3], .bx b1 26 [A0, A1, A2, iV B3, A4]] ++ G)) := H219.ctx
  have H221 : Holds _ w217 w217 [] ([.bx b5 46 [iV p1_0, iV p1_1, iV p1_2, iV p1_3], .bx b1 26 [A0, A1, A2, iV B3, A4]] ++ G) := zb (Rs := []) C220
  have hB329 := HasB.bx (HasB.c (HasB.hd)) H221.ctx
  refine XT (i := 0) q (by kernel_rfl) q H221.chg q (qs_agg (cs := [A0, A1, A2, iV B3, A4]) us26 uo26 il26 q (fun j z hj => by rw [Nat.zero_add]; exact hB329.cell hj) H221.chg (Ctx.outB C220 (HasB.c (HasB.hd)))) q q ?_
  change XC _ _ _ _ _ _ _ _ ((22, .agg #[A0, A1, A2, iV B3, A4]) :: _) _
  have hB330 := HasB.bx (HasB.hd) H221.ctx
  refine XT (i := 2) q (by kernel_rfl) q H221.chg q (qs_agg (cs := [iV p1_0, iV p1_1, iV p1_2, iV p1_3]) us46 uo46 il46 q (fun j z hj => by rw [Nat.zero_add]; exact hB330.cell hj) H221.chg (Ctx.outB C220 (HasB.hd))) q q ?_
  change XC _ _ _ _ _ _ _ _ ((24, .agg #[iV p1_0, iV p1_1, iV p1_2, iV p1_3]) :: _) _
  refine zy [1, 8] (by kernel_rfl) (by simp) (allc ?_ (allc ?_ alln))
  ·refine XC_do q ?_
   refine zd q q c9 (w_laws_toHouse w217 _ A0 B0 (C0.c.c) A1 B1 (C1.c.c) A2 B2 (C2.c.c) B3 A4 B4 (C4.c.c) x18 hx19 H221.ctx) (by rfl) ?_
   rintro _ w331 ⟨v333, cs334, F335, v336, v337, v338, cs339, F340, rfl, H332⟩; refine ⟨_, q, ?_⟩
   have H341 := H221.cN4 [] H332
   refine XN H341.chg ?_
   refine zy [3, 8] (by kernel_rfl) (by simp) (allc ?_ (allc ?_ alln))
   ·refine XC_do q ?_
    have V342 := H341.viewG (Vw.d (Vw.c (Vw.c (Vw.d Vw.refl))))
    refine zd q q c22 (w_laws_toHouseDeed w331 _ p1_0 p1_1 p1_2 p1_3 x32 hx33 V342) (by rfl) ?_
    rintro _ w343 ⟨rfl, H344⟩; refine ⟨_, q, ?_⟩
    have H345 := H341.cV0 [] H344 all_nil
    refine XN H345.chg ?_
    refine zy [4, 8] (by kernel_rfl) (by simp) (allc ?_ (allc ?_ alln))
    ·refine XC_do q ?_
     have H346 : Holds _ w217 w343 [.ro ty10 v333 x18.1, .sl 3 tI v336 x18.2.1, .sl 3 tI v337 x18.2.2.1, dpR 89 dt14 v338 cs339 x18.2.2.2.2 F340] ([.bx b5 46 [iV p1_0, iV p1_1, iV p1_2, iV p1_3], .bx b1 26 [A0, A1, A2, iV B3, A4]] ++ G) := H345.freezeD
     have H347 := H346.p3
     have H348 : Holds _ w217 w343 [.ro ty12 v338 x18.2.2.2.2, .ro ty10 v333 x18.1, .sl 3 tI v336 x18.2.1, .sl 3 tI v337 x18.2.2.1] ([.bx b5 46 [iV p1_0, iV p1_1, iV p1_2, iV p1_3], .bx b1 26 [A0, A1, A2, iV B3, A4]] ++ G) := H347.freezeD
     refine zd q q c21 (w_spec_HouseDo w343 _ v333 x18.1 hR1 v336 x18.2.1 hS2 v337 x18.2.2.1 hS3 x18.2.2.2.1 v338 x18.2.2.2.2 hR0 x32.1 x32.2.1 x32.2.2.1 x32.2.2.2 x38 hx39 H348.ctx) (by rfl) ?_
     rintro _ w349 ⟨v351, v352, v353, v354, rfl, H350⟩; refine ⟨_, q, ?_⟩
     have H355 := H348.cN4 [] H350
     refine XN H355.chg <| XQ (i := 5) q (by kernel_rfl) q H355.chg q (fun _ => qt_move q) q q <| XQ (i := 6) q (by kernel_rfl) q H355.chg q (fun _ => zv q q) q q <| XQ (i := 7) q (by kernel_rfl) q H355.chg q (fun _ => zv q q) q q <| X1 8 (by kernel_rfl) q ?_
     refine zq (cs := [nS, nS, nS, iV 0, nS]) H355 z31 q q q (fun b356 w357 H358 => ?_)
     refine XN H358.chg <| X1 9 (by kernel_rfl) q ?_
     refine zl (cs' := [v351, v352, v353, iV x38.1.2.2.2.1, v354]) H358 q il31 q (T (H358.ctx.sliceOne hS1) (T (H358.ctx.sliceOne hS2) (T (H358.ctx.sliceOne hS3) (T q (T (H358.ctx.sliceOne hS4) q))))) q q q (fun w360 H361 => ?_)
     refine XN H361.chg ?_
     have H363 : Holds _ w w360 [.bx b356 31 [v351, v352, v353, iV x38.1.2.2.2.1, v354], .sl 115 ty10 v351 x38.1.1, .sl 3 tI v352 x38.1.2.1, .sl 3 tI v353 x38.1.2.2.1, .sl 89 ty12 v354 x38.1.2.2.2.2, .ro ty12 v338 x18.2.2.2.2, .ro ty10 v333 x18.1, .sl 3 tI v336 x18.2.1, .sl 3 tI v337 x18.2.2.1, .bx b5 46 [iV p1_0, iV p1_1, iV p1_2, iV p1_3], .bx b1 26 [A0, A1, A2, iV B3, A4]] G := H219.calledN (Rs := []) H361
     refine X1 10 (by kernel_rfl) q <| qA q q q <| XE q ?_
     refine XC_done (by kernel_rfl) (fun a ha => ?_)
     have H364 := H363.q5.q5.q5.q5.p4.p4.p4.p4.p4.p5.p6
     exact ⟨b356, v351, v352, v353, v354, ha.sub ⟨q, q, q, q, trivial⟩, H364⟩
    refine XC_do q ?_
    refine zq (cs := [nS, nS, nS, iV 0, nS]) H345 z31 q q q (fun b365 w366 H367 => ?_)
    refine XN H367.chg <| X1 4 (by kernel_rfl) q ?_
    have H369 := H367.p1
    have H370 : Holds _ w217 w366 [.ro ty10 v333 x18.1, .bx b365 31 [nS, nS, nS, iV 0, nS], .sl 3 tI v336 x18.2.1, .sl 3 tI v337 x18.2.2.1, dpR 89 dt14 v338 cs339 x18.2.2.2.2 F340] ([.bx b5 46 [iV p1_0, iV p1_1, iV p1_2, iV p1_3], .bx b1 26 [A0, A1, A2, iV B3, A4]] ++ G) := H369.freezeD
    have H371 := H370.p4
    have H372 : Holds _ w217 w366 [.ro ty12 v338 x18.2.2.2.2, .ro ty10 v333 x18.1, .bx b365 31 [nS, nS, nS, iV 0, nS], .sl 3 tI v336 x18.2.1, .sl 3 tI v337 x18.2.2.1] ([.bx b5 46 [iV p1_0, iV p1_1, iV p1_2, iV p1_3], .bx b1 26 [A0, A1, A2, iV B3, A4]] ++ G) := H371.freezeD
    refine zd q q c21 (w_spec_HouseDo w366 _ v333 x18.1 hR1 v336 x18.2.1 hS3 v337 x18.2.2.1 hS4 x18.2.2.2.1 v338 x18.2.2.2.2 hR0 x32.1 x32.2.1 x32.2.2.1 x32.2.2.2 x38 hx39 H372.ctx) (by rfl) ?_
    rintro _ w373 ⟨v375, v376, v377, v378, rfl, H374⟩; refine ⟨_, q, ?_⟩
    have H379 := H372.cN4 [] H374
    refine XN H379.chg <| XQ (i := 5) q (by kernel_rfl) q H379.chg q (fun _ => qt_move q) q q <| XQ (i := 6) q (by kernel_rfl) q H379.chg q (fun _ => zv q q) q q <| XQ (i := 7) q (by kernel_rfl) q H379.chg q (fun _ => zv q q) q q <| X1 9 (by kernel_rfl) q ?_
    have H380 := H379.p6
    refine zl (cs' := [v375, v376, v377, iV x38.1.2.2.2.1, v378]) H380 q il31 q (T (H380.ctx.sliceOne hS1) (T (H380.ctx.sliceOne hS2) (T (H380.ctx.sliceOne hS3) (T q (T (H380.ctx.sliceOne hS4) q))))) q q q (fun w381 H382 => ?_)
    refine XN H382.chg ?_
    have H384 : Holds _ w w381 [.bx b365 31 [v375, v376, v377, iV x38.1.2.2.2.1, v378], .sl 115 ty10 v375 x38.1.1, .sl 3 tI v376 x38.1.2.1, .sl 3 tI v377 x38.1.2.2.1, .sl 89 ty12 v378 x38.1.2.2.2.2, .ro ty12 v338 x18.2.2.2.2, .ro ty10 v333 x18.1, .sl 3 tI v336 x18.2.1, .sl 3 tI v337 x18.2.2.1, .bx b5 46 [iV p1_0, iV p1_1, iV p1_2, iV p1_3], .bx b1 26 [A0, A1, A2, iV B3, A4]] G := H219.calledN (Rs := []) H382
    refine X1 10 (by kernel_rfl) q <| qA q q q <| XE q ?_
    refine XC_done (by kernel_rfl) (fun a ha => ?_)
    have H385 := H384.q5.q5.q5.q5.p4.p4.p4.p4.p4.p5.p6
    exact ⟨b365, v375, v376, v377, v378, ha.sub ⟨q, q, q, q, trivial⟩, H385⟩
   refine XC_do q ?_
   refine zq (cs := [nS, nS, nS, iV 0, nS]) H341 z31 q q q (fun b386 w387 H388 => ?_)
   refine XN H388.chg <| X1 3 (by kernel_rfl) q ?_
   have V390 := H388.viewG (Vw.c (Vw.d (Vw.c (Vw.c (Vw.d Vw.refl)))))
   refine zd q q c22 (w_laws_toHouseDeed w387 _ p1_0 p1_1 p1_2 p1_3 x32 hx33 V390) (by rfl) ?_
   rintro _ w391 ⟨rfl, H392⟩; refine ⟨_, q, ?_⟩
   have H393 := H388.cV0 [] H392 all_nil
   refine XN H393.chg <| X1 4 (by kernel_rfl) q ?_
   have H394 := H393.p1
   have H395 : Holds _ w217 w391 [.ro ty10 v333 x18.1, .bx b386 31 [nS, nS, nS, iV 0, nS], .sl 3 tI v336 x18.2.1, .sl 3 tI v337 x18.2.2.1, dpR 89 dt14 v338 cs339 x18.2.2.2.2 F340] ([.bx b5 46 [iV p1_0, iV p1_1, iV p1_2, iV p1_3], .bx b1 26 [A0, A1, A2, iV B3, A4]] ++ G) := H394.freezeD
   have H396 := H395.p4
   have H397 : Holds _ w217 w391 [.ro ty12 v338 x18.2.2.2.2, .ro ty10 v333 x18.1, .bx b386 31 [nS, nS, nS, iV 0, nS], .sl 3 tI v336 x18.2.1, .sl 3 tI v337 x18.2.2.1] ([.bx b5 46 [iV p1_0, iV p1_1, iV p1_2, iV p1_3], .bx b1 26 [A0, A1, A2, iV B3, A4]] ++ G) := H396.freezeD
   refine zd q q c21 (w_spec_HouseDo w391 _ v333 x18.1 hR1 v336 x18.2.1 hS3 v337 x18.2.2.1 hS4 x18.2.2.2.1 v338 x18.2.2.2.2 hR0 x32.1 x32.2.1 x32.2.2.1 x32.2.2.2 x38 hx39 H397.ctx) (by rfl) ?_
   rintro _ w398 ⟨v400, v401, v402, v403, rfl, H399⟩; refine ⟨_, q, ?_⟩
   have H404 := H397.cN4 [] H399
   refine XN H404.chg <| XQ (i := 5) q (by kernel_rfl) q H404.chg q (fun _ => qt_move q) q q <| XQ (i := 6) q (by kernel_rfl) q H404.chg q (fun _ => zv q q) q q <| XQ (i := 7) q (by kernel_rfl) q H404.chg q (fun _ => zv q q) q q <| X1 9 (by kernel_rfl) q ?_
   have H405 := H404.p6
   refine zl (cs' := [v400, v401, v402, iV x38.1.2.2.2.1, v403]) H405 q il31 q (T (H405.ctx.sliceOne hS1) (T (H405.ctx.sliceOne hS2) (T (H405.ctx.sliceOne hS3) (T q (T (H405.ctx.sliceOne hS4) q))))) q q q (fun w406 H407 => ?_)
   refine XN H407.chg ?_
   have H409 : Holds _ w w406 [.bx b386 31 [v400, v401, v402, iV x38.1.2.2.2.1, v403], .sl 115 ty10 v400 x38.1.1, .sl 3 tI v401 x38.1.2.1, .sl 3 tI v402 x38.1.2.2.1, .sl 89 ty12 v403 x38.1.2.2.2.2, .ro ty12 v338 x18.2.2.2.2, .ro ty10 v333 x18.1, .sl 3 tI v336 x18.2.1, .sl 3 tI v337 x18.2.2.1, .bx b5 46 [iV p1_0, iV p1_1, iV p1_2, iV p1_3], .bx b1 26 [A0, A1, A2, iV B3, A4]] G := H219.calledN (Rs := []) H407
   refine X1 10 (by kernel_rfl) q <| qA q q q <| XE q ?_
   refine XC_done (by kernel_rfl) (fun a ha => ?_)
   have H410 := H409.q5.q5.q5.q5.p4.p4.p4.p4.p4.p5.p6
   exact ⟨b386, v400, v401, v402, v403, ha.sub ⟨q, q, q, q, trivial⟩, H410⟩
  refine XC_do q ?_
  refine zq (cs := [nS, nS, nS, iV 0, nS]) H221 z31 q q q (fun b411 w412 H413 => ?_)
  refine XN H413.chg <| X1 1 (by kernel_rfl) q <| zd q q c9 (w_laws_toHouse w412 _ A0 B0 (C0.c.c.c) A1 B1 (C1.c.c.c) A2 B2 (C2.c.c.c) B3 A4 B4 (C4.c.c.c) x18 hx19 H413.ctx) (by rfl) ?_
  rintro _ w415 ⟨v417, cs418, F419, v420, v421, v422, cs423, F424, rfl, H416⟩; refine ⟨_, q, ?_⟩
  have H425 := H413.cN4 [] H416
  refine XN H425.chg <| X1 3 (by kernel_rfl) q ?_
  have V426 := H425.viewG (Vw.d (Vw.c (Vw.c (Vw.d (Vw.c Vw.refl)))))
  refine zd q q c22 (w_laws_toHouseDeed w415 _ p1_0 p1_1 p1_2 p1_3 x32 hx33 V426) (by rfl) ?_
  rintro _ w427 ⟨rfl, H428⟩; refine ⟨_, q, ?_⟩
  have H429 := H425.cV0 [] H428 all_nil
  refine XN H429.chg <| X1 4 (by kernel_rfl) q ?_
  have H430 : Holds _ w217 w427 [.ro ty10 v417 x18.1, .sl 3 tI v420 x18.2.1, .sl 3 tI v421 x18.2.2.1, dpR 89 dt14 v422 cs423 x18.2.2.2.2 F424, .bx b411 31 [nS, nS, nS, iV 0, nS]] ([.bx b5 46 [iV p1_0, iV p1_1, iV p1_2, iV p1_3], .bx b1 26 [A0, A1, A2, iV B3, A4]] ++ G) := H429.freezeD
  have H431 := H430.p3
  have H432 : Holds _ w217 w427 [.ro ty12 v422 x18.2.2.2.2, .ro ty10 v417 x18.1, .sl 3 tI v420 x18.2.1, .sl 3 tI v421 x18.2.2.1, .bx b411 31 [nS, nS, nS, iV 0, nS]] ([.bx b5 46 [iV p1_0, iV p1_1, iV p1_2, iV p1_3], .bx b1 26 [A0, A1, A2, iV B3, A4]] ++ G) := H431.freezeD
  refine zd q q c21 (w_spec_HouseDo w427 _ v417 x18.1 hR1 v420 x18.2.1 hS2 v421 x18.2.2.1 hS3 x18.2.2.2.1 v422 x18.2.2.2.2 hR0 x32.1 x32.2.1 x32.2.2.1 x32.2.2.2 x38 hx39 H432.ctx) (by rfl) ?_
  rintro _ w433 ⟨v435, v436, v437, v438, rfl, H434⟩; refine ⟨_, q, ?_⟩
  have H439 := H432.cN4 [] H434
  refine XN H439.chg <| XQ (i := 5) q (by kernel_rfl) q H439.chg q (fun _ => qt_move q) q q <| XQ (i := 6) q (by kernel_rfl) q H439.chg q (fun _ => zv q q) q q <| XQ (i := 7) q (by kernel_rfl) q H439.chg q (fun _ => zv q q) q q <| X1 9 (by kernel_rfl) q ?_
  have H440 := H439.p8
  refine zl (cs' := [v435, v436, v437, iV x38.1.2.2.2.1, v438]) H440 q il31 q (T (H440.ctx.sliceOne hS1) (T (H440.ctx.sliceOne hS2) (T (H440.ctx.sliceOne hS3) (T q (T (H440.ctx.sliceOne hS4) q))))) q q q (fun w441 H442 => ?_)
  refine XN H442.chg ?_
  have H444 : Holds _ w w441 [.bx b411 31 [v435, v436, v437, iV x38.1.2.2.2.1, v438], .sl 115 ty10 v435 x38.1.1, .sl 3 tI v436 x38.1.2.1, .sl 3 tI v437 x38.1.2.2.1, .sl 89 ty12 v438 x38.1.2.2.2.2, .ro ty12 v422 x18.2.2.2.2, .ro ty10 v417 x18.1, .sl 3 tI v420 x18.2.1, .sl 3 tI v421 x18.2.2.1, .bx b5 46 [iV p1_0, iV p1_1, iV p1_2, iV p1_3], .bx b1 26 [A0, A1, A2, iV B3, A4]] G := H219.calledN (Rs := []) H442
  refine X1 10 (by kernel_rfl) q <| qA q q q <| XE q ?_
  refine XC_done (by kernel_rfl) (fun a ha => ?_)
  have H445 := H444.q5.q5.q5.q5.p4.p4.p4.p4.p4.p5.p6
  exact ⟨b411, v435, v436, v437, v438, ha.sub ⟨q, q, q, q, trivial⟩, H445⟩
 intro a w446 hI447
 obtain ⟨bz16_0, vz16_1, vz16_2, vz16_3, vz16_4, ha, H448⟩ := hI447
 refine S ?_ ha
 clear ha
 refine C <| Z ?_
 have hB449 := R H448.p0
 refine zm (cs := [A0, A1, A2, iV B3, A4]) us26 uo26 il26 hB449 q q q ?_
 change XL _ _ _ _ _ ((29, .agg #[A0, A1, A2, iV B3, A4]) :: _) _
 obtain ⟨x450, hx451, h⟩ := D h
 refine zd q q c9 (w_laws_toHouse w446 _ A0 B0 (C0.c.c.c.c.c.c.c) A1 B1 (C1.c.c.c.c.c.c.c) A2 B2 (C2.c.c.c.c.c.c.c) B3 A4 B4 (C4.c.c.c.c.c.c.c) x450 hx451 H448.ctx) (by rfl) ?_
 rintro _ w452 ⟨v454, cs455, F456, v457, v458, v459, cs460, F461, rfl, H453⟩; refine ⟨_, q, ?_⟩
 have H462 := H448.cN4 [] H453
 refine zq (cs := [nS, nS, nS, iV 0, nS]) H462 z31 q q q (fun b463 w464 H465 => ?_)
 have V469 := H465.viewG (Vw.c (Vw.d (Vw.c (Vw.c (Vw.d (Vw.c (Vw.c (Vw.c (Vw.c (Vw.c (Vw.c (Vw.c Vw.refl))))))))))))
 refine zl (cs' := [v454, v457, v458, iV x450.2.2.2.1, v459]) H465 q il31 q (T (V469.sliceOne hR1) (T (V469.sliceOne hS2) (T (V469.sliceOne hS3) (T q (T (V469.sliceOne hR4) q))))) q q q (fun w467 H468 => ?_)
 refine B <| C ?_
 obtain ⟨x473, hx474, h⟩ := D h
 obtain ⟨x479, hx480, h⟩ := D h
 refine WP_join (M := fun a w2 => ∃ bz470_0 vz470_1 csz470_1 Fz470_1 vz470_2 vz470_3 vz470_4 csz470_4 Fz470_4, Fr a 104 [(2, pB b1), (3, pB b5), (6, pB bz16_0), (7, .bool x38.2), (8, pB b463), (9, pB bz470_0), (10, .bool x479.2)] ∧ Holds M0 w w2 [.bx b1 26 [A0, A1, A2, iV B3, A4], .bx b5 46 [iV p1_0, iV p1_1, iV p1_2, iV p1_3], .bx bz16_0 31 [vz16_1, vz16_2, vz16_3, iV x38.1.2.2.2.1, vz16_4], .sl 115 ty10 vz16_1 x38.1.1, .sl 3 tI vz16_2 x38.1.2.1, .sl 3 tI vz16_3 x38.1.2.2.1, .sl 89 ty12 vz16_4 x38.1.2.2.2.2, .bx b463 31 [v454, v457, v458, iV x450.2.2.2.1, v459], dpR 115 dt13 v454 cs455 x450.1 F456, .sl 3 tI v457 x450.2.1, .sl 3 tI v458 x450.2.2.1, dpR 89 dt14 v459 cs460 x450.2.2.2.2 F461, .bx bz470_0 31 [vz470_1, vz470_2, vz470_3, iV x479.1.2.2.2.1, vz470_4], dpR 115 dt13 vz470_1 csz470_1 x479.1.1 Fz470_1, .sl 3 tI vz470_2 x479.1.2.1, .sl 3 tI vz470_3 x479.1.2.2.1, dpR 89 dt14 vz470_4 csz470_4 x479.1.2.2.2.2 Fz470_4] G) ?_ ?_
 ·refine WP_ordersT (fun w1 w2 => Chg M0 w1 w2) 9 (by kernel_rfl) (fun w671 hb672 => ?_)
  have H673 := H468.grow hb672
  have C674 : Ctx w671 ([] ++ ([.bx b463 31 [v454, v457, v458, iV x450.2.2.2.1, v459], .ro ty10 v454 x450.1, .sl 3 tI v457 x450.2.1, .sl 3 tI v458 x450.2.2.1, .ro ty12 v459 x450.2.2.2.2, .bx b1 26 [A0, A1, A2, iV B3, A4], .bx b5 46 [iV p1_0, iV p1_1, iV p1_2, iV p1_3], .bx bz16_0 31 [vz16_1, vz16_2, vz16_3, iV x38.1.2.2.2.1, vz16_4], .sl 115 ty10 vz16_1 x38.1.1, .sl 3 tI vz16_2 x38.1.2.1, .sl 3 tI vz16_3 x38.1.2.2.1, .sl 89 ty12 vz16_4 x38.1.2.2.2.2] ++ G)) := H673.viewG (Vw.c (Vw.d (Vw.c (Vw.c (Vw.d (Vw.c (Vw.c (Vw.c (Vw.c (Vw.c (Vw.c (Vw.c Vw.refl))))))))))))
  have H675 : Holds _ w671 w671 [] ([.bx b463 31 [v454, v457, v458, iV x450.2.2.2.1, v459], .ro ty10 v454 x450.1, .sl 3 tI v457 x450.2.1, .sl 3 tI v458 x450.2.2.1, .ro ty12 v459 x450.2.2.2.2, .bx b1 26 [A0, A1, A2, iV B3, A4], .bx b5 46 [iV p1_0, iV p1_1, iV p1_2, iV p1_3], .bx bz16_0 31 [vz16_1, vz16_2, vz16_3, iV x38.1.2.2.2.1, vz16_4], .sl 115 ty10 vz16_1 x38.1.1, .sl 3 tI vz16_2 x38.1.2.1, .sl 3 tI vz16_3 x38.1.2.2.1, .sl 89 ty12 vz16_4 x38.1.2.2.2.2] ++ G) := zb (Rs := []) C674
  have hB749 := HasB.bx (HasB.hd) H675.ctx
  refine XT (i := 0) q (by kernel_rfl) q H675.chg q (qs_agg (cs := [v454, v457, v458, iV x450.2.2.2.1, v459]) us31 uo31 il31 q (fun j z hj => by rw [Nat.zero_add]; exact hB749.cell hj) H675.chg (Ctx.outB C674 (HasB.hd))) q q ?_
  change XC _ _ _ _ _ _ _ _ ((32, .agg #[v454, v457, v458, iV x450.2.2.2.1, v459]) :: _) _
  have hB750 := HasB.bx (HasB.c (HasB.c (HasB.c (HasB.c (HasB.c (HasB.c (HasB.hd))))))) H675.ctx
  refine XT (i := 1) q (by kernel_rfl) q H675.chg q (qs_agg (cs := [iV p1_0, iV p1_1, iV p1_2, iV p1_3]) us46 uo46 il46 q (fun j z hj => by rw [Nat.zero_add]; exact hB750.cell hj) H675.chg (Ctx.outB C674 (HasB.c (HasB.c (HasB.c (HasB.c (HasB.c (HasB.c (HasB.hd))))))))) q q ?_
  change XC _ _ _ _ _ _ _ _ ((33, .agg #[iV p1_0, iV p1_1, iV p1_2, iV p1_3]) :: _) _
  refine zy [2, 7] (by kernel_rfl) (by simp) (allc ?_ (allc ?_ alln))
  ·refine XC_do q ?_
   refine zd q q c22 (w_laws_toHouseDeed w671 _ p1_0 p1_1 p1_2 p1_3 x473 hx474 H675.ctx) (by rfl) ?_
   rintro _ w751 ⟨rfl, H752⟩; refine ⟨_, q, ?_⟩
   have H753 := H675.cN0 [] H752
   refine XN H753.chg ?_
   refine zy [3, 7] (by kernel_rfl) (by simp) (allc ?_ (allc ?_ alln))
   ·refine XC_do q ?_
    refine zd q q c23 (w_impl_HouseDo w751 _ hGl.c.c.c.c.c.c.c.c.c.c.c.c v454 x450.1 hR1 v457 x450.2.1 hS2 v458 x450.2.2.1 hS3 x450.2.2.2.1 v459 x450.2.2.2.2 hR4 x473.1 x473.2.1 x473.2.2.1 x473.2.2.2 x479 hx480 H753.ctx) (by rfl) ?_
    rintro _ w754 ⟨v756, cs757, F758, v759, v760, v761, cs762, F763, rfl, H755⟩; refine ⟨_, q, ?_⟩
    have H764 := H753.cN4 [] H755
    refine XN H764.chg <| XQ (i := 4) q (by kernel_rfl) q H764.chg q (fun _ => qt_move q) q q <| XQ (i := 5) q (by kernel_rfl) q H764.chg q (fun _ => zv q q) q q <| XQ (i := 6) q (by kernel_rfl) q H764.chg q (fun _ => zv q q) q q <| X1 7 (by kernel_rfl) q ?_
    refine zq (cs := [nS, nS, nS, iV 0, nS]) H764 z31 q q q (fun b765 w766 H767 => ?_)
    refine XN H767.chg <| X1 8 (by kernel_rfl) q ?_
    have V771 := H767.viewG (Vw.c (Vw.d (Vw.c (Vw.c (Vw.d Vw.refl)))))
    refine zl (cs' := [v756, v759, v760, iV x479.1.2.2.2.1, v761]) H767 q il31 q (T (V771.sliceOne hR1) (T (V771.sliceOne hS2) (T (V771.sliceOne hS3) (T q (T (V771.sliceOne hR4) q))))) q q q (fun w769 H770 => ?_)
    refine XN H770.chg ?_
    have H773 := H673.cV5 [] H770 (zc Pure.bx (zc Pure.dp (zc (Pure.sl q) (zc (Pure.sl q) (zc Pure.dp all_nil)))))
    refine X1 9 (by kernel_rfl) q <| qA q q q <| XE q ?_
    refine XC_done (by kernel_rfl) (fun a ha => ?_)
    have H774 := H773.p4.p4.p4.p4.p4.p9.p9.p9.p9.p9.p16.p16.p16.p16.p16.p16.p16
    exact ⟨b765, v756, cs757, F758, v759, v760, v761, cs762, F763, ha.sub ⟨q, q, q, q, q, q, q, trivial⟩, H774⟩
   refine XC_do q ?_
   refine zq (cs := [nS, nS, nS, iV 0, nS]) H753 z31 q q q (fun b775 w776 H777 => ?_)
   refine XN H777.chg <| X1 3 (by kernel_rfl) q <| zd q q c23 (w_impl_HouseDo w776 _ hGl.c.c.c.c.c.c.c.c.c.c.c.c.c v454 x450.1 hR2 v457 x450.2.1 hS3 v458 x450.2.2.1 hS4 x450.2.2.2.1 v459 x450.2.2.2.2 hR5 x473.1 x473.2.1 x473.2.2.1 x473.2.2.2 x479 hx480 H777.ctx) (by rfl) ?_
   rintro _ w779 ⟨v781, cs782, F783, v784, v785, v786, cs787, F788, rfl, H780⟩; refine ⟨_, q, ?_⟩
   have H789 := H777.cN4 [] H780
   refine XN H789.chg <| XQ (i := 4) q (by kernel_rfl) q H789.chg q (fun _ => qt_move q) q q <| XQ (i := 5) q (by kernel_rfl) q H789.chg q (fun _ => zv q q) q q <| XQ (i := 6) q (by kernel_rfl) q H789.chg q (fun _ => zv q q) q q <| X1 8 (by kernel_rfl) q ?_
   have H790 := H789.p4
   have V793 := H790.viewG (Vw.c (Vw.d (Vw.c (Vw.c (Vw.d Vw.refl)))))
   refine zl (cs' := [v781, v784, v785, iV x479.1.2.2.2.1, v786]) H790 q il31 q (T (V793.sliceOne hR1) (T (V793.sliceOne hS2) (T (V793.sliceOne hS3) (T q (T (V793.sliceOne hR4) q))))) q q q (fun w791 H792 => ?_)
   refine XN H792.chg ?_
   have H795 := H673.cV5 [] H792 (zc Pure.bx (zc Pure.dp (zc (Pure.sl q) (zc (Pure.sl q) (zc Pure.dp all_nil)))))
   refine X1 9 (by kernel_rfl) q <| qA q q q <| XE q ?_
   refine XC_done (by kernel_rfl) (fun a ha => ?_)
   have H796 := H795.p4.p4.p4.p4.p4.p9.p9.p9.p9.p9.p16.p16.p16.p16.p16.p16.p16
   exact ⟨b775, v781, cs782, F783, v784, v785, v786, cs787, F788, ha.sub ⟨q, q, q, q, q, q, q, trivial⟩, H796⟩
  refine XC_do q ?_
  refine zq (cs := [nS, nS, nS, iV 0, nS]) H675 z31 q q q (fun b797 w798 H799 => ?_)
  refine XN H799.chg <| X1 2 (by kernel_rfl) q <| zd q q c22 (w_laws_toHouseDeed w798 _ p1_0 p1_1 p1_2 p1_3 x473 hx474 H799.ctx) (by rfl) ?_
  rintro _ w801 ⟨rfl, H802⟩; refine ⟨_, q, ?_⟩
  have H803 := H799.cN0 [] H802
  refine XN H803.chg <| X1 3 (by kernel_rfl) q <| zd q q c23 (w_impl_HouseDo w801 _ hGl.c.c.c.c.c.c.c.c.c.c.c.c.c v454 x450.1 hR2 v457 x450.2.1 hS3 v458 x450.2.2.1 hS4 x450.2.2.2.1 v459 x450.2.2.2.2 hR5 x473.1 x473.2.1 x473.2.2.1 x473.2.2.2 x479 hx480 H803.ctx) (by rfl) ?_
  rintro _ w804 ⟨v806, cs807, F808, v809, v810, v811, cs812, F813, rfl, H805⟩; refine ⟨_, q, ?_⟩
  have H814 := H803.cN4 [] H805
  refine XN H814.chg <| XQ (i := 4) q (by kernel_rfl) q H814.chg q (fun _ => qt_move q) q q <| XQ (i := 5) q (by kernel_rfl) q H814.chg q (fun _ => zv q q) q q <| XQ (i := 6) q (by kernel_rfl) q H814.chg q (fun _ => zv q q) q q <| X1 8 (by kernel_rfl) q ?_
  have H815 := H814.p4
  have V818 := H815.viewG (Vw.c (Vw.d (Vw.c (Vw.c (Vw.d Vw.refl)))))
  refine zl (cs' := [v806, v809, v810, iV x479.1.2.2.2.1, v811]) H815 q il31 q (T (V818.sliceOne hR1) (T (V818.sliceOne hS2) (T (V818.sliceOne hS3) (T q (T (V818.sliceOne hR4) q))))) q q q (fun w816 H817 => ?_)
  refine XN H817.chg ?_
  have H820 := H673.cV5 [] H817 (zc Pure.bx (zc Pure.dp (zc (Pure.sl q) (zc (Pure.sl q) (zc Pure.dp all_nil)))))
  refine X1 9 (by kernel_rfl) q <| qA q q q <| XE q ?_
  refine XC_done (by kernel_rfl) (fun a ha => ?_)
  have H821 := H820.p4.p4.p4.p4.p4.p9.p9.p9.p9.p9.p16.p16.p16.p16.p16.p16.p16
  exact ⟨b797, v806, cs807, F808, v809, v810, v811, cs812, F813, ha.sub ⟨q, q, q, q, q, q, q, trivial⟩, H821⟩
 intro a w822 hI823
 obtain ⟨bz470_0, vz470_1, csz470_1, Fz470_1, vz470_2, vz470_3, vz470_4, csz470_4, Fz470_4, ha, H824⟩ := hI823
 refine S ?_ ha
 clear ha
 refine C <| C <| zk ?_
 have hB825 := R H824.p12
 refine zm (cs := [vz470_1, vz470_2, vz470_3, iV x479.1.2.2.2.1, vz470_4]) us31 uo31 il31 hB825 q q q ?_
 change XL _ _ _ _ _ ((38, .agg #[vz470_1, vz470_2, vz470_3, iV x479.1.2.2.2.1, vz470_4]) :: _) _
 have hB826 := R H824.p2
 refine zm (cs := [vz16_1, vz16_2, vz16_3, iV x38.1.2.2.2.1, vz16_4]) us31 uo31 il31 hB826 q q q ?_
 change XL _ _ _ _ _ ((39, .agg #[vz16_1, vz16_2, vz16_3, iV x38.1.2.2.2.1, vz16_4]) :: _) _
 obtain ⟨x827, hx828, h⟩ := D h
 refine QC q q c11 (fun w' hb => w_laws_eqHouse w' _ vz470_1 x479.1.1 hR13 vz470_2 x479.1.2.1 hS14 vz470_3 x479.1.2.2.1 hS15 x479.1.2.2.2.1 vz470_4 x479.1.2.2.2.2 hR16 vz16_1 x38.1.1 hS3 vz16_2 x38.1.2.1 hS4 vz16_3 x38.1.2.2.1 hS5 x38.1.2.2.2.1 vz16_4 x38.1.2.2.2.2 hS6 x827 hx828 ((H824.grow hb).viewG (Vw.c (Vw.c (Vw.c (Vw.c (Vw.c (Vw.c (Vw.c (Vw.c (Vw.d (Vw.c (Vw.c (Vw.d (Vw.c (Vw.d (Vw.c (Vw.c (Vw.d Vw.refl))))))))))))))))))) (by rfl) <| A q (qt_not q) q q <| qM q q q ?_
 refine zh 4 46 (.bool ((!x827) || (!(x479.2 == x38.2)))) ?_ (fun md hmd hk => ?_)
 rotate_left
 ·obtain ⟨K, rfl⟩ := zr hmd
  rcases btf (!x827) with hc829 | hc829
  ·skip
   refine qS q hc829 q q <| qS q hc829 q q <| qS q hc829 q q <| A q (ze q hc829 q) q q ?_
   exact hk _ (p (by rw [hc829]; rfl) (cfn 3 q (u)))
  skip
  refine qM (J q hc829) q q <| qM (J q hc829) q q <| A (J q hc829) (qt_bneq u4 q q) q q <| A q (zf q hc829 q) q q ?_
  exact hk _ (p (by rw [hc829]; rfl) (cfn 3 q (u)))
 refine QL_nil fun a ha w830 hb831 => ?_
 have H832 := H824.grow hb831
 refine X (S ?_ ha)
 refine Y q (fun hc833 => ?_) (fun hc833 => ?_)
 ·have h := if_t hc833 h
  refine rR <| qA q q q <| B <| W fun a ha => ?_
  obtain rfl := L h
  have H834 := H832.q0.q0.q0.q0.q0.q0.q0.q0.q0.q0.q0.q0.q0.q0.q0.q0.q0
  exact m (ret1 q ha q ⟨q, H834⟩)
 have h := if_f hc833 h
 refine y <| C <| C ?_
 obtain ⟨x837, hx838, h⟩ := D h
 obtain ⟨x851, hx852, h⟩ := D h
 refine WP_join (M := fun a w2 => (Fr a 104 [(2, pB b1), (3, pB b5), (6, pB bz16_0), (7, .bool x38.2), (8, pB b463), (9, pB bz470_0), (10, .bool x479.2), (51, .bool (!x851))] ∧ Holds M0 w w2 [.bx b1 26 [A0, A1, A2, iV B3, A4], .bx b5 46 [iV p1_0, iV p1_1, iV p1_2, iV p1_3], .bx bz16_0 31 [vz16_1, vz16_2, vz16_3, iV x38.1.2.2.2.1, vz16_4], .sl 115 ty10 vz16_1 x38.1.1, .sl 3 tI vz16_2 x38.1.2.1, .sl 3 tI vz16_3 x38.1.2.2.1, .sl 89 ty12 vz16_4 x38.1.2.2.2.2, .bx b463 31 [v454, v457, v458, iV x450.2.2.2.1, v459], dpR 115 dt13 v454 cs455 x450.1 F456, .sl 3 tI v457 x450.2.1, .sl 3 tI v458 x450.2.2.1, dpR 89 dt14 v459 cs460 x450.2.2.2.2 F461, .bx bz470_0 31 [vz470_1, vz470_2, vz470_3, iV x479.1.2.2.2.1, vz470_4], dpR 115 dt13 vz470_1 csz470_1 x479.1.1 Fz470_1, .sl 3 tI vz470_2 x479.1.2.1, .sl 3 tI vz470_3 x479.1.2.2.1, dpR 89 dt14 vz470_4 csz470_4 x479.1.2.2.2.2 Fz470_4] G)) ?_ ?_
 ·refine WP_ordersT (fun w1 w2 => Chg M0 w1 w2) 5 (by kernel_rfl) (fun w1035 hb1036 => ?_)
  have H1037 := H832.grow hb1036
  have C1038 : Ctx w1035 ([] ++ ([.bx b1 26 [A0, A1, A2, iV B3, A4], .bx b5 46 [iV p1_0, iV p1_1, iV p1_2, iV p1_3], .bx bz16_0 31 [vz16_1, vz16_2, vz16_3, iV x38.1.2.2.2.1, vz16_4], .sl 115 ty10 vz16_1 x38.1.1, .sl 3 tI vz16_2 x38.1.2.1, .sl 3 tI vz16_3 x38.1.2.2.1, .sl 89 ty12 vz16_4 x38.1.2.2.2.2, .bx b463 31 [v454, v457, v458, iV x450.2.2.2.1, v459], .ro ty10 v454 x450.1, .sl 3 tI v457 x450.2.1, .sl 3 tI v458 x450.2.2.1, .ro ty12 v459 x450.2.2.2.2, .bx bz470_0 31 [vz470_1, vz470_2, vz470_3, iV x479.1.2.2.2.1, vz470_4], .ro ty10 vz470_1 x479.1.1, .sl 3 tI vz470_2 x479.1.2.1, .sl 3 tI vz470_3 x479.1.2.2.1, .ro ty12 vz470_4 x479.1.2.2.2.2] ++ G)) := H1037.viewG (Vw.c (Vw.c (Vw.c (Vw.c (Vw.c (Vw.c (Vw.c (Vw.c (Vw.d (Vw.c (Vw.c (Vw.d (Vw.c (Vw.d (Vw.c (Vw.c (Vw.d Vw.refl)))))))))))))))))
  have H1039 : Holds _ w1035 w1035 [] ([.bx b1 26 [A0, A1, A2, iV B3, A4], .bx b5 46 [iV p1_0, iV p1_1, iV p1_2, iV p1_3], .bx bz16_0 31 [vz16_1, vz16_2, vz16_3, iV x38.1.2.2.2.1, vz16_4], .sl 115 ty10 vz16_1 x38.1.1, .sl 3 tI vz16_2 x38.1.2.1, .sl 3 tI vz16_3 x38.1.2.2.1, .sl 89 ty12 vz16_4 x38.1.2.2.2.2, .bx b463 31 [v454, v457, v458, iV x450.2.2.2.1, v459], .ro ty10 v454 x450.1, .sl 3 tI v457 x450.2.1, .sl 3 tI v458 x450.2.2.1, .ro ty12 v459 x450.2.2.2.2, .bx bz470_0 31 [vz470_1, vz470_2, vz470_3, iV x479.1.2.2.2.1, vz470_4], .ro ty10 vz470_1 x479.1.1, .sl 3 tI vz470_2 x479.1.2.1, .sl 3 tI vz470_3 x479.1.2.2.1, .ro ty12 vz470_4 x479.1.2.2.2.2] ++ G) := zb (Rs := []) C1038
  have hB1075 := HasB.bx (HasB.c (HasB.c (HasB.c (HasB.c (HasB.c (HasB.c (HasB.c (HasB.hd)))))))) H1039.ctx
  refine XT (i := 0) q (by kernel_rfl) q H1039.chg q (qs_agg (cs := [v454, v457, v458, iV x450.2.2.2.1, v459]) us31 uo31 il31 q (fun j z hj => by rw [Nat.zero_add]; exact hB1075.cell hj) H1039.chg (Ctx.outB C1038 (HasB.c (HasB.c (HasB.c (HasB.c (HasB.c (HasB.c (HasB.c (HasB.hd)))))))))) q q ?_
  change XC _ _ _ _ _ _ _ _ ((47, .agg #[v454, v457, v458, iV x450.2.2.2.1, v459]) :: _) _
  have hB1076 := HasB.bx (HasB.hd) H1039.ctx
  refine XT (i := 1) q (by kernel_rfl) q H1039.chg q (qs_agg (cs := [A0, A1, A2, iV B3, A4]) us26 uo26 il26 q (fun j z hj => by rw [Nat.zero_add]; exact hB1076.cell hj) H1039.chg (Ctx.outB C1038 (HasB.hd))) q q ?_
  change XC _ _ _ _ _ _ _ _ ((48, .agg #[A0, A1, A2, iV B3, A4]) :: _) _
  refine X1 2 (by kernel_rfl) q <| zd q q c9 (w_laws_toHouse w1035 _ A0 B0 (C0.c.c.c.c.c.c.c.c.c.c.c.c.c.c.c.c.c) A1 B1 (C1.c.c.c.c.c.c.c.c.c.c.c.c.c.c.c.c.c) A2 B2 (C2.c.c.c.c.c.c.c.c.c.c.c.c.c.c.c.c.c) B3 A4 B4 (C4.c.c.c.c.c.c.c.c.c.c.c.c.c.c.c.c.c) x837 hx838 H1039.ctx) (by rfl) ?_
  rintro _ w1077 ⟨v1079, cs1080, F1081, v1082, v1083, v1084, cs1085, F1086, rfl, H1078⟩; refine ⟨_, q, ?_⟩
  have H1087 := H1039.cN4 [] H1078
  refine XN H1087.chg <| X1 3 (by kernel_rfl) q ?_
  have V1088 := H1087.viewG (Vw.d (Vw.c (Vw.c (Vw.d Vw.refl))))
  refine zd q q c11 (w_laws_eqHouse w1077 _ v454 x450.1 hR12 v457 x450.2.1 hS13 v458 x450.2.2.1 hS14 x450.2.2.2.1 v459 x450.2.2.2.2 hR15 v1079 x837.1 hR0 v1082 x837.2.1 hS1 v1083 x837.2.2.1 hS2 x837.2.2.2.1 v1084 x837.2.2.2.2 hR3 x851 hx852 V1088) (by rfl) ?_
  rintro _ w1089 ⟨rfl, H1090⟩; refine ⟨_, q, ?_⟩
  have H1091 := H1087.cV0 [] H1090 all_nil
  refine XN H1091.chg <| XQ (i := 4) q (by kernel_rfl) q H1091.chg q (fun _ => qt_not q) q q ?_
  have H1092 := H1037.cV4 [] H1091 (zc Pure.dp (zc (Pure.sl q) (zc (Pure.sl q) (zc Pure.dp all_nil))))
  refine XC_done (by kernel_rfl) (fun a ha => ?_)
  have H1093 := H1092.q0.q0.q0.q0.p16.p16.p16.p16.p16.p16.p16.p16.p16.p16.p16.p16.p16.p16.p16.p16.p16
  exact ⟨ha.sub ⟨q, q, q, q, q, q, q, q, trivial⟩, H1093⟩
 intro a w1094 hI1095
 obtain ⟨ha, H1096⟩ := hI1095
 refine S ?_ ha
 clear ha
 refine Y q (fun hc1097 => ?_) (fun hc1097 => ?_)
 ·have h := if_t hc1097 h
  refine rR <| qA q q q <| B <| W fun a ha => ?_
  obtain rfl := L h
  have H1098 := H1096.q0.q0.q0.q0.q0.q0.q0.q0.q0.q0.q0.q0.q0.q0.q0.q0.q0
  exact m (ret1 q ha q ⟨q, H1098⟩)
 have h := if_f hc1097 h
 refine y <| rR <| qA q q q <| B <| C <| Z ?_
 have hB1099 := R H1096.p7
 refine zm (cs := [v454, v457, v458, iV x450.2.2.2.1, v459]) us31 uo31 il31 hB1099 q q q ?_
 change XL _ _ _ _ _ ((52, .agg #[v454, v457, v458, iV x450.2.2.2.1, v459]) :: _) _
 refine qM q q q ?_
 have H1102 := H1096.p11
 have H1103 := H1102.p11
 have H1104 := H1103.p11
 have H1105 := H1104.p11
 obtain ⟨x1100, hx1101, h⟩ := D h
 have V1106 := H1105.viewG (Vw.c (Vw.c (Vw.c (Vw.c (Vw.c (Vw.c (Vw.c (Vw.c (Vw.c (Vw.c (Vw.c (Vw.c (Vw.c (Vw.d (Vw.c (Vw.c (Vw.d Vw.refl)))))))))))))))))
 refine zd q q c12 (w_laws_markHouse w1094 _ v454 x450.1 cs455 F456 v457 x450.2.1 v458 x450.2.2.1 x450.2.2.2.1 v459 x450.2.2.2.2 cs460 F461 1 x1100 hx1101 V1106) (by rfl) ?_
 rintro _ w1107 ⟨cs1109, F1110, cs1111, F1112, rfl, H1108⟩; refine ⟨_, q, ?_⟩
 have H1113 := H1105.cV4 [_, _, _, _] H1108 (zc Pure.dp (zc (Pure.sl q) (zc (Pure.sl q) (zc Pure.dp all_nil))))
 refine qA q q q <| B <| C <| C <| zk <| qM q q q <| A q (qt_lss q q) q q <| qM q q q ?_
 obtain ⟨b1114, hg1115, h⟩ := D h
 refine zh 5 62 (.bool b1114) ?_ (fun md hmd hk => ?_)
 rotate_left
 ·obtain ⟨K, rfl⟩ := zr hmd
  rcases btf (decide (x1100.2.2.2.2 < 0)) with hc1116 | hc1116
  ·skip
   refine qS q hc1116 q q <| qS q hc1116 q q <| qS q hc1116 q q <| qS q hc1116 q q <| A q (ze q hc1116 q) q q ?_
   exact hk _ (p (vb (if_t hc1116 hg1115)) (cfn 4 q (u)))
  skip
  have hg1115 := if_f hc1116 hg1115
  have hB1117 := R H1113.p12
  refine zm (cs := [vz470_1, vz470_2, vz470_3, iV x479.1.2.2.2.1, vz470_4]) us31 uo31 il31 hB1117 (J q hc1116) q q ?_
  change XL _ _ _ _ _ ((58, .agg #[vz470_1, vz470_2, vz470_3, iV x479.1.2.2.2.1, vz470_4]) :: _) _
  have hB1118 := R H1113.p6
  refine zm (cs := [vz16_1, vz16_2, vz16_3, iV x38.1.2.2.2.1, vz16_4]) us31 uo31 il31 hB1118 (J q hc1116) q q ?_
  change XL _ _ _ _ _ ((59, .agg #[vz16_1, vz16_2, vz16_3, iV x38.1.2.2.2.1, vz16_4]) :: _) _
  obtain ⟨x1119, hx1120, hg1115⟩ := D hg1115
  refine QC (J q hc1116) q c11 (fun w' hb => w_laws_eqHouse w' _ vz470_1 x479.1.1 hR13 vz470_2 x479.1.2.1 hS14 vz470_3 x479.1.2.2.1 hS15 x479.1.2.2.2.1 vz470_4 x479.1.2.2.2.2 hR16 vz16_1 x38.1.1 hS7 vz16_2 x38.1.2.1 hS8 vz16_3 x38.1.2.2.1 hS9 x38.1.2.2.2.1 vz16_4 x38.1.2.2.2.2 hS10 x1119 hx1120 ((H1113.grow hb).viewG (Vw.d (Vw.c (Vw.c (Vw.d (Vw.c (Vw.c (Vw.c (Vw.c (Vw.c (Vw.c (Vw.c (Vw.c (Vw.c (Vw.d (Vw.c (Vw.c (Vw.d Vw.refl))))))))))))))))))) (by rfl) <| A (J q hc1116) (qt_not q) q q <| A q (zf q hc1116 q) q q ?_
  exact hk _ (p (vb hg1115) (cfn 4 q (u)))
 refine qM q q q ?_
 refine zh 4 67 (.bool (b1114 || (!(x479.2 == x38.2)))) ?_ (fun md hmd hk => ?_)
 rotate_left
 ·obtain ⟨K, rfl⟩ := zr hmd
  rcases btf b1114 with hc1121 | hc1121
  ·skip
   refine qS q hc1121 q q <| qS q hc1121 q q <| qS q hc1121 q q <| A q (ze q hc1121 q) q q ?_
   exact hk _ (p (by rw [hc1121]; rfl) (cfn 3 q (u)))
  skip
  refine qM (J q hc1121) q q <| qM (J q hc1121) q q <| A (J q hc1121) (qt_bneq u4 q q) q q <| A q (zf q hc1121 q) q q ?_
  exact hk _ (p (by rw [hc1121]; rfl) (cfn 3 q (u)))
 refine QL_nil fun a ha w1122 hb1123 => ?_
 have H1124 := H1113.grow hb1123
 refine X (S ?_ ha)
 refine Y q (fun hc1125 => ?_) (fun hc1125 => ?_)
 ·have h := if_t hc1125 h
  refine rR <| qA q q q <| B <| W fun a ha => ?_
  obtain rfl := L h
  have H1126 := H1124.q0.q0.q0.q0.q0.q0.q0.q0.q0.q0.q0.q0.q0.q0.q0.q0.q0
  exact m (ret1 q ha q ⟨q, H1126⟩)
 have h := if_f hc1125 h
 refine y <| rR <| qA q q q <| B <| C <| Z ?_
 have hB1127 := R H1124.p12
 refine zm (cs := [vz470_1, vz470_2, vz470_3, iV x479.1.2.2.2.1, vz470_4]) us31 uo31 il31 hB1127 q q q ?_
 change XL _ _ _ _ _ ((68, .agg #[vz470_1, vz470_2, vz470_3, iV x479.1.2.2.2.1, vz470_4]) :: _) _
 refine qM q q q ?_
 have H1130 := H1124.p16
 have H1131 := H1130.p16
 have H1132 := H1131.p16
 have H1133 := H1132.p16
 obtain ⟨x1128, hx1129, h⟩ := D h
 have V1134 := H1133.viewG (Vw.c (Vw.c (Vw.c (Vw.c (Vw.d (Vw.c (Vw.c (Vw.d (Vw.c (Vw.c (Vw.c (Vw.c (Vw.c (Vw.c (Vw.c (Vw.c (Vw.c Vw.refl)))))))))))))))))
 refine zd q q c12 (w_laws_markHouse w1122 _ vz470_1 x479.1.1 csz470_1 Fz470_1 vz470_2 x479.1.2.1 vz470_3 x479.1.2.2.1 x479.1.2.2.2.1 vz470_4 x479.1.2.2.2.2 csz470_4 Fz470_4 1 x1128 hx1129 V1134) (by rfl) ?_
 rintro _ w1135 ⟨cs1137, F1138, cs1139, F1140, rfl, H1136⟩; refine ⟨_, q, ?_⟩
 have H1141 := H1133.cV4 [_, _, _, _] H1136 (zc Pure.dp (zc (Pure.sl q) (zc (Pure.sl q) (zc Pure.dp all_nil))))
 refine qA q q q <| rN <| qA q q q <| B <| C <| zk ?_
 have hB1142 := R H1141.p16
 refine zm (cs := [vz470_1, vz470_2, vz470_3, iV x479.1.2.2.2.1, vz470_4]) us31 uo31 il31 hB1142 q q q ?_
 change XL _ _ _ _ _ ((71, .agg #[vz470_1, vz470_2, vz470_3, iV x479.1.2.2.2.1, vz470_4]) :: _) _
 refine qM q q q ?_
 obtain ⟨x1143, hx1144, h⟩ := D h
 refine QC q q c13 (fun w' hb => w_laws_heldHouse w' _ vz470_1 x1128.1 hR0 vz470_2 x1128.2.1 hS1 vz470_3 x1128.2.2.1 hS2 x479.1.2.2.2.1 vz470_4 x1128.2.2.2.1 hR3 1 x1143 hx1144 ((H1141.grow hb).viewG (Vw.d (Vw.c (Vw.c (Vw.d (Vw.d (Vw.c (Vw.c (Vw.d (Vw.c (Vw.c (Vw.c (Vw.c (Vw.c (Vw.c (Vw.c (Vw.c (Vw.c Vw.refl))))))))))))))))))) (by rfl) <| qA q q q <| QL_nil fun a ha w1145 hb1146 => ?_
 have H1147 := H1141.grow hb1146
 refine X (S ?_ ha)
 refine C <| rR <| qM q q q <| A q (qt_lss q q) q q <| B ?_
 refine Y q (fun hc1148 => ?_) (fun hc1148 => ?_)
 ·have h := if_t hc1148 h
  refine rR <| qA q q q <| B <| W fun a ha => ?_
  obtain rfl := L h
  have H1149 := H1147.q0.q0.q0.q0.q0.q0.q0.q0.q0.q0.q0.q0.q0.q0.q0.q0.q0
  exact m (ret1 q ha q ⟨q, H1149⟩)
 have h := if_f hc1148 h
 refine y <| C <| rR <| qM q q q <| qM q q q <| A q (qt_neq q q) q q <| B ?_
 refine Y q (fun hc1150 => ?_) (fun hc1150 => ?_)
 ·have h := if_t hc1150 h
  refine rR <| qA q q q <| B <| W fun a ha => ?_
  obtain rfl := L h
  have H1151 := H1147.q0.q0.q0.q0.q0.q0.q0.q0.q0.q0.q0.q0.q0.q0.q0.q0.q0
  exact m (ret1 q ha q ⟨q, H1151⟩)
 have h := if_f hc1150 h
 refine y <| C ?_
 obtain ⟨x1153, hx1154, h⟩ := D h
 obtain ⟨x1168, hx1169, h⟩ := D h
 obtain ⟨x1174, hx1175, h⟩ := D h
 refine WP_join (M := fun a w2 => ∃ bz1151_0 vz1151_1 csz1151_1 Fz1151_1 vz1151_2 vz1151_3 vz1151_4 csz1151_4 Fz1151_4, Fr a 104 [(6, pB bz16_0), (7, .bool x38.2), (9, pB bz470_0), (12, iV x1128.2.2.2.2), (14, pB bz1151_0), (15, .bool x1174.2)] ∧ Holds M0 w w2 [.bx bz16_0 31 [vz16_1, vz16_2, vz16_3, iV x38.1.2.2.2.1, vz16_4], .sl 115 ty10 vz16_1 x38.1.1, .sl 3 tI vz16_2 x38.1.2.1, .sl 3 tI vz16_3 x38.1.2.2.1, .sl 89 ty12 vz16_4 x38.1.2.2.2.2, .bx bz470_0 31 [vz470_1, vz470_2, vz470_3, iV x479.1.2.2.2.1, vz470_4], dpR 115 dt13 vz470_1 cs1137 x1128.1 F1138, .sl 3 tI vz470_2 x1128.2.1, .sl 3 tI vz470_3 x1128.2.2.1, dpR 89 dt14 vz470_4 cs1139 x1128.2.2.2.1 F1140, .bx bz1151_0 31 [vz1151_1, vz1151_2, vz1151_3, iV x1174.1.2.2.2.1, vz1151_4], dpR 115 dt13 vz1151_1 csz1151_1 x1174.1.1 Fz1151_1, .sl 3 tI vz1151_2 x1174.1.2.1, .sl 3 tI vz1151_3 x1174.1.2.2.1, dpR 89 dt14 vz1151_4 csz1151_4 x1174.1.2.2.2.2 Fz1151_4] G) ?_ ?_
 ·refine WP_ordersT (fun w1 w2 => Chg M0 w1 w2) 10 (by kernel_rfl) (fun w1352 hb1353 => ?_)
  have H1354 := H1147.grow hb1353
  have C1355 : Ctx w1352 ([] ++ ([.ro ty10 vz470_1 x1128.1, .sl 3 tI vz470_2 x1128.2.1, .sl 3 tI vz470_3 x1128.2.2.1, .ro ty12 vz470_4 x1128.2.2.2.1, .ro ty10 v454 x1100.1, .sl 3 tI v457 x1100.2.1, .sl 3 tI v458 x1100.2.2.1, .ro ty12 v459 x1100.2.2.2.1, .bx b1 26 [A0, A1, A2, iV B3, A4], .bx b5 46 [iV p1_0, iV p1_1, iV p1_2, iV p1_3], .bx bz16_0 31 [vz16_1, vz16_2, vz16_3, iV x38.1.2.2.2.1, vz16_4], .sl 115 ty10 vz16_1 x38.1.1, .sl 3 tI vz16_2 x38.1.2.1, .sl 3 tI vz16_3 x38.1.2.2.1, .sl 89 ty12 vz16_4 x38.1.2.2.2.2, .bx b463 31 [v454, v457, v458, iV x450.2.2.2.1, v459], .bx bz470_0 31 [vz470_1, vz470_2, vz470_3, iV x479.1.2.2.2.1, vz470_4]] ++ G)) := H1354.viewG (Vw.d (Vw.c (Vw.c (Vw.d (Vw.d (Vw.c (Vw.c (Vw.d (Vw.c (Vw.c (Vw.c (Vw.c (Vw.c (Vw.c (Vw.c (Vw.c (Vw.c Vw.refl)))))))))))))))))
  have H1356 : Holds _ w1352 w1352 [] ([.ro ty10 vz470_1 x1128.1, .sl 3 tI vz470_2 x1128.2.1, .sl 3 tI vz470_3 x1128.2.2.1, .ro ty12 vz470_4 x1128.2.2.2.1, .ro ty10 v454 x1100.1, .sl 3 tI v457 x1100.2.1, .sl 3 tI v458 x1100.2.2.1, .ro ty12 v459 x1100.2.2.2.1, .bx b1 26 [A0, A1, A2, iV B3, A4], .bx b5 46 [iV p1_0, iV p1_1, iV p1_2, iV p1_3], .bx bz16_0 31 [vz16_1, vz16_2, vz16_3, iV x38.1.2.2.2.1, vz16_4], .sl 115 ty10 vz16_1 x38.1.1, .sl 3 tI vz16_2 x38.1.2.1, .sl 3 tI vz16_3 x38.1.2.2.1, .sl 89 ty12 vz16_4 x38.1.2.2.2.2, .bx b463 31 [v454, v457, v458, iV x450.2.2.2.1, v459], .bx bz470_0 31 [vz470_1, vz470_2, vz470_3, iV x479.1.2.2.2.1, vz470_4]] ++ G) := zb (Rs := []) C1355
  have hB1472 := HasB.bx (HasB.c (HasB.c (HasB.c (HasB.c (HasB.c (HasB.c (HasB.c (HasB.c (HasB.hd))))))))) H1356.ctx
  refine XT (i := 0) q (by kernel_rfl) q H1356.chg q (qs_agg (cs := [A0, A1, A2, iV B3, A4]) us26 uo26 il26 q (fun j z hj => by rw [Nat.zero_add]; exact hB1472.cell hj) H1356.chg (Ctx.outB C1355 (HasB.c (HasB.c (HasB.c (HasB.c (HasB.c (HasB.c (HasB.c (HasB.c (HasB.hd))))))))))) q q ?_
  change XC _ _ _ _ _ _ _ _ ((80, .agg #[A0, A1, A2, iV B3, A4]) :: _) _
  have hB1473 := HasB.bx (HasB.c (HasB.c (HasB.c (HasB.c (HasB.c (HasB.c (HasB.c (HasB.c (HasB.c (HasB.hd)))))))))) H1356.ctx
  refine XT (i := 2) q (by kernel_rfl) q H1356.chg q (qs_agg (cs := [iV p1_0, iV p1_1, iV p1_2, iV p1_3]) us46 uo46 il46 q (fun j z hj => by rw [Nat.zero_add]; exact hB1473.cell hj) H1356.chg (Ctx.outB C1355 (HasB.c (HasB.c (HasB.c (HasB.c (HasB.c (HasB.c (HasB.c (HasB.c (HasB.c (HasB.hd)))))))))))) q q ?_
  change XC _ _ _ _ _ _ _ _ ((82, .agg #[iV p1_0, iV p1_1, iV p1_2, iV p1_3]) :: _) _
  refine zy [1, 8] (by kernel_rfl) (by simp) (allc ?_ (allc ?_ alln))
  ·refine XC_do q ?_
   refine zd q q c9 (w_laws_toHouse w1352 _ A0 B0 (C0.c.c.c.c.c.c.c.c.c.c.c.c.c.c.c.c.c) A1 B1 (C1.c.c.c.c.c.c.c.c.c.c.c.c.c.c.c.c.c) A2 B2 (C2.c.c.c.c.c.c.c.c.c.c.c.c.c.c.c.c.c) B3 A4 B4 (C4.c.c.c.c.c.c.c.c.c.c.c.c.c.c.c.c.c) x1153 hx1154 H1356.ctx) (by rfl) ?_
   rintro _ w1474 ⟨v1476, cs1477, F1478, v1479, v1480, v1481, cs1482, F1483, rfl, H1475⟩; refine ⟨_, q, ?_⟩
   have H1484 := H1356.cN4 [] H1475
   refine XN H1484.chg ?_
   refine zy [3, 8] (by kernel_rfl) (by simp) (allc ?_ (allc ?_ alln))
   ·refine XC_do q ?_
    have V1485 := H1484.viewG (Vw.d (Vw.c (Vw.c (Vw.d Vw.refl))))
    refine zd q q c22 (w_laws_toHouseDeed w1474 _ p1_0 p1_1 p1_2 p1_3 x1168 hx1169 V1485) (by rfl) ?_
    rintro _ w1486 ⟨rfl, H1487⟩; refine ⟨_, q, ?_⟩
    have H1488 := H1484.cV0 [] H1487 all_nil
    refine XN H1488.chg ?_
    refine zy [4, 8] (by kernel_rfl) (by simp) (allc ?_ (allc ?_ alln))
    ·refine XC_do q ?_
     have V1489 := H1488.viewG (Vw.d (Vw.c (Vw.c (Vw.d Vw.refl))))
     refine zd q q c23 (w_impl_HouseDo w1486 _ hGl.c.c.c.c.c.c.c.c.c.c.c.c.c.c.c.c.c.c.c.c.c v1476 x1153.1 hR0 v1479 x1153.2.1 hS1 v1480 x1153.2.2.1 hS2 x1153.2.2.2.1 v1481 x1153.2.2.2.2 hR3 x1168.1 x1168.2.1 x1168.2.2.1 x1168.2.2.2 x1174 hx1175 V1489) (by rfl) ?_
     rintro _ w1490 ⟨v1492, cs1493, F1494, v1495, v1496, v1497, cs1498, F1499, rfl, H1491⟩; refine ⟨_, q, ?_⟩
     have H1500 := H1488.cV4 [] H1491 (zc Pure.dp (zc (Pure.sl q) (zc (Pure.sl q) (zc Pure.dp all_nil))))
     refine XN H1500.chg <| XQ (i := 5) q (by kernel_rfl) q H1500.chg q (fun _ => qt_move q) q q <| XQ (i := 6) q (by kernel_rfl) q H1500.chg q (fun _ => zv q q) q q <| XQ (i := 7) q (by kernel_rfl) q H1500.chg q (fun _ => zv q q) q q <| X1 8 (by kernel_rfl) q ?_
     refine zq (cs := [nS, nS, nS, iV 0, nS]) H1500 z31 q q q (fun b1501 w1502 H1503 => ?_)
     refine XN H1503.chg <| X1 9 (by kernel_rfl) q ?_
     have V1507 := H1503.viewG (Vw.c (Vw.d (Vw.c (Vw.c (Vw.d (Vw.d (Vw.c (Vw.c (Vw.d Vw.refl)))))))))
     refine zl (cs' := [v1492, v1495, v1496, iV x1174.1.2.2.2.1, v1497]) H1503 q il31 q (T (V1507.sliceOne hR1) (T (V1507.sliceOne hS2) (T (V1507.sliceOne hS3) (T q (T (V1507.sliceOne hR4) q))))) q q q (fun w1505 H1506 => ?_)
     refine XN H1506.chg ?_
     have H1509 : Holds _ w w1505 [.bx b1501 31 [v1492, v1495, v1496, iV x1174.1.2.2.2.1, v1497], dpR 115 dt13 v1492 cs1493 x1174.1.1 F1494, .sl 3 tI v1495 x1174.1.2.1, .sl 3 tI v1496 x1174.1.2.2.1, dpR 89 dt14 v1497 cs1498 x1174.1.2.2.2.2 F1499, dpR 115 dt13 v1476 cs1477 x1153.1 F1478, .sl 3 tI v1479 x1153.2.1, .sl 3 tI v1480 x1153.2.2.1, dpR 89 dt14 v1481 cs1482 x1153.2.2.2.2 F1483, dpR 115 dt13 vz470_1 cs1137 x1128.1 F1138, .sl 3 tI vz470_2 x1128.2.1, .sl 3 tI vz470_3 x1128.2.2.1, dpR 89 dt14 vz470_4 cs1139 x1128.2.2.2.1 F1140, dpR 115 dt13 v454 cs1109 x1100.1 F1110, .sl 3 tI v457 x1100.2.1, .sl 3 tI v458 x1100.2.2.1, dpR 89 dt14 v459 cs1111 x1100.2.2.2.1 F1112, .bx b1 26 [A0, A1, A2, iV B3, A4], .bx b5 46 [iV p1_0, iV p1_1, iV p1_2, iV p1_3], .bx bz16_0 31 [vz16_1, vz16_2, vz16_3, iV x38.1.2.2.2.1, vz16_4], .sl 115 ty10 vz16_1 x38.1.1, .sl 3 tI vz16_2 x38.1.2.1, .sl 3 tI vz16_3 x38.1.2.2.1, .sl 89 ty12 vz16_4 x38.1.2.2.2.2, .bx b463 31 [v454, v457, v458, iV x450.2.2.2.1, v459], .bx bz470_0 31 [vz470_1, vz470_2, vz470_3, iV x479.1.2.2.2.1, vz470_4]] G := H1354.calledV (Rs := []) H1506 (zc Pure.bx (zc Pure.dp (zc (Pure.sl q) (zc (Pure.sl q) (zc Pure.dp (zc Pure.dp (zc (Pure.sl q) (zc (Pure.sl q) (zc Pure.dp all_nil)))))))))
     refine X1 10 (by kernel_rfl) q <| qA q q q <| XE q ?_
     refine XC_done (by kernel_rfl) (fun a ha => ?_)
     have H1510 := H1509.q5.q5.q5.q5.q9.q9.q9.q9.q9.q9.q14.p4.p4.p4.p4.p4.p8.p8.p8.p8.p14.p14.p14.p14.p14.p14
     exact ⟨b1501, v1492, cs1493, F1494, v1495, v1496, v1497, cs1498, F1499, ha.sub ⟨q, q, q, q, q, q, trivial⟩, H1510⟩
    refine XC_do q ?_
    refine zq (cs := [nS, nS, nS, iV 0, nS]) H1488 z31 q q q (fun b1511 w1512 H1513 => ?_)
    refine XN H1513.chg <| X1 4 (by kernel_rfl) q ?_
    have V1515 := H1513.viewG (Vw.c (Vw.d (Vw.c (Vw.c (Vw.d Vw.refl)))))
    refine zd q q c23 (w_impl_HouseDo w1512 _ hGl.c.c.c.c.c.c.c.c.c.c.c.c.c.c.c.c.c.c.c.c.c.c v1476 x1153.1 hR1 v1479 x1153.2.1 hS2 v1480 x1153.2.2.1 hS3 x1153.2.2.2.1 v1481 x1153.2.2.2.2 hR4 x1168.1 x1168.2.1 x1168.2.2.1 x1168.2.2.2 x1174 hx1175 V1515) (by rfl) ?_
    rintro _ w1516 ⟨v1518, cs1519, F1520, v1521, v1522, v1523, cs1524, F1525, rfl, H1517⟩; refine ⟨_, q, ?_⟩
    have H1526 := H1513.cV4 [] H1517 (zc Pure.dp (zc (Pure.sl q) (zc (Pure.sl q) (zc Pure.dp all_nil))))
    refine XN H1526.chg <| XQ (i := 5) q (by kernel_rfl) q H1526.chg q (fun _ => qt_move q) q q <| XQ (i := 6) q (by kernel_rfl) q H1526.chg q (fun _ => zv q q) q q <| XQ (i := 7) q (by kernel_rfl) q H1526.chg q (fun _ => zv q q) q q <| X1 9 (by kernel_rfl) q ?_
    have H1527 := H1526.p4
    have V1530 := H1527.viewG (Vw.c (Vw.d (Vw.c (Vw.c (Vw.d (Vw.d (Vw.c (Vw.c (Vw.d Vw.refl)))))))))
    refine zl (cs' := [v1518, v1521, v1522, iV x1174.1.2.2.2.1, v1523]) H1527 q il31 q (T (V1530.sliceOne hR1) (T (V1530.sliceOne hS2) (T (V1530.sliceOne hS3) (T q (T (V1530.sliceOne hR4) q))))) q q q (fun w1528 H1529 => ?_)
    refine XN H1529.chg ?_
    have H1532 : Holds _ w w1528 [.bx b1511 31 [v1518, v1521, v1522, iV x1174.1.2.2.2.1, v1523], dpR 115 dt13 v1518 cs1519 x1174.1.1 F1520, .sl 3 tI v1521 x1174.1.2.1, .sl 3 tI v1522 x1174.1.2.2.1, dpR 89 dt14 v1523 cs1524 x1174.1.2.2.2.2 F1525, dpR 115 dt13 v1476 cs1477 x1153.1 F1478, .sl 3 tI v1479 x1153.2.1, .sl 3 tI v1480 x1153.2.2.1, dpR 89 dt14 v1481 cs1482 x1153.2.2.2.2 F1483, dpR 115 dt13 vz470_1 cs1137 x1128.1 F1138, .sl 3 tI vz470_2 x1128.2.1, .sl 3 tI vz470_3 x1128.2.2.1, dpR 89 dt14 vz470_4 cs1139 x1128.2.2.2.1 F1140, dpR 115 dt13 v454 cs1109 x1100.1 F1110, .sl 3 tI v457 x1100.2.1, .sl 3 tI v458 x1100.2.2.1, dpR 89 dt14 v459 cs1111 x1100.2.2.2.1 F1112, .bx b1 26 [A0, A1, A2, iV B3, A4], .bx b5 46 [iV p1_0, iV p1_1, iV p1_2, iV p1_3], .bx bz16_0 31 [vz16_1, vz16_2, vz16_3, iV x38.1.2.2.2.1, vz16_4], .sl 115 ty10 vz16_1 x38.1.1, .sl 3 tI vz16_2 x38.1.2.1, .sl 3 tI vz16_3 x38.1.2.2.1, .sl 89 ty12 vz16_4 x38.1.2.2.2.2, .bx b463 31 [v454, v457, v458, iV x450.2.2.2.1, v459], .bx bz470_0 31 [vz470_1, vz470_2, vz470_3, iV x479.1.2.2.2.1, vz470_4]] G := H1354.calledV (Rs := []) H1529 (zc Pure.bx (zc Pure.dp (zc (Pure.sl q) (zc (Pure.sl q) (zc Pure.dp (zc Pure.dp (zc (Pure.sl q) (zc (Pure.sl q) (zc Pure.dp all_nil)))))))))
    refine X1 10 (by kernel_rfl) q <| qA q q q <| XE q ?_
    refine XC_done (by kernel_rfl) (fun a ha => ?_)
    have H1533 := H1532.q5.q5.q5.q5.q9.q9.q9.q9.q9.q9.q14.p4.p4.p4.p4.p4.p8.p8.p8.p8.p14.p14.p14.p14.p14.p14
    exact ⟨b1511, v1518, cs1519, F1520, v1521, v1522, v1523, cs1524, F1525, ha.sub ⟨q, q, q, q, q, q, trivial⟩, H1533⟩
   refine XC_do q ?_
   refine zq (cs := [nS, nS, nS, iV 0, nS]) H1484 z31 q q q (fun b1534 w1535 H1536 => ?_)
   refine XN H1536.chg <| X1 3 (by kernel_rfl) q ?_
   have V1538 := H1536.viewG (Vw.c (Vw.d (Vw.c (Vw.c (Vw.d Vw.refl)))))
   refine zd q q c22 (w_laws_toHouseDeed w1535 _ p1_0 p1_1 p1_2 p1_3 x1168 hx1169 V1538) (by rfl) ?_
   rintro _ w1539 ⟨rfl, H1540⟩; refine ⟨_, q, ?_⟩
   have H1541 := H1536.cV0 [] H1540 all_nil
   refine XN H1541.chg <| X1 4 (by kernel_rfl) q ?_
   have V1542 := H1541.viewG (Vw.c (Vw.d (Vw.c (Vw.c (Vw.d Vw.refl)))))
   refine zd q q c23 (w_impl_HouseDo w1539 _ hGl.c.c.c.c.c.c.c.c.c.c.c.c.c.c.c.c.c.c.c.c.c.c v1476 x1153.1 hR1 v1479 x1153.2.1 hS2 v1480 x1153.2.2.1 hS3 x1153.2.2.2.1 v1481 x1153.2.2.2.2 hR4 x1168.1 x1168.2.1 x1168.2.2.1 x1168.2.2.2 x1174 hx1175 V1542) (by rfl) ?_
   rintro _ w1543 ⟨v1545, cs1546, F1547, v1548, v1549, v1550, cs1551, F1552, rfl, H1544⟩; refine ⟨_, q, ?_⟩
   have H1553 := H1541.cV4 [] H1544 (zc Pure.dp (zc (Pure.sl q) (zc (Pure.sl q) (zc Pure.dp all_nil))))
   refine XN H1553.chg <| XQ (i := 5) q (by kernel_rfl) q H1553.chg q (fun _ => qt_move q) q q <| XQ (i := 6) q (by kernel_rfl) q H1553.chg q (fun _ => zv q q) q q <| XQ (i := 7) q (by kernel_rfl) q H1553.chg q (fun _ => zv q q) q q <| X1 9 (by kernel_rfl) q ?_
   have H1554 := H1553.p4
   have V1557 := H1554.viewG (Vw.c (Vw.d (Vw.c (Vw.c (Vw.d (Vw.d (Vw.c (Vw.c (Vw.d Vw.refl)))))))))
   refine zl (cs' := [v1545, v1548, v1549, iV x1174.1.2.2.2.1, v1550]) H1554 q il31 q (T (V1557.sliceOne hR1) (T (V1557.sliceOne hS2) (T (V1557.sliceOne hS3) (T q (T (V1557.sliceOne hR4) q))))) q q q (fun w1555 H1556 => ?_)
   refine XN H1556.chg ?_
   have H1559 : Holds _ w w1555 [.bx b1534 31 [v1545, v1548, v1549, iV x1174.1.2.2.2.1, v1550], dpR 115 dt13 v1545 cs1546 x1174.1.1 F1547, .sl 3 tI v1548 x1174.1.2.1, .sl 3 tI v1549 x1174.1.2.2.1, dpR 89 dt14 v1550 cs1551 x1174.1.2.2.2.2 F1552, dpR 115 dt13 v1476 cs1477 x1153.1 F1478, .sl 3 tI v1479 x1153.2.1, .sl 3 tI v1480 x1153.2.2.1, dpR 89 dt14 v1481 cs1482 x1153.2.2.2.2 F1483, dpR 115 dt13 vz470_1 cs1137 x1128.1 F1138, .sl 3 tI vz470_2 x1128.2.1, .sl 3 tI vz470_3 x1128.2.2.1, dpR 89 dt14 vz470_4 cs1139 x1128.2.2.2.1 F1140, dpR 115 dt13 v454 cs1109 x1100.1 F1110, .sl 3 tI v457 x1100.2.1, .sl 3 tI v458 x1100.2.2.1, dpR 89 dt14 v459 cs1111 x1100.2.2.2.1 F1112, .bx b1 26 [A0, A1, A2, iV B3, A4], .bx b5 46 [iV p1_0, iV p1_1, iV p1_2, iV p1_3], .bx bz16_0 31 [vz16_1, vz16_2, vz16_3, iV x38.1.2.2.2.1, vz16_4], .sl 115 ty10 vz16_1 x38.1.1, .sl 3 tI vz16_2 x38.1.2.1, .sl 3 tI vz16_3 x38.1.2.2.1, .sl 89 ty12 vz16_4 x38.1.2.2.2.2, .bx b463 31 [v454, v457, v458, iV x450.2.2.2.1, v459], .bx bz470_0 31 [vz470_1, vz470_2, vz470_3, iV x479.1.2.2.2.1, vz470_4]] G := H1354.calledV (Rs := []) H1556 (zc Pure.bx (zc Pure.dp (zc (Pure.sl q) (zc (Pure.sl q) (zc Pure.dp (zc Pure.dp (zc (Pure.sl q) (zc (Pure.sl q) (zc Pure.dp all_nil)))))))))
   refine X1 10 (by kernel_rfl) q <| qA q q q <| XE q ?_
   refine XC_done (by kernel_rfl) (fun a ha => ?_)
   have H1560 := H1559.q5.q5.q5.q5.q9.q9.q9.q9.q9.q9.q14.p4.p4.p4.p4.p4.p8.p8.p8.p8.p14.p14.p14.p14.p14.p14
   exact ⟨b1534, v1545, cs1546, F1547, v1548, v1549, v1550, cs1551, F1552, ha.sub ⟨q, q, q, q, q, q, trivial⟩, H1560⟩
  refine XC_do q ?_
  refine zq (cs := [nS, nS, nS, iV 0, nS]) H1356 z31 q q q (fun b1561 w1562 H1563 => ?_)
  refine XN H1563.chg <| X1 1 (by kernel_rfl) q <| zd q q c9 (w_laws_toHouse w1562 _ A0 B0 (C0.c.c.c.c.c.c.c.c.c.c.c.c.c.c.c.c.c.c) A1 B1 (C1.c.c.c.c.c.c.c.c.c.c.c.c.c.c.c.c.c.c) A2 B2 (C2.c.c.c.c.c.c.c.c.c.c.c.c.c.c.c.c.c.c) B3 A4 B4 (C4.c.c.c.c.c.c.c.c.c.c.c.c.c.c.c.c.c.c) x1153 hx1154 H1563.ctx) (by rfl) ?_
  rintro _ w1565 ⟨v1567, cs1568, F1569, v1570, v1571, v1572, cs1573, F1574, rfl, H1566⟩; refine ⟨_, q, ?_⟩
  have H1575 := H1563.cN4 [] H1566
  refine XN H1575.chg <| X1 3 (by kernel_rfl) q ?_
  have V1576 := H1575.viewG (Vw.d (Vw.c (Vw.c (Vw.d (Vw.c Vw.refl)))))
  refine zd q q c22 (w_laws_toHouseDeed w1565 _ p1_0 p1_1 p1_2 p1_3 x1168 hx1169 V1576) (by rfl) ?_
  rintro _ w1577 ⟨rfl, H1578⟩; refine ⟨_, q, ?_⟩
  have H1579 := H1575.cV0 [] H1578 all_nil
  refine XN H1579.chg <| X1 4 (by kernel_rfl) q ?_
  have V1580 := H1579.viewG (Vw.d (Vw.c (Vw.c (Vw.d (Vw.c Vw.refl)))))
  refine zd q q c23 (w_impl_HouseDo w1577 _ hGl.c.c.c.c.c.c.c.c.c.c.c.c.c.c.c.c.c.c.c.c.c.c v1567 x1153.1 hR0 v1570 x1153.2.1 hS1 v1571 x1153.2.2.1 hS2 x1153.2.2.2.1 v1572 x1153.2.2.2.2 hR3 x1168.1 x1168.2.1 x1168.2.2.1 x1168.2.2.2 x1174 hx1175 V1580) (by rfl) ?_
  rintro _ w1581 ⟨v1583, cs1584, F1585, v1586, v1587, v1588, cs1589, F1590, rfl, H1582⟩; refine ⟨_, q, ?_⟩
  have H1591 := H1579.cV4 [] H1582 (zc Pure.dp (zc (Pure.sl q) (zc (Pure.sl q) (zc Pure.dp all_nil))))
  refine XN H1591.chg <| XQ (i := 5) q (by kernel_rfl) q H1591.chg q (fun _ => qt_move q) q q <| XQ (i := 6) q (by kernel_rfl) q H1591.chg q (fun _ => zv q q) q q <| XQ (i := 7) q (by kernel_rfl) q H1591.chg q (fun _ => zv q q) q q <| X1 9 (by kernel_rfl) q ?_
  have H1592 := H1591.p8
  have V1595 := H1592.viewG (Vw.c (Vw.d (Vw.c (Vw.c (Vw.d (Vw.d (Vw.c (Vw.c (Vw.d Vw.refl)))))))))
  refine zl (cs' := [v1583, v1586, v1587, iV x1174.1.2.2.2.1, v1588]) H1592 q il31 q (T (V1595.sliceOne hR1) (T (V1595.sliceOne hS2) (T (V1595.sliceOne hS3) (T q (T (V1595.sliceOne hR4) q))))) q q q (fun w1593 H1594 => ?_)
  refine XN H1594.chg ?_
  have H1597 : Holds _ w w1593 [.bx b1561 31 [v1583, v1586, v1587, iV x1174.1.2.2.2.1, v1588], dpR 115 dt13 v1583 cs1584 x1174.1.1 F1585, .sl 3 tI v1586 x1174.1.2.1, .sl 3 tI v1587 x1174.1.2.2.1, dpR 89 dt14 v1588 cs1589 x1174.1.2.2.2.2 F1590, dpR 115 dt13 v1567 cs1568 x1153.1 F1569, .sl 3 tI v1570 x1153.2.1, .sl 3 tI v1571 x1153.2.2.1, dpR 89 dt14 v1572 cs1573 x1153.2.2.2.2 F1574, dpR 115 dt13 vz470_1 cs1137 x1128.1 F1138, .sl 3 tI vz470_2 x1128.2.1, .sl 3 tI vz470_3 x1128.2.2.1, dpR 89 dt14 vz470_4 cs1139 x1128.2.2.2.1 F1140, dpR 115 dt13 v454 cs1109 x1100.1 F1110, .sl 3 tI v457 x1100.2.1, .sl 3 tI v458 x1100.2.2.1, dpR 89 dt14 v459 cs1111 x1100.2.2.2.1 F1112, .bx b1 26 [A0, A1, A2, iV B3, A4], .bx b5 46 [iV p1_0, iV p1_1, iV p1_2, iV p1_3], .bx bz16_0 31 [vz16_1, vz16_2, vz16_3, iV x38.1.2.2.2.1, vz16_4], .sl 115 ty10 vz16_1 x38.1.1, .sl 3 tI vz16_2 x38.1.2.1, .sl 3 tI vz16_3 x38.1.2.2.1, .sl 89 ty12 vz16_4 x38.1.2.2.2.2, .bx b463 31 [v454, v457, v458, iV x450.2.2.2.1, v459], .bx bz470_0 31 [vz470_1, vz470_2, vz470_3, iV x479.1.2.2.2.1, vz470_4]] G := H1354.calledV (Rs := []) H1594 (zc Pure.bx (zc Pure.dp (zc (Pure.sl q) (zc (Pure.sl q) (zc Pure.dp (zc Pure.dp (zc (Pure.sl q) (zc (Pure.sl q) (zc Pure.dp all_nil)))))))))
  refine X1 10 (by kernel_rfl) q <| qA q q q <| XE q ?_
  refine XC_done (by kernel_rfl) (fun a ha => ?_)
  have H1598 := H1597.q5.q5.q5.q5.q9.q9.q9.q9.q9.q9.q14.p4.p4.p4.p4.p4.p8.p8.p8.p8.p14.p14.p14.p14.p14.p14
  exact ⟨b1561, v1583, cs1584, F1585, v1586, v1587, v1588, cs1589, F1590, ha.sub ⟨q, q, q, q, q, q, trivial⟩, H1598⟩
 intro a w1599 hI1600
 obtain ⟨bz1151_0, vz1151_1, csz1151_1, Fz1151_1, vz1151_2, vz1151_3, vz1151_4, csz1151_4, Fz1151_4, ha, H1601⟩ := hI1600
 refine S ?_ ha
 clear ha
 refine C <| C <| zk ?_
 have hB1602 := R H1601.p10
 refine zm (cs := [vz1151_1, vz1151_2, vz1151_3, iV x1174.1.2.2.2.1, vz1151_4]) us31 uo31 il31 hB1602 q q q ?_
 change XL _ _ _ _ _ ((87, .agg #[vz1151_1, vz1151_2, vz1151_3, iV x1174.1.2.2.2.1, vz1151_4]) :: _) _
 have hB1603 := R H1601.p0
 refine zm (cs := [vz16_1, vz16_2, vz16_3, iV x38.1.2.2.2.1, vz16_4]) us31 uo31 il31 hB1603 q q q ?_
 change XL _ _ _ _ _ ((88, .agg #[vz16_1, vz16_2, vz16_3, iV x38.1.2.2.2.1, vz16_4]) :: _) _
 obtain ⟨x1604, hx1605, h⟩ := D h
 refine QC q q c11 (fun w' hb => w_laws_eqHouse w' _ vz1151_1 x1174.1.1 hR11 vz1151_2 x1174.1.2.1 hS12 vz1151_3 x1174.1.2.2.1 hS13 x1174.1.2.2.2.1 vz1151_4 x1174.1.2.2.2.2 hR14 vz16_1 x38.1.1 hS1 vz16_2 x38.1.2.1 hS2 vz16_3 x38.1.2.2.1 hS3 x38.1.2.2.2.1 vz16_4 x38.1.2.2.2.2 hS4 x1604 hx1605 ((H1601.grow hb).viewG (Vw.c (Vw.c (Vw.c (Vw.c (Vw.c (Vw.c (Vw.d (Vw.c (Vw.c (Vw.d (Vw.c (Vw.d (Vw.c (Vw.c (Vw.d Vw.refl))))))))))))))))) (by rfl) <| A q (qt_not q) q q <| qM q q q ?_
 refine zh 4 95 (.bool ((!x1604) || (!(x1174.2 == x38.2)))) ?_ (fun md hmd hk => ?_)
 rotate_left
 ·obtain ⟨K, rfl⟩ := zr hmd
  rcases btf (!x1604) with hc1606 | hc1606
  ·skip
   refine qS q hc1606 q q <| qS q hc1606 q q <| qS q hc1606 q q <| A q (ze q hc1606 q) q q ?_
   exact hk _ (p (by rw [hc1606]; rfl) (cfn 3 q (u)))
  skip
  refine qM (J q hc1606) q q <| qM (J q hc1606) q q <| A (J q hc1606) (qt_bneq u4 q q) q q <| A q (zf q hc1606 q) q q ?_
  exact hk _ (p (by rw [hc1606]; rfl) (cfn 3 q (u)))
 refine QL_nil fun a ha w1607 hb1608 => ?_
 have H1609 := H1601.grow hb1608
 refine X (S ?_ ha)
 refine Y q (fun hc1610 => ?_) (fun hc1610 => ?_)
 ·have h := if_t hc1610 h
  refine rR <| qA q q q <| B <| W fun a ha => ?_
  obtain rfl := L h
  have H1611 := H1609.q0.q0.q0.q0.q0.q0.q0.q0.q0.q0.q0.q0.q0.q0.q0
  exact m (ret1 q ha q ⟨q, H1611⟩)
 have h := if_f hc1610 h
 refine y <| rR <| qA q q q <| B <| C <| zk ?_
 have hB1612 := R H1609.p5
 refine zm (cs := [vz470_1, vz470_2, vz470_3, iV x479.1.2.2.2.1, vz470_4]) us31 uo31 il31 hB1612 q q q ?_
 change XL _ _ _ _ _ ((96, .agg #[vz470_1, vz470_2, vz470_3, iV x479.1.2.2.2.1, vz470_4]) :: _) _
 refine qM q q q ?_
 obtain ⟨x1613, hx1614, h⟩ := D h
 refine QC q q c13 (fun w' hb => w_laws_heldHouse w' _ vz470_1 x1128.1 hR6 vz470_2 x1128.2.1 hS7 vz470_3 x1128.2.2.1 hS8 x479.1.2.2.2.1 vz470_4 x1128.2.2.2.1 hR9 1 x1613 hx1614 ((H1609.grow hb).viewG (Vw.c (Vw.c (Vw.c (Vw.c (Vw.c (Vw.c (Vw.d (Vw.c (Vw.c (Vw.d (Vw.c (Vw.d (Vw.c (Vw.c (Vw.d Vw.refl))))))))))))))))) (by rfl) <| qA q q q <| QL_nil fun a ha w1615 hb1616 => ?_
 have H1617 := H1609.grow hb1616
 refine X (S ?_ ha)
 refine C <| rR <| qM q q q <| A q (qt_lss q q) q q <| B ?_
 refine Y q (fun hc1618 => ?_) (fun hc1618 => ?_)
 ·have h := if_t hc1618 h
  refine rR <| qA q q q <| B <| W fun a ha => ?_
  obtain rfl := L h
  have H1619 := H1617.q0.q0.q0.q0.q0.q0.q0.q0.q0.q0.q0.q0.q0.q0.q0
  exact m (ret1 q ha q ⟨q, H1619⟩)
 have h := if_f hc1618 h
 refine y <| C <| rR <| qM q q q <| qM q q q <| A q (qt_neq q q) q q <| B ?_
 refine Y q (fun hc1620 => ?_) (fun hc1620 => ?_)
 ·have h := if_t hc1620 h
  refine rR <| qA q q q <| B <| W fun a ha => ?_
  obtain rfl := L h
  have H1621 := H1617.q0.q0.q0.q0.q0.q0.q0.q0.q0.q0.q0.q0.q0.q0.q0
  exact m (ret1 q ha q ⟨q, H1621⟩)
 have h := if_f hc1620 h
 refine y <| rR <| qA q q q <| B <| W fun a ha => ?_
 obtain rfl := L h
 have H1622 := H1617.q0.q0.q0.q0.q0.q0.q0.q0.q0.q0.q0.q0.q0.q0.q0
 exact ret1 q ha q ⟨q, H1622⟩
end Go.Proofs.YtcjkbcdlpfgbgaaGreatDoor
