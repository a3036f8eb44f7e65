/- The walks: each Go function computes its shallow function. Printed by a program. -/
import Derived.Test.YthofjabphcheeaaDoorWS7T3
set_option linter.unusedVariables false
set_option maxRecDepth 10000
namespace Go.Proofs.YthofjabphcheeaaDoor
open Go Go.RowKit
theorem w_spec_l7Copy (w : World) (G : List Res) (A0 : Value) (B0 : LI) (C0 : Has G ty7 A0 B0) (A1 : Value) (B1 : List Int) (C1 : Has G tI A1 B1) (A2 : Value) (B2 : List Int) (C2 : Has G tI A2 B2) (B3 : Int) (A4 : Value) (B4 : LT) (C4 : Has G ty8 A4 B4) (r : (LI × (List Int) × (List Int) × Int × LT)) (h : spec_l7CopyS B0 B1 B2 B3 B4 = some r) (H : Ctx w G) : Calls Tryd.prog 81 #[.agg #[A0, A1, A2, iV B3, A4]] w fun e w' => ∃ (v1 : Value) (v2 : Value) (v3 : Value) (v4 : Value), e = .returned (.agg #[v1, v2, v3, iV r.2.2.2.1, v4]) ∧ Holds M0 w w' [.sl 70 ty7 v1 r.1, .sl 3 tI v2 r.2.1, .sl 3 tI v3 r.2.2.1, .sl 33 ty8 v4 r.2.2.2.2] G := by
 have H : Holds M0 w w [] G := zb H
 refine zg (args := [.agg #[A0, A1, A2, iV B3, A4]]) (n := 82) Tryd.func81 q q q ?_
 unfold spec_l7CopyS at h
 refine C <| Z ?_
 refine WL_box (cs := [A0, A1, A2, iV B3, A4]) H q q q q (fun b1 w2 H3 => ?_)
 refine zq (cs := [nS, nS, nS, iV 0, nS]) H3 z27 q q q (fun b5 w6 H7 => ?_)
 refine B <| C <| Z ?_
 refine zs (t := ty7) (args := []) (xs := ([] : LI)) H7 (BltL.nil) u23 j70 q q q q q q (fun v9 w10 H11 => ?_)
 refine qA q q q <| B <| C <| rR <| qA q q q <| B <| g ?_
 obtain ⟨o15, ho16, h⟩ := D h
 have H19 := H11.p1.p2
 refine fun a17 ha18 => zp (I := fun s a w2 => match s with | (s13, s14) => ∃ vs13, Fr a 82 [(1, pB b1), (2, pB b5), (3, vs13), (4, iV s14)] ∧ Holds M0 w w2 [.bx b1 27 [A0, A1, A2, iV B3, A4], .bx b5 27 [nS, nS, nS, iV 0, nS], .sl 70 ty7 vs13 s13] G) (O := fun o e a w2 => match o with | q0 => e = .exit 0 ∧ ∃ vq0, Fr a 82 [(1, pB b1), (2, pB b5), (3, vq0)] ∧ Holds M0 w w2 [.bx b1 27 [A0, A1, A2, iV B3, A4], .bx b5 27 [nS, nS, nS, iV 0, nS], .sl 70 ty7 vq0 q0] G) ho16 ?_ ?_ ?_
 ·exact ⟨v9, ha18.sub ⟨q, q, q, q, trivial⟩, H19⟩
 ·clear ha18
  intro s o22 a w20 hs21 hI23
  obtain ⟨s13, s14⟩ := s
  obtain ⟨vs13, ha, H24⟩ := hI23
  refine S ?_ ha
  clear ha
  refine C <| rR <| qM q q q <| qF uf27 fi27_0 nz23 q q q ?_
  have hB25 := R H24.p0
  refine l u23 q hB25 q q q q <| za H24.ctx (t := ty7) (C0.c.c.c) u23 q q q <| A q (qt_lss q q) q q <| B ?_
  refine Y q (fun hc26 => ?_) (fun hc26 => ?_)
  ·have hs21 := if_t hc26 hs21
   refine y <| C <| g ?_
   obtain ⟨x28, hx29, hs21⟩ := D hs21
   obtain ⟨x45, hx46, hs21⟩ := D hs21
   obtain ⟨x64, hx65, hs21⟩ := D hs21
   obtain ⟨x71, hx72, hs21⟩ := D hs21
   obtain ⟨x92, hx93, hs21⟩ := D hs21
   refine WP_mid (Mid := fun a w2 => ∃ vz26_0, Fr a 82 [(1, pB b1), (2, pB b5), (3, vz26_0), (4, iV s14)] ∧ Holds M0 w w2 [.bx b1 27 [A0, A1, A2, iV B3, A4], .bx b5 27 [nS, nS, nS, iV 0, nS], .sl 70 ty7 vz26_0 x92] G) ?_ ?_
   ·refine WP_ordersT (fun w1 w2 => Chg (([.sl 70 ty7 vs13 s13] : List Res).flatMap Res.own) w1 w2) 24 (by kernel_rfl) (fun w227 hb228 => ?_)
    have H229 := H24.grow hb228
    have H230 := H229.p2
    have C231 : Ctx w227 ([.sl 70 ty7 vs13 s13] ++ ([.bx b1 27 [A0, A1, A2, iV B3, A4], .bx b5 27 [nS, nS, nS, iV 0, nS]] ++ G)) := H230.ctx
    have H232 : Holds _ w227 w227 [.sl 70 ty7 vs13 s13] ([.bx b1 27 [A0, A1, A2, iV B3, A4], .bx b5 27 [nS, nS, nS, iV 0, nS]] ++ G) := zb (Rs := [.sl 70 ty7 vs13 s13]) C231
    refine XQ (i := 0) q (by kernel_rfl) q H232.chg q (fun _ => qt_move q) q q <| XQ (i := 1) q (by kernel_rfl) q H232.chg q (fun _ => qt_fieldAddr uf27 fi27_0 nz23 q) q q ?_
    have hB356 := HasB.bx (HasB.c (HasB.hd)) H232.ctx
    refine XT (i := 2) q (by kernel_rfl) q H232.chg q (qs_cell u23 q q (hB356.cell (i := 0) q) H232.chg (Ctx.outB C231 (HasB.hd))) q q <| XQ (i := 3) q (by kernel_rfl) q H232.chg q (fun _ => qt_move q) q q ?_
    obtain ⟨b357, off358, cap359, hv360⟩ := Ctx.isAt H232.ctx (C0.c.c.c) hx29
    refine XT (i := 4) q (by kernel_rfl) q H232.chg q (qs_index hx29 hv360 u23 i70 q q) q q <| XQ (i := 5) q (by kernel_rfl) q H232.chg q (fun _ => qt_fieldAddr uf70 fi70_0 nz3 q) q q ?_
    obtain ⟨F361, hat362, hdup363⟩ := H232.at (C0.c.c.c) hx29 hv360
    obtain ⟨F364, hat365, hin366⟩ := AtP.fst hat362
    refine XT (i := 6) q (by kernel_rfl) q H232.chg q (qs_cell u3 q q (AtP.cInt hat365) H232.chg (Ctx.outHas C231 (C0.c.c) hx29 hv360)) q q <| XQ (i := 8) q (by kernel_rfl) q H232.chg q (fun _ => qt_fieldAddr uf27 fi27_0 nz23 q) q q ?_
    have hB367 := HasB.bx (HasB.c (HasB.hd)) H232.ctx
    refine XT (i := 9) q (by kernel_rfl) q H232.chg q (qs_cell u23 q q (hB367.cell (i := 0) q) H232.chg (Ctx.outB C231 (HasB.hd))) q q <| XQ (i := 10) q (by kernel_rfl) q H232.chg q (fun _ => qt_move q) q q ?_
    obtain ⟨b368, off369, cap370, hv371⟩ := Ctx.isAt H232.ctx (C0.c.c.c) hx46
    refine XT (i := 11) q (by kernel_rfl) q H232.chg q (qs_index hx46 hv371 u23 i70 q q) q q <| XQ (i := 12) q (by kernel_rfl) q H232.chg q (fun _ => qt_fieldAddr uf70 fi70_1 nz68 q) q q ?_
    obtain ⟨F372, hat373, hdup374⟩ := H232.at (C0.c.c.c) hx46 hv371
    obtain ⟨F375, hat376, hin377⟩ := AtP.snd hat373
    obtain ⟨F378, hat379, hin380⟩ := AtP.fst hat376
    obtain ⟨v381, hcell382, hr383⟩ := AtP.one (t := ty2) hat379 q
    refine XT (i := 13) q (by kernel_rfl) q H232.chg q (qs_cell u68 q q hcell382 H232.chg (Ctx.outHas C231 (C0.c.c) hx46 hv371)) q q ?_
    have H384 : Holds _ w227 w227 [.ro ty1 v381 x45.2.1, .sl 70 ty7 vs13 s13] ([.bx b1 27 [A0, A1, A2, iV B3, A4], .bx b5 27 [nS, nS, nS, iV 0, nS]] ++ G) := hdup374 _ _ _ _ hr383 (fun k h => (fun k h => (fun _ h => h) k (hin377 k h)) k (hin380 k h))
    refine XQ (i := 15) q (by kernel_rfl) q H384.chg q (fun _ => qt_fieldAddr uf27 fi27_0 nz23 q) q q ?_
    have hB385 := HasB.bx (HasB.c (HasB.c (HasB.hd))) H384.ctx
    refine XT (i := 16) q (by kernel_rfl) q H384.chg q (qs_cell u23 q q (hB385.cell (i := 0) q) H384.chg (Ctx.outB C231 (HasB.hd))) q q <| XQ (i := 17) q (by kernel_rfl) q H384.chg q (fun _ => qt_move q) q q ?_
    obtain ⟨b386, off387, cap388, hv389⟩ := Ctx.isAt H384.ctx (C0.c.c.c.c) hx72
    refine XT (i := 18) q (by kernel_rfl) q H384.chg q (qs_index hx72 hv389 u23 i70 q q) q q <| XQ (i := 19) q (by kernel_rfl) q H384.chg q (fun _ => qt_fieldAddr uf70 fi70_2 nz3 q) q q ?_
    obtain ⟨F390, hat391, hdup392⟩ := H384.at (C0.c.c.c.c) hx72 hv389
    obtain ⟨F393, hat394, hin395⟩ := AtP.snd hat391
    obtain ⟨F396, hat397, hin398⟩ := AtP.snd hat394
    refine XT (i := 20) q (by kernel_rfl) q H384.chg q (qs_cell u3 q q (AtP.cInt hat397) H384.chg (Ctx.outHas C231 (C0.c.c) hx72 hv389)) q q <| X1 7 (by kernel_rfl) q ?_
    refine zs (t := ty1) (args := []) (xs := ([] : LP)) H384 (BltL.nil) u68 j67 q q q q q q (fun v399 w400 H401 => ?_)
    refine XN H401.chg <| X1 14 (by kernel_rfl) q ?_
    refine zw H401 hR1 hx65 u68 j67 q q q q q q (fun v403 w404 H405 => ?_)
    refine XN H405.chg <| XQ (i := 21) q (by kernel_rfl) q H405.chg q (fun _ => qt_build (args := [(0, .tmp 22), (1, .tmp 30), (2, .tmp 36)]) (css := [#[iV x28.1], #[v403], #[iV x71.2.2]]) (cells := #[iV x28.1, v403, iV x71.2.2]) q ⟨q, (H405.ctx.sliceCells hS0), q, trivial⟩ (by kernel_rfl)) q q <| X1 22 (by kernel_rfl) q ?_
    have H407 := H405.freeze
    refine zs (t := ty7) (args := [.tmp 37]) (xs := ([(x28.1, x64, x71.2.2)] : LI)) H407 (BltL.cons (Blt.pair (Blt.int) (Blt.pair (Blt.slice hO0) (Blt.int))) q (BltL.nil)) u23 j70 q q q q q q (fun v408 w409 H410 => ?_)
    refine XN H410.chg <| X1 23 (by kernel_rfl) q ?_
    have H412 := H410.p3
    refine zw H412 hS1 hx93 u23 j70 q q q q q q (fun v413 w414 H415 => ?_)
    refine XN H415.chg ?_
    have H417 := H230.cN4 [_] H415
    refine X1 24 (by kernel_rfl) q <| qA q q q <| XE q ?_
    refine XC_done (by kernel_rfl) (fun a ha => ?_)
    have H418 := H417.q1.q1.q1.p2.p2
    exact ⟨v413, ha.sub ⟨q, q, q, q, trivial⟩, H418⟩
   intro a w419 hI420
   obtain ⟨vz26_0, ha, H421⟩ := hI420
   refine zi (X (S ?_ ha))
   refine Z <| qM q q q <| A q (qt_add q q) q q <| qA q q q <| WL_nil fun a ha => ?_
   obtain rfl := L hs21
   have H422 := H421.p2.p2.p2
   exact ⟨q, vz26_0, ha.sub ⟨q, q, q, q, trivial⟩, H422⟩
  have hs21 := if_f hc26 hs21
  refine WP_exit fun a ha => ?_
  obtain rfl := L hs21
  have H423 := H24.p2.p2.p2
  exact zo (⟨exit_ne, q, vs13, ha.sub ⟨q, q, q, trivial⟩, H423⟩)
 intro e a17 w424 hO425
 obtain ⟨p426, rfl⟩ : ∃ z, z = o15 := ⟨o15, q⟩
 obtain ⟨rfl, hO428⟩ := hO425
 obtain ⟨vp426, ha, H427⟩ := hO428
 refine zn (X (S ?_ ha))
 refine C ?_
 obtain ⟨x434, hx435, h⟩ := D h
 obtain ⟨x445, hx446, h⟩ := D h
 refine WP_join (M := fun a w2 => ∃ bz428_0 vz428_1 vz428_2 vz428_3 vz428_4, Fr a 82 [(1, pB b1), (2, pB b5), (5, pB bz428_0)] ∧ Holds M0 w w2 [.bx b1 27 [A0, A1, A2, iV B3, A4], .bx b5 27 [nS, nS, nS, iV 0, nS], .bx bz428_0 27 [vz428_1, vz428_2, vz428_3, iV B3, vz428_4], .sl 70 ty7 vz428_1 p426, .sl 3 tI vz428_2 x434, .sl 3 tI vz428_3 x445, .sl 33 ty8 vz428_4 ([])] G) ?_ ?_
 ·refine WP_ordersT (fun w1 w2 => Chg M0 w1 w2) 14 (by kernel_rfl) (fun w629 hb630 => ?_)
  have H631 := H427.grow hb630
  have C632 : Ctx w629 ([] ++ ([.bx b1 27 [A0, A1, A2, iV B3, A4], .bx b5 27 [nS, nS, nS, iV 0, nS], .sl 70 ty7 vp426 p426] ++ G)) := H631.ctx
  have H633 : Holds _ w629 w629 [] ([.bx b1 27 [A0, A1, A2, iV B3, A4], .bx b5 27 [nS, nS, nS, iV 0, nS], .sl 70 ty7 vp426 p426] ++ G) := zb (Rs := []) C632
  refine XQ (i := 0) q (by kernel_rfl) q H633.chg q (fun _ => qt_move q) q q <| XQ (i := 2) q (by kernel_rfl) q H633.chg q (fun _ => qt_fieldAddr uf27 fi27_1 nz24 q) q q ?_
  have hB664 := HasB.bx (HasB.hd) H633.ctx
  refine XT (i := 3) q (by kernel_rfl) q H633.chg q (qs_cell u24 q q (hB664.cell (i := 1) q) H633.chg (Ctx.outB C632 (HasB.hd))) q q <| XQ (i := 6) q (by kernel_rfl) q H633.chg q (fun _ => qt_fieldAddr uf27 fi27_2 nz24 q) q q ?_
  have hB665 := HasB.bx (HasB.hd) H633.ctx
  refine XT (i := 7) q (by kernel_rfl) q H633.chg q (qs_cell u24 q q (hB665.cell (i := 2) q) H633.chg (Ctx.outB C632 (HasB.hd))) q q <| XQ (i := 9) q (by kernel_rfl) q H633.chg q (fun _ => qt_fieldAddr uf27 fi27_3 nz3 q) q q ?_
  have hB666 := HasB.bx (HasB.hd) H633.ctx
  refine XT (i := 10) q (by kernel_rfl) q H633.chg q (qs_cell u3 q q (hB666.cell (i := 3) q) H633.chg (Ctx.outB C632 (HasB.hd))) q q ?_
  refine XC_name (fun X949 hX950 => ?_)
  have K951 : ∀ (bq947_0 : Nat) (vq947_1 : Value) (vq947_2 : Value) (vq947_3 : Value) (vq947_4 : Value) (w952 : World), Holds M0 w w952 [.bx b1 27 [A0, A1, A2, iV B3, A4], .bx b5 27 [nS, nS, nS, iV 0, nS], .bx bq947_0 27 [vq947_1, vq947_2, vq947_3, iV B3, vq947_4], .sl 70 ty7 vq947_1 p426, .sl 3 tI vq947_2 x434, .sl 3 tI vq947_3 x445, .sl 33 ty8 vq947_4 ([])] G → X949 0 (bitA 15 32767) [(1, pB b1), (2, pB b5), (5, pB bq947_0)] w952 := by
   intro bq947_0 vq947_1 vq947_2 vq947_3 vq947_4 w952 H953
   rw [hX950]
   refine XC_done (by kernel_rfl) (fun a ha => ?_)
   have H954 := H953.p6.p6.p6.p6.p6.p6.p6
   exact ⟨bq947_0, vq947_1, vq947_2, vq947_3, vq947_4, ha.sub ⟨q, q, q, trivial⟩, H954⟩
  have K955 : ∀ (bq946_0 : Nat) (vq946_1 : Value) (vq946_2 : Value) (vq946_3 : Value) (vq946_4 : Value) (vq946_5 : Value) (vq946_6 : Value) (vq946_7 : Value) (w956 : World), Holds M0 w629 w956 [.bx bq946_0 27 [vq946_1, vq946_2, vq946_3, iV 0, vq946_4], .sl 70 ty7 vq946_1 ([]), .sl 3 tI vq946_2 ([]), .sl 3 tI vq946_3 ([]), .sl 33 ty8 vq946_4 ([]), .sl 3 tI vq946_5 x434, .sl 3 tI vq946_6 x445, .sl 33 ty8 vq946_7 ([])] ([.bx b1 27 [A0, A1, A2, iV B3, A4], .bx b5 27 [nS, nS, nS, iV 0, nS], .sl 70 ty7 vp426 p426] ++ G) → X949 1 (bitA 15 16383) [(1, pB b1), (2, pB b5), (5, pB bq946_0), (52, .agg #[vp426, vq946_5, vq946_6, iV B3, vq946_7])] w956 := by
   intro bq946_0 vq946_1 vq946_2 vq946_3 vq946_4 vq946_5 vq946_6 vq946_7 w956 H957
   rw [hX950]
   have H958 : Holds _ w w956 [.bx bq946_0 27 [vq946_1, vq946_2, vq946_3, iV 0, vq946_4], .sl 70 ty7 vq946_1 ([]), .sl 3 tI vq946_2 ([]), .sl 3 tI vq946_3 ([]), .sl 33 ty8 vq946_4 ([]), .sl 3 tI vq946_5 x434, .sl 3 tI vq946_6 x445, .sl 33 ty8 vq946_7 ([]), .bx b1 27 [A0, A1, A2, iV B3, A4], .bx b5 27 [nS, nS, nS, iV 0, nS], .sl 70 ty7 vp426 p426] G := H631.calledN (Rs := []) H957
   refine X1 14 (by kernel_rfl) q ?_
   refine zl (cs' := [vp426, vq946_5, vq946_6, iV B3, vq946_7]) H958 q il27 q (T (H958.ctx.sliceOne hS10) (T (H958.ctx.sliceOne hS5) (T (H958.ctx.sliceOne hS6) (T q (T (H958.ctx.sliceOne hS7) q))))) q q q (fun w959 H960 => ?_)
   refine XE q ?_
   have H962 := H960.q1.q1.q1.q1.p3.p3.p3.p6.p4.p6.p6
   exact zu hX950 (K951 bq946_0 vp426 vq946_5 vq946_6 vq946_7 _ H962) (by kernel_rfl) ⟨q, q, q, trivial⟩
  have K963 : ∀ (vq943_0 : Value) (vq943_1 : Value) (vq943_2 : Value) (w964 : World), Holds M0 w629 w964 [.sl 3 tI vq943_0 x434, .sl 3 tI vq943_1 x445, .sl 33 ty8 vq943_2 ([])] ([.bx b1 27 [A0, A1, A2, iV B3, A4], .bx b5 27 [nS, nS, nS, iV 0, nS], .sl 70 ty7 vp426 p426] ++ G) → X949 2 (bitA 15 8191) [(1, pB b1), (2, pB b5), (52, .agg #[vp426, vq943_0, vq943_1, iV B3, vq943_2])] w964 := by
   intro vq943_0 vq943_1 vq943_2 w964 H965
   rw [hX950]
   refine X1 13 (by kernel_rfl) q ?_
   refine zq (cs := [nS, nS, nS, iV 0, nS]) H965 z27 q q q (fun b966 w967 H968 => ?_)
   refine XN H968.chg ?_
   have H970 := H968.nS 70 ty7
   have H971 := H970.nS 3 tI
   have H972 := H971.nS 3 tI
   have H973 := H972.nS 33 ty8
   have H974 := H973.p7.p7.p7.p3.p4.p5.p6.p7
   exact zu hX950 (K955 b966 (nS) (nS) (nS) (nS) vq943_0 vq943_1 vq943_2 _ H974) (by kernel_rfl) ⟨q, q, q, q, trivial⟩
  have K975 : ∀ (bq944_0 : Nat) (vq944_1 : Value) (vq944_2 : Value) (vq944_3 : Value) (vq944_4 : Value) (vq944_5 : Value) (vq944_6 : Value) (w976 : World), Holds M0 w629 w976 [.bx bq944_0 27 [vq944_1, vq944_2, vq944_3, iV 0, vq944_4], .sl 70 ty7 vq944_1 ([]), .sl 3 tI vq944_2 ([]), .sl 3 tI vq944_3 ([]), .sl 33 ty8 vq944_4 ([]), .sl 3 tI vq944_5 x434, .sl 3 tI vq944_6 x445] ([.bx b1 27 [A0, A1, A2, iV B3, A4], .bx b5 27 [nS, nS, nS, iV 0, nS], .sl 70 ty7 vp426 p426] ++ G) → X949 3 (bitA 15 10239) [(1, pB b1), (2, pB b5), (5, pB bq944_0), (40, vp426), (44, vq944_5), (48, vq944_6), (50, iV B3)] w976 := by
   intro bq944_0 vq944_1 vq944_2 vq944_3 vq944_4 vq944_5 vq944_6 w976 H977
   rw [hX950]
   refine X1 11 (by kernel_rfl) q ?_
   refine zs (t := ty8) (args := []) (xs := ([] : LT)) H977 (BltL.nil) u25 j33 q q q q q q (fun v978 w979 H980 => ?_)
   refine XN H980.chg <| XQ (i := 12) q (by kernel_rfl) q H980.chg q (fun _ => qt_build (args := [(0, .tmp 40), (1, .tmp 44), (2, .tmp 48), (3, .tmp 50), (4, .tmp 51)]) (css := [#[vp426], #[vq944_5], #[vq944_6], #[iV B3], #[v978]]) (cells := #[vp426, vq944_5, vq944_6, iV B3, v978]) q ⟨(H980.ctx.sliceCells hS10), (H980.ctx.sliceCells hS6), (H980.ctx.sliceCells hS7), q, (H980.ctx.sliceCells hS0), trivial⟩ (by kernel_rfl)) q q ?_
   have H982 := H980.p7.p7.p7.p7.p7.p7.p7
   exact zu hX950 (K955 bq944_0 vq944_1 vq944_2 vq944_3 vq944_4 vq944_5 vq944_6 v978 _ H982) (by kernel_rfl) ⟨q, q, q, q, trivial⟩
  have K983 : ∀ (bq945_0 : Nat) (vq945_1 : Value) (vq945_2 : Value) (vq945_3 : Value) (vq945_4 : Value) (vq945_5 : Value) (vq945_6 : Value) (vq945_7 : Value) (w984 : World), Holds M0 w629 w984 [.bx bq945_0 27 [vq945_1, vq945_2, vq945_3, iV 0, vq945_4], .sl 70 ty7 vq945_1 ([]), .sl 3 tI vq945_2 ([]), .sl 3 tI vq945_3 ([]), .sl 33 ty8 vq945_4 ([]), .sl 3 tI vq945_5 x434, .sl 3 tI vq945_6 ([]), .sl 33 ty8 vq945_7 ([])] ([.bx b1 27 [A0, A1, A2, iV B3, A4], .bx b5 27 [nS, nS, nS, iV 0, nS], .sl 70 ty7 vp426 p426] ++ G) → X949 3 (bitA 15 12031) [(1, pB b1), (2, pB b5), (5, pB bq945_0), (40, vp426), (44, vq945_5), (45, vq945_6), (47, A2), (50, iV B3), (51, vq945_7)] w984 := by
   intro bq945_0 vq945_1 vq945_2 vq945_3 vq945_4 vq945_5 vq945_6 vq945_7 w984 H985
   rw [hX950]
   refine X1 8 (by kernel_rfl) q ?_
   have H986 := H985.p6
   refine zw H986 (C2.c.c.c.c.c.c.c.c.c.c.c) hx446 u24 j3 q q q q q q (fun v987 w988 H989 => ?_)
   refine XN H989.chg <| XQ (i := 12) q (by kernel_rfl) q H989.chg q (fun _ => qt_build (args := [(0, .tmp 40), (1, .tmp 44), (2, .tmp 48), (3, .tmp 50), (4, .tmp 51)]) (css := [#[vp426], #[vq945_5], #[v987], #[iV B3], #[vq945_7]]) (cells := #[vp426, vq945_5, v987, iV B3, vq945_7]) q ⟨(H989.ctx.sliceCells hS10), (H989.ctx.sliceCells hS6), (H989.ctx.sliceCells hS0), q, (H989.ctx.sliceCells hS7), trivial⟩ (by kernel_rfl)) q q ?_
   have H991 := H989.p7.p1.p7.p7.p7.p7.p7.p7
   exact zu hX950 (K955 bq945_0 vq945_1 vq945_2 vq945_3 vq945_4 vq945_5 v987 vq945_7 _ H991) (by kernel_rfl) ⟨q, q, q, q, trivial⟩
  have K992 : ∀ (vq938_0 : Value) (vq938_1 : Value) (w993 : World), Holds M0 w629 w993 [.sl 3 tI vq938_0 x434, .sl 3 tI vq938_1 x445] ([.bx b1 27 [A0, A1, A2, iV B3, A4], .bx b5 27 [nS, nS, nS, iV 0, nS], .sl 70 ty7 vp426 p426] ++ G) → X949 4 (bitA 15 2047) [(1, pB b1), (2, pB b5), (40, vp426), (44, vq938_0), (48, vq938_1), (50, iV B3)] w993 := by
   intro vq938_0 vq938_1 w993 H994
   rw [hX950]
   refine zy [11, 13] (by kernel_rfl) (by simp) (allc ?_ (allc ?_ alln))
   ·refine XC_do q ?_
    refine zs (t := ty8) (args := []) (xs := ([] : LT)) H994 (BltL.nil) u25 j33 q q q q q q (fun v995 w996 H997 => ?_)
    refine XN H997.chg <| XQ (i := 12) q (by kernel_rfl) q H997.chg q (fun _ => qt_build (args := [(0, .tmp 40), (1, .tmp 44), (2, .tmp 48), (3, .tmp 50), (4, .tmp 51)]) (css := [#[vp426], #[vq938_0], #[vq938_1], #[iV B3], #[v995]]) (cells := #[vp426, vq938_0, vq938_1, iV B3, v995]) q ⟨(H997.ctx.sliceCells hS5), (H997.ctx.sliceCells hS1), (H997.ctx.sliceCells hS2), q, (H997.ctx.sliceCells hS0), trivial⟩ (by kernel_rfl)) q q ?_
    have H999 := H997.p2.p2
    exact zu hX950 (K963 vq938_0 vq938_1 v995 _ H999) (by kernel_rfl) ⟨q, q, q, trivial⟩
   refine XC_do q ?_
   refine zq (cs := [nS, nS, nS, iV 0, nS]) H994 z27 q q q (fun b1000 w1001 H1002 => ?_)
   refine XN H1002.chg ?_
   have H1004 := H1002.nS 70 ty7
   have H1005 := H1004.nS 3 tI
   have H1006 := H1005.nS 3 tI
   have H1007 := H1006.nS 33 ty8
   have H1008 := H1007.p6.p6.p2.p3.p4.p5.p6
   exact zu hX950 (K975 b1000 (nS) (nS) (nS) (nS) vq938_0 vq938_1 _ H1008) (by kernel_rfl) ⟨q, q, q, q, q, q, q, trivial⟩
  have K1009 : ∀ (vq939_0 : Value) (vq939_1 : Value) (vq939_2 : Value) (w1010 : World), Holds M0 w629 w1010 [.sl 3 tI vq939_0 x434, .sl 3 tI vq939_1 ([]), .sl 33 ty8 vq939_2 ([])] ([.bx b1 27 [A0, A1, A2, iV B3, A4], .bx b5 27 [nS, nS, nS, iV 0, nS], .sl 70 ty7 vp426 p426] ++ G) → X949 4 (bitA 15 3839) [(1, pB b1), (2, pB b5), (40, vp426), (44, vq939_0), (45, vq939_1), (47, A2), (50, iV B3), (51, vq939_2)] w1010 := by
   intro vq939_0 vq939_1 vq939_2 w1010 H1011
   rw [hX950]
   refine zy [8, 13] (by kernel_rfl) (by simp) (allc ?_ (allc ?_ alln))
   ·refine XC_do q ?_
    have H1012 := H1011.p1
    refine zw H1012 (C2.c.c.c.c.c.c) hx446 u24 j3 q q q q q q (fun v1013 w1014 H1015 => ?_)
    refine XN H1015.chg <| XQ (i := 12) q (by kernel_rfl) q H1015.chg q (fun _ => qt_build (args := [(0, .tmp 40), (1, .tmp 44), (2, .tmp 48), (3, .tmp 50), (4, .tmp 51)]) (css := [#[vp426], #[vq939_0], #[v1013], #[iV B3], #[vq939_2]]) (cells := #[vp426, vq939_0, v1013, iV B3, vq939_2]) q ⟨(H1015.ctx.sliceCells hS5), (H1015.ctx.sliceCells hS1), (H1015.ctx.sliceCells hS0), q, (H1015.ctx.sliceCells hS2), trivial⟩ (by kernel_rfl)) q q ?_
    have H1017 := H1015.p2.p1.p2
    exact zu hX950 (K963 vq939_0 v1013 vq939_2 _ H1017) (by kernel_rfl) ⟨q, q, q, trivial⟩
   refine XC_do q ?_
   refine zq (cs := [nS, nS, nS, iV 0, nS]) H1011 z27 q q q (fun b1018 w1019 H1020 => ?_)
   refine XN H1020.chg ?_
   have H1022 := H1020.nS 70 ty7
   have H1023 := H1022.nS 3 tI
   have H1024 := H1023.nS 3 tI
   have H1025 := H1024.nS 33 ty8
   have H1026 := H1025.p7.p7.p7.p3.p4.p5.p6.p7
   exact zu hX950 (K983 b1018 (nS) (nS) (nS) (nS) vq939_0 vq939_1 vq939_2 _ H1026) (by kernel_rfl) ⟨q, q, q, q, q, q, q, q, q, trivial⟩
  have K1027 : ∀ (bq940_0 : Nat) (vq940_1 : Value) (vq940_2 : Value) (vq940_3 : Value) (vq940_4 : Value) (vq940_5 : Value) (vq940_6 : Value) (w1028 : World), Holds M0 w629 w1028 [.bx bq940_0 27 [vq940_1, vq940_2, vq940_3, iV 0, vq940_4], .sl 70 ty7 vq940_1 ([]), .sl 3 tI vq940_2 ([]), .sl 3 tI vq940_3 ([]), .sl 33 ty8 vq940_4 ([]), .sl 3 tI vq940_5 x434, .sl 3 tI vq940_6 ([])] ([.bx b1 27 [A0, A1, A2, iV B3, A4], .bx b5 27 [nS, nS, nS, iV 0, nS], .sl 70 ty7 vp426 p426] ++ G) → X949 4 (bitA 15 9983) [(1, pB b1), (2, pB b5), (5, pB bq940_0), (40, vp426), (44, vq940_5), (45, vq940_6), (47, A2), (50, iV B3)] w1028 := by
   intro bq940_0 vq940_1 vq940_2 vq940_3 vq940_4 vq940_5 vq940_6 w1028 H1029
   rw [hX950]
   refine zy [8, 11] (by kernel_rfl) (by simp) (allc ?_ (allc ?_ alln))
   ·refine XC_do q ?_
    have H1030 := H1029.p6
    refine zw H1030 (C2.c.c.c.c.c.c.c.c.c.c) hx446 u24 j3 q q q q q q (fun v1031 w1032 H1033 => ?_)
    refine XN H1033.chg ?_
    have H1035 := H1033.p6.p6.p6.p6.p6.p6
    exact zu hX950 (K975 bq940_0 vq940_1 vq940_2 vq940_3 vq940_4 vq940_5 v1031 _ H1035) (by kernel_rfl) ⟨q, q, q, q, q, q, q, trivial⟩
   refine XC_do q ?_
   refine zs (t := ty8) (args := []) (xs := ([] : LT)) H1029 (BltL.nil) u25 j33 q q q q q q (fun v1036 w1037 H1038 => ?_)
   refine XN H1038.chg ?_
   have H1040 := H1038.p7.p7.p7.p7.p7.p7.p7
   exact zu hX950 (K983 bq940_0 vq940_1 vq940_2 vq940_3 vq940_4 vq940_5 vq940_6 v1036 _ H1040) (by kernel_rfl) ⟨q, q, q, q, q, q, q, q, q, trivial⟩
  have K1041 : ∀ (bq941_0 : Nat) (vq941_1 : Value) (vq941_2 : Value) (vq941_3 : Value) (vq941_4 : Value) (vq941_5 : Value) (vq941_6 : Value) (w1042 : World), Holds M0 w629 w1042 [.bx bq941_0 27 [vq941_1, vq941_2, vq941_3, iV 0, vq941_4], .sl 70 ty7 vq941_1 ([]), .sl 3 tI vq941_2 ([]), .sl 3 tI vq941_3 ([]), .sl 33 ty8 vq941_4 ([]), .sl 3 tI vq941_5 x434, .sl 33 ty8 vq941_6 ([])] ([.bx b1 27 [A0, A1, A2, iV B3, A4], .bx b5 27 [nS, nS, nS, iV 0, nS], .sl 70 ty7 vp426 p426] ++ G) → X949 4 (bitA 15 11999) [(1, pB b1), (2, pB b5), (5, pB bq941_0), (40, vp426), (44, vq941_5), (47, A2), (50, iV B3), (51, vq941_6)] w1042 := by
   intro bq941_0 vq941_1 vq941_2 vq941_3 vq941_4 vq941_5 vq941_6 w1042 H1043
   rw [hX950]
   refine X1 5 (by kernel_rfl) q ?_
   refine zs (t := tI) (args := []) (xs := ([] : List Int)) H1043 (BltL.nil) u24 j3 q q q q q q (fun v1044 w1045 H1046 => ?_)
   refine XN H1046.chg ?_
   have H1048 := H1046.p7.p1.p7.p7.p7.p7.p7.p7
   exact zu hX950 (K983 bq941_0 vq941_1 vq941_2 vq941_3 vq941_4 vq941_5 v1044 vq941_6 _ H1048) (by kernel_rfl) ⟨q, q, q, q, q, q, q, q, q, trivial⟩
  have K1049 : ∀ (bq942_0 : Nat) (vq942_1 : Value) (vq942_2 : Value) (vq942_3 : Value) (vq942_4 : Value) (vq942_5 : Value) (vq942_6 : Value) (vq942_7 : Value) (w1050 : World), Holds M0 w629 w1050 [.bx bq942_0 27 [vq942_1, vq942_2, vq942_3, iV 0, vq942_4], .sl 70 ty7 vq942_1 ([]), .sl 3 tI vq942_2 ([]), .sl 3 tI vq942_3 ([]), .sl 33 ty8 vq942_4 ([]), .sl 3 tI vq942_5 ([]), .sl 3 tI vq942_6 ([]), .sl 33 ty8 vq942_7 ([])] ([.bx b1 27 [A0, A1, A2, iV B3, A4], .bx b5 27 [nS, nS, nS, iV 0, nS], .sl 70 ty7 vp426 p426] ++ G) → X949 4 (bitA 15 12015) [(1, pB b1), (2, pB b5), (5, pB bq942_0), (40, vp426), (41, vq942_5), (43, A1), (45, vq942_6), (47, A2), (50, iV B3), (51, vq942_7)] w1050 := by
   intro bq942_0 vq942_1 vq942_2 vq942_3 vq942_4 vq942_5 vq942_6 vq942_7 w1050 H1051
   rw [hX950]
   refine X1 4 (by kernel_rfl) q ?_
   have H1052 := H1051.p5
   refine zw H1052 (C1.c.c.c.c.c.c.c.c.c.c.c) hx435 u24 j3 q q q q q q (fun v1053 w1054 H1055 => ?_)
   refine XN H1055.chg ?_
   have H1057 := H1055.p7.p7.p2.p7.p7.p7.p7.p7
   exact zu hX950 (K983 bq942_0 vq942_1 vq942_2 vq942_3 vq942_4 v1053 vq942_6 vq942_7 _ H1057) (by kernel_rfl) ⟨q, q, q, q, q, q, q, q, q, trivial⟩
  have K1058 : ∀ (vq931_0 : Value) (vq931_1 : Value) (w1059 : World), Holds M0 w629 w1059 [.sl 3 tI vq931_0 x434, .sl 3 tI vq931_1 ([])] ([.bx b1 27 [A0, A1, A2, iV B3, A4], .bx b5 27 [nS, nS, nS, iV 0, nS], .sl 70 ty7 vp426 p426] ++ G) → X949 5 (bitA 15 1791) [(1, pB b1), (2, pB b5), (40, vp426), (44, vq931_0), (45, vq931_1), (47, A2), (50, iV B3)] w1059 := by
   intro vq931_0 vq931_1 w1059 H1060
   rw [hX950]
   refine zy [8, 11, 13] (by kernel_rfl) (by simp) (allc ?_ (allc ?_ (allc ?_ alln)))
   ·refine XC_do q ?_
    have H1061 := H1060.p1
    refine zw H1061 (C2.c.c.c.c.c) hx446 u24 j3 q q q q q q (fun v1062 w1063 H1064 => ?_)
    refine XN H1064.chg ?_
    have H1066 := H1064.p1
    exact zu hX950 (K992 vq931_0 v1062 _ H1066) (by kernel_rfl) ⟨q, q, q, q, q, q, trivial⟩
   ·refine XC_do q ?_
    refine zs (t := ty8) (args := []) (xs := ([] : LT)) H1060 (BltL.nil) u25 j33 q q q q q q (fun v1067 w1068 H1069 => ?_)
    refine XN H1069.chg ?_
    have H1071 := H1069.p2.p2
    exact zu hX950 (K1009 vq931_0 vq931_1 v1067 _ H1071) (by kernel_rfl) ⟨q, q, q, q, q, q, q, q, trivial⟩
   refine XC_do q ?_
   refine zq (cs := [nS, nS, nS, iV 0, nS]) H1060 z27 q q q (fun b1072 w1073 H1074 => ?_)
   refine XN H1074.chg ?_
   have H1076 := H1074.nS 70 ty7
   have H1077 := H1076.nS 3 tI
   have H1078 := H1077.nS 3 tI
   have H1079 := H1078.nS 33 ty8
   have H1080 := H1079.p6.p6.p2.p3.p4.p5.p6
   exact zu hX950 (K1027 b1072 (nS) (nS) (nS) (nS) vq931_0 vq931_1 _ H1080) (by kernel_rfl) ⟨q, q, q, q, q, q, q, q, trivial⟩
  have K1081 : ∀ (vq932_0 : Value) (vq932_1 : Value) (w1082 : World), Holds M0 w629 w1082 [.sl 3 tI vq932_0 x434, .sl 33 ty8 vq932_1 ([])] ([.bx b1 27 [A0, A1, A2, iV B3, A4], .bx b5 27 [nS, nS, nS, iV 0, nS], .sl 70 ty7 vp426 p426] ++ G) → X949 5 (bitA 15 3807) [(1, pB b1), (2, pB b5), (40, vp426), (44, vq932_0), (47, A2), (50, iV B3), (51, vq932_1)] w1082 := by
   intro vq932_0 vq932_1 w1082 H1083
   rw [hX950]
   refine zy [5, 13] (by kernel_rfl) (by simp) (allc ?_ (allc ?_ alln))
   ·refine XC_do q ?_
    refine zs (t := tI) (args := []) (xs := ([] : List Int)) H1083 (BltL.nil) u24 j3 q q q q q q (fun v1084 w1085 H1086 => ?_)
    refine XN H1086.chg ?_
    have H1088 := H1086.p2.p1.p2
    exact zu hX950 (K1009 vq932_0 v1084 vq932_1 _ H1088) (by kernel_rfl) ⟨q, q, q, q, q, q, q, q, trivial⟩
   refine XC_do q ?_
   refine zq (cs := [nS, nS, nS, iV 0, nS]) H1083 z27 q q q (fun b1089 w1090 H1091 => ?_)
   refine XN H1091.chg ?_
   have H1093 := H1091.nS 70 ty7
   have H1094 := H1093.nS 3 tI
   have H1095 := H1094.nS 3 tI
   have H1096 := H1095.nS 33 ty8
   have H1097 := H1096.p6.p6.p2.p3.p4.p5.p6
   exact zu hX950 (K1041 b1089 (nS) (nS) (nS) (nS) vq932_0 vq932_1 _ H1097) (by kernel_rfl) ⟨q, q, q, q, q, q, q, q, trivial⟩
  have K1098 : ∀ (bq933_0 : Nat) (vq933_1 : Value) (vq933_2 : Value) (vq933_3 : Value) (vq933_4 : Value) (vq933_5 : Value) (w1099 : World), Holds M0 w629 w1099 [.bx bq933_0 27 [vq933_1, vq933_2, vq933_3, iV 0, vq933_4], .sl 70 ty7 vq933_1 ([]), .sl 3 tI vq933_2 ([]), .sl 3 tI vq933_3 ([]), .sl 33 ty8 vq933_4 ([]), .sl 3 tI vq933_5 x434] ([.bx b1 27 [A0, A1, A2, iV B3, A4], .bx b5 27 [nS, nS, nS, iV 0, nS], .sl 70 ty7 vp426 p426] ++ G) → X949 5 (bitA 15 9951) [(1, pB b1), (2, pB b5), (5, pB bq933_0), (40, vp426), (44, vq933_5), (47, A2), (50, iV B3)] w1099 := by
   intro bq933_0 vq933_1 vq933_2 vq933_3 vq933_4 vq933_5 w1099 H1100
   rw [hX950]
   refine zy [5, 11] (by kernel_rfl) (by simp) (allc ?_ (allc ?_ alln))
   ·refine XC_do q ?_
    refine zs (t := tI) (args := []) (xs := ([] : List Int)) H1100 (BltL.nil) u24 j3 q q q q q q (fun v1101 w1102 H1103 => ?_)
    refine XN H1103.chg ?_
    have H1105 := H1103.p6.p6.p6.p6.p6.p6
    exact zu hX950 (K1027 bq933_0 vq933_1 vq933_2 vq933_3 vq933_4 vq933_5 v1101 _ H1105) (by kernel_rfl) ⟨q, q, q, q, q, q, q, q, trivial⟩
   refine XC_do q ?_
   refine zs (t := ty8) (args := []) (xs := ([] : LT)) H1100 (BltL.nil) u25 j33 q q q q q q (fun v1106 w1107 H1108 => ?_)
   refine XN H1108.chg ?_
   have H1110 := H1108.p6.p6.p6.p6.p6.p6
   exact zu hX950 (K1041 bq933_0 vq933_1 vq933_2 vq933_3 vq933_4 vq933_5 v1106 _ H1110) (by kernel_rfl) ⟨q, q, q, q, q, q, q, q, trivial⟩
  have K1111 : ∀ (vq934_0 : Value) (vq934_1 : Value) (vq934_2 : Value) (w1112 : World), Holds M0 w629 w1112 [.sl 3 tI vq934_0 ([]), .sl 3 tI vq934_1 ([]), .sl 33 ty8 vq934_2 ([])] ([.bx b1 27 [A0, A1, A2, iV B3, A4], .bx b5 27 [nS, nS, nS, iV 0, nS], .sl 70 ty7 vp426 p426] ++ G) → X949 5 (bitA 15 3823) [(1, pB b1), (2, pB b5), (40, vp426), (41, vq934_0), (43, A1), (45, vq934_1), (47, A2), (50, iV B3), (51, vq934_2)] w1112 := by
   intro vq934_0 vq934_1 vq934_2 w1112 H1113
   rw [hX950]
   refine zy [4, 13] (by kernel_rfl) (by simp) (allc ?_ (allc ?_ alln))
   ·refine XC_do q ?_
    refine zw H1113 (C1.c.c.c.c.c.c) hx435 u24 j3 q q q q q q (fun v1114 w1115 H1116 => ?_)
    refine XN H1116.chg ?_
    have H1118 := H1116.p2.p2.p2
    exact zu hX950 (K1009 v1114 vq934_1 vq934_2 _ H1118) (by kernel_rfl) ⟨q, q, q, q, q, q, q, q, trivial⟩
   refine XC_do q ?_
   refine zq (cs := [nS, nS, nS, iV 0, nS]) H1113 z27 q q q (fun b1119 w1120 H1121 => ?_)
   refine XN H1121.chg ?_
   have H1123 := H1121.nS 70 ty7
   have H1124 := H1123.nS 3 tI
   have H1125 := H1124.nS 3 tI
   have H1126 := H1125.nS 33 ty8
   have H1127 := H1126.p7.p7.p7.p3.p4.p5.p6.p7
   exact zu hX950 (K1049 b1119 (nS) (nS) (nS) (nS) vq934_0 vq934_1 vq934_2 _ H1127) (by kernel_rfl) ⟨q, q, q, q, q, q, q, q, q, q, trivial⟩
  have K1128 : ∀ (bq935_0 : Nat) (vq935_1 : Value) (vq935_2 : Value) (vq935_3 : Value) (vq935_4 : Value) (vq935_5 : Value) (vq935_6 : Value) (w1129 : World), Holds M0 w629 w1129 [.bx bq935_0 27 [vq935_1, vq935_2, vq935_3, iV 0, vq935_4], .sl 70 ty7 vq935_1 ([]), .sl 3 tI vq935_2 ([]), .sl 3 tI vq935_3 ([]), .sl 33 ty8 vq935_4 ([]), .sl 3 tI vq935_5 ([]), .sl 3 tI vq935_6 ([])] ([.bx b1 27 [A0, A1, A2, iV B3, A4], .bx b5 27 [nS, nS, nS, iV 0, nS], .sl 70 ty7 vp426 p426] ++ G) → X949 5 (bitA 15 9967) [(1, pB b1), (2, pB b5), (5, pB bq935_0), (40, vp426), (41, vq935_5), (43, A1), (45, vq935_6), (47, A2), (50, iV B3)] w1129 := by
   intro bq935_0 vq935_1 vq935_2 vq935_3 vq935_4 vq935_5 vq935_6 w1129 H1130
   rw [hX950]
   refine zy [4, 11] (by kernel_rfl) (by simp) (allc ?_ (allc ?_ alln))
   ·refine XC_do q ?_
    have H1131 := H1130.p5
    refine zw H1131 (C1.c.c.c.c.c.c.c.c.c.c) hx435 u24 j3 q q q q q q (fun v1132 w1133 H1134 => ?_)
    refine XN H1134.chg ?_
    have H1136 := H1134.p6.p1.p6.p6.p6.p6.p6
    exact zu hX950 (K1027 bq935_0 vq935_1 vq935_2 vq935_3 vq935_4 v1132 vq935_6 _ H1136) (by kernel_rfl) ⟨q, q, q, q, q, q, q, q, trivial⟩
   refine XC_do q ?_
   refine zs (t := ty8) (args := []) (xs := ([] : LT)) H1130 (BltL.nil) u25 j33 q q q q q q (fun v1137 w1138 H1139 => ?_)
   refine XN H1139.chg ?_
   have H1141 := H1139.p7.p7.p7.p7.p7.p7.p7
   exact zu hX950 (K1049 bq935_0 vq935_1 vq935_2 vq935_3 vq935_4 vq935_5 vq935_6 v1137 _ H1141) (by kernel_rfl) ⟨q, q, q, q, q, q, q, q, q, q, trivial⟩
  have K1142 : ∀ (bq936_0 : Nat) (vq936_1 : Value) (vq936_2 : Value) (vq936_3 : Value) (vq936_4 : Value) (vq936_5 : Value) (vq936_6 : Value) (w1143 : World), Holds M0 w629 w1143 [.bx bq936_0 27 [vq936_1, vq936_2, vq936_3, iV 0, vq936_4], .sl 70 ty7 vq936_1 ([]), .sl 3 tI vq936_2 ([]), .sl 3 tI vq936_3 ([]), .sl 33 ty8 vq936_4 ([]), .sl 3 tI vq936_5 ([]), .sl 33 ty8 vq936_6 ([])] ([.bx b1 27 [A0, A1, A2, iV B3, A4], .bx b5 27 [nS, nS, nS, iV 0, nS], .sl 70 ty7 vp426 p426] ++ G) → X949 5 (bitA 15 11983) [(1, pB b1), (2, pB b5), (5, pB bq936_0), (40, vp426), (41, vq936_5), (43, A1), (47, A2), (50, iV B3), (51, vq936_6)] w1143 := by
   intro bq936_0 vq936_1 vq936_2 vq936_3 vq936_4 vq936_5 vq936_6 w1143 H1144
   rw [hX950]
   refine zy [4, 5] (by kernel_rfl) (by simp) (allc ?_ (allc ?_ alln))
   ·refine XC_do q ?_
    have H1145 := H1144.p5
    refine zw H1145 (C1.c.c.c.c.c.c.c.c.c.c) hx435 u24 j3 q q q q q q (fun v1146 w1147 H1148 => ?_)
    refine XN H1148.chg ?_
    have H1150 := H1148.p6.p1.p6.p6.p6.p6.p6
    exact zu hX950 (K1041 bq936_0 vq936_1 vq936_2 vq936_3 vq936_4 v1146 vq936_6 _ H1150) (by kernel_rfl) ⟨q, q, q, q, q, q, q, q, trivial⟩
   refine XC_do q ?_
   refine zs (t := tI) (args := []) (xs := ([] : List Int)) H1144 (BltL.nil) u24 j3 q q q q q q (fun v1151 w1152 H1153 => ?_)
   refine XN H1153.chg ?_
   have H1155 := H1153.p7.p1.p7.p7.p7.p7.p7.p7
   exact zu hX950 (K1049 bq936_0 vq936_1 vq936_2 vq936_3 vq936_4 vq936_5 v1151 vq936_6 _ H1155) (by kernel_rfl) ⟨q, q, q, q, q, q, q, q, q, q, trivial⟩
  have K1156 : ∀ (bq937_0 : Nat) (vq937_1 : Value) (vq937_2 : Value) (vq937_3 : Value) (vq937_4 : Value) (vq937_5 : Value) (vq937_6 : Value) (w1157 : World), Holds M0 w629 w1157 [.bx bq937_0 27 [vq937_1, vq937_2, vq937_3, iV 0, vq937_4], .sl 70 ty7 vq937_1 ([]), .sl 3 tI vq937_2 ([]), .sl 3 tI vq937_3 ([]), .sl 33 ty8 vq937_4 ([]), .sl 3 tI vq937_5 ([]), .sl 33 ty8 vq937_6 ([])] ([.bx b1 27 [A0, A1, A2, iV B3, A4], .bx b5 27 [nS, nS, nS, iV 0, nS], .sl 70 ty7 vp426 p426] ++ G) → X949 5 (bitA 15 12013) [(1, pB b1), (2, pB b5), (5, pB bq937_0), (40, vp426), (43, A1), (45, vq937_5), (47, A2), (50, iV B3), (51, vq937_6)] w1157 := by
   intro bq937_0 vq937_1 vq937_2 vq937_3 vq937_4 vq937_5 vq937_6 w1157 H1158
   rw [hX950]
   refine X1 1 (by kernel_rfl) q ?_
   refine zs (t := tI) (args := []) (xs := ([] : List Int)) H1158 (BltL.nil) u24 j3 q q q q q q (fun v1159 w1160 H1161 => ?_)
   refine XN H1161.chg ?_
   have H1163 := H1161.p7.p7.p2.p7.p7.p7.p7.p7
   exact zu hX950 (K1049 bq937_0 vq937_1 vq937_2 vq937_3 vq937_4 v1159 vq937_5 vq937_6 _ H1163) (by kernel_rfl) ⟨q, q, q, q, q, q, q, q, q, q, trivial⟩
  have K1164 : ∀ (vq924_0 : Value) (w1165 : World), Holds M0 w629 w1165 [.sl 3 tI vq924_0 x434] ([.bx b1 27 [A0, A1, A2, iV B3, A4], .bx b5 27 [nS, nS, nS, iV 0, nS], .sl 70 ty7 vp426 p426] ++ G) → X949 6 (bitA 15 1759) [(1, pB b1), (2, pB b5), (40, vp426), (44, vq924_0), (47, A2), (50, iV B3)] w1165 := by
   intro vq924_0 w1165 H1166
   rw [hX950]
   refine zy [5, 11, 13] (by kernel_rfl) (by simp) (allc ?_ (allc ?_ (allc ?_ alln)))
   ·refine XC_do q ?_
    refine zs (t := tI) (args := []) (xs := ([] : List Int)) H1166 (BltL.nil) u24 j3 q q q q q q (fun v1167 w1168 H1169 => ?_)
    refine XN H1169.chg ?_
    have H1171 := H1169.p1
    exact zu hX950 (K1058 vq924_0 v1167 _ H1171) (by kernel_rfl) ⟨q, q, q, q, q, q, q, trivial⟩
   ·refine XC_do q ?_
    refine zs (t := ty8) (args := []) (xs := ([] : LT)) H1166 (BltL.nil) u25 j33 q q q q q q (fun v1172 w1173 H1174 => ?_)
    refine XN H1174.chg ?_
    have H1176 := H1174.p1
    exact zu hX950 (K1081 vq924_0 v1172 _ H1176) (by kernel_rfl) ⟨q, q, q, q, q, q, q, trivial⟩
   refine XC_do q ?_
   refine zq (cs := [nS, nS, nS, iV 0, nS]) H1166 z27 q q q (fun b1177 w1178 H1179 => ?_)
   refine XN H1179.chg ?_
   have H1181 := H1179.nS 70 ty7
   have H1182 := H1181.nS 3 tI
   have H1183 := H1182.nS 3 tI
   have H1184 := H1183.nS 33 ty8
   have H1185 := H1184.p5.p1.p2.p3.p4.p5
   exact zu hX950 (K1098 b1177 (nS) (nS) (nS) (nS) vq924_0 _ H1185) (by kernel_rfl) ⟨q, q, q, q, q, q, q, trivial⟩
  have K1186 : ∀ (vq925_0 : Value) (vq925_1 : Value) (w1187 : World), Holds M0 w629 w1187 [.sl 3 tI vq925_0 ([]), .sl 3 tI vq925_1 ([])] ([.bx b1 27 [A0, A1, A2, iV B3, A4], .bx b5 27 [nS, nS, nS, iV 0, nS], .sl 70 ty7 vp426 p426] ++ G) → X949 6 (bitA 15 1775) [(1, pB b1), (2, pB b5), (40, vp426), (41, vq925_0), (43, A1), (45, vq925_1), (47, A2), (50, iV B3)] w1187 := by
   intro vq925_0 vq925_1 w1187 H1188
   rw [hX950]
   refine zy [4, 11, 13] (by kernel_rfl) (by simp) (allc ?_ (allc ?_ (allc ?_ alln)))
   ·refine XC_do q ?_
    refine zw H1188 (C1.c.c.c.c.c) hx435 u24 j3 q q q q q q (fun v1189 w1190 H1191 => ?_)
    refine XN H1191.chg ?_
    have H1193 := H1191.p1.p1
    exact zu hX950 (K1058 v1189 vq925_1 _ H1193) (by kernel_rfl) ⟨q, q, q, q, q, q, q, trivial⟩
   ·refine XC_do q ?_
    refine zs (t := ty8) (args := []) (xs := ([] : LT)) H1188 (BltL.nil) u25 j33 q q q q q q (fun v1194 w1195 H1196 => ?_)
    refine XN H1196.chg ?_
    have H1198 := H1196.p2.p2
    exact zu hX950 (K1111 vq925_0 vq925_1 v1194 _ H1198) (by kernel_rfl) ⟨q, q, q, q, q, q, q, q, q, trivial⟩
   refine XC_do q ?_
   refine zq (cs := [nS, nS, nS, iV 0, nS]) H1188 z27 q q q (fun b1199 w1200 H1201 => ?_)
   refine XN H1201.chg ?_
   have H1203 := H1201.nS 70 ty7
   have H1204 := H1203.nS 3 tI
   have H1205 := H1204.nS 3 tI
   have H1206 := H1205.nS 33 ty8
   have H1207 := H1206.p6.p6.p2.p3.p4.p5.p6
   exact zu hX950 (K1128 b1199 (nS) (nS) (nS) (nS) vq925_0 vq925_1 _ H1207) (by kernel_rfl) ⟨q, q, q, q, q, q, q, q, q, trivial⟩
  have K1208 : ∀ (vq926_0 : Value) (vq926_1 : Value) (w1209 : World), Holds M0 w629 w1209 [.sl 3 tI vq926_0 ([]), .sl 33 ty8 vq926_1 ([])] ([.bx b1 27 [A0, A1, A2, iV B3, A4], .bx b5 27 [nS, nS, nS, iV 0, nS], .sl 70 ty7 vp426 p426] ++ G) → X949 6 (bitA 15 3791) [(1, pB b1), (2, pB b5), (40, vp426), (41, vq926_0), (43, A1), (47, A2), (50, iV B3), (51, vq926_1)] w1209 := by
   intro vq926_0 vq926_1 w1209 H1210
   rw [hX950]
   refine zy [4, 5, 13] (by kernel_rfl) (by simp) (allc ?_ (allc ?_ (allc ?_ alln)))
   ·refine XC_do q ?_
    refine zw H1210 (C1.c.c.c.c.c) hx435 u24 j3 q q q q q q (fun v1211 w1212 H1213 => ?_)
    refine XN H1213.chg ?_
    have H1215 := H1213.p1.p1
    exact zu hX950 (K1081 v1211 vq926_1 _ H1215) (by kernel_rfl) ⟨q, q, q, q, q, q, q, trivial⟩
   ·refine XC_do q ?_
    refine zs (t := tI) (args := []) (xs := ([] : List Int)) H1210 (BltL.nil) u24 j3 q q q q q q (fun v1216 w1217 H1218 => ?_)
    refine XN H1218.chg ?_
    have H1220 := H1218.p2.p1.p2
    exact zu hX950 (K1111 vq926_0 v1216 vq926_1 _ H1220) (by kernel_rfl) ⟨q, q, q, q, q, q, q, q, q, trivial⟩
   refine XC_do q ?_
   refine zq (cs := [nS, nS, nS, iV 0, nS]) H1210 z27 q q q (fun b1221 w1222 H1223 => ?_)
   refine XN H1223.chg ?_
   have H1225 := H1223.nS 70 ty7
   have H1226 := H1225.nS 3 tI
   have H1227 := H1226.nS 3 tI
   have H1228 := H1227.nS 33 ty8
   have H1229 := H1228.p6.p6.p2.p3.p4.p5.p6
   exact zu hX950 (K1142 b1221 (nS) (nS) (nS) (nS) vq926_0 vq926_1 _ H1229) (by kernel_rfl) ⟨q, q, q, q, q, q, q, q, q, trivial⟩
  have K1230 : ∀ (bq927_0 : Nat) (vq927_1 : Value) (vq927_2 : Value) (vq927_3 : Value) (vq927_4 : Value) (vq927_5 : Value) (w1231 : World), Holds M0 w629 w1231 [.bx bq927_0 27 [vq927_1, vq927_2, vq927_3, iV 0, vq927_4], .sl 70 ty7 vq927_1 ([]), .sl 3 tI vq927_2 ([]), .sl 3 tI vq927_3 ([]), .sl 33 ty8 vq927_4 ([]), .sl 3 tI vq927_5 ([])] ([.bx b1 27 [A0, A1, A2, iV B3, A4], .bx b5 27 [nS, nS, nS, iV 0, nS], .sl 70 ty7 vp426 p426] ++ G) → X949 6 (bitA 15 9935) [(1, pB b1), (2, pB b5), (5, pB bq927_0), (40, vp426), (41, vq927_5), (43, A1), (47, A2), (50, iV B3)] w1231 := by
   intro bq927_0 vq927_1 vq927_2 vq927_3 vq927_4 vq927_5 w1231 H1232
   rw [hX950]
   refine zy [4, 5, 11] (by kernel_rfl) (by simp) (allc ?_ (allc ?_ (allc ?_ alln)))
   ·refine XC_do q ?_
    have H1233 := H1232.p5
    refine zw H1233 (C1.c.c.c.c.c.c.c.c.c) hx435 u24 j3 q q q q q q (fun v1234 w1235 H1236 => ?_)
    refine XN H1236.chg ?_
    have H1238 := H1236.p5.p5.p5.p5.p5
    exact zu hX950 (K1098 bq927_0 vq927_1 vq927_2 vq927_3 vq927_4 v1234 _ H1238) (by kernel_rfl) ⟨q, q, q, q, q, q, q, trivial⟩
   ·refine XC_do q ?_
    refine zs (t := tI) (args := []) (xs := ([] : List Int)) H1232 (BltL.nil) u24 j3 q q q q q q (fun v1239 w1240 H1241 => ?_)
    refine XN H1241.chg ?_
    have H1243 := H1241.p6.p6.p6.p6.p6.p6
    exact zu hX950 (K1128 bq927_0 vq927_1 vq927_2 vq927_3 vq927_4 vq927_5 v1239 _ H1243) (by kernel_rfl) ⟨q, q, q, q, q, q, q, q, q, trivial⟩
   refine XC_do q ?_
   refine zs (t := ty8) (args := []) (xs := ([] : LT)) H1232 (BltL.nil) u25 j33 q q q q q q (fun v1244 w1245 H1246 => ?_)
   refine XN H1246.chg ?_
   have H1248 := H1246.p6.p6.p6.p6.p6.p6
   exact zu hX950 (K1142 bq927_0 vq927_1 vq927_2 vq927_3 vq927_4 vq927_5 v1244 _ H1248) (by kernel_rfl) ⟨q, q, q, q, q, q, q, q, q, trivial⟩
  have K1249 : ∀ (vq928_0 : Value) (vq928_1 : Value) (w1250 : World), Holds M0 w629 w1250 [.sl 3 tI vq928_0 ([]), .sl 33 ty8 vq928_1 ([])] ([.bx b1 27 [A0, A1, A2, iV B3, A4], .bx b5 27 [nS, nS, nS, iV 0, nS], .sl 70 ty7 vp426 p426] ++ G) → X949 6 (bitA 15 3821) [(1, pB b1), (2, pB b5), (40, vp426), (43, A1), (45, vq928_0), (47, A2), (50, iV B3), (51, vq928_1)] w1250 := by
   intro vq928_0 vq928_1 w1250 H1251
   rw [hX950]
   refine zy [1, 13] (by kernel_rfl) (by simp) (allc ?_ (allc ?_ alln))
   ·refine XC_do q ?_
    refine zs (t := tI) (args := []) (xs := ([] : List Int)) H1251 (BltL.nil) u24 j3 q q q q q q (fun v1252 w1253 H1254 => ?_)
    refine XN H1254.chg ?_
    have H1256 := H1254.p2.p2.p2
    exact zu hX950 (K1111 v1252 vq928_0 vq928_1 _ H1256) (by kernel_rfl) ⟨q, q, q, q, q, q, q, q, q, trivial⟩
   refine XC_do q ?_
   refine zq (cs := [nS, nS, nS, iV 0, nS]) H1251 z27 q q q (fun b1257 w1258 H1259 => ?_)
   refine XN H1259.chg ?_
   have H1261 := H1259.nS 70 ty7
   have H1262 := H1261.nS 3 tI
   have H1263 := H1262.nS 3 tI
   have H1264 := H1263.nS 33 ty8
   have H1265 := H1264.p6.p6.p2.p3.p4.p5.p6
   exact zu hX950 (K1156 b1257 (nS) (nS) (nS) (nS) vq928_0 vq928_1 _ H1265) (by kernel_rfl) ⟨q, q, q, q, q, q, q, q, q, trivial⟩
  have K1266 : ∀ (bq929_0 : Nat) (vq929_1 : Value) (vq929_2 : Value) (vq929_3 : Value) (vq929_4 : Value) (vq929_5 : Value) (w1267 : World), Holds M0 w629 w1267 [.bx bq929_0 27 [vq929_1, vq929_2, vq929_3, iV 0, vq929_4], .sl 70 ty7 vq929_1 ([]), .sl 3 tI vq929_2 ([]), .sl 3 tI vq929_3 ([]), .sl 33 ty8 vq929_4 ([]), .sl 3 tI vq929_5 ([])] ([.bx b1 27 [A0, A1, A2, iV B3, A4], .bx b5 27 [nS, nS, nS, iV 0, nS], .sl 70 ty7 vp426 p426] ++ G) → X949 6 (bitA 15 9965) [(1, pB b1), (2, pB b5), (5, pB bq929_0), (40, vp426), (43, A1), (45, vq929_5), (47, A2), (50, iV B3)] w1267 := by
   intro bq929_0 vq929_1 vq929_2 vq929_3 vq929_4 vq929_5 w1267 H1268
   rw [hX950]
   refine zy [1, 11] (by kernel_rfl) (by simp) (allc ?_ (allc ?_ alln))
   ·refine XC_do q ?_
    refine zs (t := tI) (args := []) (xs := ([] : List Int)) H1268 (BltL.nil) u24 j3 q q q q q q (fun v1269 w1270 H1271 => ?_)
    refine XN H1271.chg ?_
    have H1273 := H1271.p6.p1.p6.p6.p6.p6.p6
    exact zu hX950 (K1128 bq929_0 vq929_1 vq929_2 vq929_3 vq929_4 v1269 vq929_5 _ H1273) (by kernel_rfl) ⟨q, q, q, q, q, q, q, q, q, trivial⟩
   refine XC_do q ?_
   refine zs (t := ty8) (args := []) (xs := ([] : LT)) H1268 (BltL.nil) u25 j33 q q q q q q (fun v1274 w1275 H1276 => ?_)
   refine XN H1276.chg ?_
   have H1278 := H1276.p6.p6.p6.p6.p6.p6
   exact zu hX950 (K1156 bq929_0 vq929_1 vq929_2 vq929_3 vq929_4 vq929_5 v1274 _ H1278) (by kernel_rfl) ⟨q, q, q, q, q, q, q, q, q, trivial⟩
  have K1279 : ∀ (bq930_0 : Nat) (vq930_1 : Value) (vq930_2 : Value) (vq930_3 : Value) (vq930_4 : Value) (vq930_5 : Value) (w1280 : World), Holds M0 w629 w1280 [.bx bq930_0 27 [vq930_1, vq930_2, vq930_3, iV 0, vq930_4], .sl 70 ty7 vq930_1 ([]), .sl 3 tI vq930_2 ([]), .sl 3 tI vq930_3 ([]), .sl 33 ty8 vq930_4 ([]), .sl 33 ty8 vq930_5 ([])] ([.bx b1 27 [A0, A1, A2, iV B3, A4], .bx b5 27 [nS, nS, nS, iV 0, nS], .sl 70 ty7 vp426 p426] ++ G) → X949 6 (bitA 15 11981) [(1, pB b1), (2, pB b5), (5, pB bq930_0), (40, vp426), (43, A1), (47, A2), (50, iV B3), (51, vq930_5)] w1280 := by
   intro bq930_0 vq930_1 vq930_2 vq930_3 vq930_4 vq930_5 w1280 H1281
   rw [hX950]
   refine zy [1, 5] (by kernel_rfl) (by simp) (allc ?_ (allc ?_ alln))
   ·refine XC_do q ?_
    refine zs (t := tI) (args := []) (xs := ([] : List Int)) H1281 (BltL.nil) u24 j3 q q q q q q (fun v1282 w1283 H1284 => ?_)
    refine XN H1284.chg ?_
    have H1286 := H1284.p6.p1.p6.p6.p6.p6.p6
    exact zu hX950 (K1142 bq930_0 vq930_1 vq930_2 vq930_3 vq930_4 v1282 vq930_5 _ H1286) (by kernel_rfl) ⟨q, q, q, q, q, q, q, q, q, trivial⟩
   refine XC_do q ?_
   refine zs (t := tI) (args := []) (xs := ([] : List Int)) H1281 (BltL.nil) u24 j3 q q q q q q (fun v1287 w1288 H1289 => ?_)
   refine XN H1289.chg ?_
   have H1291 := H1289.p6.p1.p6.p6.p6.p6.p6
   exact zu hX950 (K1156 bq930_0 vq930_1 vq930_2 vq930_3 vq930_4 v1287 vq930_5 _ H1291) (by kernel_rfl) ⟨q, q, q, q, q, q, q, q, q, trivial⟩
  have K1292 : ∀ (vq920_0 : Value) (w1293 : World), Holds M0 w629 w1293 [.sl 3 tI vq920_0 ([])] ([.bx b1 27 [A0, A1, A2, iV B3, A4], .bx b5 27 [nS, nS, nS, iV 0, nS], .sl 70 ty7 vp426 p426] ++ G) → X949 7 (bitA 15 1743) [(1, pB b1), (2, pB b5), (40, vp426), (41, vq920_0), (43, A1), (47, A2), (50, iV B3)] w1293 := by
   intro vq920_0 w1293 H1294
   rw [hX950]
   refine zy [4, 5, 11, 13] (by kernel_rfl) (by simp) (allc ?_ (allc ?_ (allc ?_ (allc ?_ alln))))
   ·refine XC_do q ?_
    refine zw H1294 (C1.c.c.c.c) hx435 u24 j3 q q q q q q (fun v1295 w1296 H1297 => ?_)
    refine XN H1297.chg ?_
    exact zu hX950 (K1164 v1295 _ H1297) (by kernel_rfl) ⟨q, q, q, q, q, q, trivial⟩
   ·refine XC_do q ?_
    refine zs (t := tI) (args := []) (xs := ([] : List Int)) H1294 (BltL.nil) u24 j3 q q q q q q (fun v1299 w1300 H1301 => ?_)
    refine XN H1301.chg ?_
    have H1303 := H1301.p1
    exact zu hX950 (K1186 vq920_0 v1299 _ H1303) (by kernel_rfl) ⟨q, q, q, q, q, q, q, q, trivial⟩
   ·refine XC_do q ?_
    refine zs (t := ty8) (args := []) (xs := ([] : LT)) H1294 (BltL.nil) u25 j33 q q q q q q (fun v1304 w1305 H1306 => ?_)
    refine XN H1306.chg ?_
    have H1308 := H1306.p1
    exact zu hX950 (K1208 vq920_0 v1304 _ H1308) (by kernel_rfl) ⟨q, q, q, q, q, q, q, q, trivial⟩
   refine XC_do q ?_
   refine zq (cs := [nS, nS, nS, iV 0, nS]) H1294 z27 q q q (fun b1309 w1310 H1311 => ?_)
   refine XN H1311.chg ?_
   have H1313 := H1311.nS 70 ty7
   have H1314 := H1313.nS 3 tI
   have H1315 := H1314.nS 3 tI
   have H1316 := H1315.nS 33 ty8
   have H1317 := H1316.p5.p1.p2.p3.p4.p5
   exact zu hX950 (K1230 b1309 (nS) (nS) (nS) (nS) vq920_0 _ H1317) (by kernel_rfl) ⟨q, q, q, q, q, q, q, q, trivial⟩
  have K1318 : ∀ (vq921_0 : Value) (w1319 : World), Holds M0 w629 w1319 [.sl 3 tI vq921_0 ([])] ([.bx b1 27 [A0, A1, A2, iV B3, A4], .bx b5 27 [nS, nS, nS, iV 0, nS], .sl 70 ty7 vp426 p426] ++ G) → X949 7 (bitA 15 1773) [(1, pB b1), (2, pB b5), (40, vp426), (43, A1), (45, vq921_0), (47, A2), (50, iV B3)] w1319 := by
   intro vq921_0 w1319 H1320
   rw [hX950]
   refine zy [1, 11, 13] (by kernel_rfl) (by simp) (allc ?_ (allc ?_ (allc ?_ alln)))
   ·refine XC_do q ?_
    refine zs (t := tI) (args := []) (xs := ([] : List Int)) H1320 (BltL.nil) u24 j3 q q q q q q (fun v1321 w1322 H1323 => ?_)
    refine XN H1323.chg ?_
    have H1325 := H1323.p1.p1
    exact zu hX950 (K1186 v1321 vq921_0 _ H1325) (by kernel_rfl) ⟨q, q, q, q, q, q, q, q, trivial⟩
   ·refine XC_do q ?_
    refine zs (t := ty8) (args := []) (xs := ([] : LT)) H1320 (BltL.nil) u25 j33 q q q q q q (fun v1326 w1327 H1328 => ?_)
    refine XN H1328.chg ?_
    have H1330 := H1328.p1
    exact zu hX950 (K1249 vq921_0 v1326 _ H1330) (by kernel_rfl) ⟨q, q, q, q, q, q, q, q, trivial⟩
   refine XC_do q ?_
   refine zq (cs := [nS, nS, nS, iV 0, nS]) H1320 z27 q q q (fun b1331 w1332 H1333 => ?_)
   refine XN H1333.chg ?_
   have H1335 := H1333.nS 70 ty7
   have H1336 := H1335.nS 3 tI
   have H1337 := H1336.nS 3 tI
   have H1338 := H1337.nS 33 ty8
   have H1339 := H1338.p5.p1.p2.p3.p4.p5
   exact zu hX950 (K1266 b1331 (nS) (nS) (nS) (nS) vq921_0 _ H1339) (by kernel_rfl) ⟨q, q, q, q, q, q, q, q, trivial⟩
  have K1340 : ∀ (vq922_0 : Value) (w1341 : World), Holds M0 w629 w1341 [.sl 33 ty8 vq922_0 ([])] ([.bx b1 27 [A0, A1, A2, iV B3, A4], .bx b5 27 [nS, nS, nS, iV 0, nS], .sl 70 ty7 vp426 p426] ++ G) → X949 7 (bitA 15 3789) [(1, pB b1), (2, pB b5), (40, vp426), (43, A1), (47, A2), (50, iV B3), (51, vq922_0)] w1341 := by
   intro vq922_0 w1341 H1342
   rw [hX950]
   refine zy [1, 5, 13] (by kernel_rfl) (by simp) (allc ?_ (allc ?_ (allc ?_ alln)))
   ·refine XC_do q ?_
    refine zs (t := tI) (args := []) (xs := ([] : List Int)) H1342 (BltL.nil) u24 j3 q q q q q q (fun v1343 w1344 H1345 => ?_)
    refine XN H1345.chg ?_
    have H1347 := H1345.p1.p1
    exact zu hX950 (K1208 v1343 vq922_0 _ H1347) (by kernel_rfl) ⟨q, q, q, q, q, q, q, q, trivial⟩
   ·refine XC_do q ?_
    refine zs (t := tI) (args := []) (xs := ([] : List Int)) H1342 (BltL.nil) u24 j3 q q q q q q (fun v1348 w1349 H1350 => ?_)
    refine XN H1350.chg ?_
    have H1352 := H1350.p1.p1
    exact zu hX950 (K1249 v1348 vq922_0 _ H1352) (by kernel_rfl) ⟨q, q, q, q, q, q, q, q, trivial⟩
   refine XC_do q ?_
   refine zq (cs := [nS, nS, nS, iV 0, nS]) H1342 z27 q q q (fun b1353 w1354 H1355 => ?_)
   refine XN H1355.chg ?_
   have H1357 := H1355.nS 70 ty7
   have H1358 := H1357.nS 3 tI
   have H1359 := H1358.nS 3 tI
   have H1360 := H1359.nS 33 ty8
   have H1361 := H1360.p5.p1.p2.p3.p4.p5
   exact zu hX950 (K1279 b1353 (nS) (nS) (nS) (nS) vq922_0 _ H1361) (by kernel_rfl) ⟨q, q, q, q, q, q, q, q, trivial⟩
  have K1362 : ∀ (bq923_0 : Nat) (vq923_1 : Value) (vq923_2 : Value) (vq923_3 : Value) (vq923_4 : Value) (w1363 : World), Holds M0 w629 w1363 [.bx bq923_0 27 [vq923_1, vq923_2, vq923_3, iV 0, vq923_4], .sl 70 ty7 vq923_1 ([]), .sl 3 tI vq923_2 ([]), .sl 3 tI vq923_3 ([]), .sl 33 ty8 vq923_4 ([])] ([.bx b1 27 [A0, A1, A2, iV B3, A4], .bx b5 27 [nS, nS, nS, iV 0, nS], .sl 70 ty7 vp426 p426] ++ G) → X949 7 (bitA 15 9933) [(1, pB b1), (2, pB b5), (5, pB bq923_0), (40, vp426), (43, A1), (47, A2), (50, iV B3)] w1363 := by
   intro bq923_0 vq923_1 vq923_2 vq923_3 vq923_4 w1363 H1364
   rw [hX950]
   refine zy [1, 5, 11] (by kernel_rfl) (by simp) (allc ?_ (allc ?_ (allc ?_ alln)))
   ·refine XC_do q ?_
    refine zs (t := tI) (args := []) (xs := ([] : List Int)) H1364 (BltL.nil) u24 j3 q q q q q q (fun v1365 w1366 H1367 => ?_)
    refine XN H1367.chg ?_
    have H1369 := H1367.p5.p5.p5.p5.p5
    exact zu hX950 (K1230 bq923_0 vq923_1 vq923_2 vq923_3 vq923_4 v1365 _ H1369) (by kernel_rfl) ⟨q, q, q, q, q, q, q, q, trivial⟩
   ·refine XC_do q ?_
    refine zs (t := tI) (args := []) (xs := ([] : List Int)) H1364 (BltL.nil) u24 j3 q q q q q q (fun v1370 w1371 H1372 => ?_)
    refine XN H1372.chg ?_
    have H1374 := H1372.p5.p5.p5.p5.p5
    exact zu hX950 (K1266 bq923_0 vq923_1 vq923_2 vq923_3 vq923_4 v1370 _ H1374) (by kernel_rfl) ⟨q, q, q, q, q, q, q, q, trivial⟩
   refine XC_do q ?_
   refine zs (t := ty8) (args := []) (xs := ([] : LT)) H1364 (BltL.nil) u25 j33 q q q q q q (fun v1375 w1376 H1377 => ?_)
   refine XN H1377.chg ?_
   have H1379 := H1377.p5.p5.p5.p5.p5
   exact zu hX950 (K1279 bq923_0 vq923_1 vq923_2 vq923_3 vq923_4 v1375 _ H1379) (by kernel_rfl) ⟨q, q, q, q, q, q, q, q, trivial⟩
  rw [hX950]
  refine zy [1, 5, 11, 13] (by kernel_rfl) (by simp) (allc ?_ (allc ?_ (allc ?_ (allc ?_ alln))))
  ·refine XC_do q ?_
   refine zs (t := tI) (args := []) (xs := ([] : List Int)) H633 (BltL.nil) u24 j3 q q q q q q (fun v1380 w1381 H1382 => ?_)
   refine XN H1382.chg ?_
   exact zu hX950 (K1292 v1380 _ H1382) (by kernel_rfl) ⟨q, q, q, q, q, q, q, trivial⟩
  ·refine XC_do q ?_
   refine zs (t := tI) (args := []) (xs := ([] : List Int)) H633 (BltL.nil) u24 j3 q q q q q q (fun v1384 w1385 H1386 => ?_)
   refine XN H1386.chg ?_
   exact zu hX950 (K1318 v1384 _ H1386) (by kernel_rfl) ⟨q, q, q, q, q, q, q, trivial⟩
  ·refine XC_do q ?_
   refine zs (t := ty8) (args := []) (xs := ([] : LT)) H633 (BltL.nil) u25 j33 q q q q q q (fun v1388 w1389 H1390 => ?_)
   refine XN H1390.chg ?_
   exact zu hX950 (K1340 v1388 _ H1390) (by kernel_rfl) ⟨q, q, q, q, q, q, q, trivial⟩
  refine XC_do q ?_
  refine zq (cs := [nS, nS, nS, iV 0, nS]) H633 z27 q q q (fun b1392 w1393 H1394 => ?_)
  refine XN H1394.chg ?_
  have H1396 := H1394.nS 70 ty7
  have H1397 := H1396.nS 3 tI
  have H1398 := H1397.nS 3 tI
  have H1399 := H1398.nS 33 ty8
  have H1400 := H1399.p1.p2.p3.p4
  exact zu hX950 (K1362 b1392 (nS) (nS) (nS) (nS) _ H1400) (by kernel_rfl) ⟨q, q, q, q, q, q, q, trivial⟩
 intro a w1401 hI1402
 obtain ⟨bz428_0, vz428_1, vz428_2, vz428_3, vz428_4, ha, H1403⟩ := hI1402
 refine S ?_ ha
 clear ha
 refine C <| rR <| qA q q q <| B <| g ?_
 obtain ⟨o1406, ho1407, h⟩ := D h
 have H1410 := H1403.p6.p6.p6.p6.p6.p6.p6
 refine fun a1408 ha1409 => zp (I := fun s a w2 => match s with | (s1404, s1405) => ∃ vs1405, Fr a 82 [(1, pB b1), (2, pB b5), (5, pB bz428_0), (6, iV s1404)] ∧ Holds M0 w w2 [.bx b1 27 [A0, A1, A2, iV B3, A4], .bx b5 27 [nS, nS, nS, iV 0, nS], .bx bz428_0 27 [vz428_1, vz428_2, vz428_3, iV B3, vs1405], .sl 70 ty7 vz428_1 p426, .sl 3 tI vz428_2 x434, .sl 3 tI vz428_3 x445, .sl 33 ty8 vs1405 s1405] G) (O := fun o e a w2 => match o with | q0 => e = .exit 2 ∧ ∃ vq0, Fr a 82 [(2, pB b5), (5, pB bz428_0)] ∧ Holds M0 w w2 [.bx b5 27 [nS, nS, nS, iV 0, nS], .bx bz428_0 27 [vz428_1, vz428_2, vz428_3, iV B3, vq0], .sl 70 ty7 vz428_1 p426, .sl 3 tI vz428_2 x434, .sl 3 tI vz428_3 x445, .sl 33 ty8 vq0 q0] G) ho1407 ?_ ?_ ?_
 ·exact ⟨vz428_4, ha1409.sub ⟨q, q, q, q, trivial⟩, H1410⟩
 ·clear ha1409
  intro s o1413 a w1411 hs1412 hI1414
  obtain ⟨s1404, s1405⟩ := s
  obtain ⟨vs1405, ha, H1415⟩ := hI1414
  refine S ?_ ha
  clear ha
  refine C <| rR <| qM q q q <| qF uf27 fi27_4 nz25 q q q ?_
  have hB1416 := R H1415.p0
  refine l u25 q hB1416 q q q q <| za H1415.ctx (t := ty8) (C4.c.c.c.c.c.c.c) u25 q q q <| A q (qt_lss q q) q q <| B ?_
  refine Y q (fun hc1417 => ?_) (fun hc1417 => ?_)
  ·have hs1412 := if_t hc1417 hs1412
   refine y <| C <| g <| rR <| qF uf27 fi27_4 nz25 q q q ?_
   have hB1418 := R H1415.p0
   refine l u25 q hB1418 q q q q <| qM q q q ?_
   obtain ⟨x1419, hx1420, hs1412⟩ := D hs1412
   refine b H1415.ctx (C4.c.c.c.c.c.c.c) hx1420 u25 i33 q q q q (fun b1421 off1422 cap1423 hv1424 => ?_)
   obtain ⟨F1425, hat1426, hdup1427⟩ := H1415.atN (C4.c.c.c.c.c.c.c) hx1420 hv1424
   refine XL_load_agg (t := ty8) us33 uo33 i33 hat1426 q q q (fun cs1428 hr1429 => ?_)
   obtain ⟨c1430, c1431, F1432, F1433, rfl, eF1436, hr1434, hr1435⟩ := hr1429
   obtain ⟨rfl, _⟩ := hr1434
   obtain ⟨c1437, c1438, F1439, F1440, rfl, eF1443, hr1441, hr1442⟩ := hr1435
   obtain ⟨v1444, rfl, hr1445⟩ := Rep.sl_inv hr1441
   obtain ⟨v1446, rfl, hr1447⟩ := Rep.sl_inv hr1442
   have H1448 : Holds _ w w1411 [.ro ty1 v1444 x1419.2.1, .ro tI v1446 x1419.2.2, .bx b1 27 [A0, A1, A2, iV B3, A4], .bx b5 27 [nS, nS, nS, iV 0, nS], .bx bz428_0 27 [vz428_1, vz428_2, vz428_3, iV B3, vs1405], .sl 70 ty7 vz428_1 p426, .sl 3 tI vz428_2 x434, .sl 3 tI vz428_3 x445, .sl 33 ty8 vs1405 s1405] G := hdup1427 [.ro ty1 v1444 x1419.2.1, .ro tI v1446 x1419.2.2] ⟨⟨_, _, _, _, q, hr1445, (fun k h => (fun k h => (fun _ h => h) k (by rw [eF1436]; exact zx _ h)) k (by rw [eF1443]; exact List.mem_append_left _ h))⟩, ⟨_, _, _, _, q, hr1447, (fun k h => (fun k h => (fun _ h => h) k (by rw [eF1436]; exact zx _ h)) k (by rw [eF1443]; exact zx _ h))⟩, trivial⟩
   change XL _ _ _ _ _ ((64, .agg #[iV x1419.1, v1444, v1446]) :: _) _
   refine zq (cs := [iV 0, nS, nS]) H1448 z33 q q q (fun b1449 w1450 H1451 => ?_)
   refine zl (cs' := [iV x1419.1, v1444, v1446]) H1451 q il33 q (T q (T (H1451.ctx.sliceOne hR1) (T (H1451.ctx.sliceOne hR2) q))) q q q (fun w1453 H1454 => ?_)
   refine B ?_
   obtain ⟨x1463, hx1464, hs1412⟩ := D hs1412
   obtain ⟨x1474, hx1475, hs1412⟩ := D hs1412
   obtain ⟨x1489, hx1490, hs1412⟩ := D hs1412
   refine WP_mid (Mid := fun a w2 => ∃ vz1455_0, Fr a 82 [(1, pB b1), (2, pB b5), (5, pB bz428_0), (6, iV s1404)] ∧ Holds M0 w w2 [.bx b1 27 [A0, A1, A2, iV B3, A4], .bx b5 27 [nS, nS, nS, iV 0, nS], .bx bz428_0 27 [vz428_1, vz428_2, vz428_3, iV B3, vz1455_0], .sl 70 ty7 vz428_1 p426, .sl 3 tI vz428_2 x434, .sl 3 tI vz428_3 x445, .sl 33 ty8 vz1455_0 x1489] G) ?_ ?_
   ·refine WP_ordersT (fun w1 w2 => Chg (([.sl 33 ty8 vs1405 s1405] : List Res).flatMap Res.own) w1 w2) 15 (by kernel_rfl) (fun w1656 hb1657 => ?_)
    have H1658 := H1454.grow hb1657
    have H1659 := H1658.p9
    have C1660 : Ctx w1656 ([.sl 33 ty8 vs1405 s1405] ++ ([.bx b1449 33 [iV x1419.1, v1444, v1446], .ro ty1 v1444 x1419.2.1, .ro tI v1446 x1419.2.2, .bx b1 27 [A0, A1, A2, iV B3, A4], .bx b5 27 [nS, nS, nS, iV 0, nS], .bx bz428_0 27 [vz428_1, vz428_2, vz428_3, iV B3, vs1405], .sl 70 ty7 vz428_1 p426, .sl 3 tI vz428_2 x434, .sl 3 tI vz428_3 x445] ++ G)) := H1659.ctx
    have H1661 : Holds _ w1656 w1656 [.sl 33 ty8 vs1405 s1405] ([.bx b1449 33 [iV x1419.1, v1444, v1446], .ro ty1 v1444 x1419.2.1, .ro tI v1446 x1419.2.2, .bx b1 27 [A0, A1, A2, iV B3, A4], .bx b5 27 [nS, nS, nS, iV 0, nS], .bx bz428_0 27 [vz428_1, vz428_2, vz428_3, iV B3, vs1405], .sl 70 ty7 vz428_1 p426, .sl 3 tI vz428_2 x434, .sl 3 tI vz428_3 x445] ++ G) := zb (Rs := [.sl 33 ty8 vs1405 s1405]) C1660
    refine XQ (i := 0) q (by kernel_rfl) q H1661.chg q (fun _ => qt_fieldAddr uf27 fi27_4 nz25 q) q q ?_
    have hB1754 := HasB.bx (HasB.c (HasB.c (HasB.c (HasB.c (HasB.c (HasB.c (HasB.hd))))))) H1661.ctx
    refine XT (i := 1) q (by kernel_rfl) q H1661.chg q (qs_cell u25 q q (hB1754.cell (i := 4) q) H1661.chg (Ctx.outB C1660 (HasB.c (HasB.c (HasB.c (HasB.c (HasB.c (HasB.hd)))))))) q q <| XQ (i := 2) q (by kernel_rfl) q H1661.chg q (fun _ => qt_fieldAddr uf33 fi33_0 nz3 q) q q ?_
    have hB1755 := HasB.bx (HasB.c (HasB.hd)) H1661.ctx
    refine XT (i := 3) q (by kernel_rfl) q H1661.chg q (qs_cell u3 q q (hB1755.cell (i := 0) q) H1661.chg (Ctx.outB C1660 (HasB.hd))) q q <| XQ (i := 5) q (by kernel_rfl) q H1661.chg q (fun _ => qt_fieldAddr uf33 fi33_1 nz31 q) q q ?_
    have hB1756 := HasB.bx (HasB.c (HasB.hd)) H1661.ctx
    refine XT (i := 6) q (by kernel_rfl) q H1661.chg q (qs_cell u31 q q (hB1756.cell (i := 1) q) H1661.chg (Ctx.outB C1660 (HasB.hd))) q q <| XQ (i := 9) q (by kernel_rfl) q H1661.chg q (fun _ => qt_fieldAddr uf33 fi33_2 nz24 q) q q ?_
    have hB1757 := HasB.bx (HasB.c (HasB.hd)) H1661.ctx
    refine XT (i := 10) q (by kernel_rfl) q H1661.chg q (qs_cell u24 q q (hB1757.cell (i := 2) q) H1661.chg (Ctx.outB C1660 (HasB.hd))) q q ?_
    refine zy [4, 8] (by kernel_rfl) (by simp) (allc ?_ (allc ?_ alln))
    ·refine XC_do q ?_
     refine zs (t := ty1) (args := []) (xs := ([] : LP)) H1661 (BltL.nil) u31 j40 q q q q q q (fun v1758 w1759 H1760 => ?_)
     refine XN H1760.chg ?_
     refine zy [7, 8] (by kernel_rfl) (by simp) (allc ?_ (allc ?_ alln))
     ·refine XC_do q ?_
      refine zw H1760 hR3 hx1464 u31 j40 q q q q q q (fun v1762 w1763 H1764 => ?_)
      refine XN H1764.chg <| X1 8 (by kernel_rfl) q ?_
      refine zs (t := tI) (args := []) (xs := ([] : List Int)) H1764 (BltL.nil) u24 j3 q q q q q q (fun v1766 w1767 H1768 => ?_)
      refine XN H1768.chg <| X1 11 (by kernel_rfl) q ?_
      refine zw H1768 hR5 hx1475 u24 j3 q q q q q q (fun v1770 w1771 H1772 => ?_)
      refine XN H1772.chg <| XQ (i := 12) q (by kernel_rfl) q H1772.chg q (fun _ => qt_build (args := [(0, .tmp 68), (1, .tmp 72), (2, .tmp 76)]) (css := [#[iV x1419.1], #[v1762], #[v1770]]) (cells := #[iV x1419.1, v1762, v1770]) q ⟨q, (H1772.ctx.sliceCells hS1), (H1772.ctx.sliceCells hS0), trivial⟩ (by kernel_rfl)) q q <| X1 13 (by kernel_rfl) q ?_
      have H1774 := H1772.p1
      have H1775 := H1774.freeze
      have H1776 := H1775.p1
      have H1777 := H1776.freeze
      refine zs (t := ty8) (args := [.tmp 77]) (xs := ([(x1419.1, x1463, x1474)] : LT)) H1777 (BltL.cons (Blt.pair (Blt.int) (Blt.pair (Blt.slice hO1) (Blt.slice hO0))) q (BltL.nil)) u25 j33 q q q q q q (fun v1778 w1779 H1780 => ?_)
      refine XN H1780.chg <| X1 14 (by kernel_rfl) q ?_
      have H1782 := H1780.p3
      refine zw H1782 hS1 hx1490 u25 j33 q q q q q q (fun v1783 w1784 H1785 => ?_)
      refine XN H1785.chg ?_
      have H1787 := H1659.cN4 [_] H1785
      refine X1 15 (by kernel_rfl) q <| qF uf27 fi27_4 nz25 q q q <| XE q <| X1 16 (by kernel_rfl) q ?_
      have H1788 := H1787.p9
      refine WL_store_bx H1788 q il25 (H1788.ctx.sliceCells hS1) (H1788.ctx.sliceOne hS1) q q q (fun w1789 H1790 => ?_)
      refine XE q ?_
      refine XC_done (by kernel_rfl) (fun a ha => ?_)
      have H1792 := H1790.q2.q2.q2.q2.q2.q2.p1.p6.p6.p6.p4.p6.p6
      exact ⟨v1783, ha.sub ⟨q, q, q, q, trivial⟩, H1792⟩
     refine XC_do q ?_
     refine zs (t := tI) (args := []) (xs := ([] : List Int)) H1760 (BltL.nil) u24 j3 q q q q q q (fun v1793 w1794 H1795 => ?_)
     refine XN H1795.chg <| X1 7 (by kernel_rfl) q ?_
     have H1797 := H1795.p1
     refine zw H1797 hR4 hx1464 u31 j40 q q q q q q (fun v1798 w1799 H1800 => ?_)
     refine XN H1800.chg <| X1 11 (by kernel_rfl) q ?_
     have H1802 := H1800.p1
     refine zw H1802 hR5 hx1475 u24 j3 q q q q q q (fun v1803 w1804 H1805 => ?_)
     refine XN H1805.chg <| XQ (i := 12) q (by kernel_rfl) q H1805.chg q (fun _ => qt_build (args := [(0, .tmp 68), (1, .tmp 72), (2, .tmp 76)]) (css := [#[iV x1419.1], #[v1798], #[v1803]]) (cells := #[iV x1419.1, v1798, v1803]) q ⟨q, (H1805.ctx.sliceCells hS1), (H1805.ctx.sliceCells hS0), trivial⟩ (by kernel_rfl)) q q <| X1 13 (by kernel_rfl) q ?_
     have H1807 := H1805.p1
     have H1808 := H1807.freeze
     have H1809 := H1808.p1
     have H1810 := H1809.freeze
     refine zs (t := ty8) (args := [.tmp 77]) (xs := ([(x1419.1, x1463, x1474)] : LT)) H1810 (BltL.cons (Blt.pair (Blt.int) (Blt.pair (Blt.slice hO1) (Blt.slice hO0))) q (BltL.nil)) u25 j33 q q q q q q (fun v1811 w1812 H1813 => ?_)
     refine XN H1813.chg <| X1 14 (by kernel_rfl) q ?_
     have H1815 := H1813.p3
     refine zw H1815 hS1 hx1490 u25 j33 q q q q q q (fun v1816 w1817 H1818 => ?_)
     refine XN H1818.chg ?_
     have H1820 := H1659.cN4 [_] H1818
     refine X1 15 (by kernel_rfl) q <| qF uf27 fi27_4 nz25 q q q <| XE q <| X1 16 (by kernel_rfl) q ?_
     have H1821 := H1820.p9
     refine WL_store_bx H1821 q il25 (H1821.ctx.sliceCells hS1) (H1821.ctx.sliceOne hS1) q q q (fun w1822 H1823 => ?_)
     refine XE q ?_
     refine XC_done (by kernel_rfl) (fun a ha => ?_)
     have H1825 := H1823.q2.q2.q2.q2.q2.q2.p1.p6.p6.p6.p4.p6.p6
     exact ⟨v1816, ha.sub ⟨q, q, q, q, trivial⟩, H1825⟩
    refine XC_do q ?_
    refine zs (t := tI) (args := []) (xs := ([] : List Int)) H1661 (BltL.nil) u24 j3 q q q q q q (fun v1826 w1827 H1828 => ?_)
    refine XN H1828.chg <| X1 4 (by kernel_rfl) q ?_
    refine zs (t := ty1) (args := []) (xs := ([] : LP)) H1828 (BltL.nil) u31 j40 q q q q q q (fun v1830 w1831 H1832 => ?_)
    refine XN H1832.chg <| X1 7 (by kernel_rfl) q ?_
    refine zw H1832 hR4 hx1464 u31 j40 q q q q q q (fun v1834 w1835 H1836 => ?_)
    refine XN H1836.chg <| X1 11 (by kernel_rfl) q ?_
    have H1838 := H1836.p1
    refine zw H1838 hR5 hx1475 u24 j3 q q q q q q (fun v1839 w1840 H1841 => ?_)
    refine XN H1841.chg <| XQ (i := 12) q (by kernel_rfl) q H1841.chg q (fun _ => qt_build (args := [(0, .tmp 68), (1, .tmp 72), (2, .tmp 76)]) (css := [#[iV x1419.1], #[v1834], #[v1839]]) (cells := #[iV x1419.1, v1834, v1839]) q ⟨q, (H1841.ctx.sliceCells hS1), (H1841.ctx.sliceCells hS0), trivial⟩ (by kernel_rfl)) q q <| X1 13 (by kernel_rfl) q ?_
    have H1843 := H1841.p1
    have H1844 := H1843.freeze
    have H1845 := H1844.p1
    have H1846 := H1845.freeze
    refine zs (t := ty8) (args := [.tmp 77]) (xs := ([(x1419.1, x1463, x1474)] : LT)) H1846 (BltL.cons (Blt.pair (Blt.int) (Blt.pair (Blt.slice hO1) (Blt.slice hO0))) q (BltL.nil)) u25 j33 q q q q q q (fun v1847 w1848 H1849 => ?_)
    refine XN H1849.chg <| X1 14 (by kernel_rfl) q ?_
    have H1851 := H1849.p3
    refine zw H1851 hS1 hx1490 u25 j33 q q q q q q (fun v1852 w1853 H1854 => ?_)
    refine XN H1854.chg ?_
    have H1856 := H1659.cN4 [_] H1854
    refine X1 15 (by kernel_rfl) q <| qF uf27 fi27_4 nz25 q q q <| XE q <| X1 16 (by kernel_rfl) q ?_
    have H1857 := H1856.p9
    refine WL_store_bx H1857 q il25 (H1857.ctx.sliceCells hS1) (H1857.ctx.sliceOne hS1) q q q (fun w1858 H1859 => ?_)
    refine XE q ?_
    refine XC_done (by kernel_rfl) (fun a ha => ?_)
    have H1861 := H1859.q2.q2.q2.q2.q2.q2.p1.p6.p6.p6.p4.p6.p6
    exact ⟨v1852, ha.sub ⟨q, q, q, q, trivial⟩, H1861⟩
   intro a w1862 hI1863
   obtain ⟨vz1455_0, ha, H1864⟩ := hI1863
   refine zi (X (S ?_ ha))
   refine Z <| qM q q q <| A q (qt_add q q) q q <| qA q q q <| WL_nil fun a ha => ?_
   obtain rfl := L hs1412
   have H1865 := H1864.p6.p6.p6.p6.p6.p6.p6
   exact ⟨q, vz1455_0, ha.sub ⟨q, q, q, q, trivial⟩, H1865⟩
  have hs1412 := if_f hc1417 hs1412
  refine WP_exit fun a ha => ?_
  obtain rfl := L hs1412
  have H1866 := H1415.q0.p5.p5.p5.p5.p5.p5
  exact zo (⟨exit_ne, q, vs1405, ha.sub ⟨q, q, trivial⟩, H1866⟩)
 intro e a1408 w1867 hO1868
 obtain ⟨p1869, rfl⟩ : ∃ z, z = o1406 := ⟨o1406, q⟩
 obtain ⟨rfl, hO1871⟩ := hO1868
 obtain ⟨vp1869, ha, H1870⟩ := hO1871
 refine zn (X (S ?_ ha))
 refine C <| Z ?_
 have hB1872 := R H1870.p1
 refine zm (cs := [vz428_1, vz428_2, vz428_3, iV B3, vp1869]) us27 uo27 il27 hB1872 q q q ?_
 change XL _ _ _ _ _ ((81, .agg #[vz428_1, vz428_2, vz428_3, iV B3, vp1869]) :: _) _
 refine zl (cs' := [vz428_1, vz428_2, vz428_3, iV B3, vp1869]) H1870 q il27 q (T (H1870.ctx.sliceOne hS2) (T (H1870.ctx.sliceOne hS3) (T (H1870.ctx.sliceOne hS4) (T q (T (H1870.ctx.sliceOne hS5) q))))) q q q (fun w1873 H1874 => ?_)
 refine B <| W fun a ha => ?_
 obtain rfl := L h
 have hB1876 := R H1874.p0
 have H1877 := H1874.q0.q0.p3.p3.p3.p3
 exact retc q ha q (run_loadVar_bx (cs := [vz428_1, vz428_2, vz428_3, iV B3, vp1869]) us27 uo27 il27 hB1876) ⟨vz428_1, vz428_2, vz428_3, vp1869, q, H1877⟩
end Go.Proofs.YthofjabphcheeaaDoor
