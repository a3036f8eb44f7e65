/- The walks: each Go function computes its shallow function. Printed by a program. -/
import Derived.Test.YtcjkbcdlpfgbgaaGreatDoorWX7H6
set_option linter.unusedVariables false
set_option maxRecDepth 10000
namespace Go.Proofs.YtcjkbcdlpfgbgaaGreatDoor
open Go Go.RowKit
theorem w_impl_doOrder (w : World) (G : List Res) (bp0 : Nat) (A0 : Value) (B0 : LI) (csp0_0 : List Value) (Fp0_0 : List Nat) (A1 : Value) (B1 : List Int) (A2 : Value) (B2 : List Int) (B3 : Int) (A4 : Value) (B4 : LT) (csp0_4 : List Value) (Fp0_4 : List Nat) (p1 : Int) (p2 : Int) (p3 : Int) (r : (List Int) × LT × Bool) (h : impl_doOrderS B0 B1 B2 B3 B4 p1 p2 p3 = some r) (H : Ctx w ([.bx bp0 31 [A0, A1, A2, iV B3, A4], dpR 115 dt13 A0 csp0_0 B0 Fp0_0, .sl 3 tI A1 B1, .sl 3 tI A2 B2, dpR 89 dt14 A4 csp0_4 B4 Fp0_4] ++ G)) : Calls Tryz.prog 71 #[pB bp0, iV p1, iV p2, iV p3] w fun e w' => ∃ (dsp0_4 : List Value) (Ep0_4 : List Nat), e = .returned (.bool r.2.2) ∧ Holds (([.bx bp0 31 [A0, A1, A2, iV B3, A4], dpR 115 dt13 A0 csp0_0 B0 Fp0_0, .sl 3 tI A1 B1, .sl 3 tI A2 B2, dpR 89 dt14 A4 csp0_4 B4 Fp0_4] : List Res).flatMap Res.own) w w' [.bx bp0 31 [A0, A1, A2, iV B3, A4], dpR 115 dt13 A0 csp0_0 B0 Fp0_0, .sl 3 tI A1 B1, .sl 3 tI A2 r.1, dpR 89 dt14 A4 dsp0_4 r.2.1 Ep0_4] G := by
 have H : Holds (([.bx bp0 31 [A0, A1, A2, iV B3, A4], dpR 115 dt13 A0 csp0_0 B0 Fp0_0, .sl 3 tI A1 B1, .sl 3 tI A2 B2, dpR 89 dt14 A4 csp0_4 B4 Fp0_4] : List Res).flatMap Res.own) w w [.bx bp0 31 [A0, A1, A2, iV B3, A4], dpR 115 dt13 A0 csp0_0 B0 Fp0_0, .sl 3 tI A1 B1, .sl 3 tI A2 B2, dpR 89 dt14 A4 csp0_4 B4 Fp0_4] G := zb H
 refine zg (args := [pB bp0, iV p1, iV p2, iV p3]) (n := 79) Tryz.func71 q q q ?_
 unfold impl_doOrderS at h
 refine rR <| qA q q q <| B <| C <| rR <| qM q q q <| A q (qt_lss q q) q q <| qM q q q ?_
 refine zh 8 20 (.bool ((decide (p1 < 0)) || (decide (p1 ≥ (List.length B4 : Int))))) ?_ (fun md hmd hk => ?_)
 rotate_left
 ·obtain ⟨Q, rfl⟩ := Md.seq_of hmd
  rcases btf (decide (p1 < 0)) with hc1 | hc1
  ·skip
   refine qS q hc1 q q <| qS q hc1 q q <| qS q hc1 q q <| qS q hc1 q q <| qS q hc1 q q <| qS q hc1 q q <| qS q hc1 q q <| A q (ze q hc1 q) q q ?_
   exact hk _ (p (by rw [hc1]; rfl) (cfn 7 q (u)))
  skip
  refine qM (J q hc1) q q <| qM (J q hc1) q q <| qN (J q hc1) q q <| qF uf31 fi31_4 nz29 (J q hc1) q q ?_
  have hB2 := R H.p0
  refine l u29 q hB2 q (J q hc1) q q ?_
  have V3 := H.viewG (Vw.c (Vw.d (Vw.c (Vw.c (Vw.d Vw.refl)))))
  refine za V3 (t := ty12) hR4 u29 (J q hc1) q q <| A (J q hc1) (qt_geq q q) q q <| A q (zf q hc1 q) q q ?_
  exact hk _ (p (by rw [hc1]; rfl) (cfn 7 q (u)))
 refine B ?_
 refine Y q (fun hc4 => ?_) (fun hc4 => ?_)
 ·have h := if_t hc4 h
  refine rR <| qA q q q <| B <| W fun a ha => ?_
  obtain rfl := L h
  have H5 := H.p4.p4.p4.p4.p4
  exact m (ret1 q ha q ⟨csp0_4, Fp0_4, q, H5⟩)
 have h := if_f hc4 h
 refine y <| rR <| qM q q q <| qN q q q <| qF uf31 fi31_4 nz29 q q q ?_
 have hB6 := R H.p0
 refine l u29 q hB6 q q q q <| qM q q q ?_
 obtain ⟨x7, hx8, h⟩ := D h
 have V13 := H.viewG (Vw.c (Vw.d (Vw.c (Vw.c (Vw.d Vw.refl)))))
 refine b V13 hR4 hx8 u29 i89 q q q q (fun b9 off10 cap11 hv12 => ?_)
 refine qA q q q <| B <| C <| C ?_
 obtain ⟨x21, hx22, h⟩ := D h
 obtain ⟨x28, hx29, h⟩ := D h
 obtain ⟨b45, hob45, h⟩ := D h
 refine WP_join (M := fun a w2 => (Fr a 79 [(0, pB bp0), (2, iV p2), (3, iV p3), (9, .pointer (some ⟨b9, (off10 + Int.toNat p1 * Ty.size ty12), none⟩)), (48, .bool b45)] ∧ Holds (([.bx bp0 31 [A0, A1, A2, iV B3, A4], dpR 115 dt13 A0 csp0_0 B0 Fp0_0, .sl 3 tI A1 B1, .sl 3 tI A2 B2, dpR 89 dt14 A4 csp0_4 B4 Fp0_4] : List Res).flatMap Res.own) w w2 [.bx bp0 31 [A0, A1, A2, iV B3, A4], dpR 115 dt13 A0 csp0_0 B0 Fp0_0, .sl 3 tI A1 B1, .sl 3 tI A2 B2, dpR 89 dt14 A4 csp0_4 B4 Fp0_4] G)) ?_ ?_
 ·refine WP_ordersT (fun w1 w2 => Chg M0 w1 w2) 22 (by kernel_rfl) (fun w214 hb215 => ?_)
  have H216 := H.grow hb215
  have C217 : Ctx w214 ([] ++ ([.bx bp0 31 [A0, A1, A2, iV B3, A4], .ro ty10 A0 B0, .sl 3 tI A1 B1, .sl 3 tI A2 B2, .ro ty12 A4 B4] ++ G)) := H216.viewG (Vw.c (Vw.d (Vw.c (Vw.c (Vw.d Vw.refl)))))
  have H218 : Holds _ w214 w214 [] ([.bx bp0 31 [A0, A1, A2, iV B3, A4], .ro ty10 A0 B0, .sl 3 tI A1 B1, .sl 3 tI A2 B2, .ro ty12 A4 B4] ++ G) := zb (Rs := []) C217
  rcases btf (!x28) with hc235 | hc235
  ·skip
   have ho236 := if_t hc235 hob45
   obtain rfl := L ho236
   refine XQ (i := 0) q (by kernel_rfl) q H218.chg q (fun _ => qt_move q) q q <| XQ (i := 1) q (by kernel_rfl) q H218.chg q (fun _ => qt_nilCheck q) q q <| XQ (i := 2) q (by kernel_rfl) q H218.chg q (fun _ => qt_fieldAddr uf31 fi31_0 nz28 q) q q ?_
   have hB237 := HasB.bx (HasB.hd) H218.ctx
   refine XT (i := 3) q (by kernel_rfl) q H218.chg q (qs_cell u28 q q (hB237.cell (i := 0) q) H218.chg (Ctx.outB C217 (HasB.hd))) q q <| XQ (i := 4) q (by kernel_rfl) q H218.chg q (fun _ => qt_move q) q q <| XQ (i := 5) q (by kernel_rfl) q H218.chg q (fun _ => qt_nilCheck q) q q <| XQ (i := 6) q (by kernel_rfl) q H218.chg q (fun _ => qt_fieldAddr uf89 fi89_0 nz3 q) q q ?_
   obtain ⟨F238, hat239, hdup240⟩ := H218.at hR4 hx8 hv12
   obtain ⟨F241, hat242, hin243⟩ := AtP.fst hat239
   refine XT (i := 7) q (by kernel_rfl) q H218.chg q (qs_cell u3 q q (AtP.cInt hat242) H218.chg (Ctx.outHas C217 hR4 hx8 hv12)) q q <| XQ (i := 9) q (by kernel_rfl) q H218.chg q (fun _ => qt_move q) q q <| X1 8 (by kernel_rfl) q <| zd q q c104 (w_impl_FreeOf w214 _ A0 B0 hR1 x7.1 x21 hx22 H218.ctx) (by rfl) ?_
   rintro _ w244 ⟨v246, rfl, H245⟩; refine ⟨_, q, ?_⟩
   have H247 := H218.cN1 [] H245
   refine XN H247.chg <| X1 10 (by kernel_rfl) q <| zd q q c116 (w_slices_Contains___int_int w244 _ v246 x21 hS0 p2 x28 hx29 H247.ctx) (by rfl) ?_
   rintro _ w248 ⟨rfl, H249⟩; refine ⟨_, q, ?_⟩
   have H250 := H247.cN0 [] H249
   refine XN H250.chg <| XQ (i := 11) q (by kernel_rfl) q H250.chg q (fun _ => qt_not q) q q <| XQ (i := 12) q (by kernel_rfl) q H250.chg q (fun _ => qt_move q) q q <| XS (i := 13) q (by kernel_rfl) q H250.chg q hc235 q q <| XS (i := 14) q (by kernel_rfl) q H250.chg q hc235 q q <| XS (i := 15) q (by kernel_rfl) q H250.chg q hc235 q q <| XS (i := 16) q (by kernel_rfl) q H250.chg q hc235 q q <| XS (i := 17) q (by kernel_rfl) q H250.chg q hc235 q q <| XS (i := 18) q (by kernel_rfl) q H250.chg q hc235 q q <| XS (i := 19) q (by kernel_rfl) q H250.chg q hc235 q q ?_
   refine XS (i := 20) q (by kernel_rfl) q H250.chg q hc235 q q <| XQ (i := 21) q (by kernel_rfl) q H250.chg q (fun _ => ze q hc235 q) q q ?_
   have H251 := H216.cV1 [] H250 (zc (Pure.sl q) all_nil)
   refine XC_done (by kernel_rfl) (fun a ha => ?_)
   have H252 := H251.q0.p4.p4.p4.p4.p4
   exact ⟨ha.sub ⟨q, q, q, q, q, trivial⟩, H252⟩
  skip
  have ho253 := if_f hc235 hob45
  obtain ⟨x255, hx256, ho253⟩ := D ho253
  obtain rfl := L ho253
  refine XQ (i := 0) q (by kernel_rfl) q H218.chg q (fun _ => qt_move q) q q <| XQ (i := 1) q (by kernel_rfl) q H218.chg q (fun _ => qt_nilCheck q) q q <| XQ (i := 2) q (by kernel_rfl) q H218.chg q (fun _ => qt_fieldAddr uf31 fi31_0 nz28 q) q q ?_
  have hB265 := HasB.bx (HasB.hd) H218.ctx
  refine XT (i := 3) q (by kernel_rfl) q H218.chg q (qs_cell u28 q q (hB265.cell (i := 0) q) H218.chg (Ctx.outB C217 (HasB.hd))) q q <| XQ (i := 4) q (by kernel_rfl) q H218.chg q (fun _ => qt_move q) q q <| XQ (i := 5) q (by kernel_rfl) q H218.chg q (fun _ => qt_nilCheck q) q q <| XQ (i := 6) q (by kernel_rfl) q H218.chg q (fun _ => qt_fieldAddr uf89 fi89_0 nz3 q) q q ?_
  obtain ⟨F266, hat267, hdup268⟩ := H218.at hR4 hx8 hv12
  obtain ⟨F269, hat270, hin271⟩ := AtP.fst hat267
  refine XT (i := 7) q (by kernel_rfl) q H218.chg q (qs_cell u3 q q (AtP.cInt hat270) H218.chg (Ctx.outHas C217 hR4 hx8 hv12)) q q <| XQ (i := 9) q (by kernel_rfl) q H218.chg q (fun _ => qt_move q) q q <| X1 8 (by kernel_rfl) q <| zd q q c104 (w_impl_FreeOf w214 _ A0 B0 hR1 x7.1 x21 hx22 H218.ctx) (by rfl) ?_
  rintro _ w272 ⟨v274, rfl, H273⟩; refine ⟨_, q, ?_⟩
  have H275 := H218.cN1 [] H273
  refine XN H275.chg <| X1 10 (by kernel_rfl) q <| zd q q c116 (w_slices_Contains___int_int w272 _ v274 x21 hS0 p2 x28 hx29 H275.ctx) (by rfl) ?_
  rintro _ w276 ⟨rfl, H277⟩; refine ⟨_, q, ?_⟩
  have H278 := H275.cN0 [] H277
  refine XN H278.chg <| XQ (i := 11) q (by kernel_rfl) q H278.chg q (fun _ => qt_not q) q q <| XQ (i := 12) q (by kernel_rfl) q H278.chg q (fun _ => qt_move q) q q <| XQ (i := 13) q (by kernel_rfl) q H278.chg (J q hc235) (fun _ => qt_move q) q q <| XQ (i := 14) q (by kernel_rfl) q H278.chg (J q hc235) (fun _ => qt_nilCheck q) q q <| XQ (i := 15) q (by kernel_rfl) q H278.chg (J q hc235) (fun _ => qt_fieldAddr uf31 fi31_2 nz23 q) q q ?_
  have hB279 := HasB.bx (HasB.c (HasB.hd)) H278.ctx
  refine XT (i := 16) q (by kernel_rfl) q H278.chg (J q hc235) (qs_cell u23 q q (hB279.cell (i := 2) q) H278.chg (Ctx.outB C217 (HasB.hd))) q q <| XQ (i := 17) q (by kernel_rfl) q H278.chg (J q hc235) (fun _ => qt_move q) q q ?_
  obtain ⟨b280, off281, cap282, hv283⟩ := Ctx.isAt H278.ctx hS4 hx256
  refine XT (i := 18) q (by kernel_rfl) q H278.chg (J q hc235) (qs_index hx256 hv283 u23 i3 q q) q q ?_
  obtain ⟨F284, hat285, hdup286⟩ := H278.at hS4 hx256 hv283
  refine XT (i := 19) q (by kernel_rfl) q H278.chg (J q hc235) (qs_cell u3 q q (AtP.cInt hat285) H278.chg (Ctx.outHas C217 hS3 hx256 hv283)) q q <| XQ (i := 20) q (by kernel_rfl) q H278.chg (J q hc235) (fun _ => qt_lss q q) q q <| XQ (i := 21) q (by kernel_rfl) q H278.chg q (fun _ => zf q hc235 q) q q ?_
  have H287 := H216.cV1 [] H278 (zc (Pure.sl q) all_nil)
  refine XC_done (by kernel_rfl) (fun a ha => ?_)
  have H288 := H287.q0.p4.p4.p4.p4.p4
  exact ⟨ha.sub ⟨q, q, q, q, q, trivial⟩, H288⟩
 intro a w289 hI290
 obtain ⟨ha, H291⟩ := hI290
 refine S ?_ ha
 clear ha
 refine Y q (fun hc292 => ?_) (fun hc292 => ?_)
 ·have h := if_t hc292 h
  refine rR <| qA q q q <| B <| W fun a ha => ?_
  obtain rfl := L h
  have H293 := H291.p4.p4.p4.p4.p4
  exact m (ret1 q ha q ⟨csp0_4, Fp0_4, q, H293⟩)
 have h := if_f hc292 h
 refine y <| rR <| qM q q q <| qN q q q <| qF uf31 fi31_2 nz23 q q q ?_
 have hB294 := R H291.p0
 refine l u23 q hB294 q q q q <| qM q q q ?_
 obtain ⟨x295, hx296, h⟩ := D h
 have V301 := H291.viewG (Vw.c (Vw.d (Vw.c (Vw.c (Vw.d Vw.refl)))))
 refine b V301 hS3 hx296 u23 i3 q q q q (fun b297 off298 cap299 hv300 => ?_)
 obtain ⟨F302, hat303, hdup304⟩ := H291.at hS3 hx296 hv300
 refine zt (k := .i64) u3 q hat303 q q q <| A q (qt_sub q q) q q ?_
 obtain ⟨x305, hx306, h⟩ := D h
 refine b V301 hS3 hx306 u23 i3 q q q q (fun b307 off308 cap309 hv310 => ?_)
 have H311 := H291.p3
 refine WL_storeH (fo := 0) (cs' := [iV (IntKind.wrap .i64 (x295 - 1))]) H311 hx306 hv310 (Upd.whole (Blt.int)) q il3 q q q q (fun w312 H313 => ?_)
 refine rN <| qM q q q <| qM q q q <| qN q q q <| qF uf89 fi89_1 nz87 q q q ?_
 have H315 := H313.p4
 obtain ⟨v316, hc317, hcell318, hp319, hp320, hsh321⟩ := Holds.ns H315 ((Foc.snd (Foc.fst Foc.refl))) hx8 hv12
 refine XL_load_cell u87 q hcell318 q q q <| qM q q q <| A q (qt_build (args := [(0, .tmp 63), (1, .const (iV 0))]) (css := [#[iV p3], #[iV 0]]) (cells := #[iV p3, iV 0]) q ⟨q, q, trivial⟩ (by kernel_rfl)) q q ?_
 refine zs (t := ty2) (args := [.tmp 64]) (xs := ([(p3, 0)] : LP)) H315 (BltL.cons (Blt.pair (Blt.int) (Blt.int)) q (BltL.nil)) u87 j119 q q q q q q (fun v322 w323 H324 => ?_)
 have H326 := H324.p1
 obtain ⟨F327, H328⟩ := Holds.borrow H326 ((Foc.snd (Foc.fst Foc.refl))) hx8 hc317
 obtain ⟨x330, hx331, h⟩ := D h
 refine zw H328 hS2 hx331 u87 j119 q q q q q q (fun v332 w333 H334 => ?_)
 refine qN q q q <| qF uf89 fi89_1 nz87 q q q ?_
 have H336 := H334.p1
 have H337 := H336.p1
 refine WL_storeHole q H337 hv12 il87 q q q (fun cs338 F339 w340 H341 => ?_)
 refine rN <| qM q q q <| qM q q q <| qN q q q <| qF uf89 fi89_2 nz23 q q q ?_
 obtain ⟨v343, hc344, hcell345, hp346, hp347, hsh348⟩ := Holds.ns H341 ((Foc.snd (Foc.snd Foc.refl))) (geti_set hx8) (set_len hv12)
 refine XL_load_cell u23 q hcell345 q q q <| qM q q q ?_
 refine zs (t := tI) (args := [.tmp 74]) (xs := ([p2] : List Int)) H341 (BltL.cons (Blt.int) q (BltL.nil)) u23 j3 q q q q q q (fun v349 w350 H351 => ?_)
 have H353 := H351.p1
 obtain ⟨F354, H355⟩ := Holds.borrow H353 ((Foc.snd (Foc.snd Foc.refl))) (geti_set hx8) hc344
 obtain ⟨x357, hx358, h⟩ := D h
 refine zw H355 hS2 hx358 u23 j3 q q q q q q (fun v359 w360 H361 => ?_)
 refine qN q q q <| qF uf89 fi89_2 nz23 q q q ?_
 have H363 := H361.p1
 have H364 := H363.p1
 refine WL_storeHole q H364 (set_len hv12) il23 q q q (fun cs365 F366 w367 H368 => ?_)
 refine rN <| qA q q q <| B <| W fun a ha => ?_
 obtain rfl := L h
 have H370 := H368.q1.q1.p1.p4.p4.p4
 exact ret1 q ha q ⟨cs365, F366, q, H370⟩
theorem w_impl_kitchenOf (w : World) (G : List Res) (A0 : Value) (B0 : LI) (C0 : Has G ty10 A0 B0) (A1 : Value) (B1 : List Int) (C1 : Has G tI A1 B1) (A2 : Value) (B2 : List Int) (C2 : Has G tI A2 B2) (B3 : Int) (A4 : Value) (B4 : LT) (C4 : Has G ty12 A4 B4) (r : (List LP)) (h : impl_kitchenOfS B0 B1 B2 B3 B4 = some r) (H : Ctx w G) : Calls Tryz.prog 96 #[.agg #[A0, A1, A2, iV B3, A4]] w fun e w' => ∃ (v1 : Value) (csv1 : List Value) (Fv1 : List Nat), e = .returned (v1) ∧ Holds M0 w w' [dpR 87 dt6 v1 csv1 r Fv1] G := by
 have H : Holds M0 w w [] G := zb H
 refine zg (args := [.agg #[A0, A1, A2, iV B3, A4]]) (n := 26) Tryz.func96 q q q ?_
 unfold impl_kitchenOfS at h
 refine C <| Z ?_
 refine WL_box (cs := [A0, A1, A2, iV B3, A4]) H q q q q (fun b1 w2 H3 => ?_)
 refine qA q q q <| rN <| qF uf31 fi31_4 nz29 q q q ?_
 have hB5 := R H3.p0
 refine l u29 q hB5 q q q q <| za H3.ctx (t := ty12) (C4.c) u29 q q q ?_
 obtain ⟨x6, hx7, h⟩ := D h
 refine WL_makeD (d := dt6) H3 hx7 u74 j87 q (DBlt.cast (DBlt.nil (e := 119) (d := dt3)) q q) q q q q q (fun v8 cs11 F12 w9 H10 => ?_)
 refine qA q q q <| B <| C <| rR <| qF uf31 fi31_4 nz29 q q q ?_
 have hB14 := R H10.p1
 refine l u29 q hB14 q q q q ?_
 have V15 := H10.viewG (Vw.d (Vw.c Vw.refl))
 refine za V15 (t := ty12) (C4.c.c) u29 q q q <| qM q q q <| B <| g ?_
 obtain ⟨o18, ho19, h⟩ := D h
 have H22 := H10.q1
 refine fun a20 ha21 => zp (I := fun s a w2 => match s with | (s16, s17) => ∃ css17 Fs17, Fr a 26 [(3, v8), (11, A4), (12, iV (List.length B4 : Int)), (13, iV s16)] ∧ Holds M0 w w2 [dpR 87 dt6 v8 css17 s17 Fs17] G) (O := fun o e a w2 => match o with | q0 => e = .exit 0 ∧ ∃ csq0 Fq0, Fr a 26 [(3, v8)] ∧ Holds M0 w w2 [dpR 87 dt6 v8 csq0 q0 Fq0] G) ho19 ?_ ?_ ?_
 ·exact ⟨cs11, F12, ha21.sub ⟨q, q, q, q, trivial⟩, H22⟩
 ·clear ha21
  intro s o25 a w23 hs24 hI26
  obtain ⟨s16, s17⟩ := s
  obtain ⟨css17, Fs17, ha, H27⟩ := hI26
  refine S ?_ ha
  clear ha
  refine rR <| A q (qt_lss q q) q q <| B <| C ?_
  refine Y q (fun hc28 => ?_) (fun hc28 => ?_)
  ·have hs24 := if_t hc28 hs24
   refine y <| C <| g <| rR <| qM q q q ?_
   obtain ⟨x29, hx30, hs24⟩ := D hs24
   have V35 := H27.viewG (Vw.d Vw.refl)
   refine b V35 (C4.c) hx30 u29 i89 q q q q (fun b31 off32 cap33 hv34 => ?_)
   obtain ⟨F36, hat37, hdup38⟩ := H27.atN (C4.c) hx30 hv34
   refine XL_load_agg (t := ty12) us89 uo89 i89 hat37 q q q (fun cs39 hr40 => ?_)
   obtain ⟨c41, c42, F43, F44, rfl, eF47, hr45, hr46⟩ := hr40
   obtain ⟨rfl, _⟩ := hr45
   obtain ⟨c48, c49, F50, F51, rfl, eF54, hr52, hr53⟩ := hr46
   obtain ⟨v55, rfl, hr56⟩ := Rep.sl_inv hr52
   obtain ⟨v57, rfl, hr58⟩ := Rep.sl_inv hr53
   have H59 : Holds _ w w23 [.ro ty2 v55 x29.2.1, .ro tI v57 x29.2.2, dpR 87 dt6 v8 css17 s17 Fs17] G := hdup38 [.ro ty2 v55 x29.2.1, .ro tI v57 x29.2.2] ⟨⟨_, _, _, _, q, hr56, (fun k h => (fun k h => (fun _ h => h) k (by rw [eF47]; exact zx _ h)) k (by rw [eF54]; exact List.mem_append_left _ h))⟩, ⟨_, _, _, _, q, hr58, (fun k h => (fun k h => (fun _ h => h) k (by rw [eF47]; exact zx _ h)) k (by rw [eF54]; exact zx _ h))⟩, trivial⟩
   change XL _ _ _ _ _ ((17, .agg #[iV x29.1, v55, v57]) :: _) _
   refine zq (cs := [iV 0, nS, nS]) H59 z89 q q q (fun b60 w61 H62 => ?_)
   refine qA q q q ?_
   have V66 := H62.viewG (Vw.c (Vw.c (Vw.c (Vw.d Vw.refl))))
   refine zl (cs' := [iV x29.1, v55, v57]) H62 q il89 q (T q (T (V66.sliceOne hR1) (T (V66.sliceOne hR2) q))) q q q (fun w64 H65 => ?_)
   refine B <| Z <| qM q q q <| qM q q q <| qF uf89 fi89_1 nz87 q q q ?_
   have hB68 := R H65.p0
   refine l u87 q hB68 q q q q ?_
   obtain ⟨x69, hx70, hs24⟩ := D hs24
   have V71 := H65.viewG (Vw.c (Vw.c (Vw.c (Vw.d Vw.refl))))
   refine zd q q c99 (w_impl_copyTicket w64 _ v55 x29.2.1 hR1 x69 hx70 V71) (by rfl) ?_
   rintro _ w72 ⟨v74, rfl, H73⟩; refine ⟨_, q, ?_⟩
   have H75 := H65.cV1 [] H73 (zc (Pure.sl q) all_nil)
   obtain ⟨x76, hx77, hs24⟩ := D hs24
   have V82 := H75.viewG (Vw.c (Vw.c (Vw.c (Vw.c (Vw.d Vw.refl)))))
   refine b V82 hR4 hx77 u74 i87 q q q q (fun b78 off79 cap80 hv81 => ?_)
   have H83 := H75.p4
   have H84 := H83.p1
   have V85 := H84.viewG (Vw.c (Vw.d (Vw.c (Vw.c (Vw.c Vw.refl)))))
   refine WL_storeD (Rs := [.sl 119 ty2 v74 x69]) (fo := 0) (cs' := [v74]) H84 hx77 hv81 (Foc.refl) (DBlt.cast (DBlt.sl (e := 119) (t := ty2) (v := v74) (x := x69) q) q q) (V85.sliceList hS0) il87 q q q (fun cs86 F87 w88 H89 => ?_)
   refine WL_nil fun a ha => ?_
   refine zi (X (S ?_ ha))
   refine Z <| A q (qt_add q q) q q <| qM q q q <| WL_nil fun a ha => ?_
   obtain rfl := L hs24
   have H91 := H89.q1.q1.q1
   exact ⟨q, cs86, F87, ha.sub ⟨q, q, q, q, trivial⟩, H91⟩
  have hs24 := if_f hc28 hs24
  refine WP_exit fun a ha => ?_
  obtain rfl := L hs24
  exact zo (⟨exit_ne, q, css17, Fs17, ha.sub ⟨q, trivial⟩, H27⟩)
 intro e a20 w92 hO93
 obtain ⟨p94, rfl⟩ : ∃ z, z = o18 := ⟨o18, q⟩
 obtain ⟨rfl, hO96⟩ := hO93
 obtain ⟨csp94, Fp94, ha, H95⟩ := hO96
 refine zn (X (S ?_ ha))
 refine rR <| qM q q q <| qA q q q <| B <| W fun a ha => ?_
 obtain rfl := L h
 exact ret1 q ha q ⟨v8, csp94, Fp94, q, H95⟩
theorem w_impl_KitchenValid (w : World) (G : List Res) (vp0 : Value) (p0 : List LP) (hp0 : Has G ty4 vp0 p0) (r : Bool) (h : impl_KitchenValidS p0 = some r) (H : Ctx w G) : Calls Tryz.prog 132 #[vp0] w fun e w' => e = .returned (.bool r) ∧ Holds M0 w w' [] G := by
 have H : Holds M0 w w [] G := zb H
 refine zg (args := [vp0]) (n := 18) Tryz.func132 q q q ?_
 unfold impl_KitchenValidS at h
 refine rR <| qA q q q <| B <| C <| rR <| qM q q q <| za H.ctx (t := ty4) (hp0) u74 q q q <| A q (qt_gtr q q) q q ?_
 refine B ?_
 refine Y q (fun hc1 => ?_) (fun hc1 => ?_)
 ·have h := if_t hc1 h
  refine rR <| qA q q q <| B <| W fun a ha => ?_
  obtain rfl := L h
  exact m (ret1 q ha q ⟨q, H⟩)
 have h := if_f hc1 h
 refine y <| C <| rR <| qM q q q <| za H.ctx (t := ty4) (hp0) u74 q q q <| qM q q q <| B <| g ?_
 obtain ⟨o3, ho4, h⟩ := D h
 refine fun a5 ha6 => zp (I := fun s a w2 => match s with | s2 => (Fr a 18 [(8, vp0), (9, iV (List.length p0 : Int)), (10, iV s2)] ∧ Holds M0 w w2 [] G)) (O := fun o e a w2 => match o with | .inl _ => e = .exit 0 ∧ (Fr a 18 [] ∧ Holds M0 w w2 [] G) | .inr q0 => e = .ret ∧ (Fr a 18 [(2, .bool q0)] ∧ Holds M0 w w2 [] G)) ho4 ?_ ?_ ?_
 ·exact ⟨ha6.sub ⟨q, q, q, trivial⟩, H⟩
 ·clear ha6
  intro s o9 a w7 hs8 hI10
  obtain ⟨s2, rfl⟩ : ∃ z, z = s := ⟨s, q⟩
  obtain ⟨ha, H11⟩ := hI10
  refine S ?_ ha
  clear ha
  refine rR <| A q (qt_lss q q) q q <| B <| C ?_
  refine Y q (fun hc12 => ?_) (fun hc12 => ?_)
  ·have hs8 := if_t hc12 hs8
   refine y <| C <| g <| C <| Z ?_
   obtain ⟨x13, hx14, hs8⟩ := D hs8
   refine b H11.ctx (hp0) hx14 u74 i87 q q q q (fun b15 off16 cap17 hv18 => ?_)
   obtain ⟨F19, hat20, hdup21⟩ := H11.at (hp0) hx14 hv18
   refine XL_load (t := ty4) u87 q q hat20 q q q (fun v22 hr23 => ?_)
   have H24 : Holds _ w w7 [.ro ty2 v22 x13] G := hdup21 _ _ _ _ hr23 (fun _ h => h)
   refine qA q q q <| B <| C <| zk <| qM q q q ?_
   obtain ⟨x25, hx26, hs8⟩ := D hs8
   refine QC q q c130 (fun w' hb => w_impl_TicketValid w' _ v22 x13 hR0 x25 hx26 (H24.grow hb).ctx) (by rfl) <| A q (qt_not q) q q <| QL_nil fun a ha w27 hb28 => ?_
   have H29 := H24.grow hb28
   refine X (S ?_ ha)
   refine Y q (fun hc30 => ?_) (fun hc30 => ?_)
   ·have hs8 := if_t hc30 hs8
    refine rR <| qA q q q <| B <| W fun a ha => ?_
    obtain rfl := L hs8
    have H31 := H29.q0
    exact zj (m (⟨ret_ne, q, ha.sub ⟨q, trivial⟩, H31⟩))
   have hs8 := if_f hc30 hs8
   refine WP_skip fun a ha => ?_
   refine zi (X (S ?_ ha))
   refine Z <| A q (qt_add q q) q q <| qM q q q <| WL_nil fun a ha => ?_
   obtain rfl := L hs8
   have H32 := H29.q0
   exact ⟨q, ha.sub ⟨q, q, q, trivial⟩, H32⟩
  have hs8 := if_f hc12 hs8
  refine WP_exit fun a ha => ?_
  obtain rfl := L hs8
  exact zo (⟨exit_ne, q, ha.sub trivial, H11⟩)
 intro e a5 w33 hO34
 rcases o3 with o3 | o3
 ·skip
  obtain ⟨rfl, hO36⟩ := hO34
  obtain ⟨ha, H35⟩ := hO36
  refine zn (X (S ?_ ha))
  refine rR <| qA q q q <| B <| W fun a ha => ?_
  obtain rfl := L h
  exact ret1 q ha q ⟨q, H35⟩
 skip
 obtain ⟨p37, rfl⟩ : ∃ z, z = o3 := ⟨o3, q⟩
 obtain ⟨rfl, hO39⟩ := hO34
 obtain ⟨ha, H38⟩ := hO39
 obtain rfl := L h
 exact zj (m (ret1 q ha q ⟨q, H38⟩))
theorem w_impl_copyKitchen (w : World) (G : List Res) (vp0 : Value) (p0 : List LP) (hp0 : Has G ty4 vp0 p0) (r : (List LP)) (h : impl_copyKitchenS p0 = some r) (H : Ctx w G) : Calls Tryz.prog 146 #[vp0] w fun e w' => ∃ (v1 : Value) (csv1 : List Value) (Fv1 : List Nat), e = .returned (v1) ∧ Holds M0 w w' [dpR 87 dt6 v1 csv1 r Fv1] G := by
 have H : Holds M0 w w [] G := zb H
 refine zg (args := [vp0]) (n := 26) Tryz.func146 q q q ?_
 unfold impl_copyKitchenS at h
 refine rR <| qA q q q <| B <| C <| rR <| qM q q q <| za H.ctx (t := ty4) (hp0) u74 q q q <| A q (qt_eql q q) q q ?_
 refine B ?_
 refine Y q (fun hc1 => ?_) (fun hc1 => ?_)
 ·have h := if_t hc1 h
  refine rR <| qA q q q <| B <| W fun a ha => ?_
  obtain rfl := L h
  have H2 := H.nD 87 dt6
  exact m (ret1 q ha q ⟨(nS), [], [], q, H2⟩)
 have h := if_f hc1 h
 refine y <| rR <| qM q q q <| za H.ctx (t := ty4) (hp0) u74 q q q ?_
 obtain ⟨x3, hx4, h⟩ := D h
 refine WL_makeD (d := dt6) H hx4 u74 j87 q (DBlt.cast (DBlt.nil (e := 119) (d := dt3)) q q) q q q q q (fun v5 cs8 F9 w6 H7 => ?_)
 refine qA q q q <| B <| C <| rR <| qM q q q ?_
 have V11 := H7.viewG (Vw.d Vw.refl)
 refine za V11 (t := ty4) (hp0.c) u74 q q q <| qM q q q <| B <| g ?_
 obtain ⟨o14, ho15, h⟩ := D h
 refine fun a16 ha17 => zp (I := fun s a w2 => match s with | (s12, s13) => ∃ css13 Fs13, Fr a 26 [(3, v5), (12, vp0), (13, iV (List.length p0 : Int)), (14, iV s12)] ∧ Holds M0 w w2 [dpR 87 dt6 v5 css13 s13 Fs13] G) (O := fun o e a w2 => match o with | q0 => e = .exit 0 ∧ ∃ csq0 Fq0, Fr a 26 [(3, v5)] ∧ Holds M0 w w2 [dpR 87 dt6 v5 csq0 q0 Fq0] G) ho15 ?_ ?_ ?_
 ·exact ⟨cs8, F9, ha17.sub ⟨q, q, q, q, trivial⟩, H7⟩
 ·clear ha17
  intro s o20 a w18 hs19 hI21
  obtain ⟨s12, s13⟩ := s
  obtain ⟨css13, Fs13, ha, H22⟩ := hI21
  refine S ?_ ha
  clear ha
  refine rR <| A q (qt_lss q q) q q <| B <| C ?_
  refine Y q (fun hc23 => ?_) (fun hc23 => ?_)
  ·have hs19 := if_t hc23 hs19
   refine y <| C <| g <| rR <| qM q q q ?_
   obtain ⟨x24, hx25, hs19⟩ := D hs19
   have V30 := H22.viewG (Vw.d Vw.refl)
   refine b V30 (hp0.c) hx25 u74 i87 q q q q (fun b26 off27 cap28 hv29 => ?_)
   obtain ⟨F31, hat32, hdup33⟩ := H22.at (hp0.c) hx25 hv29
   refine XL_load (t := ty4) u87 q q hat32 q q q (fun v34 hr35 => ?_)
   have H36 : Holds _ w w18 [.ro ty2 v34 x24, dpR 87 dt6 v5 css13 s13 Fs13] G := hdup33 _ _ _ _ hr35 (fun _ h => h)
   refine qA q q q <| qA q q q <| B <| Z <| qM q q q <| qM q q q <| qM q q q ?_
   obtain ⟨x37, hx38, hs19⟩ := D hs19
   have V39 := H36.viewG (Vw.c (Vw.d Vw.refl))
   refine zd q q c99 (w_impl_copyTicket w18 _ v34 x24 hR0 x37 hx38 V39) (by rfl) ?_
   rintro _ w40 ⟨v42, rfl, H41⟩; refine ⟨_, q, ?_⟩
   have H43 := H36.cV1 [] H41 (zc (Pure.sl q) all_nil)
   obtain ⟨x44, hx45, hs19⟩ := D hs19
   have V50 := H43.viewG (Vw.c (Vw.c (Vw.d Vw.refl)))
   refine b V50 hR2 hx45 u74 i87 q q q q (fun b46 off47 cap48 hv49 => ?_)
   have H51 := H43.p2
   have H52 := H51.p1
   have V53 := H52.viewG (Vw.c (Vw.d (Vw.c Vw.refl)))
   refine WL_storeD (Rs := [.sl 119 ty2 v42 x37]) (fo := 0) (cs' := [v42]) H52 hx45 hv49 (Foc.refl) (DBlt.cast (DBlt.sl (e := 119) (t := ty2) (v := v42) (x := x37) q) q q) (V53.sliceList hS0) il87 q q q (fun cs54 F55 w56 H57 => ?_)
   refine WL_nil fun a ha => ?_
   refine zi (X (S ?_ ha))
   refine Z <| A q (qt_add q q) q q <| qM q q q <| WL_nil fun a ha => ?_
   obtain rfl := L hs19
   have H59 := H57.q1
   exact ⟨q, cs54, F55, ha.sub ⟨q, q, q, q, trivial⟩, H59⟩
  have hs19 := if_f hc23 hs19
  refine WP_exit fun a ha => ?_
  obtain rfl := L hs19
  exact zo (⟨exit_ne, q, css13, Fs13, ha.sub ⟨q, trivial⟩, H22⟩)
 intro e a16 w60 hO61
 obtain ⟨p62, rfl⟩ : ∃ z, z = o14 := ⟨o14, q⟩
 obtain ⟨rfl, hO64⟩ := hO61
 obtain ⟨csp62, Fp62, ha, H63⟩ := hO64
 refine zn (X (S ?_ ha))
 refine rR <| qM q q q <| qA q q q <| B <| W fun a ha => ?_
 obtain rfl := L h
 exact ret1 q ha q ⟨v5, csp62, Fp62, q, H63⟩
theorem w_impl_firstIn (w : World) (G : List Res) (vp0 : Value) (p0 : List LP) (hp0 : Has G ty4 vp0 p0) (p1 : Int) (r : Int × Int) (h : impl_firstInS p0 p1 = some r) (H : Ctx w G) : Calls Tryz.prog 147 #[vp0, iV p1] w fun e w' => e = .returned (.tuple #[iV r.1, iV r.2]) ∧ Holds M0 w w' [] G := by
 have H : Holds M0 w w [] G := zb H
 refine zg (args := [vp0, iV p1]) (n := 32) Tryz.func147 q q q ?_
 unfold impl_firstInS at h
 refine rR <| qA q q q <| qA q q q <| B <| C <| rR <| qM q q q <| za H.ctx (t := ty4) (hp0) u74 q q q ?_
 refine qM q q q <| B <| g ?_
 obtain ⟨o2, ho3, h⟩ := D h
 refine fun a4 ha5 => zp (I := fun s a w2 => match s with | s1 => (Fr a 32 [(1, iV p1), (10, vp0), (11, iV (List.length p0 : Int)), (12, iV s1)] ∧ Holds M0 w w2 [] G)) (O := fun o e a w2 => match o with | .inl _ => e = .exit 0 ∧ (Fr a 32 [] ∧ Holds M0 w w2 [] G) | .inr (q0, q1) => e = .ret ∧ (Fr a 32 [(4, iV q0), (5, iV q1)] ∧ Holds M0 w w2 [] G)) ho3 ?_ ?_ ?_
 ·exact ⟨ha5.sub ⟨q, q, q, q, trivial⟩, H⟩
 ·clear ha5
  intro s o8 a w6 hs7 hI9
  obtain ⟨s1, rfl⟩ : ∃ z, z = s := ⟨s, q⟩
  obtain ⟨ha, H10⟩ := hI9
  refine S ?_ ha
  clear ha
  refine rR <| A q (qt_lss q q) q q <| B <| C ?_
  refine Y q (fun hc11 => ?_) (fun hc11 => ?_)
  ·have hs7 := if_t hc11 hs7
   refine y <| C <| g <| rR <| qM q q q ?_
   obtain ⟨x12, hx13, hs7⟩ := D hs7
   refine b H10.ctx (hp0) hx13 u74 i87 q q q q (fun b14 off15 cap16 hv17 => ?_)
   obtain ⟨F18, hat19, hdup20⟩ := H10.at (hp0) hx13 hv17
   refine XL_load (t := ty4) u87 q q hat19 q q q (fun v21 hr22 => ?_)
   have H23 : Holds _ w w6 [.ro ty2 v21 x12] G := hdup20 _ _ _ _ hr22 (fun _ h => h)
   refine qA q q q <| qA q q q <| rN <| qM q q q <| za H23.ctx (t := ty2) hR0 u87 q q q <| qM q q q <| B <| g ?_
   obtain ⟨o25, ho26, hs7⟩ := D hs7
   refine fun a27 ha28 => zp (I := fun s a w2 => match s with | s24 => (Fr a 32 [(1, iV p1), (6, iV s1), (10, vp0), (11, iV (List.length p0 : Int)), (12, iV s1), (17, v21), (18, iV (List.length x12 : Int)), (19, iV s24)] ∧ Holds M0 w w2 [.ro ty2 v21 x12] G)) (O := fun o e a w2 => match o with | .inl _ => e = .exit 2 ∧ (Fr a 32 [(1, iV p1), (10, vp0), (11, iV (List.length p0 : Int)), (12, iV s1)] ∧ Holds M0 w w2 [] G) | .inr (q0, q1) => e = .ret ∧ (Fr a 32 [(4, iV q0), (5, iV q1)] ∧ Holds M0 w w2 [] G)) ho26 ?_ ?_ ?_
   ·exact ⟨ha28.sub ⟨q, q, q, q, q, q, q, q, trivial⟩, H23⟩
   ·clear ha28
    intro s o31 a w29 hs30 hI32
    obtain ⟨s24, rfl⟩ : ∃ z, z = s := ⟨s, q⟩
    obtain ⟨ha, H33⟩ := hI32
    refine S ?_ ha
    clear ha
    refine rR <| A q (qt_lss q q) q q <| B <| C ?_
    refine Y q (fun hc34 => ?_) (fun hc34 => ?_)
    ·have hs30 := if_t hc34 hs30
     refine y <| C <| g <| rR <| qM q q q ?_
     obtain ⟨x35, hx36, hs30⟩ := D hs30
     refine b H33.ctx hR0 hx36 u87 i119 q q q q (fun b37 off38 cap39 hv40 => ?_)
     obtain ⟨F41, hat42, hdup43⟩ := H33.atN hR0 hx36 hv40
     refine XL_load_agg (t := ty2) us119 uo119 i119 hat42 q q q (fun cs44 hr45 => ?_)
     obtain ⟨c46, c47, F48, F49, rfl, eF52, hr50, hr51⟩ := hr45
     obtain ⟨rfl, _⟩ := hr50
     obtain ⟨rfl, _⟩ := hr51
     change XL _ _ _ _ _ ((23, .agg #[iV x35.1, iV x35.2]) :: _) _
     refine zq (cs := [iV 0, iV 0]) H33 z119 q q q (fun b53 w54 H55 => ?_)
     refine qA q q q ?_
     refine zl (cs' := [iV x35.1, iV x35.2]) H55 q il119 q q q q q (fun w57 H58 => ?_)
     refine rN <| qF uf119 fi119_1 nz3 q q q ?_
     have hB60 := R H58.p0
     refine l u3 q hB60 q q q q <| qM q q q <| A q (qt_eql q q) q q <| B ?_
     refine Y q (fun hc61 => ?_) (fun hc61 => ?_)
     ·have hs30 := if_t hc61 hs30
      refine rR <| qM q q q <| qM q q q <| qA q q q <| qA q q q <| B <| W fun a ha => ?_
      obtain rfl := L hs30
      have H62 := H58.q0.q0
      exact zj (m (⟨ret_ne, q, ha.sub ⟨q, q, trivial⟩, H62⟩))
     have hs30 := if_f hc61 hs30
     refine WP_skip fun a ha => ?_
     refine zi (X (S ?_ ha))
     refine Z <| A q (qt_add q q) q q <| qM q q q <| WL_nil fun a ha => ?_
     obtain rfl := L hs30
     have H63 := H58.q0
     exact ⟨q, ha.sub ⟨q, q, q, q, q, q, q, q, trivial⟩, H63⟩
    have hs30 := if_f hc34 hs30
    refine WP_exit fun a ha => ?_
    obtain rfl := L hs30
    have H64 := H33.q0
    exact zo (⟨exit_ne, q, ha.sub ⟨q, q, q, q, trivial⟩, H64⟩)
   intro e a27 w65 hO66
   rcases o25 with o25 | o25
   ·skip
    obtain ⟨rfl, hO68⟩ := hO66
    obtain ⟨ha, H67⟩ := hO68
    refine zn (zi (X (S ?_ ha)))
    refine Z <| A q (qt_add q q) q q <| qM q q q <| WL_nil fun a ha => ?_
    obtain rfl := L hs7
    exact ⟨q, ha.sub ⟨q, q, q, q, trivial⟩, H67⟩
   skip
   obtain ⟨p69, p70⟩ := o25
   obtain ⟨rfl, hO72⟩ := hO66
   obtain ⟨ha, H71⟩ := hO72
   obtain rfl := L hs7
   exact zj (zj (m (⟨ret_ne, q, ha.sub ⟨q, q, trivial⟩, H71⟩)))
  have hs7 := if_f hc11 hs7
  refine WP_exit fun a ha => ?_
  obtain rfl := L hs7
  exact zo (⟨exit_ne, q, ha.sub trivial, H10⟩)
 intro e a4 w73 hO74
 rcases o2 with o2 | o2
 ·skip
  obtain ⟨rfl, hO76⟩ := hO74
  obtain ⟨ha, H75⟩ := hO76
  refine zn (X (S ?_ ha))
  refine rR <| qA q q q <| qA q q q <| B <| W fun a ha => ?_
  obtain rfl := L h
  exact ret2 q ha q q ⟨q, H75⟩
 skip
 obtain ⟨p77, p78⟩ := o2
 obtain ⟨rfl, hO80⟩ := hO74
 obtain ⟨ha, H79⟩ := hO80
 obtain rfl := L h
 exact zj (m (ret2 q ha q q ⟨q, H79⟩))
theorem w_impl_stateAfter (w : World) (G : List Res) (p0 : Int) (p1 : Int) (r : Int × Bool) (h : impl_stateAfterS p0 p1 = some r) (H : Ctx w G) : Calls Tryz.prog 193 #[iV p0, iV p1] w fun e w' => e = .returned (.tuple #[iV r.1, .bool r.2]) ∧ Holds M0 w w' [] G := by
 have H : Holds M0 w w [] G := zb H
 refine zg (args := [iV p0, iV p1]) (n := 31) Tryz.func193 q q q ?_
 unfold impl_stateAfterS at h
 refine rR <| qA q q q <| qA q q q <| B <| C <| rR <| qM q q q <| B ?_
 refine g <| rR <| A q (qt_eql q q) q q <| qA q q q <| B ?_
 refine Y q (fun hc1 => ?_) (fun hc1 => ?_)
 ·have h := if_t hc1 h
  refine rR <| qM q q q <| A q (qt_eql q q) q q <| B ?_
  refine Y q (fun hc2 => ?_) (fun hc2 => ?_)
  ·have h := if_t hc2 h
   refine rR <| qA q q q <| qA q q q <| B <| W fun a ha => ?_
   obtain rfl := L h
   exact zj (m (ret2 q ha q q ⟨q, H⟩))
  have h := if_f hc2 h
  refine WP_skip fun a ha => ?_
  refine zi (X (S ?_ ha))
  refine rR <| qA q q q <| qA q q q <| B <| W fun a ha => ?_
  obtain rfl := L h
  exact ret2 q ha q q ⟨q, H⟩
 have h := if_f hc1 h
 refine rR <| A q (qt_eql q q) q q <| qA q q q <| B ?_
 refine Y q (fun hc3 => ?_) (fun hc3 => ?_)
 ·have h := if_t hc3 h
  refine rR <| qM q q q <| A q (qt_eql q q) q q <| B ?_
  refine Y q (fun hc4 => ?_) (fun hc4 => ?_)
  ·have h := if_t hc4 h
   refine rR <| qA q q q <| qA q q q <| B <| W fun a ha => ?_
   obtain rfl := L h
   exact zj (m (ret2 q ha q q ⟨q, H⟩))
  have h := if_f hc4 h
  refine WP_skip fun a ha => ?_
  refine zi (X (S ?_ ha))
  refine rR <| qA q q q <| qA q q q <| B <| W fun a ha => ?_
  obtain rfl := L h
  exact ret2 q ha q q ⟨q, H⟩
 have h := if_f hc3 h
 refine rR <| A q (qt_eql q q) q q <| qA q q q <| B ?_
 refine Y q (fun hc5 => ?_) (fun hc5 => ?_)
 ·have h := if_t hc5 h
  refine rR <| qM q q q <| A q (qt_eql q q) q q <| B ?_
  refine Y q (fun hc6 => ?_) (fun hc6 => ?_)
  ·have h := if_t hc6 h
   refine rR <| qA q q q <| qA q q q <| B <| W fun a ha => ?_
   obtain rfl := L h
   exact zj (m (ret2 q ha q q ⟨q, H⟩))
  have h := if_f hc6 h
  refine WP_skip fun a ha => ?_
  refine zi (X (S ?_ ha))
  refine rR <| qA q q q <| qA q q q <| B <| W fun a ha => ?_
  obtain rfl := L h
  exact ret2 q ha q q ⟨q, H⟩
 have h := if_f hc5 h
 refine rR <| A q (qt_eql q q) q q <| qA q q q <| B ?_
 refine Y q (fun hc7 => ?_) (fun hc7 => ?_)
 ·have h := if_t hc7 h
  refine rR <| qM q q q <| A q (qt_eql q q) q q <| qM q q q ?_
  refine zh 3 26 (.bool ((p0 == 0) || (p0 == 1))) ?_ (fun md hmd hk => ?_)
  rotate_left
  ·obtain ⟨Q, rfl⟩ := Md.seq_of hmd
   rcases btf (p0 == 0) with hc8 | hc8
   ·skip
    refine qS q hc8 q q <| qS q hc8 q q <| A q (ze q hc8 q) q q ?_
    exact hk _ (p (by rw [hc8]; rfl) (cfn 2 q (u)))
   skip
   refine qM (J q hc8) q q <| A (J q hc8) (qt_eql q q) q q <| A q (zf q hc8 q) q q ?_
   exact hk _ (p (by rw [hc8]; rfl) (cfn 2 q (u)))
  refine qM q q q ?_
  refine zh 3 30 (.bool (((p0 == 0) || (p0 == 1)) || (p0 == 2))) ?_ (fun md hmd hk => ?_)
  rotate_left
  ·obtain ⟨Q, rfl⟩ := Md.seq_of hmd
   rcases btf ((p0 == 0) || (p0 == 1)) with hc9 | hc9
   ·skip
    refine qS q hc9 q q <| qS q hc9 q q <| A q (ze q hc9 q) q q ?_
    exact hk _ (p (by rw [hc9]; rfl) (cfn 2 q (u)))
   skip
   refine qM (J q hc9) q q <| A (J q hc9) (qt_eql q q) q q <| A q (zf q hc9 q) q q ?_
   exact hk _ (p (by rw [hc9]; rfl) (cfn 2 q (u)))
  refine B ?_
  refine Y q (fun hc10 => ?_) (fun hc10 => ?_)
  ·have h := if_t hc10 h
   refine rR <| qA q q q <| qA q q q <| B <| W fun a ha => ?_
   obtain rfl := L h
   exact zj (m (ret2 q ha q q ⟨q, H⟩))
  have h := if_f hc10 h
  refine WP_skip fun a ha => ?_
  refine zi (X (S ?_ ha))
  refine rR <| qA q q q <| qA q q q <| B <| W fun a ha => ?_
  obtain rfl := L h
  exact ret2 q ha q q ⟨q, H⟩
 have h := if_f hc7 h
 refine WP_skip fun a ha => ?_
 refine zi (X (S ?_ ha))
 refine rR <| qA q q q <| qA q q q <| B <| W fun a ha => ?_
 obtain rfl := L h
 exact ret2 q ha q q ⟨q, H⟩
theorem w_impl_TicketDo (w : World) (G : List Res) (vp0 : Value) (p0 : LP) (hp0 : Has G ty2 vp0 p0) (p1 : Int) (p2 : Int) (r : LP × Bool) (h : impl_TicketDoS p0 p1 p2 = some r) (H : Ctx w G) : Calls Tryz.prog 182 #[vp0, iV p1, iV p2] w fun e w' => ∃ (v1 : Value), e = .returned (.tuple #[v1, .bool r.2]) ∧ Holds M0 w w' [.sl 119 ty2 v1 r.1] G := by
 have H : Holds M0 w w [] G := zb H
 refine zg (args := [vp0, iV p1, iV p2]) (n := 49) Tryz.func182 q q q ?_
 unfold impl_TicketDoS at h
 refine rR <| qA q q q <| qA q q q <| B <| C <| C <| zk <| qM q q q ?_
 obtain ⟨x1, hx2, h⟩ := D h
 refine QC q q c130 (fun w' hb => w_impl_TicketValid w' G vp0 p0 (hp0) x1 hx2 (H.grow hb).ctx) (by rfl) <| A q (qt_not q) q q <| QL_nil fun a ha w3 hb4 => ?_
 have H5 := H.grow hb4
 refine X (S ?_ ha)
 refine Y q (fun hc6 => ?_) (fun hc6 => ?_)
 ·have h := if_t hc6 h
  refine rR <| qA q q q <| qA q q q <| B <| W fun a ha => ?_
  obtain rfl := L h
  have H7 := H5.nS 119 ty2
  exact m (ret2 q ha q q ⟨(nS), q, H7⟩)
 have h := if_f hc6 h
 refine y <| rR <| qM q q q ?_
 obtain ⟨x8, hx9, h⟩ := D h
 refine zd q q c99 (w_impl_copyTicket w3 G vp0 p0 (hp0) x8 hx9 H5.ctx) (by rfl) ?_
 rintro _ w10 ⟨v12, rfl, H11⟩; refine ⟨_, q, ?_⟩
 have H13 := H5.cN1 [] H11
 refine qA q q q <| B <| C <| rR <| qM q q q <| A q (qt_lss q q) q q <| qM q q q ?_
 refine zh 5 23 (.bool ((decide (p1 < 0)) || (decide (p1 ≥ (List.length p0 : Int))))) ?_ (fun md hmd hk => ?_)
 rotate_left
 ·obtain ⟨Q, rfl⟩ := Md.seq_of hmd
  rcases btf (decide (p1 < 0)) with hc14 | hc14
  ·skip
   refine qS q hc14 q q <| qS q hc14 q q <| qS q hc14 q q <| qS q hc14 q q <| A q (ze q hc14 q) q q ?_
   exact hk _ (p (by rw [hc14]; rfl) (cfn 4 q (u)))
  skip
  refine qM (J q hc14) q q <| qM (J q hc14) q q <| za H13.ctx (t := ty2) (hp0.c) u87 (J q hc14) q q <| A (J q hc14) (qt_geq q q) q q <| A q (zf q hc14 q) q q ?_
  exact hk _ (p (by rw [hc14]; rfl) (cfn 4 q (u)))
 refine B ?_
 refine Y q (fun hc15 => ?_) (fun hc15 => ?_)
 ·have h := if_t hc15 h
  refine rR <| qM q q q <| qA q q q <| qA q q q <| B <| W fun a ha => ?_
  obtain rfl := L h
  exact m (ret2 q ha q q ⟨v12, q, H13⟩)
 have h := if_f hc15 h
 refine y <| rR <| qM q q q <| qM q q q ?_
 obtain ⟨x16, hx17, h⟩ := D h
 refine b H13.ctx (hp0.c) hx17 u87 i119 q q q q (fun b18 off19 cap20 hv21 => ?_)
 refine qF uf119 fi119_1 nz3 q q q ?_
 obtain ⟨F22, hat23, hdup24⟩ := H13.at (hp0.c) hx17 hv21
 obtain ⟨F25, hat26, hin27⟩ := AtP.snd hat23
 refine zt (k := .i64) u3 q hat26 q q q <| qM q q q ?_
 obtain ⟨x28, hx29, h⟩ := D h
 refine zd q q c193 (w_impl_stateAfter w10 _ x16.2 p2 x28 hx29 H13.ctx) (by rfl) ?_
 rintro _ w30 ⟨rfl, H31⟩; refine ⟨_, q, ?_⟩
 have H32 := H13.cN0 [] H31
 refine qM q q q <| A q (zv q q) q q <| A q (zv q q) q q <| qA q q q <| qA q q q <| B <| C <| rR <| qM q q q ?_
 refine A q (qt_not q) q q <| B ?_
 refine Y q (fun hc33 => ?_) (fun hc33 => ?_)
 ·have h := if_t hc33 h
  refine rR <| qM q q q <| qA q q q <| qA q q q <| B <| W fun a ha => ?_
  obtain rfl := L h
  exact m (ret2 q ha q q ⟨v12, q, H32⟩)
 have h := if_f hc33 h
 refine y <| rR <| qM q q q <| qM q q q <| qM q q q ?_
 obtain ⟨x34, hx35, h⟩ := D h
 refine b H32.ctx hS0 hx35 u87 i119 q q q q (fun b36 off37 cap38 hv39 => ?_)
 refine qF uf119 fi119_1 nz3 q q q ?_
 refine WL_storeH (fo := 1) (cs' := [iV x28.1]) H32 hx35 hv39 (Upd.snd (Upd.whole (Blt.int))) q il3 q q q q (fun w40 H41 => ?_)
 refine B <| C <| C <| zk <| qM q q q ?_
 obtain ⟨x43, hx44, h⟩ := D h
 refine QC q q c130 (fun w' hb => w_impl_TicketValid w' _ v12 (List.set x8 (Int.toNat p1) (x34.1, x28.1)) hS0 x43 hx44 (H41.grow hb).ctx) (by rfl) <| A q (qt_not q) q q <| QL_nil fun a ha w45 hb46 => ?_
 have H47 := H41.grow hb46
 refine X (S ?_ ha)
 refine Y q (fun hc48 => ?_) (fun hc48 => ?_)
 ·have h := if_t hc48 h
  refine rR <| qM q q q ?_
  obtain ⟨x49, hx50, h⟩ := D h
  refine zd q q c99 (w_impl_copyTicket w45 _ vp0 p0 (hp0.c) x49 hx50 H47.ctx) (by rfl) ?_
  rintro _ w51 ⟨v53, rfl, H52⟩; refine ⟨_, q, ?_⟩
  have H54 := H47.cN1 [] H52
  refine qA q q q <| qA q q q <| B <| W fun a ha => ?_
  obtain rfl := L h
  have H55 := H54.q1
  exact m (ret2 q ha q q ⟨v53, q, H55⟩)
 have h := if_f hc48 h
 refine y <| rR <| qM q q q <| qA q q q <| qA q q q <| B <| W fun a ha => ?_
 obtain rfl := L h
 exact ret2 q ha q q ⟨v12, q, H47⟩
theorem w_impl_TicketMay (w : World) (G : List Res) (vp0 : Value) (p0 : LP) (hp0 : Has G ty2 vp0 p0) (r : (List Int)) (h : impl_TicketMayS p0 = some r) (H : Ctx w G) : Calls Tryz.prog 167 #[vp0] w fun e w' => ∃ (v1 : Value), e = .returned (v1) ∧ Holds M0 w w' [.sl 3 tI v1 r] G := by
 have H : Holds M0 w w [] G := zb H
 refine zg (args := [vp0]) (n := 28) Tryz.func167 q q q ?_
 unfold impl_TicketMayS at h
 refine rR <| qA q q q <| B <| C <| C <| zk <| qM q q q ?_
 obtain ⟨x1, hx2, h⟩ := D h
 refine QC q q c130 (fun w' hb => w_impl_TicketValid w' G vp0 p0 (hp0) x1 hx2 (H.grow hb).ctx) (by rfl) <| A q (qt_not q) q q <| QL_nil fun a ha w3 hb4 => ?_
 have H5 := H.grow hb4
 refine X (S ?_ ha)
 refine Y q (fun hc6 => ?_) (fun hc6 => ?_)
 ·have h := if_t hc6 h
  refine rR <| qA q q q <| B <| W fun a ha => ?_
  obtain rfl := L h
  have H7 := H5.nS 3 tI
  exact m (ret1 q ha q ⟨(nS), q, H7⟩)
 have h := if_f hc6 h
 refine y <| rR <| qA q q q <| B <| C <| rR <| qM q q q <| za H5.ctx (t := ty2) (hp0) u87 q q q ?_
 refine qM q q q <| B <| g ?_
 have H10 := H5.nS 3 tI
 obtain ⟨o11, ho12, h⟩ := D h
 refine fun a13 ha14 => zp (I := fun s a w2 => match s with | (s8, s9) => ∃ vs8, Fr a 28 [(0, vp0), (3, vs8), (11, iV (List.length p0 : Int)), (12, iV s9)] ∧ Holds M0 w w2 [.sl 3 tI vs8 s8] G) (O := fun o e a w2 => match o with | q0 => e = .exit 0 ∧ ∃ vq0, Fr a 28 [(3, vq0)] ∧ Holds M0 w w2 [.sl 3 tI vq0 q0] G) ho12 ?_ ?_ ?_
 ·exact ⟨(nS), ha14.sub ⟨q, q, q, q, trivial⟩, H10⟩
 ·clear ha14
  intro s o17 a w15 hs16 hI18
  obtain ⟨s8, s9⟩ := s
  obtain ⟨vs8, ha, H19⟩ := hI18
  refine S ?_ ha
  clear ha
  refine rR <| A q (qt_lss q q) q q <| B <| C ?_
  refine Y q (fun hc20 => ?_) (fun hc20 => ?_)
  ·have hs16 := if_t hc20 hs16
   refine y <| C <| g <| rR <| qM q q q <| qA q q q <| B <| C <| Z ?_
   refine qM q q q <| qM q q q ?_
   obtain ⟨x21, hx22, hs16⟩ := D hs16
   refine zd q q c182 (w_impl_TicketDo w15 _ vp0 p0 (hp0.c) s9 0 x21 hx22 H19.ctx) (by rfl) ?_
   rintro _ w23 ⟨v25, rfl, H24⟩; refine ⟨_, q, ?_⟩
   have H26 := H19.cN1 [] H24
   refine qM q q q <| A q (zv q q) q q <| A q (zv q q) q q <| qA q q q <| qA q q q <| rN <| qM q q q <| B ?_
   refine Y q (fun hc27 => ?_) (fun hc27 => ?_)
   ·have hs16 := if_t hc27 hs16
    refine Z <| qM q q q <| qM q q q ?_
    refine zs (t := tI) (args := [.tmp 23]) (xs := ([s9] : List Int)) H26 (BltL.cons (Blt.int) q (BltL.nil)) u23 j3 q q q q q q (fun v28 w29 H30 => ?_)
    have H32 := H30.p2
    obtain ⟨x33, hx34, hs16⟩ := D hs16
    refine zw H32 hS1 hx34 u23 j3 q q q q q q (fun v35 w36 H37 => ?_)
    refine qA q q q <| WL_nil fun a ha => ?_
    refine zi (X (S ?_ ha))
    refine Z <| A q (qt_add q q) q q <| qM q q q <| WL_nil fun a ha => ?_
    obtain rfl := L hs16
    have H39 := H37.q1.q1
    exact ⟨q, v35, ha.sub ⟨q, q, q, q, trivial⟩, H39⟩
   have hs16 := if_f hc27 hs16
   refine WP_skip fun a ha => ?_
   refine zi (X (S ?_ ha))
   refine Z <| A q (qt_add q q) q q <| qM q q q <| WL_nil fun a ha => ?_
   obtain rfl := L hs16
   have H40 := H26.q0
   exact ⟨q, vs8, ha.sub ⟨q, q, q, q, trivial⟩, H40⟩
  have hs16 := if_f hc20 hs16
  refine WP_exit fun a ha => ?_
  obtain rfl := L hs16
  exact zo (⟨exit_ne, q, vs8, ha.sub ⟨q, trivial⟩, H19⟩)
 intro e a13 w41 hO42
 obtain ⟨p43, rfl⟩ : ∃ z, z = o11 := ⟨o11, q⟩
 obtain ⟨rfl, hO45⟩ := hO42
 obtain ⟨vp43, ha, H44⟩ := hO45
 refine zn (X (S ?_ ha))
 refine rR <| qM q q q <| qA q q q <| B <| W fun a ha => ?_
 obtain rfl := L h
 exact ret1 q ha q ⟨vp43, q, H44⟩
theorem w_impl_NextFire (w : World) (G : List Res) (vp0 : Value) (p0 : List LP) (hp0 : Has G ty4 vp0 p0) (r : Int × Int) (h : impl_NextFireS p0 = some r) (H : Ctx w G) : Calls Tryz.prog 148 #[vp0] w fun e w' => e = .returned (.tuple #[iV r.1, iV r.2]) ∧ Holds M0 w w' [] G := by
 have H : Holds M0 w w [] G := zb H
 refine zg (args := [vp0]) (n := 27) Tryz.func148 q q q ?_
 unfold impl_NextFireS at h
 refine rR <| qA q q q <| qA q q q <| B <| C <| C <| zk <| qM q q q ?_
 obtain ⟨x1, hx2, h⟩ := D h
 refine QC q q c132 (fun w' hb => w_impl_KitchenValid w' G vp0 p0 (hp0) x1 hx2 (H.grow hb).ctx) (by rfl) <| A q (qt_not q) q q <| QL_nil fun a ha w3 hb4 => ?_
 have H5 := H.grow hb4
 refine X (S ?_ ha)
 refine Y q (fun hc6 => ?_) (fun hc6 => ?_)
 ·have h := if_t hc6 h
  refine rR <| qA q q q <| qA q q q <| B <| W fun a ha => ?_
  obtain rfl := L h
  exact m (ret2 q ha q q ⟨q, H5⟩)
 have h := if_f hc6 h
 refine y <| C <| rR <| qM q q q <| za H5.ctx (t := ty4) (hp0) u74 q q q <| qM q q q <| B <| g ?_
 obtain ⟨o8, ho9, h⟩ := D h
 refine fun a10 ha11 => zp (I := fun s a w2 => match s with | s7 => (Fr a 27 [(10, vp0), (11, iV (List.length p0 : Int)), (12, iV s7)] ∧ Holds M0 w w2 [] G)) (O := fun o e a w2 => match o with | .inl _ => e = .exit 0 ∧ (Fr a 27 [] ∧ Holds M0 w w2 [] G) | .inr (q0, q1) => e = .ret ∧ (Fr a 27 [(2, iV q0), (3, iV q1)] ∧ Holds M0 w w2 [] G)) ho9 ?_ ?_ ?_
 ·exact ⟨ha11.sub ⟨q, q, q, trivial⟩, H5⟩
 ·clear ha11
  intro s o14 a w12 hs13 hI15
  obtain ⟨s7, rfl⟩ : ∃ z, z = s := ⟨s, q⟩
  obtain ⟨ha, H16⟩ := hI15
  refine S ?_ ha
  clear ha
  refine rR <| A q (qt_lss q q) q q <| B <| C ?_
  refine Y q (fun hc17 => ?_) (fun hc17 => ?_)
  ·have hs13 := if_t hc17 hs13
   refine y <| C <| g <| rR <| qM q q q ?_
   obtain ⟨x18, hx19, hs13⟩ := D hs13
   refine b H16.ctx (hp0) hx19 u74 i87 q q q q (fun b20 off21 cap22 hv23 => ?_)
   obtain ⟨F24, hat25, hdup26⟩ := H16.at (hp0) hx19 hv23
   refine XL_load (t := ty4) u87 q q hat25 q q q (fun v27 hr28 => ?_)
   have H29 : Holds _ w w12 [.ro ty2 v27 x18] G := hdup26 _ _ _ _ hr28 (fun _ h => h)
   refine qA q q q <| qA q q q <| rN <| qM q q q ?_
   obtain ⟨x30, hx31, hs13⟩ := D hs13
   refine zd q q c167 (w_impl_TicketMay w12 _ v27 x18 hR0 x30 hx31 H29.ctx) (by rfl) ?_
   rintro _ w32 ⟨v34, rfl, H33⟩; refine ⟨_, q, ?_⟩
   have H35 := H29.cN1 [] H33
   refine qA q q q <| rN <| qM q q q <| za H35.ctx (t := tI) hS0 u23 q q q <| A q (qt_gtr q q) q q <| B ?_
   refine Y q (fun hc36 => ?_) (fun hc36 => ?_)
   ·have hs13 := if_t hc36 hs13
    refine C <| WP_quiet (by kernel_rfl) (by kernel_rfl) <| qM q q q <| qM q q q ?_
    obtain ⟨x37, hx38, hs13⟩ := D hs13
    refine b H35.ctx hS0 hx38 u23 i3 q q q q (fun b39 off40 cap41 hv42 => ?_)
    obtain ⟨F43, hat44, hdup45⟩ := H35.at hS0 hx38 hv42
    refine zt (k := .i64) u3 q hat44 q q q <| qA q q q <| qA q q q <| QL_nil fun a ha w46 hb47 => ?_
    have H48 := H35.grow hb47
    refine X (S ?_ ha)
    refine W fun a ha => ?_
    obtain rfl := L hs13
    have H49 := H48.q0.q0
    exact zj (m (⟨ret_ne, q, ha.sub ⟨q, q, trivial⟩, H49⟩))
   have hs13 := if_f hc36 hs13
   refine WP_skip fun a ha => ?_
   refine zi (X (S ?_ ha))
   refine Z <| A q (qt_add q q) q q <| qM q q q <| WL_nil fun a ha => ?_
   obtain rfl := L hs13
   have H50 := H35.q0.q0
   exact ⟨q, ha.sub ⟨q, q, q, trivial⟩, H50⟩
  have hs13 := if_f hc17 hs13
  refine WP_exit fun a ha => ?_
  obtain rfl := L hs13
  exact zo (⟨exit_ne, q, ha.sub trivial, H16⟩)
 intro e a10 w51 hO52
 rcases o8 with o8 | o8
 ·skip
  obtain ⟨rfl, hO54⟩ := hO52
  obtain ⟨ha, H53⟩ := hO54
  refine zn (X (S ?_ ha))
  refine rR <| qA q q q <| qA q q q <| B <| W fun a ha => ?_
  obtain rfl := L h
  exact ret2 q ha q q ⟨q, H53⟩
 skip
 obtain ⟨p55, p56⟩ := o8
 obtain ⟨rfl, hO58⟩ := hO52
 obtain ⟨ha, H57⟩ := hO58
 obtain rfl := L h
 exact zj (m (ret2 q ha q q ⟨q, H57⟩))
theorem w_impl_WorkStep (w : World) (G : List Res) (vp0 : Value) (p0 : List LP) (hp0 : Has G ty4 vp0 p0) (r : (List LP) × Bool) (h : impl_WorkStepS p0 = some r) (H : Ctx w G) : Calls Tryz.prog 117 #[vp0] w fun e w' => ∃ (v1 : Value) (csv1 : List Value) (Fv1 : List Nat), e = .returned (.tuple #[v1, .bool r.2]) ∧ Holds M0 w w' [dpR 87 dt6 v1 csv1 r.1 Fv1] G := by
 have H : Holds M0 w w [] G := zb H
 refine zg (args := [vp0]) (n := 62) Tryz.func117 q q q ?_
 unfold impl_WorkStepS at h
 refine rR <| qA q q q <| qA q q q <| B <| C <| C <| zk <| qM q q q ?_
 obtain ⟨x1, hx2, h⟩ := D h
 refine QC q q c132 (fun w' hb => w_impl_KitchenValid w' G vp0 p0 (hp0) x1 hx2 (H.grow hb).ctx) (by rfl) <| A q (qt_not q) q q <| QL_nil fun a ha w3 hb4 => ?_
 have H5 := H.grow hb4
 refine X (S ?_ ha)
 refine Y q (fun hc6 => ?_) (fun hc6 => ?_)
 ·have h := if_t hc6 h
  refine rR <| qA q q q <| qA q q q <| B <| W fun a ha => ?_
  obtain rfl := L h
  have H7 := H5.nD 87 dt6
  exact m (ret2 q ha q q ⟨(nS), [], [], q, H7⟩)
 have h := if_f hc6 h
 refine y <| rR <| qM q q q ?_
 obtain ⟨x8, hx9, h⟩ := D h
 refine zd q q c146 (w_impl_copyKitchen w3 G vp0 p0 (hp0) x8 hx9 H5.ctx) (by rfl) ?_
 rintro _ w10 ⟨v12, cs13, F14, rfl, H11⟩; refine ⟨_, q, ?_⟩
 have H15 := H5.cN1 [] H11
 refine qA q q q <| B <| C <| rR <| qM q q q ?_
 obtain ⟨x16, hx17, h⟩ := D h
 have V18 := H15.viewG (Vw.d Vw.refl)
 refine zd q q c147 (w_impl_firstIn w10 _ vp0 p0 (hp0.c) 2 x16 hx17 V18) (by rfl) ?_
 rintro _ w19 ⟨rfl, H20⟩; refine ⟨_, q, ?_⟩
 have H21 := H15.cV0 [] H20 all_nil
 refine qM q q q <| A q (zv q q) q q <| A q (zv q q) q q <| qA q q q <| qA q q q <| rN <| qM q q q <| A q (qt_geq q q) q q ?_
 refine B ?_
 refine Y q (fun hc22 => ?_) (fun hc22 => ?_)
 ·have h := if_t hc22 h
  refine rR <| qM q q q <| qM q q q ?_
  obtain ⟨x23, hx24, h⟩ := D h
  have V29 := H21.viewG (Vw.d Vw.refl)
  refine b V29 hR0 hx24 u74 i87 q q q q (fun b25 off26 cap27 hv28 => ?_)
  obtain ⟨v30, hc31, hcell32, hp33, hp34, hsh35⟩ := Holds.ns H21 (Foc.refl) hx24 hv28
  refine XL_load_cell u87 q hcell32 q q q <| qM q q q ?_
  obtain ⟨x36, hx37, h⟩ := D h
  have V42 : Ctx w19 ([.ro ty2 v30 x23, .ro ty4 v12 x8] ++ G) := H21.viewG (Vw.dp (NsOk.ns (Foc.refl) hx24 hc31 (NsOk.self NsOk.nil)) Vw.refl)
  refine b V42 hR0 hx37 u87 i119 q q q q (fun b38 off39 cap40 hv41 => ?_)
  refine qF uf119 fi119_1 nz3 q q q ?_
  obtain ⟨F43, H44⟩ := Holds.borrow H21 (Foc.refl) hx24 hc31
  refine WL_storeH (fo := 1) (cs' := [iV 3]) H44 hx37 hv41 (Upd.snd (Upd.whole (Blt.int))) q il3 q q q q (fun w46 H47 => ?_)
  have H49 := H47.p1
  have H50 := H49.p1
  obtain ⟨F51, H52⟩ := Holds.giveBack q H50 hc31
  refine rN <| qM q q q <| qA q q q <| qA q q q <| B <| W fun a ha => ?_
  obtain rfl := L h
  exact m (ret2 q ha q q ⟨v12, cs13, F51, q, H52⟩)
 have h := if_f hc22 h
 refine y <| C <| rR <| qM q q q ?_
 obtain ⟨x54, hx55, h⟩ := D h
 have V56 := H21.viewG (Vw.d Vw.refl)
 refine zd q q c147 (w_impl_firstIn w19 _ vp0 p0 (hp0.c) 1 x54 hx55 V56) (by rfl) ?_
 rintro _ w57 ⟨rfl, H58⟩; refine ⟨_, q, ?_⟩
 have H59 := H21.cV0 [] H58 all_nil
 refine qM q q q <| A q (zv q q) q q <| A q (zv q q) q q <| qA q q q <| qA q q q <| rN <| qM q q q <| A q (qt_geq q q) q q ?_
 refine B ?_
 refine Y q (fun hc60 => ?_) (fun hc60 => ?_)
 ·have h := if_t hc60 h
  refine rR <| qM q q q <| qM q q q ?_
  obtain ⟨x61, hx62, h⟩ := D h
  have V67 := H59.viewG (Vw.d Vw.refl)
  refine b V67 hR0 hx62 u74 i87 q q q q (fun b63 off64 cap65 hv66 => ?_)
  obtain ⟨v68, hc69, hcell70, hp71, hp72, hsh73⟩ := Holds.ns H59 (Foc.refl) hx62 hv66
  refine XL_load_cell u87 q hcell70 q q q <| qM q q q ?_
  obtain ⟨x74, hx75, h⟩ := D h
  have V80 : Ctx w57 ([.ro ty2 v68 x61, .ro ty4 v12 x8] ++ G) := H59.viewG (Vw.dp (NsOk.ns (Foc.refl) hx62 hc69 (NsOk.self NsOk.nil)) Vw.refl)
  refine b V80 hR0 hx75 u87 i119 q q q q (fun b76 off77 cap78 hv79 => ?_)
  refine qF uf119 fi119_1 nz3 q q q ?_
  obtain ⟨F81, H82⟩ := Holds.borrow H59 (Foc.refl) hx62 hc69
  refine WL_storeH (fo := 1) (cs' := [iV 2]) H82 hx75 hv79 (Upd.snd (Upd.whole (Blt.int))) q il3 q q q q (fun w84 H85 => ?_)
  have H87 := H85.p1
  have H88 := H87.p1
  obtain ⟨F89, H90⟩ := Holds.giveBack q H88 hc69
  refine rN <| qM q q q <| qA q q q <| qA q q q <| B <| W fun a ha => ?_
  obtain rfl := L h
  exact m (ret2 q ha q q ⟨v12, cs13, F89, q, H90⟩)
 have h := if_f hc60 h
 refine y <| C <| rR <| qM q q q ?_
 obtain ⟨x92, hx93, h⟩ := D h
 have V94 := H59.viewG (Vw.d Vw.refl)
 refine zd q q c148 (w_impl_NextFire w57 _ vp0 p0 (hp0.c) x92 hx93 V94) (by rfl) ?_
 rintro _ w95 ⟨rfl, H96⟩; refine ⟨_, q, ?_⟩
 have H97 := H59.cV0 [] H96 all_nil
 refine qM q q q <| A q (zv q q) q q <| A q (zv q q) q q <| qA q q q <| qA q q q <| rN <| qM q q q <| A q (qt_geq q q) q q ?_
 refine B ?_
 refine Y q (fun hc98 => ?_) (fun hc98 => ?_)
 ·have h := if_t hc98 h
  refine rR <| qM q q q <| qM q q q ?_
  obtain ⟨x99, hx100, h⟩ := D h
  have V105 := H97.viewG (Vw.d Vw.refl)
  refine b V105 hR0 hx100 u74 i87 q q q q (fun b101 off102 cap103 hv104 => ?_)
  obtain ⟨v106, hc107, hcell108, hp109, hp110, hsh111⟩ := Holds.ns H97 (Foc.refl) hx100 hv104
  refine XL_load_cell u87 q hcell108 q q q <| qM q q q ?_
  obtain ⟨x112, hx113, h⟩ := D h
  have V118 : Ctx w95 ([.ro ty2 v106 x99, .ro ty4 v12 x8] ++ G) := H97.viewG (Vw.dp (NsOk.ns (Foc.refl) hx100 hc107 (NsOk.self NsOk.nil)) Vw.refl)
  refine b V118 hR0 hx113 u87 i119 q q q q (fun b114 off115 cap116 hv117 => ?_)
  refine qF uf119 fi119_1 nz3 q q q ?_
  obtain ⟨F119, H120⟩ := Holds.borrow H97 (Foc.refl) hx100 hc107
  refine WL_storeH (fo := 1) (cs' := [iV 1]) H120 hx113 hv117 (Upd.snd (Upd.whole (Blt.int))) q il3 q q q q (fun w122 H123 => ?_)
  have H125 := H123.p1
  have H126 := H125.p1
  obtain ⟨F127, H128⟩ := Holds.giveBack q H126 hc107
  refine rN <| qM q q q <| qA q q q <| qA q q q <| B <| W fun a ha => ?_
  obtain rfl := L h
  exact m (ret2 q ha q q ⟨v12, cs13, F127, q, H128⟩)
 have h := if_f hc98 h
 refine y <| rR <| qM q q q <| qA q q q <| qA q q q <| B <| W fun a ha => ?_
 obtain rfl := L h
 exact ret2 q ha q q ⟨v12, cs13, F14, q, H97⟩
theorem w_impl_doWork (w : World) (G : List Res) (bp0 : Nat) (A0 : Value) (B0 : LI) (csp0_0 : List Value) (Fp0_0 : List Nat) (A1 : Value) (B1 : List Int) (A2 : Value) (B2 : List Int) (B3 : Int) (A4 : Value) (B4 : LT) (csp0_4 : List Value) (Fp0_4 : List Nat) (r : LT × Bool) (h : impl_doWorkS B0 B1 B2 B3 B4 = some r) (H : Ctx w ([.bx bp0 31 [A0, A1, A2, iV B3, A4], dpR 115 dt13 A0 csp0_0 B0 Fp0_0, .sl 3 tI A1 B1, .sl 3 tI A2 B2, dpR 89 dt14 A4 csp0_4 B4 Fp0_4] ++ G)) : Calls Tryz.prog 72 #[pB bp0] w fun e w' => ∃ (dsp0_4 : List Value) (Ep0_4 : List Nat), e = .returned (.bool r.2) ∧ Holds (([.bx bp0 31 [A0, A1, A2, iV B3, A4], dpR 115 dt13 A0 csp0_0 B0 Fp0_0, .sl 3 tI A1 B1, .sl 3 tI A2 B2, dpR 89 dt14 A4 csp0_4 B4 Fp0_4] : List Res).flatMap Res.own) w w' [.bx bp0 31 [A0, A1, A2, iV B3, A4], dpR 115 dt13 A0 csp0_0 B0 Fp0_0, .sl 3 tI A1 B1, .sl 3 tI A2 B2, dpR 89 dt14 A4 dsp0_4 r.1 Ep0_4] G := by
 have H : Holds (([.bx bp0 31 [A0, A1, A2, iV B3, A4], dpR 115 dt13 A0 csp0_0 B0 Fp0_0, .sl 3 tI A1 B1, .sl 3 tI A2 B2, dpR 89 dt14 A4 csp0_4 B4 Fp0_4] : List Res).flatMap Res.own) w w [.bx bp0 31 [A0, A1, A2, iV B3, A4], dpR 115 dt13 A0 csp0_0 B0 Fp0_0, .sl 3 tI A1 B1, .sl 3 tI A2 B2, dpR 89 dt14 A4 csp0_4 B4 Fp0_4] G := zb H
 refine zg (args := [pB bp0]) (n := 33) Tryz.func72 q q q ?_
 unfold impl_doWorkS at h
 refine rR <| qA q q q <| rN <| qM q q q <| qN q q q ?_
 have hB1 := R H.p0
 refine zm (cs := [A0, A1, A2, iV B3, A4]) us31 uo31 il31 hB1 q q q ?_
 change XL _ _ _ _ _ ((10, .agg #[A0, A1, A2, iV B3, A4]) :: _) _
 obtain ⟨x2, hx3, h⟩ := D h
 have V4 := H.viewG (Vw.c (Vw.d (Vw.c (Vw.c (Vw.d Vw.refl)))))
 refine zd q q c96 (w_impl_kitchenOf w _ A0 B0 hR1 A1 B1 hS2 A2 B2 hS3 B3 A4 B4 hR4 x2 hx3 V4) (by rfl) ?_
 rintro _ w5 ⟨v7, cs8, F9, rfl, H6⟩; refine ⟨_, q, ?_⟩
 have H10 := H.cV1 [] H6 (zc Pure.dp all_nil)
 obtain ⟨x11, hx12, h⟩ := D h
 have V13 := H10.viewG (Vw.d (Vw.c (Vw.d (Vw.c (Vw.c (Vw.d Vw.refl))))))
 refine zd q q c117 (w_impl_WorkStep w5 _ v7 x2 hR0 x11 hx12 V13) (by rfl) ?_
 rintro _ w14 ⟨v16, cs17, F18, rfl, H15⟩; refine ⟨_, q, ?_⟩
 have H19 := H10.cV1 [] H15 (zc Pure.dp all_nil)
 refine qM q q q <| A q (zv q q) q q <| A q (zv q q) q q <| qA q q q <| qA q q q <| B <| C <| rR <| qM q q q ?_
 refine A q (qt_not q) q q <| B ?_
 refine Y q (fun hc20 => ?_) (fun hc20 => ?_)
 ·have h := if_t hc20 h
  refine rR <| qA q q q <| B <| W fun a ha => ?_
  obtain rfl := L h
  have H21 := H19.q0.q0.p4.p4.p4.p4.p4
  exact m (ret1 q ha q ⟨csp0_4, Fp0_4, q, H21⟩)
 have h := if_f hc20 h
 refine y <| C <| rR <| qM q q q ?_
 have V22 := H19.viewG (Vw.d (Vw.d (Vw.c (Vw.d (Vw.c (Vw.c (Vw.d Vw.refl)))))))
 refine za V22 (t := ty4) hR0 u74 q q q <| qM q q q <| B <| g ?_
 obtain ⟨o25, ho26, h⟩ := D h
 have H29 := H19.q1.p5.p5.p5.p5.p5
 refine fun a27 ha28 => zp (I := fun s a w2 => match s with | (s23, s24) => ∃ css24 Fs24 FsK, 0 ≤ s23 ∧ Fr a 33 [(0, pB bp0), (17, v16), (18, iV (List.length x11.1 : Int)), (19, iV s23)] ∧ Holds (([.bx bp0 31 [A0, A1, A2, iV B3, A4], dpR 115 dt13 A0 csp0_0 B0 Fp0_0, .sl 3 tI A1 B1, .sl 3 tI A2 B2, dpR 89 dt14 A4 csp0_4 B4 Fp0_4] : List Res).flatMap Res.own) w w2 [.bx bp0 31 [A0, A1, A2, iV B3, A4], dpR 115 dt13 A0 csp0_0 B0 Fp0_0, .sl 3 tI A1 B1, .sl 3 tI A2 B2, dpR 89 dt14 A4 css24 s24 Fs24, sufR 87 dt6 v16 cs17 x11.1 (Int.toNat s23) FsK] G) (O := fun o e a w2 => match o with | q0 => e = .exit 0 ∧ ∃ csq0 Fq0, Fr a 33 [(0, pB bp0)] ∧ Holds (([.bx bp0 31 [A0, A1, A2, iV B3, A4], dpR 115 dt13 A0 csp0_0 B0 Fp0_0, .sl 3 tI A1 B1, .sl 3 tI A2 B2, dpR 89 dt14 A4 csp0_4 B4 Fp0_4] : List Res).flatMap Res.own) w w2 [.bx bp0 31 [A0, A1, A2, iV B3, A4], dpR 115 dt13 A0 csp0_0 B0 Fp0_0, .sl 3 tI A1 B1, .sl 3 tI A2 B2, dpR 89 dt14 A4 csq0 q0 Fq0] G) ho26 ?_ ?_ ?_
 ·exact ⟨csp0_4, Fp0_4, F18, by decide, ha28.sub ⟨q, q, q, q, trivial⟩, ((((H29.p5.suf.p5).p5).p5).p5).p5⟩
 ·clear ha28
  intro s o32 a w30 hs31 hI33
  obtain ⟨s23, s24⟩ := s
  obtain ⟨css24, Fs24, FsK, hnn, ha, H34⟩ := hI33
  refine S ?_ ha
  clear ha
  refine rR <| A q (qt_lss q q) q q <| B <| C ?_
  refine Y q (fun hc35 => ?_) (fun hc35 => ?_)
  ·have hs31 := if_t hc35 hs31
   refine y <| C <| g <| rR <| qM q q q ?_
   obtain ⟨x36, hx37, hs31⟩ := D hs31
   obtain ⟨bK, capK, hvK, hmK⟩ := Holds.suf_at H34.p5 hx37
   obtain ⟨vK, FsK2, hcK, hpK, hqK, HKa⟩ := Holds.take H34.p5 (zz hx37) hvK
   refine XL_indexK hx37 u74 i87 q (by rw [hvK]; rfl) q q ?_
   have H43 := HKa
   refine XL_load_cell u87 q hcK q q q <| qA q q q <| qA q q q <| B <| Z <| qM q q q <| qN q q q <| qF uf31 fi31_4 nz29 q q q ?_
   have hB50 := R H43.p2
   refine l u29 q hB50 q q q q <| qM q q q <| qM q q q ?_
   obtain ⟨x51, hx52, hs31⟩ := D hs31
   have V57 := H43.viewG (Vw.c (Vw.c (Vw.c (Vw.d (Vw.c (Vw.c (Vw.d Vw.refl)))))))
   refine b V57 hR6 hx52 u29 i89 q q q q (fun b53 off54 cap55 hv56 => ?_)
   refine qF uf89 fi89_1 nz87 q q q ?_
   have H58 := H43.p6.p1
   refine WL_storeD (Rs := [.sl 119 ty2 vK x36]) (fo := 1) (cs' := [vK]) H58 hx52 hv56 (Foc.snd (Foc.fst Foc.refl)) (DBlt.cast (DBlt.sl (e := 119) (t := ty2) (v := vK) (x := x36) q) q q) (by rw [hpK]) il87 q q q (fun cs59 F60 w61 H62 => ?_)
   refine WL_nil fun a ha => ?_
   refine zi (X (S ?_ ha))
   refine Z <| A q (qt_add q q) q q <| qM q q q <| WL_nil fun a ha => ?_
   obtain rfl := L hs31
   have H64 := H62.p1.p1.p5.p5.p5.p5
   have hwK : IntKind.wrap .i64 (s23 + 1) = s23 + 1 := IntWalk.i64_in _ ⟨by omega, by have := (geti_lt hx37).2; simp only [maxLen] at hmK; omega⟩
   exact ⟨q, cs59, F60, FsK2, by rw [hwK]; omega, ha.sub ⟨q, q, q, q, trivial⟩, by rw [hwK, show Int.toNat (s23 + 1) = Int.toNat s23 + 1 by omega]; exact H64⟩
  have hs31 := if_f hc35 hs31
  refine WP_exit fun a ha => ?_
  obtain rfl := L hs31
  have H65 := H34.q5.p4.p4.p4.p4.p4
  exact zo (⟨exit_ne, q, css24, Fs24, ha.sub ⟨q, trivial⟩, H65⟩)
 intro e a27 w66 hO67
 obtain ⟨p68, rfl⟩ : ∃ z, z = o25 := ⟨o25, q⟩
 obtain ⟨rfl, hO70⟩ := hO67
 obtain ⟨csp68, Fp68, ha, H69⟩ := hO70
 refine zn (X (S ?_ ha))
 refine rR <| qA q q q <| B <| W fun a ha => ?_
 obtain rfl := L h
 have H71 := H69.p4.p4.p4.p4.p4
 exact ret1 q ha q ⟨csp68, Fp68, q, H71⟩
theorem w_impl_TicketCourse (w : World) (G : List Res) (vp0 : Value) (p0 : LP) (hp0 : Has G ty2 vp0 p0) (r : Int) (h : impl_TicketCourseS p0 = some r) (H : Ctx w G) : Calls Tryz.prog 149 #[vp0] w fun e w' => e = .returned (iV r) ∧ Holds M0 w w' [] G := by
 have H : Holds M0 w w [] G := zb H
 refine zg (args := [vp0]) (n := 32) Tryz.func149 q q q ?_
 unfold impl_TicketCourseS at h
 refine rR <| qA q q q <| B <| C <| C <| zk <| qM q q q ?_
 obtain ⟨x1, hx2, h⟩ := D h
 refine QC q q c130 (fun w' hb => w_impl_TicketValid w' G vp0 p0 (hp0) x1 hx2 (H.grow hb).ctx) (by rfl) <| A q (qt_not q) q q <| QL_nil fun a ha w3 hb4 => ?_
 have H5 := H.grow hb4
 refine X (S ?_ ha)
 refine Y q (fun hc6 => ?_) (fun hc6 => ?_)
 ·have h := if_t hc6 h
  refine rR <| qA q q q <| B <| W fun a ha => ?_
  obtain rfl := L h
  exact m (ret1 q ha q ⟨q, H5⟩)
 have h := if_f hc6 h
 refine y <| rR <| qA q q q <| B <| C <| rR <| qM q q q <| za H5.ctx (t := ty2) (hp0) u87 q q q ?_
 refine qM q q q <| B <| g ?_
 obtain ⟨o9, ho10, h⟩ := D h
 refine fun a11 ha12 => zp (I := fun s a w2 => match s with | (s7, s8) => (Fr a 32 [(3, iV s7), (9, vp0), (10, iV (List.length p0 : Int)), (11, iV s8)] ∧ Holds M0 w w2 [] G)) (O := fun o e a w2 => match o with | q0 => e = .exit 0 ∧ (Fr a 32 [(3, iV q0)] ∧ Holds M0 w w2 [] G)) ho10 ?_ ?_ ?_
 ·exact ⟨ha12.sub ⟨q, q, q, q, trivial⟩, H5⟩
 ·clear ha12
  intro s o15 a w13 hs14 hI16
  obtain ⟨s7, s8⟩ := s
  obtain ⟨ha, H17⟩ := hI16
  refine S ?_ ha
  clear ha
  refine rR <| A q (qt_lss q q) q q <| B <| C ?_
  refine Y q (fun hc18 => ?_) (fun hc18 => ?_)
  ·have hs14 := if_t hc18 hs14
   refine y <| C <| g <| C <| Z ?_
   obtain ⟨x19, hx20, hs14⟩ := D hs14
   refine b H17.ctx (hp0) hx20 u87 i119 q q q q (fun b21 off22 cap23 hv24 => ?_)
   obtain ⟨F25, hat26, hdup27⟩ := H17.atN (hp0) hx20 hv24
   refine XL_load_agg (t := ty2) us119 uo119 i119 hat26 q q q (fun cs28 hr29 => ?_)
   obtain ⟨c30, c31, F32, F33, rfl, eF36, hr34, hr35⟩ := hr29
   obtain ⟨rfl, _⟩ := hr34
   obtain ⟨rfl, _⟩ := hr35
   change XL _ _ _ _ _ ((14, .agg #[iV x19.1, iV x19.2]) :: _) _
   refine zq (cs := [iV 0, iV 0]) H17 z119 q q q (fun b37 w38 H39 => ?_)
   refine zl (cs' := [iV x19.1, iV x19.2]) H39 q il119 q q q q q (fun w41 H42 => ?_)
   refine B <| C <| zk ?_
   have hB44 := R H42.p0
   refine zm (cs := [iV x19.1, iV x19.2]) us119 uo119 il119 hB44 q q q ?_
   change XL _ _ _ _ _ ((15, .agg #[iV x19.1, iV x19.2]) :: _) _
   obtain ⟨x45, hx46, hs14⟩ := D hs14
   refine QC q q c133 (fun w' hb => w_impl_finished w' _ x19.1 x19.2 x45 hx46 (H42.grow hb).ctx) (by rfl) <| A q (qt_not q) q q <| qM q q q ?_
   refine zh 9 27 (.bool ((!x45) && ((decide (s7 < 0)) || (decide (x19.1 < s7))))) ?_ (fun md hmd hk => ?_)
   rotate_left
   ·obtain ⟨K, rfl⟩ := zr hmd
    rcases btf (!x45) with hc47 | hc47
    ·skip
     refine qM (J q hc47) q q <| A (J q hc47) (qt_lss q q) q q <| qM (J q hc47) q q ?_
     refine zh 5 26 (.bool ((decide (s7 < 0)) || (decide (x19.1 < s7)))) ?_ (fun md hmd hk => ?_)
     rotate_left
     ·obtain ⟨K, rfl⟩ := zr hmd
      rcases btf (decide (s7 < 0)) with hc48 | hc48
      ·skip
       refine qS q hc48 q q <| qS q hc48 q q <| qS q hc48 q q <| qS q hc48 q q <| A (J q hc47) (ze q hc48 q) q q ?_
       exact hk _ (p (by rw [hc48]; rfl) (cfn 4 q (u)))
      skip
      refine qF uf119 fi119_0 nz3 (J q hc48) q q ?_
      have hB49 := R H42.p0
      refine l u3 q hB49 q (J q hc48) q q <| qM (J q hc48) q q <| A (J q hc48) (qt_lss q q) q q <| A (J q hc47) (zf q hc48 q) q q ?_
      exact hk _ (p (by rw [hc48]; rfl) (cfn 4 q (u)))
     refine A q (ze q hc47 q) q q ?_
     exact hk _ (p (by rw [hc47]; rfl) (cfn 4 q (u)))
    skip
    refine qS q hc47 q q <| qS q hc47 q q <| qS q hc47 q q <| XL_skip q q q <| XL_skip q q q <| XL_skip q q q <| XL_skip q q q <| qS q hc47 q q <| A q (zf q hc47 q) q q ?_
    exact hk _ (p (by rw [hc47]; rfl) (cfn 8 q (u)))
   refine QL_nil fun a ha w50 hb51 => ?_
   have H52 := H42.grow hb51
   refine X (S ?_ ha)
   refine Y q (fun hc53 => ?_) (fun hc53 => ?_)
   ·have hs14 := if_t hc53 hs14
    refine Z <| qF uf119 fi119_0 nz3 q q q ?_
    have hB54 := R H52.p0
    refine l u3 q hB54 q q q q <| qA q q q <| WL_nil fun a ha => ?_
    refine zi (X (S ?_ ha))
    refine Z <| A q (qt_add q q) q q <| qM q q q <| WL_nil fun a ha => ?_
    obtain rfl := L hs14
    have H55 := H52.q0
    exact ⟨q, ha.sub ⟨q, q, q, q, trivial⟩, H55⟩
   have hs14 := if_f hc53 hs14
   refine WP_skip fun a ha => ?_
   refine zi (X (S ?_ ha))
   refine Z <| A q (qt_add q q) q q <| qM q q q <| WL_nil fun a ha => ?_
   obtain rfl := L hs14
   have H56 := H52.q0
   exact ⟨q, ha.sub ⟨q, q, q, q, trivial⟩, H56⟩
  have hs14 := if_f hc18 hs14
  refine WP_exit fun a ha => ?_
  obtain rfl := L hs14
  exact zo (⟨exit_ne, q, ha.sub ⟨q, trivial⟩, H17⟩)
 intro e a11 w57 hO58
 obtain ⟨p59, rfl⟩ : ∃ z, z = o9 := ⟨o9, q⟩
 obtain ⟨rfl, hO61⟩ := hO58
 obtain ⟨ha, H60⟩ := hO61
 refine zn (X (S ?_ ha))
 refine rR <| qM q q q <| qA q q q <| B <| W fun a ha => ?_
 obtain rfl := L h
 exact ret1 q ha q ⟨q, H60⟩
theorem w_impl_TicketDone (w : World) (G : List Res) (vp0 : Value) (p0 : LP) (hp0 : Has G ty2 vp0 p0) (r : Bool) (h : impl_TicketDoneS p0 = some r) (H : Ctx w G) : Calls Tryz.prog 118 #[vp0] w fun e w' => e = .returned (.bool r) ∧ Holds M0 w w' [] G := by
 have H : Holds M0 w w [] G := zb H
 refine zg (args := [vp0]) (n := 10) Tryz.func118 q q q ?_
 unfold impl_TicketDoneS at h
 refine rR <| qA q q q <| B <| C <| zk <| qM q q q ?_
 obtain ⟨x1, hx2, h⟩ := D h
 refine QC q q c130 (fun w' hb => w_impl_TicketValid w' G vp0 p0 (hp0) x1 hx2 (H.grow hb).ctx) (by rfl) <| qM q q q ?_
 obtain ⟨b3, hg4, h⟩ := D h
 refine zh 4 9 (.bool b3) ?_ (fun md hmd hk => ?_)
 rotate_left
 ·obtain ⟨K, rfl⟩ := zr hmd
  rcases btf x1 with hc5 | hc5
  ·skip
   have hg4 := if_t hc5 hg4
   refine qM (J q hc5) q q ?_
   obtain ⟨x6, hx7, hg4⟩ := D hg4
   refine QC (J q hc5) q c149 (fun w' hb => w_impl_TicketCourse w' G vp0 p0 (hp0) x6 hx7 (H.grow hb).ctx) (by rfl) <| A (J q hc5) (qt_lss q q) q q <| A q (ze q hc5 q) q q ?_
   exact hk _ (p (vb hg4) (cfn 3 q (u)))
  skip
  refine qS q hc5 q q <| qS q hc5 q q <| qS q hc5 q q <| A q (zf q hc5 q) q q ?_
  exact hk _ (p (vb (if_f hc5 hg4)) (cfn 3 q (u)))
 refine qA q q q <| QL_nil fun a ha w8 hb9 => ?_
 have H10 := H.grow hb9
 refine X (S ?_ ha)
 refine W fun a ha => ?_
 obtain rfl := L h
 exact ret1 q ha q ⟨q, H10⟩
theorem w_impl_TableBill (w : World) (G : List Res) (A0 : Value) (B0 : LI) (C0 : Has G ty10 A0 B0) (A1 : Value) (B1 : List Int) (C1 : Has G tI A1 B1) (A2 : Value) (B2 : List Int) (C2 : Has G tI A2 B2) (B3 : Int) (A4 : Value) (B4 : LT) (C4 : Has G ty12 A4 B4) (p1 : Int) (r : Int) (h : impl_TableBillS B0 B1 B2 B3 B4 p1 = some r) (H : Ctx w G) : Calls Tryz.prog 103 #[.agg #[A0, A1, A2, iV B3, A4], iV p1] w fun e w' => e = .returned (iV r) ∧ Holds M0 w w' [] G := by
 have H : Holds M0 w w [] G := zb H
 refine zg (args := [.agg #[A0, A1, A2, iV B3, A4], iV p1]) (n := 54) Tryz.func103 q q q ?_
 unfold impl_TableBillS at h
 refine C <| Z ?_
 refine WL_box (cs := [A0, A1, A2, iV B3, A4]) H q q q q (fun b1 w2 H3 => ?_)
 refine qA q q q <| B <| C <| C <| zk ?_
 have hB5 := R H3.p0
 refine zm (cs := [A0, A1, A2, iV B3, A4]) us31 uo31 il31 hB5 q q q ?_
 change XL _ _ _ _ _ ((8, .agg #[A0, A1, A2, iV B3, A4]) :: _) _
 obtain ⟨x6, hx7, h⟩ := D h
 refine QC q q c48 (fun w' hb => w_impl_HouseValid w' _ A0 B0 (C0.c) A1 B1 (C1.c) A2 B2 (C2.c) B3 A4 B4 (C4.c) x6 hx7 (H3.grow hb).ctx) (by rfl) <| A q (qt_not q) q q <| qM q q q ?_
 refine zh 3 14 (.bool ((!x6) || (decide (p1 < 0)))) ?_ (fun md hmd hk => ?_)
 rotate_left
 ·obtain ⟨K, rfl⟩ := zr hmd
  rcases btf (!x6) with hc8 | hc8
  ·skip
   refine qS q hc8 q q <| qS q hc8 q q <| A q (ze q hc8 q) q q ?_
   exact hk _ (p (by rw [hc8]; rfl) (cfn 2 q (u)))
  skip
  refine qM (J q hc8) q q <| A (J q hc8) (qt_lss q q) q q <| A q (zf q hc8 q) q q ?_
  exact hk _ (p (by rw [hc8]; rfl) (cfn 2 q (u)))
 refine qM q q q ?_
 refine zh 6 21 (.bool (((!x6) || (decide (p1 < 0))) || (decide (p1 ≥ (List.length B4 : Int))))) ?_ (fun md hmd hk => ?_)
 rotate_left
 ·obtain ⟨K, rfl⟩ := zr hmd
  rcases btf ((!x6) || (decide (p1 < 0))) with hc9 | hc9
  ·skip
   refine qS q hc9 q q <| qS q hc9 q q <| qS q hc9 q q <| qS q hc9 q q <| qS q hc9 q q <| A q (ze q hc9 q) q q ?_
   exact hk _ (p (by rw [hc9]; rfl) (cfn 5 q (u)))
  skip
  refine qM (J q hc9) q q <| qF uf31 fi31_4 nz29 (J q hc9) q q ?_
  have hB10 := R H3.p0
  refine l u29 q hB10 q (J q hc9) q q <| za H3.ctx (t := ty12) (C4.c) u29 (J q hc9) q q <| A (J q hc9) (qt_geq q q) q q <| A q (zf q hc9 q) q q ?_
  exact hk _ (p (by rw [hc9]; rfl) (cfn 5 q (u)))
 refine QL_nil fun a ha w11 hb12 => ?_
 have H13 := H3.grow hb12
 refine X (S ?_ ha)
 refine Y q (fun hc14 => ?_) (fun hc14 => ?_)
 ·have h := if_t hc14 h
  refine rR <| qA q q q <| B <| W fun a ha => ?_
  obtain rfl := L h
  have H15 := H13.q0
  exact m (ret1 q ha q ⟨q, H15⟩)
 have h := if_f hc14 h
 refine y <| rR <| qA q q q <| B <| C <| rR <| qF uf31 fi31_4 nz29 q q q ?_
 have hB16 := R H13.p0
 refine l u29 q hB16 q q q q <| qM q q q ?_
 obtain ⟨x17, hx18, h⟩ := D h
 refine b H13.ctx (C4.c) hx18 u29 i89 q q q q (fun b19 off20 cap21 hv22 => ?_)
 refine qF uf89 fi89_1 nz87 q q q ?_
 obtain ⟨F23, hat24, hdup25⟩ := H13.at (C4.c) hx18 hv22
 obtain ⟨F26, hat27, hin28⟩ := AtP.snd hat24
 obtain ⟨F29, hat30, hin31⟩ := AtP.fst hat27
 refine XL_load (t := ty4) u87 q q hat30 q q q (fun v32 hr33 => ?_)
 have H34 : Holds _ w w11 [.ro ty2 v32 x17.2.1, .bx b1 31 [A0, A1, A2, iV B3, A4]] G := hdup25 _ _ _ _ hr33 (fun k h => (fun k h => (fun _ h => h) k (hin28 k h)) k (hin31 k h))
 refine za H34.ctx (t := ty2) hR0 u87 q q q <| qM q q q <| B <| g ?_
 obtain ⟨o37, ho38, h⟩ := D h
 have H41 := H34.p1
 refine fun a39 ha40 => zp (I := fun s a w2 => match s with | (s35, s36) => (Fr a 54 [(1, iV p1), (2, pB b1), (5, iV s35), (27, v32), (28, iV (List.length x17.2.1 : Int)), (29, iV s36)] ∧ Holds M0 w w2 [.bx b1 31 [A0, A1, A2, iV B3, A4], .ro ty2 v32 x17.2.1] G)) (O := fun o e a w2 => match o with | q0 => e = .exit 0 ∧ (Fr a 54 [(5, iV q0)] ∧ Holds M0 w w2 [] G)) ho38 ?_ ?_ ?_
 ·exact ⟨ha40.sub ⟨q, q, q, q, q, q, trivial⟩, H41⟩
 ·clear ha40
  intro s o44 a w42 hs43 hI45
  obtain ⟨s35, s36⟩ := s
  obtain ⟨ha, H46⟩ := hI45
  refine S ?_ ha
  clear ha
  refine rR <| A q (qt_lss q q) q q <| B <| C ?_
  refine Y q (fun hc47 => ?_) (fun hc47 => ?_)
  ·have hs43 := if_t hc47 hs43
   refine y <| C <| g <| rR <| qM q q q ?_
   obtain ⟨x48, hx49, hs43⟩ := D hs43
   refine b H46.ctx hR1 hx49 u87 i119 q q q q (fun b50 off51 cap52 hv53 => ?_)
   obtain ⟨F54, hat55, hdup56⟩ := H46.atN hR1 hx49 hv53
   refine XL_load_agg (t := ty2) us119 uo119 i119 hat55 q q q (fun cs57 hr58 => ?_)
   obtain ⟨c59, c60, F61, F62, rfl, eF65, hr63, hr64⟩ := hr58
   obtain ⟨rfl, _⟩ := hr63
   obtain ⟨rfl, _⟩ := hr64
   change XL _ _ _ _ _ ((33, .agg #[iV x48.1, iV x48.2]) :: _) _
   refine zq (cs := [iV 0, iV 0]) H46 z119 q q q (fun b66 w67 H68 => ?_)
   refine qA q q q ?_
   refine zl (cs' := [iV x48.1, iV x48.2]) H68 q il119 q q q q q (fun w70 H71 => ?_)
   refine rN <| qF uf119 fi119_1 nz3 q q q ?_
   have hB73 := R H71.p0
   refine l u3 q hB73 q q q q <| A q (qt_eql q q) q q <| B ?_
   refine Y q (fun hc74 => ?_) (fun hc74 => ?_)
   ·have hs43 := if_t hc74 hs43
    refine WP_quiet (by kernel_rfl) (by kernel_rfl) <| qM q q q <| qF uf31 fi31_1 nz23 q q q ?_
    have hB75 := R H71.p1
    refine l u23 q hB75 q q q q <| qF uf31 fi31_4 nz29 q q q ?_
    have hB76 := R H71.p1
    refine l u29 q hB76 q q q q <| qM q q q ?_
    obtain ⟨x77, hx78, hs43⟩ := D hs43
    refine b H71.ctx (C4.c.c.c) hx78 u29 i89 q q q q (fun b79 off80 cap81 hv82 => ?_)
    refine qF uf89 fi89_2 nz23 q q q ?_
    obtain ⟨F83, hat84, hdup85⟩ := H71.at (C4.c.c.c) hx78 hv82
    obtain ⟨F86, hat87, hin88⟩ := AtP.snd hat84
    obtain ⟨F89, hat90, hin91⟩ := AtP.snd hat87
    refine XL_load (t := (.slice tI)) u23 q q hat90 q q q (fun v92 hr93 => ?_)
    have H94 : Holds _ w w70 [.ro tI v92 x77.2.2, .bx b66 119 [iV x48.1, iV x48.2], .bx b1 31 [A0, A1, A2, iV B3, A4], .ro ty2 v32 x17.2.1] G := hdup85 _ _ _ _ hr93 (fun k h => (fun k h => (fun _ h => h) k (hin88 k h)) k (hin91 k h))
    refine qM q q q ?_
    obtain ⟨x95, hx96, hs43⟩ := D hs43
    refine b H94.ctx hR0 hx96 u23 i3 q q q q (fun b97 off98 cap99 hv100 => ?_)
    obtain ⟨F101, hat102, hdup103⟩ := H94.at hR0 hx96 hv100
    refine zt (k := .i64) u3 q hat102 q q q ?_
    obtain ⟨x104, hx105, hs43⟩ := D hs43
    refine b H94.ctx (C1.c.c.c.c) hx105 u23 i3 q q q q (fun b106 off107 cap108 hv109 => ?_)
    obtain ⟨F110, hat111, hdup112⟩ := H94.at (C1.c.c.c.c) hx105 hv109
    refine zt (k := .i64) u3 q hat111 q q q <| A q (qt_add q q) q q <| qA q q q <| QL_nil fun a ha w113 hb114 => ?_
    have H115 := H94.grow hb114
    refine zi (X (S ?_ ha))
    refine Z <| A q (qt_add q q) q q <| qM q q q <| WL_nil fun a ha => ?_
    obtain rfl := L hs43
    have H116 := H115.q0.q0.p1.p1
    exact ⟨q, ha.sub ⟨q, q, q, q, q, q, trivial⟩, H116⟩
   have hs43 := if_f hc74 hs43
   refine WP_skip fun a ha => ?_
   refine zi (X (S ?_ ha))
   refine Z <| A q (qt_add q q) q q <| qM q q q <| WL_nil fun a ha => ?_
   obtain rfl := L hs43
   have H117 := H71.q0.p1.p1
   exact ⟨q, ha.sub ⟨q, q, q, q, q, q, trivial⟩, H117⟩
  have hs43 := if_f hc47 hs43
  refine WP_exit fun a ha => ?_
  obtain rfl := L hs43
  have H118 := H46.q0.q0
  exact zo (⟨exit_ne, q, ha.sub ⟨q, trivial⟩, H118⟩)
 intro e a39 w119 hO120
 obtain ⟨p121, rfl⟩ : ∃ z, z = o37 := ⟨o37, q⟩
 obtain ⟨rfl, hO123⟩ := hO120
 obtain ⟨ha, H122⟩ := hO123
 refine zn (X (S ?_ ha))
 refine rR <| qM q q q <| qA q q q <| B <| W fun a ha => ?_
 obtain rfl := L h
 exact ret1 q ha q ⟨q, H122⟩
theorem w_impl_doClose (w : World) (G : List Res) (bp0 : Nat) (A0 : Value) (B0 : LI) (csp0_0 : List Value) (Fp0_0 : List Nat) (A1 : Value) (B1 : List Int) (A2 : Value) (B2 : List Int) (B3 : Int) (A4 : Value) (B4 : LT) (csp0_4 : List Value) (Fp0_4 : List Nat) (p1 : Int) (r : Int × LT × Bool) (h : impl_doCloseS B0 B1 B2 B3 B4 p1 = some r) (H : Ctx w ([.bx bp0 31 [A0, A1, A2, iV B3, A4], dpR 115 dt13 A0 csp0_0 B0 Fp0_0, .sl 3 tI A1 B1, .sl 3 tI A2 B2, dpR 89 dt14 A4 csp0_4 B4 Fp0_4] ++ G)) : Calls Tryz.prog 73 #[pB bp0, iV p1] w fun e w' => ∃ (wp0_4 : Value) (dsp0_4 : List Value) (Ep0_4 : List Nat), e = .returned (.bool r.2.2) ∧ Holds (([.bx bp0 31 [A0, A1, A2, iV B3, A4], dpR 115 dt13 A0 csp0_0 B0 Fp0_0, .sl 3 tI A1 B1, .sl 3 tI A2 B2, dpR 89 dt14 A4 csp0_4 B4 Fp0_4] : List Res).flatMap Res.own) w w' [.bx bp0 31 [A0, A1, A2, iV r.1, wp0_4], dpR 115 dt13 A0 csp0_0 B0 Fp0_0, .sl 3 tI A1 B1, .sl 3 tI A2 B2, dpR 89 dt14 wp0_4 dsp0_4 r.2.1 Ep0_4] G := by
 have H : Holds (([.bx bp0 31 [A0, A1, A2, iV B3, A4], dpR 115 dt13 A0 csp0_0 B0 Fp0_0, .sl 3 tI A1 B1, .sl 3 tI A2 B2, dpR 89 dt14 A4 csp0_4 B4 Fp0_4] : List Res).flatMap Res.own) w w [.bx bp0 31 [A0, A1, A2, iV B3, A4], dpR 115 dt13 A0 csp0_0 B0 Fp0_0, .sl 3 tI A1 B1, .sl 3 tI A2 B2, dpR 89 dt14 A4 csp0_4 B4 Fp0_4] G := zb H
 refine zg (args := [pB bp0, iV p1]) (n := 51) Tryz.func73 q q q ?_
 unfold impl_doCloseS at h
 refine rR <| qA q q q <| B <| C <| C <| zk <| qM q q q <| A q (qt_lss q q) q q <| qM q q q ?_
 refine zh 8 15 (.bool ((decide (p1 < 0)) || (decide (p1 ≥ (List.length B4 : Int))))) ?_ (fun md hmd hk => ?_)
 rotate_left
 ·obtain ⟨K, rfl⟩ := zr hmd
  rcases btf (decide (p1 < 0)) with hc1 | hc1
  ·skip
   refine qS q hc1 q q <| qS q hc1 q q <| qS q hc1 q q <| qS q hc1 q q <| qS q hc1 q q <| qS q hc1 q q <| qS q hc1 q q <| A q (ze q hc1 q) q q ?_
   exact hk _ (p (by rw [hc1]; rfl) (cfn 7 q (u)))
  skip
  refine qM (J q hc1) q q <| qM (J q hc1) q q <| qN (J q hc1) q q <| qF uf31 fi31_4 nz29 (J q hc1) q q ?_
  have hB2 := R H.p0
  refine l u29 q hB2 q (J q hc1) q q ?_
  have V3 := H.viewG (Vw.c (Vw.d (Vw.c (Vw.c (Vw.d Vw.refl)))))
  refine za V3 (t := ty12) hR4 u29 (J q hc1) q q <| A (J q hc1) (qt_geq q q) q q <| A q (zf q hc1 q) q q ?_
  exact hk _ (p (by rw [hc1]; rfl) (cfn 7 q (u)))
 refine qM q q q ?_
 obtain ⟨b4, hg5, h⟩ := D h
 refine zh 11 27 (.bool b4) ?_ (fun md hmd hk => ?_)
 rotate_left
 ·obtain ⟨K, rfl⟩ := zr hmd
  rcases btf ((decide (p1 < 0)) || (decide (p1 ≥ (List.length B4 : Int)))) with hc6 | hc6
  ·skip
   refine qS q hc6 q q <| qS q hc6 q q <| qS q hc6 q q <| qS q hc6 q q <| qS q hc6 q q <| qS q hc6 q q <| qS q hc6 q q <| qS q hc6 q q <| qS q hc6 q q <| qS q hc6 q q ?_
   refine A q (ze q hc6 q) q q ?_
   exact hk _ (p (vb (if_t hc6 hg5)) (cfn 10 q (u)))
  skip
  have hg5 := if_f hc6 hg5
  refine qM (J q hc6) q q <| qN (J q hc6) q q <| qF uf31 fi31_4 nz29 (J q hc6) q q ?_
  have hB7 := R H.p0
  refine l u29 q hB7 q (J q hc6) q q <| qM (J q hc6) q q ?_
  obtain ⟨x8, hx9, hg5⟩ := D hg5
  have V14 := H.viewG (Vw.c (Vw.d (Vw.c (Vw.c (Vw.d Vw.refl)))))
  refine b V14 hR4 hx9 u29 i89 (J q hc6) q q q (fun b10 off11 cap12 hv13 => ?_)
  refine qF uf89 fi89_1 nz87 (J q hc6) q q ?_
  have H15 := H.p4
  obtain ⟨v16, hc17, hcell18, hp19, hp20, hsh21⟩ := Holds.ns H15 ((Foc.snd (Foc.fst Foc.refl))) hx9 hv13
  refine XL_load_cell u87 q hcell18 (J q hc6) q q ?_
  obtain ⟨x22, hx23, hg5⟩ := D hg5
  refine QC (J q hc6) q c118 (fun w' hb => w_impl_TicketDone w' _ v16 x8.2.1 hR0 x22 hx23 ((H15.grow hb).viewG (Vw.dp (NsOk.ns ((Foc.snd (Foc.fst Foc.refl))) hx9 hc17 (NsOk.self NsOk.nil)) (Vw.c (Vw.d (Vw.c (Vw.c Vw.refl))))))) (by rfl) <| A (J q hc6) (qt_not q) q q <| A q (zf q hc6 q) q q ?_
  exact hk _ (p (vb hg5) (cfn 10 q (u)))
 refine QL_nil fun a ha w24 hb25 => ?_
 have H26 := H.grow hb25
 refine X (S ?_ ha)
 refine Y q (fun hc27 => ?_) (fun hc27 => ?_)
 ·have h := if_t hc27 h
  refine rR <| qA q q q <| B <| W fun a ha => ?_
  obtain rfl := L h
  have H28 := H26.p4.p4.p4.p4.p4
  exact m (ret1 q ha q ⟨A4, csp0_4, Fp0_4, q, H28⟩)
 have h := if_f hc27 h
 refine y <| C ?_
 obtain ⟨x31, hx32, h⟩ := D h
 refine WP_join (M := fun a w2 => (Fr a 51 [(0, pB bp0), (1, iV p1)] ∧ Holds (([.bx bp0 31 [A0, A1, A2, iV B3, A4], dpR 115 dt13 A0 csp0_0 B0 Fp0_0, .sl 3 tI A1 B1, .sl 3 tI A2 B2, dpR 89 dt14 A4 csp0_4 B4 Fp0_4] : List Res).flatMap Res.own) w w2 [.bx bp0 31 [A0, A1, A2, iV (IntKind.wrap .i64 (B3 + x31)), A4], dpR 115 dt13 A0 csp0_0 B0 Fp0_0, .sl 3 tI A1 B1, .sl 3 tI A2 B2, dpR 89 dt14 A4 csp0_4 B4 Fp0_4] G)) ?_ ?_
 ·refine WP_ordersT (fun w1 w2 => Chg M0 w1 w2) 10 (by kernel_rfl) (fun w229 hb230 => ?_)
  have H231 := H26.grow hb230
  have C232 : Ctx w229 ([] ++ ([.bx bp0 31 [A0, A1, A2, iV B3, A4], .ro ty10 A0 B0, .sl 3 tI A1 B1, .sl 3 tI A2 B2, .ro ty12 A4 B4] ++ G)) := H231.viewG (Vw.c (Vw.d (Vw.c (Vw.c (Vw.d Vw.refl)))))
  have H233 : Holds _ w229 w229 [] ([.bx bp0 31 [A0, A1, A2, iV B3, A4], .ro ty10 A0 B0, .sl 3 tI A1 B1, .sl 3 tI A2 B2, .ro ty12 A4 B4] ++ G) := zb (Rs := []) C232
  refine XQ (i := 0) q (by kernel_rfl) q H233.chg q (fun _ => qt_move q) q q <| XQ (i := 1) q (by kernel_rfl) q H233.chg q (fun _ => qt_nilCheck q) q q <| XQ (i := 2) q (by kernel_rfl) q H233.chg q (fun _ => qt_fieldAddr uf31 fi31_3 nz3 q) q q ?_
  have hB252 := HasB.bx (HasB.hd) H233.ctx
  refine XT (i := 3) q (by kernel_rfl) q H233.chg q (qs_cell u3 q q (hB252.cell (i := 3) q) H233.chg (Ctx.outB C232 (HasB.hd))) q q <| XQ (i := 4) q (by kernel_rfl) q H233.chg q (fun _ => qt_move q) q q <| XQ (i := 5) q (by kernel_rfl) q H233.chg q (fun _ => qt_nilCheck q) q q ?_
  have hB253 := HasB.bx (HasB.hd) H233.ctx
  refine XT (i := 6) q (by kernel_rfl) q H233.chg q (qs_agg (cs := [A0, A1, A2, iV B3, A4]) us31 uo31 il31 q (fun j z hj => by rw [Nat.zero_add]; exact hB253.cell hj) H233.chg (Ctx.outB C232 (HasB.hd))) q q ?_
  change XC _ _ _ _ _ _ _ _ ((34, .agg #[A0, A1, A2, iV B3, A4]) :: _) _
  refine XQ (i := 7) q (by kernel_rfl) q H233.chg q (fun _ => qt_move q) q q <| X1 8 (by kernel_rfl) q <| zd q q c103 (w_impl_TableBill w229 _ A0 B0 hR1 A1 B1 hS2 A2 B2 hS3 B3 A4 B4 hR4 p1 x31 hx32 H233.ctx) (by rfl) ?_
  rintro _ w254 ⟨rfl, H255⟩; refine ⟨_, q, ?_⟩
  have H256 := H233.cN0 [] H255
  refine XN H256.chg <| XQ (i := 9) q (by kernel_rfl) q H256.chg q (fun _ => qt_add q q) q q ?_
  have H257 := H231.cV0 [] H256 all_nil
  refine X1 10 (by kernel_rfl) q <| qN q q q <| XE q <| X1 11 (by kernel_rfl) q <| qF uf31 fi31_3 nz3 q q q <| XE q <| X1 12 (by kernel_rfl) q ?_
  refine WL_store_bx H257 q il3 q q q q q (fun w258 H259 => ?_)
  refine XE q ?_
  refine XC_done (by kernel_rfl) (fun a ha => ?_)
  have H261 := H259.p4.p4.p4.p4.p4
  exact ⟨ha.sub ⟨q, q, trivial⟩, H261⟩
 intro a w262 hI263
 obtain ⟨ha, H264⟩ := hI263
 refine S ?_ ha
 clear ha
 refine rR <| qM q q q <| qM q q q <| qN q q q <| qF uf31 fi31_4 nz29 q q q ?_
 have hB265 := R H264.p0
 refine l u29 q hB265 q q q q <| qM q q q <| qM q q q <| A q (qt_add q q) q q ?_
 have H268 := H264.p4
 obtain ⟨x266, hx267, h⟩ := D h
 have V269 := H268.viewG (Vw.c (Vw.c (Vw.d (Vw.c (Vw.c Vw.refl)))))
 refine zd q q c119 (w_impl_Table w262 _ A4 B4 csp0_4 Fp0_4 p1 (IntKind.wrap .i64 (p1 + 1)) x266 hx267 V269) (by rfl) ?_
 rintro _ w270 ⟨v272, cs273, F274, rfl, H271⟩; refine ⟨_, q, ?_⟩
 have H275 := H268.cV1 [_] H271 (zc Pure.dp all_nil)
 refine qN q q q <| qF uf31 fi31_4 nz29 q q q ?_
 have H276 := H275.p1
 have V279 := H276.viewG (Vw.c (Vw.d (Vw.d (Vw.c (Vw.c Vw.refl)))))
 refine WL_store_bx H276 q il29 (V279.sliceCells hR1) (V279.sliceOne hR1) q q q (fun w277 H278 => ?_)
 refine rN <| qA q q q <| B <| W fun a ha => ?_
 obtain rfl := L h
 have H281 := H278.p1.p4.p4.p4.p4
 exact ret1 q ha q ⟨v272, cs273, F274, q, H281⟩
end Go.Proofs.YtcjkbcdlpfgbgaaGreatDoor
