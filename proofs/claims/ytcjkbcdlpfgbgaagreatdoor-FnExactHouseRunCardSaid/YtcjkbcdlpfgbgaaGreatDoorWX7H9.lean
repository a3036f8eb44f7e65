/- The walks: each Go function computes its shallow function. Printed by a program. -/
import Derived.Test.YtcjkbcdlpfgbgaaGreatDoorWX7H8
set_option linter.unusedVariables false
set_option maxRecDepth 10000
namespace Go.Proofs.YtcjkbcdlpfgbgaaGreatDoor
open Go Go.RowKit
theorem w_laws_markTableS (w : World) (G : List Res) (vp0 : Value) (p0 : LT) (csp0 : List Value) (Fp0 : List Nat) (p1 : Int) (r : LT × Int) (h : laws_markTableSS p0 p1 = some r) (H : Ctx w ([dpR 89 dt14 vp0 csp0 p0 Fp0] ++ G)) : Calls Tryz.prog 58 #[vp0, iV p1] w fun e w' => ∃ (dsp0 : List Value) (Ep0 : List Nat), e = .returned (iV r.2) ∧ Holds (([dpR 89 dt14 vp0 csp0 p0 Fp0] : List Res).flatMap Res.own) w w' [dpR 89 dt14 vp0 dsp0 r.1 Ep0] G := by
 have H : Holds (([dpR 89 dt14 vp0 csp0 p0 Fp0] : List Res).flatMap Res.own) w w [dpR 89 dt14 vp0 csp0 p0 Fp0] G := zb H
 refine zg (args := [vp0, iV p1]) (n := 34) Tryz.func58 q q q ?_
 unfold laws_markTableSS at h
 refine rR <| qA q q q <| B <| C <| rR <| qA q q q <| B <| g ?_
 obtain ⟨o4, ho5, h⟩ := D h
 refine fun a6 ha7 => zp (I := fun s a w2 => match s with | (s1, s2, s3) => ∃ css3 Fs3, Fr a 34 [(0, vp0), (1, iV s1), (5, iV s2)] ∧ Holds (([dpR 89 dt14 vp0 csp0 p0 Fp0] : List Res).flatMap Res.own) w w2 [dpR 89 dt14 vp0 css3 s3 Fs3] G) (O := fun o e a w2 => match o with | (q0, q1) => e = .exit 0 ∧ ∃ csq1 Fq1, Fr a 34 [(0, vp0), (1, iV q0)] ∧ Holds (([dpR 89 dt14 vp0 csp0 p0 Fp0] : List Res).flatMap Res.own) w w2 [dpR 89 dt14 vp0 csq1 q1 Fq1] G) ho5 ?_ ?_ ?_
 ·exact ⟨csp0, Fp0, ha7.sub ⟨q, q, q, trivial⟩, H⟩
 ·clear ha7
  intro s o10 a w8 hs9 hI11
  obtain ⟨s1, s2, s3⟩ := s
  obtain ⟨css3, Fs3, ha, H12⟩ := hI11
  refine S ?_ ha
  clear ha
  refine C <| rR <| qM q q q <| qM q q q ?_
  have V13 := H12.viewG (Vw.d Vw.refl)
  refine za V13 (t := ty12) hR0 u29 q q q <| A q (qt_lss q q) q q <| B ?_
  refine Y q (fun hc14 => ?_) (fun hc14 => ?_)
  ·have hs9 := if_t hc14 hs9
   refine y <| C <| g <| rR <| qM q q q <| qM q q q <| qM q q q ?_
   obtain ⟨x15, hx16, hs9⟩ := D hs9
   refine b V13 hR0 hx16 u29 i89 q q q q (fun b17 off18 cap19 hv20 => ?_)
   refine qF uf89 fi89_0 nz3 q q q ?_
   refine WL_storeD (Rs := []) (fo := 0) (cs' := [iV s1]) H12 hx16 hv20 ((Foc.fst Foc.refl)) (DBlt.cast (DBlt.int (k := .i64) (n := s1)) q q) q il3 q q q (fun cs21 F22 w23 H24 => ?_)
   refine rN <| qM q q q <| A q (qt_add q q) q q <| qA q q q <| rN <| qM q q q ?_
   refine qM q q q ?_
   obtain ⟨x26, hx27, hs9⟩ := D hs9
   have V32 := H24.viewG (Vw.d Vw.refl)
   refine b V32 hR0 hx27 u29 i89 q q q q (fun b28 off29 cap30 hv31 => ?_)
   refine qF uf89 fi89_1 nz87 q q q ?_
   obtain ⟨v33, hc34, hcell35, hp36, hp37, hsh38⟩ := Holds.ns H24 ((Foc.snd (Foc.fst Foc.refl))) hx27 hv31
   refine XL_load_cell u87 q hcell35 q q q <| qM q q q ?_
   obtain ⟨F41, H42⟩ := Holds.borrow H24 ((Foc.snd (Foc.fst Foc.refl))) hx27 hc34
   obtain ⟨x39, hx40, hs9⟩ := D hs9
   refine zd q q c108 (w_laws_markOrderS w23 _ v33 x26.2.1 (IntKind.wrap .i64 (s1 + 1)) x39 hx40 H42.ctx) (by rfl) ?_
   rintro _ w44 ⟨rfl, H45⟩; refine ⟨_, q, ?_⟩
   have H46 := H42.cN1 [_] H45
   have H47 := H46.p1
   have H48 := H47.p1
   obtain ⟨F49, H50⟩ := Holds.giveBack q H48 hc34
   refine qA q q q <| B <| Z <| qM q q q <| qM q q q ?_
   obtain ⟨x52, hx53, hs9⟩ := D hs9
   have V58 := H50.viewG (Vw.d Vw.refl)
   refine b V58 hR0 hx53 u29 i89 q q q q (fun b54 off55 cap56 hv57 => ?_)
   refine qF uf89 fi89_2 nz23 q q q ?_
   obtain ⟨v59, hc60, hcell61, hp62, hp63, hsh64⟩ := Holds.ns H50 ((Foc.snd (Foc.snd Foc.refl))) hx53 hv57
   refine XL_load_cell u23 q hcell61 q q q <| qM q q q ?_
   obtain ⟨F67, H68⟩ := Holds.borrow H50 ((Foc.snd (Foc.snd Foc.refl))) hx53 hc60
   obtain ⟨x65, hx66, hs9⟩ := D hs9
   refine zd q q c57 (w_laws_markIntS w44 _ v59 x52.2.2 x39.2 x65 hx66 H68.ctx) (by rfl) ?_
   rintro _ w70 ⟨rfl, H71⟩; refine ⟨_, q, ?_⟩
   have H72 := H68.cN1 [_] H71
   have H73 := H72.p1
   have H74 := H73.p1
   obtain ⟨F75, H76⟩ := Holds.giveBack q H74 hc60
   refine qA q q q <| WL_nil fun a ha => ?_
   refine zi (X (S ?_ ha))
   refine Z <| qM q q q <| A q (qt_add q q) q q <| qA q q q <| WL_nil fun a ha => ?_
   obtain rfl := L hs9
   exact ⟨q, cs21, F75, ha.sub ⟨q, q, q, trivial⟩, H76⟩
  have hs9 := if_f hc14 hs9
  refine WP_exit fun a ha => ?_
  obtain rfl := L hs9
  exact zo (⟨exit_ne, q, css3, Fs3, ha.sub ⟨q, q, trivial⟩, H12⟩)
 intro e a6 w78 hO79
 obtain ⟨p80, p81⟩ := o4
 obtain ⟨rfl, hO83⟩ := hO79
 obtain ⟨csp81, Fp81, ha, H82⟩ := hO83
 refine zn (X (S ?_ ha))
 refine rR <| qM q q q <| qA q q q <| B <| W fun a ha => ?_
 obtain rfl := L h
 exact ret1 q ha q ⟨csp81, Fp81, q, H82⟩
theorem w_laws_markHouse (w : World) (G : List Res) (A0 : Value) (B0 : LI) (csp0_0 : List Value) (Fp0_0 : List Nat) (A1 : Value) (B1 : List Int) (A2 : Value) (B2 : List Int) (B3 : Int) (A4 : Value) (B4 : LT) (csp0_4 : List Value) (Fp0_4 : List Nat) (p1 : Int) (r : LI × (List Int) × (List Int) × LT × Int) (h : laws_markHouseS B0 B1 B2 B3 B4 p1 = some r) (H : Ctx w ([dpR 115 dt13 A0 csp0_0 B0 Fp0_0, .sl 3 tI A1 B1, .sl 3 tI A2 B2, dpR 89 dt14 A4 csp0_4 B4 Fp0_4] ++ G)) : Calls Tryz.prog 12 #[.agg #[A0, A1, A2, iV B3, A4], iV p1] w fun e w' => ∃ (dsp0_0 : List Value) (Ep0_0 : List Nat) (dsp0_4 : List Value) (Ep0_4 : List Nat), e = .returned (iV r.2.2.2.2) ∧ Holds (([dpR 115 dt13 A0 csp0_0 B0 Fp0_0, .sl 3 tI A1 B1, .sl 3 tI A2 B2, dpR 89 dt14 A4 csp0_4 B4 Fp0_4] : List Res).flatMap Res.own) w w' [dpR 115 dt13 A0 dsp0_0 r.1 Ep0_0, .sl 3 tI A1 r.2.1, .sl 3 tI A2 r.2.2.1, dpR 89 dt14 A4 dsp0_4 r.2.2.2.1 Ep0_4] G := by
 have H : Holds (([dpR 115 dt13 A0 csp0_0 B0 Fp0_0, .sl 3 tI A1 B1, .sl 3 tI A2 B2, dpR 89 dt14 A4 csp0_4 B4 Fp0_4] : List Res).flatMap Res.own) w w [dpR 115 dt13 A0 csp0_0 B0 Fp0_0, .sl 3 tI A1 B1, .sl 3 tI A2 B2, dpR 89 dt14 A4 csp0_4 B4 Fp0_4] G := zb H
 refine zg (args := [.agg #[A0, A1, A2, iV B3, A4], iV p1]) (n := 22) Tryz.func12 q q q ?_
 unfold laws_markHouseS at h
 refine C <| Z ?_
 refine WL_box (cs := [A0, A1, A2, iV B3, A4]) H q q q q (fun b1 w2 H3 => ?_)
 refine qA q q q <| rN <| qF uf31 fi31_0 nz28 q q q ?_
 have hB5 := R H3.p0
 refine l u28 q hB5 q q q q <| qM q q q ?_
 have H8 := H3.p1
 obtain ⟨x6, hx7, h⟩ := D h
 have V9 := H8.viewG (Vw.c (Vw.c (Vw.c (Vw.c (Vw.d Vw.refl)))))
 refine zd q q c56 (w_laws_markItemS w2 _ A0 B0 csp0_0 Fp0_0 p1 x6 hx7 V9) (by rfl) ?_
 rintro _ w10 ⟨cs12, F13, rfl, H11⟩; refine ⟨_, q, ?_⟩
 have H14 := H8.cV1 [_] H11 (zc Pure.dp all_nil)
 refine qA q q q <| rN <| qF uf31 fi31_1 nz23 q q q ?_
 have hB15 := R H14.p1
 refine l u23 q hB15 q q q q <| qM q q q ?_
 have H18 := H14.p2
 obtain ⟨x16, hx17, h⟩ := D h
 have V19 := H18.viewG (Vw.c (Vw.d (Vw.c (Vw.c (Vw.d Vw.refl)))))
 refine zd q q c57 (w_laws_markIntS w10 _ A1 B1 x6.2 x16 hx17 V19) (by rfl) ?_
 rintro _ w20 ⟨rfl, H21⟩; refine ⟨_, q, ?_⟩
 have H22 := H18.cV1 [_] H21 (zc (Pure.sl q) all_nil)
 refine qA q q q <| rN <| qF uf31 fi31_2 nz23 q q q ?_
 have hB23 := R H22.p2
 refine l u23 q hB23 q q q q <| qM q q q ?_
 have H26 := H22.p3
 obtain ⟨x24, hx25, h⟩ := D h
 have V27 := H26.viewG (Vw.c (Vw.c (Vw.d (Vw.c (Vw.d Vw.refl)))))
 refine zd q q c57 (w_laws_markIntS w20 _ A2 B2 x16.2 x24 hx25 V27) (by rfl) ?_
 rintro _ w28 ⟨rfl, H29⟩; refine ⟨_, q, ?_⟩
 have H30 := H26.cV1 [_] H29 (zc (Pure.sl q) all_nil)
 refine qA q q q <| rN <| qF uf31 fi31_4 nz29 q q q ?_
 have hB31 := R H30.p3
 refine l u29 q hB31 q q q q <| qM q q q ?_
 have H34 := H30.p4
 obtain ⟨x32, hx33, h⟩ := D h
 have V35 := H34.viewG (Vw.c (Vw.c (Vw.c (Vw.d (Vw.c Vw.refl)))))
 refine zd q q c58 (w_laws_markTableS w28 _ A4 B4 csp0_4 Fp0_4 x24.2 x32 hx33 V35) (by rfl) ?_
 rintro _ w36 ⟨cs38, F39, rfl, H37⟩; refine ⟨_, q, ?_⟩
 have H40 := H34.cV1 [_] H37 (zc Pure.dp all_nil)
 refine qA q q q <| rN <| qM q q q <| qA q q q <| B <| W fun a ha => ?_
 obtain rfl := L h
 have H41 := H40.q4.p1.p2.p3
 exact ret1 q ha q ⟨cs12, F13, cs38, F39, q, H41⟩
theorem w_laws_heldPartS (w : World) (G : List Res) (vp0 : Value) (p0 : LP) (hp0 : Has G ty2 vp0 p0) (p1 : Int) (r : Int) (h : laws_heldPartSS p0 p1 = some r) (H : Ctx w G) : Calls Tryz.prog 109 #[vp0, iV p1] w fun e w' => e = .returned (iV r) ∧ Holds M0 w w' [] G := by
 have H : Holds M0 w w [] G := zb H
 refine zg (args := [vp0, iV p1]) (n := 31) Tryz.func109 q q q ?_
 unfold laws_heldPartSS at h
 refine rR <| qA q q q <| B <| C <| rR <| qA q q q <| B <| g ?_
 obtain ⟨o3, ho4, h⟩ := D h
 refine fun a5 ha6 => zp (I := fun s a w2 => match s with | (s1, s2) => (Fr a 31 [(0, vp0), (1, iV s1), (5, iV s2)] ∧ Holds M0 w w2 [] G)) (O := fun o e a w2 => match o with | .inl q0 => e = .exit 0 ∧ (Fr a 31 [(1, iV q0)] ∧ Holds M0 w w2 [] G) | .inr q0 => e = .ret ∧ (Fr a 31 [(4, iV q0)] ∧ Holds M0 w w2 [] G)) ho4 ?_ ?_ ?_
 ·exact ⟨ha6.sub ⟨q, q, q, trivial⟩, H⟩
 ·clear ha6
  intro s o9 a w7 hs8 hI10
  obtain ⟨s1, s2⟩ := s
  obtain ⟨ha, H11⟩ := hI10
  refine S ?_ ha
  clear ha
  refine C <| rR <| qM q q q <| qM q q q <| za H11.ctx (t := ty2) (hp0) u113 q q q <| A q (qt_lss q q) q q <| B ?_
  refine Y q (fun hc12 => ?_) (fun hc12 => ?_)
  ·have hs8 := if_t hc12 hs8
   refine y <| C <| g <| C <| rR <| qM q q q <| qM q q q ?_
   obtain ⟨x13, hx14, hs8⟩ := D hs8
   refine b H11.ctx (hp0) hx14 u113 i162 q q q q (fun b15 off16 cap17 hv18 => ?_)
   refine qF uf162 fi162_0 nz3 q q q ?_
   obtain ⟨F19, hat20, hdup21⟩ := H11.at (hp0) hx14 hv18
   obtain ⟨F22, hat23, hin24⟩ := AtP.fst hat20
   refine zt (k := .i64) u3 q hat23 q q q <| qM q q q <| A q (qt_neq q q) q q <| B ?_
   refine Y q (fun hc25 => ?_) (fun hc25 => ?_)
   ·have hs8 := if_t hc25 hs8
    refine rR <| qA q q q <| B <| W fun a ha => ?_
    obtain rfl := L hs8
    exact m (zj (m (⟨ret_ne, q, ha.sub ⟨q, trivial⟩, H11⟩)))
   have hs8 := if_f hc25 hs8
   refine y <| rR <| qM q q q <| A q (qt_add q q) q q <| qA q q q <| B <| C <| C <| Z ?_
   refine qM q q q <| qM q q q ?_
   obtain ⟨x26, hx27, hs8⟩ := D hs8
   refine b H11.ctx (hp0) hx27 u113 i162 q q q q (fun b28 off29 cap30 hv31 => ?_)
   refine qF uf162 fi162_1 nz3 q q q ?_
   obtain ⟨F32, hat33, hdup34⟩ := H11.at (hp0) hx27 hv31
   obtain ⟨F35, hat36, hin37⟩ := AtP.snd hat33
   refine zt (k := .i64) u3 q hat36 q q q <| qM q q q <| A q (qt_neq q q) q q <| B ?_
   refine Y q (fun hc38 => ?_) (fun hc38 => ?_)
   ·have hs8 := if_t hc38 hs8
    refine rR <| qA q q q <| B <| W fun a ha => ?_
    obtain rfl := L hs8
    exact m (zj (m (⟨ret_ne, q, ha.sub ⟨q, trivial⟩, H11⟩)))
   have hs8 := if_f hc38 hs8
   refine y <| Z <| qM q q q <| A q (qt_add q q) q q <| qA q q q <| WL_nil fun a ha => ?_
   refine zi (X (S ?_ ha))
   refine Z <| qM q q q <| A q (qt_add q q) q q <| qA q q q <| WL_nil fun a ha => ?_
   obtain rfl := L hs8
   exact ⟨q, ha.sub ⟨q, q, q, trivial⟩, H11⟩
  have hs8 := if_f hc12 hs8
  refine WP_exit fun a ha => ?_
  obtain rfl := L hs8
  exact zo (⟨exit_ne, q, ha.sub ⟨q, trivial⟩, H11⟩)
 intro e a5 w39 hO40
 rcases o3 with o3 | o3
 ·skip
  obtain ⟨p41, rfl⟩ : ∃ z, z = o3 := ⟨o3, q⟩
  obtain ⟨rfl, hO43⟩ := hO40
  obtain ⟨ha, H42⟩ := hO43
  refine zn (X (S ?_ ha))
  refine rR <| qM q q q <| qA q q q <| B <| W fun a ha => ?_
  obtain rfl := L h
  exact ret1 q ha q ⟨q, H42⟩
 skip
 obtain ⟨p44, rfl⟩ : ∃ z, z = o3 := ⟨o3, q⟩
 obtain ⟨rfl, hO46⟩ := hO40
 obtain ⟨ha, H45⟩ := hO46
 obtain rfl := L h
 exact zj (m (ret1 q ha q ⟨q, H45⟩))
theorem w_laws_heldItemS (w : World) (G : List Res) (vp0 : Value) (p0 : LI) (hp0 : Has G ty10 vp0 p0) (p1 : Int) (r : Int) (h : laws_heldItemSS p0 p1 = some r) (H : Ctx w G) : Calls Tryz.prog 59 #[vp0, iV p1] w fun e w' => e = .returned (iV r) ∧ Holds M0 w w' [] G := by
 have H : Holds M0 w w [] G := zb H
 refine zg (args := [vp0, iV p1]) (n := 40) Tryz.func59 q q q ?_
 unfold laws_heldItemSS at h
 refine rR <| qA q q q <| B <| C <| rR <| qA q q q <| B <| g ?_
 obtain ⟨o3, ho4, h⟩ := D h
 refine fun a5 ha6 => zp (I := fun s a w2 => match s with | (s1, s2) => (Fr a 40 [(0, vp0), (1, iV s1), (5, iV s2)] ∧ Holds M0 w w2 [] G)) (O := fun o e a w2 => match o with | .inl q0 => e = .exit 0 ∧ (Fr a 40 [(1, iV q0)] ∧ Holds M0 w w2 [] G) | .inr q0 => e = .ret ∧ (Fr a 40 [(4, iV q0)] ∧ Holds M0 w w2 [] G)) ho4 ?_ ?_ ?_
 ·exact ⟨ha6.sub ⟨q, q, q, trivial⟩, H⟩
 ·clear ha6
  intro s o9 a w7 hs8 hI10
  obtain ⟨s1, s2⟩ := s
  obtain ⟨ha, H11⟩ := hI10
  refine S ?_ ha
  clear ha
  refine C <| rR <| qM q q q <| qM q q q <| za H11.ctx (t := ty10) (hp0) u28 q q q <| A q (qt_lss q q) q q <| B ?_
  refine Y q (fun hc12 => ?_) (fun hc12 => ?_)
  ·have hs8 := if_t hc12 hs8
   refine y <| C <| g <| C <| rR <| qM q q q <| qM q q q ?_
   obtain ⟨x13, hx14, hs8⟩ := D hs8
   refine b H11.ctx (hp0) hx14 u28 i115 q q q q (fun b15 off16 cap17 hv18 => ?_)
   refine qF uf115 fi115_0 nz3 q q q ?_
   obtain ⟨F19, hat20, hdup21⟩ := H11.at (hp0) hx14 hv18
   obtain ⟨F22, hat23, hin24⟩ := AtP.fst hat20
   refine zt (k := .i64) u3 q hat23 q q q <| qM q q q <| A q (qt_neq q q) q q <| B ?_
   refine Y q (fun hc25 => ?_) (fun hc25 => ?_)
   ·have hs8 := if_t hc25 hs8
    refine rR <| qA q q q <| B <| W fun a ha => ?_
    obtain rfl := L hs8
    exact m (zj (m (⟨ret_ne, q, ha.sub ⟨q, trivial⟩, H11⟩)))
   have hs8 := if_f hc25 hs8
   refine y <| rR <| qM q q q <| A q (qt_add q q) q q <| qA q q q <| B <| C <| zk <| qM q q q ?_
   refine qM q q q ?_
   obtain ⟨x26, hx27, hs8⟩ := D hs8
   refine b H11.ctx (hp0) hx27 u28 i115 q q q q (fun b28 off29 cap30 hv31 => ?_)
   refine qF uf115 fi115_1 nz113 q q q ?_
   obtain ⟨F32, hat33, hdup34⟩ := H11.at (hp0) hx27 hv31
   obtain ⟨F35, hat36, hin37⟩ := AtP.snd hat33
   obtain ⟨F38, hat39, hin40⟩ := AtP.fst hat36
   refine XL_load (t := ty4) u113 q q hat39 q q q (fun v41 hr42 => ?_)
   have H43 : Holds _ w w7 [.ro ty2 v41 x26.2.1] G := hdup34 _ _ _ _ hr42 (fun k h => (fun k h => (fun _ h => h) k (hin37 k h)) k (hin40 k h))
   refine qM q q q ?_
   obtain ⟨x44, hx45, hs8⟩ := D hs8
   refine QC q q c109 (fun w' hb => w_laws_heldPartS w' _ v41 x26.2.1 hR0 (IntKind.wrap .i64 (s1 + 1)) x44 hx45 (H43.grow hb).ctx) (by rfl) <| qA q q q <| QL_nil fun a ha w46 hb47 => ?_
   have H48 := H43.grow hb47
   refine X (S ?_ ha)
   refine C <| rR <| qM q q q <| A q (qt_lss q q) q q <| B ?_
   refine Y q (fun hc49 => ?_) (fun hc49 => ?_)
   ·have hs8 := if_t hc49 hs8
    refine rR <| qA q q q <| B <| W fun a ha => ?_
    obtain rfl := L hs8
    have H50 := H48.q0
    exact m (zj (m (⟨ret_ne, q, ha.sub ⟨q, trivial⟩, H50⟩)))
   have hs8 := if_f hc49 hs8
   refine y <| C <| rR <| qM q q q <| qM q q q ?_
   obtain ⟨x51, hx52, hs8⟩ := D hs8
   refine b H48.ctx (hp0.c) hx52 u28 i115 q q q q (fun b53 off54 cap55 hv56 => ?_)
   refine qF uf115 fi115_2 nz3 q q q ?_
   obtain ⟨F57, hat58, hdup59⟩ := H48.at (hp0.c) hx52 hv56
   obtain ⟨F60, hat61, hin62⟩ := AtP.snd hat58
   obtain ⟨F63, hat64, hin65⟩ := AtP.snd hat61
   refine zt (k := .i64) u3 q hat64 q q q <| qM q q q <| A q (qt_neq q q) q q <| B ?_
   refine Y q (fun hc66 => ?_) (fun hc66 => ?_)
   ·have hs8 := if_t hc66 hs8
    refine rR <| qA q q q <| B <| W fun a ha => ?_
    obtain rfl := L hs8
    have H67 := H48.q0
    exact m (zj (m (⟨ret_ne, q, ha.sub ⟨q, trivial⟩, H67⟩)))
   have hs8 := if_f hc66 hs8
   refine y <| Z <| qM q q q <| A q (qt_add q q) q q <| qA q q q <| WL_nil fun a ha => ?_
   refine zi (X (S ?_ ha))
   refine Z <| qM q q q <| A q (qt_add q q) q q <| qA q q q <| WL_nil fun a ha => ?_
   obtain rfl := L hs8
   have H68 := H48.q0
   exact ⟨q, ha.sub ⟨q, q, q, trivial⟩, H68⟩
  have hs8 := if_f hc12 hs8
  refine WP_exit fun a ha => ?_
  obtain rfl := L hs8
  exact zo (⟨exit_ne, q, ha.sub ⟨q, trivial⟩, H11⟩)
 intro e a5 w69 hO70
 rcases o3 with o3 | o3
 ·skip
  obtain ⟨p71, rfl⟩ : ∃ z, z = o3 := ⟨o3, q⟩
  obtain ⟨rfl, hO73⟩ := hO70
  obtain ⟨ha, H72⟩ := hO73
  refine zn (X (S ?_ ha))
  refine rR <| qM q q q <| qA q q q <| B <| W fun a ha => ?_
  obtain rfl := L h
  exact ret1 q ha q ⟨q, H72⟩
 skip
 obtain ⟨p74, rfl⟩ : ∃ z, z = o3 := ⟨o3, q⟩
 obtain ⟨rfl, hO76⟩ := hO70
 obtain ⟨ha, H75⟩ := hO76
 obtain rfl := L h
 exact zj (m (ret1 q ha q ⟨q, H75⟩))
theorem w_laws_heldIntS (w : World) (G : List Res) (vp0 : Value) (p0 : List Int) (hp0 : Has G tI vp0 p0) (p1 : Int) (r : Int) (h : laws_heldIntSS p0 p1 = some r) (H : Ctx w G) : Calls Tryz.prog 60 #[vp0, iV p1] w fun e w' => e = .returned (iV r) ∧ Holds M0 w w' [] G := by
 have H : Holds M0 w w [] G := zb H
 refine zg (args := [vp0, iV p1]) (n := 21) Tryz.func60 q q q ?_
 unfold laws_heldIntSS at h
 refine rR <| qA q q q <| B <| C <| rR <| qA q q q <| B <| g ?_
 obtain ⟨o3, ho4, h⟩ := D h
 refine fun a5 ha6 => zp (I := fun s a w2 => match s with | (s1, s2) => (Fr a 21 [(0, vp0), (1, iV s1), (5, iV s2)] ∧ Holds M0 w w2 [] G)) (O := fun o e a w2 => match o with | .inl q0 => e = .exit 0 ∧ (Fr a 21 [(1, iV q0)] ∧ Holds M0 w w2 [] G) | .inr q0 => e = .ret ∧ (Fr a 21 [(4, iV q0)] ∧ Holds M0 w w2 [] G)) ho4 ?_ ?_ ?_
 ·exact ⟨ha6.sub ⟨q, q, q, trivial⟩, H⟩
 ·clear ha6
  intro s o9 a w7 hs8 hI10
  obtain ⟨s1, s2⟩ := s
  obtain ⟨ha, H11⟩ := hI10
  refine S ?_ ha
  clear ha
  refine C <| rR <| qM q q q <| qM q q q <| za H11.ctx (t := tI) (hp0) u23 q q q <| A q (qt_lss q q) q q <| B ?_
  refine Y q (fun hc12 => ?_) (fun hc12 => ?_)
  ·have hs8 := if_t hc12 hs8
   refine y <| C <| g <| C <| rR <| qM q q q <| qM q q q ?_
   obtain ⟨x13, hx14, hs8⟩ := D hs8
   refine b H11.ctx (hp0) hx14 u23 i3 q q q q (fun b15 off16 cap17 hv18 => ?_)
   obtain ⟨F19, hat20, hdup21⟩ := H11.at (hp0) hx14 hv18
   refine zt (k := .i64) u3 q hat20 q q q <| qM q q q <| A q (qt_neq q q) q q <| B ?_
   refine Y q (fun hc22 => ?_) (fun hc22 => ?_)
   ·have hs8 := if_t hc22 hs8
    refine rR <| qA q q q <| B <| W fun a ha => ?_
    obtain rfl := L hs8
    exact m (zj (m (⟨ret_ne, q, ha.sub ⟨q, trivial⟩, H11⟩)))
   have hs8 := if_f hc22 hs8
   refine y <| Z <| qM q q q <| A q (qt_add q q) q q <| qA q q q <| WL_nil fun a ha => ?_
   refine zi (X (S ?_ ha))
   refine Z <| qM q q q <| A q (qt_add q q) q q <| qA q q q <| WL_nil fun a ha => ?_
   obtain rfl := L hs8
   exact ⟨q, ha.sub ⟨q, q, q, trivial⟩, H11⟩
  have hs8 := if_f hc12 hs8
  refine WP_exit fun a ha => ?_
  obtain rfl := L hs8
  exact zo (⟨exit_ne, q, ha.sub ⟨q, trivial⟩, H11⟩)
 intro e a5 w23 hO24
 rcases o3 with o3 | o3
 ·skip
  obtain ⟨p25, rfl⟩ : ∃ z, z = o3 := ⟨o3, q⟩
  obtain ⟨rfl, hO27⟩ := hO24
  obtain ⟨ha, H26⟩ := hO27
  refine zn (X (S ?_ ha))
  refine rR <| qM q q q <| qA q q q <| B <| W fun a ha => ?_
  obtain rfl := L h
  exact ret1 q ha q ⟨q, H26⟩
 skip
 obtain ⟨p28, rfl⟩ : ∃ z, z = o3 := ⟨o3, q⟩
 obtain ⟨rfl, hO30⟩ := hO24
 obtain ⟨ha, H29⟩ := hO30
 obtain rfl := L h
 exact zj (m (ret1 q ha q ⟨q, H29⟩))
theorem w_laws_heldOrderS (w : World) (G : List Res) (vp0 : Value) (p0 : LP) (hp0 : Has G ty2 vp0 p0) (p1 : Int) (r : Int) (h : laws_heldOrderSS p0 p1 = some r) (H : Ctx w G) : Calls Tryz.prog 110 #[vp0, iV p1] w fun e w' => e = .returned (iV r) ∧ Holds M0 w w' [] G := by
 have H : Holds M0 w w [] G := zb H
 refine zg (args := [vp0, iV p1]) (n := 31) Tryz.func110 q q q ?_
 unfold laws_heldOrderSS at h
 refine rR <| qA q q q <| B <| C <| rR <| qA q q q <| B <| g ?_
 obtain ⟨o3, ho4, h⟩ := D h
 refine fun a5 ha6 => zp (I := fun s a w2 => match s with | (s1, s2) => (Fr a 31 [(0, vp0), (1, iV s1), (5, iV s2)] ∧ Holds M0 w w2 [] G)) (O := fun o e a w2 => match o with | .inl q0 => e = .exit 0 ∧ (Fr a 31 [(1, iV q0)] ∧ Holds M0 w w2 [] G) | .inr q0 => e = .ret ∧ (Fr a 31 [(4, iV q0)] ∧ Holds M0 w w2 [] G)) ho4 ?_ ?_ ?_
 ·exact ⟨ha6.sub ⟨q, q, q, trivial⟩, H⟩
 ·clear ha6
  intro s o9 a w7 hs8 hI10
  obtain ⟨s1, s2⟩ := s
  obtain ⟨ha, H11⟩ := hI10
  refine S ?_ ha
  clear ha
  refine C <| rR <| qM q q q <| qM q q q <| za H11.ctx (t := ty2) (hp0) u87 q q q <| A q (qt_lss q q) q q <| B ?_
  refine Y q (fun hc12 => ?_) (fun hc12 => ?_)
  ·have hs8 := if_t hc12 hs8
   refine y <| C <| g <| C <| rR <| qM q q q <| qM q q q ?_
   obtain ⟨x13, hx14, hs8⟩ := D hs8
   refine b H11.ctx (hp0) hx14 u87 i119 q q q q (fun b15 off16 cap17 hv18 => ?_)
   refine qF uf119 fi119_0 nz3 q q q ?_
   obtain ⟨F19, hat20, hdup21⟩ := H11.at (hp0) hx14 hv18
   obtain ⟨F22, hat23, hin24⟩ := AtP.fst hat20
   refine zt (k := .i64) u3 q hat23 q q q <| qM q q q <| A q (qt_neq q q) q q <| B ?_
   refine Y q (fun hc25 => ?_) (fun hc25 => ?_)
   ·have hs8 := if_t hc25 hs8
    refine rR <| qA q q q <| B <| W fun a ha => ?_
    obtain rfl := L hs8
    exact m (zj (m (⟨ret_ne, q, ha.sub ⟨q, trivial⟩, H11⟩)))
   have hs8 := if_f hc25 hs8
   refine y <| rR <| qM q q q <| A q (qt_add q q) q q <| qA q q q <| B <| C <| C <| Z ?_
   refine qM q q q <| qM q q q ?_
   obtain ⟨x26, hx27, hs8⟩ := D hs8
   refine b H11.ctx (hp0) hx27 u87 i119 q q q q (fun b28 off29 cap30 hv31 => ?_)
   refine qF uf119 fi119_1 nz3 q q q ?_
   obtain ⟨F32, hat33, hdup34⟩ := H11.at (hp0) hx27 hv31
   obtain ⟨F35, hat36, hin37⟩ := AtP.snd hat33
   refine zt (k := .i64) u3 q hat36 q q q <| qM q q q <| A q (qt_neq q q) q q <| B ?_
   refine Y q (fun hc38 => ?_) (fun hc38 => ?_)
   ·have hs8 := if_t hc38 hs8
    refine rR <| qA q q q <| B <| W fun a ha => ?_
    obtain rfl := L hs8
    exact m (zj (m (⟨ret_ne, q, ha.sub ⟨q, trivial⟩, H11⟩)))
   have hs8 := if_f hc38 hs8
   refine y <| Z <| qM q q q <| A q (qt_add q q) q q <| qA q q q <| WL_nil fun a ha => ?_
   refine zi (X (S ?_ ha))
   refine Z <| qM q q q <| A q (qt_add q q) q q <| qA q q q <| WL_nil fun a ha => ?_
   obtain rfl := L hs8
   exact ⟨q, ha.sub ⟨q, q, q, trivial⟩, H11⟩
  have hs8 := if_f hc12 hs8
  refine WP_exit fun a ha => ?_
  obtain rfl := L hs8
  exact zo (⟨exit_ne, q, ha.sub ⟨q, trivial⟩, H11⟩)
 intro e a5 w39 hO40
 rcases o3 with o3 | o3
 ·skip
  obtain ⟨p41, rfl⟩ : ∃ z, z = o3 := ⟨o3, q⟩
  obtain ⟨rfl, hO43⟩ := hO40
  obtain ⟨ha, H42⟩ := hO43
  refine zn (X (S ?_ ha))
  refine rR <| qM q q q <| qA q q q <| B <| W fun a ha => ?_
  obtain rfl := L h
  exact ret1 q ha q ⟨q, H42⟩
 skip
 obtain ⟨p44, rfl⟩ : ∃ z, z = o3 := ⟨o3, q⟩
 obtain ⟨rfl, hO46⟩ := hO40
 obtain ⟨ha, H45⟩ := hO46
 obtain rfl := L h
 exact zj (m (ret1 q ha q ⟨q, H45⟩))
theorem w_laws_heldTableS (w : World) (G : List Res) (vp0 : Value) (p0 : LT) (hp0 : Has G ty12 vp0 p0) (p1 : Int) (r : Int) (h : laws_heldTableSS p0 p1 = some r) (H : Ctx w G) : Calls Tryz.prog 61 #[vp0, iV p1] w fun e w' => e = .returned (iV r) ∧ Holds M0 w w' [] G := by
 have H : Holds M0 w w [] G := zb H
 refine zg (args := [vp0, iV p1]) (n := 40) Tryz.func61 q q q ?_
 unfold laws_heldTableSS at h
 refine rR <| qA q q q <| B <| C <| rR <| qA q q q <| B <| g ?_
 obtain ⟨o3, ho4, h⟩ := D h
 refine fun a5 ha6 => zp (I := fun s a w2 => match s with | (s1, s2) => (Fr a 40 [(0, vp0), (1, iV s1), (5, iV s2)] ∧ Holds M0 w w2 [] G)) (O := fun o e a w2 => match o with | .inl q0 => e = .exit 0 ∧ (Fr a 40 [(1, iV q0)] ∧ Holds M0 w w2 [] G) | .inr q0 => e = .ret ∧ (Fr a 40 [(4, iV q0)] ∧ Holds M0 w w2 [] G)) ho4 ?_ ?_ ?_
 ·exact ⟨ha6.sub ⟨q, q, q, trivial⟩, H⟩
 ·clear ha6
  intro s o9 a w7 hs8 hI10
  obtain ⟨s1, s2⟩ := s
  obtain ⟨ha, H11⟩ := hI10
  refine S ?_ ha
  clear ha
  refine C <| rR <| qM q q q <| qM q q q <| za H11.ctx (t := ty12) (hp0) u29 q q q <| A q (qt_lss q q) q q <| B ?_
  refine Y q (fun hc12 => ?_) (fun hc12 => ?_)
  ·have hs8 := if_t hc12 hs8
   refine y <| C <| g <| C <| rR <| qM q q q <| qM q q q ?_
   obtain ⟨x13, hx14, hs8⟩ := D hs8
   refine b H11.ctx (hp0) hx14 u29 i89 q q q q (fun b15 off16 cap17 hv18 => ?_)
   refine qF uf89 fi89_0 nz3 q q q ?_
   obtain ⟨F19, hat20, hdup21⟩ := H11.at (hp0) hx14 hv18
   obtain ⟨F22, hat23, hin24⟩ := AtP.fst hat20
   refine zt (k := .i64) u3 q hat23 q q q <| qM q q q <| A q (qt_neq q q) q q <| B ?_
   refine Y q (fun hc25 => ?_) (fun hc25 => ?_)
   ·have hs8 := if_t hc25 hs8
    refine rR <| qA q q q <| B <| W fun a ha => ?_
    obtain rfl := L hs8
    exact m (zj (m (⟨ret_ne, q, ha.sub ⟨q, trivial⟩, H11⟩)))
   have hs8 := if_f hc25 hs8
   refine y <| rR <| qM q q q <| A q (qt_add q q) q q <| qA q q q <| B <| C <| zk <| qM q q q ?_
   refine qM q q q ?_
   obtain ⟨x26, hx27, hs8⟩ := D hs8
   refine b H11.ctx (hp0) hx27 u29 i89 q q q q (fun b28 off29 cap30 hv31 => ?_)
   refine qF uf89 fi89_1 nz87 q q q ?_
   obtain ⟨F32, hat33, hdup34⟩ := H11.at (hp0) hx27 hv31
   obtain ⟨F35, hat36, hin37⟩ := AtP.snd hat33
   obtain ⟨F38, hat39, hin40⟩ := AtP.fst hat36
   refine XL_load (t := ty4) u87 q q hat39 q q q (fun v41 hr42 => ?_)
   have H43 : Holds _ w w7 [.ro ty2 v41 x26.2.1] G := hdup34 _ _ _ _ hr42 (fun k h => (fun k h => (fun _ h => h) k (hin37 k h)) k (hin40 k h))
   refine qM q q q ?_
   obtain ⟨x44, hx45, hs8⟩ := D hs8
   refine QC q q c110 (fun w' hb => w_laws_heldOrderS w' _ v41 x26.2.1 hR0 (IntKind.wrap .i64 (s1 + 1)) x44 hx45 (H43.grow hb).ctx) (by rfl) <| qA q q q <| QL_nil fun a ha w46 hb47 => ?_
   have H48 := H43.grow hb47
   refine X (S ?_ ha)
   refine C <| rR <| qM q q q <| A q (qt_lss q q) q q <| B ?_
   refine Y q (fun hc49 => ?_) (fun hc49 => ?_)
   ·have hs8 := if_t hc49 hs8
    refine rR <| qA q q q <| B <| W fun a ha => ?_
    obtain rfl := L hs8
    have H50 := H48.q0
    exact m (zj (m (⟨ret_ne, q, ha.sub ⟨q, trivial⟩, H50⟩)))
   have hs8 := if_f hc49 hs8
   refine y <| C <| zk <| qM q q q <| qM q q q ?_
   obtain ⟨x51, hx52, hs8⟩ := D hs8
   refine b H48.ctx (hp0.c) hx52 u29 i89 q q q q (fun b53 off54 cap55 hv56 => ?_)
   refine qF uf89 fi89_2 nz23 q q q ?_
   obtain ⟨F57, hat58, hdup59⟩ := H48.at (hp0.c) hx52 hv56
   obtain ⟨F60, hat61, hin62⟩ := AtP.snd hat58
   obtain ⟨F63, hat64, hin65⟩ := AtP.snd hat61
   refine XL_load (t := (.slice tI)) u23 q q hat64 q q q (fun v66 hr67 => ?_)
   have H68 : Holds _ w w46 [.ro tI v66 x51.2.2, .ro ty2 v41 x26.2.1] G := hdup59 _ _ _ _ hr67 (fun k h => (fun k h => (fun _ h => h) k (hin62 k h)) k (hin65 k h))
   refine qM q q q ?_
   obtain ⟨x69, hx70, hs8⟩ := D hs8
   refine QC q q c60 (fun w' hb => w_laws_heldIntS w' _ v66 x51.2.2 hR0 x44 x69 hx70 (H68.grow hb).ctx) (by rfl) <| qA q q q <| QL_nil fun a ha w71 hb72 => ?_
   have H73 := H68.grow hb72
   refine X (S ?_ ha)
   refine rR <| qM q q q <| A q (qt_lss q q) q q <| B ?_
   refine Y q (fun hc74 => ?_) (fun hc74 => ?_)
   ·have hs8 := if_t hc74 hs8
    refine rR <| qA q q q <| B <| W fun a ha => ?_
    obtain rfl := L hs8
    have H75 := H73.q0.q0
    exact zj (m (⟨ret_ne, q, ha.sub ⟨q, trivial⟩, H75⟩))
   have hs8 := if_f hc74 hs8
   refine WP_skip fun a ha => ?_
   refine zi (X (S ?_ ha))
   refine Z <| qM q q q <| A q (qt_add q q) q q <| qA q q q <| WL_nil fun a ha => ?_
   obtain rfl := L hs8
   have H76 := H73.q0.q0
   exact ⟨q, ha.sub ⟨q, q, q, trivial⟩, H76⟩
  have hs8 := if_f hc12 hs8
  refine WP_exit fun a ha => ?_
  obtain rfl := L hs8
  exact zo (⟨exit_ne, q, ha.sub ⟨q, trivial⟩, H11⟩)
 intro e a5 w77 hO78
 rcases o3 with o3 | o3
 ·skip
  obtain ⟨p79, rfl⟩ : ∃ z, z = o3 := ⟨o3, q⟩
  obtain ⟨rfl, hO81⟩ := hO78
  obtain ⟨ha, H80⟩ := hO81
  refine zn (X (S ?_ ha))
  refine rR <| qM q q q <| qA q q q <| B <| W fun a ha => ?_
  obtain rfl := L h
  exact ret1 q ha q ⟨q, H80⟩
 skip
 obtain ⟨p82, rfl⟩ : ∃ z, z = o3 := ⟨o3, q⟩
 obtain ⟨rfl, hO84⟩ := hO78
 obtain ⟨ha, H83⟩ := hO84
 obtain rfl := L h
 exact zj (m (ret1 q ha q ⟨q, H83⟩))
theorem w_laws_heldHouse (w : World) (G : List Res) (A0 : Value) (B0 : LI) (C0 : Has G ty10 A0 B0) (A1 : Value) (B1 : List Int) (C1 : Has G tI A1 B1) (A2 : Value) (B2 : List Int) (C2 : Has G tI A2 B2) (B3 : Int) (A4 : Value) (B4 : LT) (C4 : Has G ty12 A4 B4) (p1 : Int) (r : Int) (h : laws_heldHouseS B0 B1 B2 B3 B4 p1 = some r) (H : Ctx w G) : Calls Tryz.prog 13 #[.agg #[A0, A1, A2, iV B3, A4], iV p1] w fun e w' => e = .returned (iV r) ∧ Holds M0 w w' [] G := by
 have H : Holds M0 w w [] G := zb H
 refine zg (args := [.agg #[A0, A1, A2, iV B3, A4], iV p1]) (n := 30) Tryz.func13 q q q ?_
 unfold laws_heldHouseS at h
 refine C <| Z ?_
 refine WL_box (cs := [A0, A1, A2, iV B3, A4]) H q q q q (fun b1 w2 H3 => ?_)
 refine qA q q q <| B <| C <| zk <| qF uf31 fi31_0 nz28 q q q ?_
 have hB5 := R H3.p0
 refine l u28 q hB5 q q q q <| qM q q q ?_
 obtain ⟨x6, hx7, h⟩ := D h
 refine QC q q c59 (fun w' hb => w_laws_heldItemS w' _ A0 B0 (C0.c) p1 x6 hx7 (H3.grow hb).ctx) (by rfl) <| qA q q q <| QL_nil fun a ha w8 hb9 => ?_
 have H10 := H3.grow hb9
 refine X (S ?_ ha)
 refine C <| rR <| qM q q q <| A q (qt_lss q q) q q <| B ?_
 refine Y q (fun hc11 => ?_) (fun hc11 => ?_)
 ·have h := if_t hc11 h
  refine rR <| qA q q q <| B <| W fun a ha => ?_
  obtain rfl := L h
  have H12 := H10.q0
  exact m (ret1 q ha q ⟨q, H12⟩)
 have h := if_f hc11 h
 refine y <| C <| zk <| qF uf31 fi31_1 nz23 q q q ?_
 have hB13 := R H10.p0
 refine l u23 q hB13 q q q q <| qM q q q ?_
 obtain ⟨x14, hx15, h⟩ := D h
 refine QC q q c60 (fun w' hb => w_laws_heldIntS w' _ A1 B1 (C1.c) x6 x14 hx15 (H10.grow hb).ctx) (by rfl) <| qA q q q <| QL_nil fun a ha w16 hb17 => ?_
 have H18 := H10.grow hb17
 refine X (S ?_ ha)
 refine C <| rR <| qM q q q <| A q (qt_lss q q) q q <| B ?_
 refine Y q (fun hc19 => ?_) (fun hc19 => ?_)
 ·have h := if_t hc19 h
  refine rR <| qA q q q <| B <| W fun a ha => ?_
  obtain rfl := L h
  have H20 := H18.q0
  exact m (ret1 q ha q ⟨q, H20⟩)
 have h := if_f hc19 h
 refine y <| C <| zk <| qF uf31 fi31_2 nz23 q q q ?_
 have hB21 := R H18.p0
 refine l u23 q hB21 q q q q <| qM q q q ?_
 obtain ⟨x22, hx23, h⟩ := D h
 refine QC q q c60 (fun w' hb => w_laws_heldIntS w' _ A2 B2 (C2.c) x14 x22 hx23 (H18.grow hb).ctx) (by rfl) <| qA q q q <| QL_nil fun a ha w24 hb25 => ?_
 have H26 := H18.grow hb25
 refine X (S ?_ ha)
 refine C <| rR <| qM q q q <| A q (qt_lss q q) q q <| B ?_
 refine Y q (fun hc27 => ?_) (fun hc27 => ?_)
 ·have h := if_t hc27 h
  refine rR <| qA q q q <| B <| W fun a ha => ?_
  obtain rfl := L h
  have H28 := H26.q0
  exact m (ret1 q ha q ⟨q, H28⟩)
 have h := if_f hc27 h
 refine y <| C <| zk <| qF uf31 fi31_4 nz29 q q q ?_
 have hB29 := R H26.p0
 refine l u29 q hB29 q q q q <| qM q q q ?_
 obtain ⟨x30, hx31, h⟩ := D h
 refine QC q q c61 (fun w' hb => w_laws_heldTableS w' _ A4 B4 (C4.c) x22 x30 hx31 (H26.grow hb).ctx) (by rfl) <| qA q q q <| QL_nil fun a ha w32 hb33 => ?_
 have H34 := H26.grow hb33
 refine X (S ?_ ha)
 refine C <| rR <| qM q q q <| A q (qt_lss q q) q q <| B ?_
 refine Y q (fun hc35 => ?_) (fun hc35 => ?_)
 ·have h := if_t hc35 h
  refine rR <| qA q q q <| B <| W fun a ha => ?_
  obtain rfl := L h
  have H36 := H34.q0
  exact m (ret1 q ha q ⟨q, H36⟩)
 have h := if_f hc35 h
 refine y <| rR <| qM q q q <| qA q q q <| B <| W fun a ha => ?_
 obtain rfl := L h
 have H37 := H34.q0
 exact ret1 q ha q ⟨q, H37⟩
end Go.Proofs.YtcjkbcdlpfgbgaaGreatDoor
