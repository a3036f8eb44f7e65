/- The walks: each Go function computes its shallow function. Printed by a program. -/
import Derived.Test.YthofjabphcheeaaDoorWS7T8
set_option linter.unusedVariables false
set_option maxRecDepth 10000
namespace Go.Proofs.YthofjabphcheeaaDoor
open Go Go.RowKit
theorem w_spec_l20Written (w : World) (G : List Res) (bp0 : Nat) (A0 : Value) (B0 : List Int) (C0 : Has G (.int .u8) A0 B0) (B1 : Int) (r : Int × (LI × (List Int) × (List Int) × Int × LT) × (List (Int × Int × Int × Int))) (h : spec_l20WrittenS B0 B1 = some r) (H : Ctx w ([.bx bp0 104 [A0, iV B1]] ++ G)) : Calls Tryd.prog 57 #[pB bp0] w fun e w' => ∃ (v1 : Value) (v2 : Value) (v3 : Value) (v4 : Value) (v5 : Value), e = .returned (.tuple #[.agg #[v1, v2, v3, iV r.2.1.2.2.2.1, v4], v5]) ∧ Holds (([.bx bp0 104 [A0, iV B1]] : List Res).flatMap Res.own) w w' [.ro ty7 v1 r.2.1.1, .ro tI v2 r.2.1.2.1, .ro tI v3 r.2.1.2.2.1, .ro ty8 v4 r.2.1.2.2.2.2, .sl 43 ty6 v5 r.2.2, .bx bp0 104 [A0, iV r.1]] G := by
 have H : Holds (([.bx bp0 104 [A0, iV B1]] : List Res).flatMap Res.own) w w [.bx bp0 104 [A0, iV B1]] G := zb H
 refine zg (args := [pB bp0]) (n := 35) Tryd.func57 q q q ?_
 unfold spec_l20WrittenS at h
 refine C <| Z ?_
 refine zq (cs := [nS, nS, nS, iV 0, nS]) H z27 q q q (fun b1 w2 H3 => ?_)
 refine qA q q q <| rN <| qM q q q ?_
 have H7 := H3.p1
 obtain ⟨x5, hx6, h⟩ := D h
 refine zd q q c31 (w_spec_l20House w2 _ bp0 A0 B0 (C0.c) B1 9 x5 hx6 H7.ctx) (by rfl) ?_
 rintro _ w8 ⟨v10, v11, v12, v13, rfl, H9⟩; refine ⟨_, q, ?_⟩
 have H14 := H7.cN5 [_] H9
 refine zq (cs := [nS, nS, nS, iV 0, nS]) H14 z27 q q q (fun b15 w16 H17 => ?_)
 refine zl (cs' := [v10, v11, v12, iV x5.2.2.2.2.1, v13]) H17 q il27 q (T (H17.ctx.sliceOne hS1) (T (H17.ctx.sliceOne hS2) (T (H17.ctx.sliceOne hS3) (T q (T (H17.ctx.sliceOne hS4) q))))) q q q (fun w19 H20 => ?_)
 refine B <| C <| Z ?_
 refine zs (t := ty6) (args := []) (xs := ([] : List (Int × Int × Int × Int))) H20 (BltL.nil) u49 j43 q q q q q q (fun v22 w23 H24 => ?_)
 refine qA q q q <| rN <| qM q q q ?_
 have hB26 := R H24.p1
 refine zm (cs := [v10, v11, v12, iV x5.2.2.2.2.1, v13]) us27 uo27 il27 hB26 q q q ?_
 change XL _ _ _ _ _ ((12, .agg #[v10, v11, v12, iV x5.2.2.2.2.1, v13]) :: _) _
 have H29 := H24.p2
 have H30 := H29.freeze
 have H31 := H30.p3
 have H32 := H31.freeze
 have H33 := H32.p4
 have H34 := H33.freeze
 have H35 := H34.p5
 have H36 := H35.freeze
 have H37 := H36.p6
 obtain ⟨x27, hx28, h⟩ := D h
 refine zd q q c77 (w_spec_l20HouseDeeds w23 _ bp0 A0 B0 (C0.c.c.c.c.c.c.c) x5.1 v10 x5.2.1 hO3 v11 x5.2.2.1 hO2 v12 x5.2.2.2.1 hO1 x5.2.2.2.2.1 v13 x5.2.2.2.2.2 hO0 x27 hx28 H37.ctx) (by rfl) ?_
 rintro _ w38 ⟨v40, rfl, H39⟩; refine ⟨_, q, ?_⟩
 have H41 := H37.cN2 [_] H39
 refine qA q q q <| B <| C <| rR <| qA q q q <| B <| g ?_
 obtain ⟨o44, ho45, h⟩ := D h
 have H48 := H41.p6.p3.p4.p5.p6.p7.p8.p8
 refine fun a46 ha47 => zp (I := fun s a w2 => match s with | (s42, s43) => ∃ vs42, Fr a 35 [(0, pB bp0), (2, pB b1), (4, pB b15), (5, vs42), (6, v40), (7, iV s43)] ∧ Holds (([.bx bp0 104 [A0, iV B1]] : List Res).flatMap Res.own) w w2 [.bx bp0 104 [A0, iV x27.1], .bx b1 27 [nS, nS, nS, iV 0, nS], .bx b15 27 [v10, v11, v12, iV x5.2.2.2.2.1, v13], .ro ty7 v10 x5.2.1, .ro tI v11 x5.2.2.1, .ro tI v12 x5.2.2.2.1, .ro ty8 v13 x5.2.2.2.2.2, .sl 43 ty6 vs42 s42, .sl 43 ty6 v40 x27.2] G) (O := fun o e a w2 => match o with | q0 => e = .exit 0 ∧ ∃ vq0, Fr a 35 [(0, pB bp0), (2, pB b1), (4, pB b15), (5, vq0)] ∧ Holds (([.bx bp0 104 [A0, iV B1]] : List Res).flatMap Res.own) w w2 [.bx bp0 104 [A0, iV x27.1], .bx b1 27 [nS, nS, nS, iV 0, nS], .bx b15 27 [v10, v11, v12, iV x5.2.2.2.2.1, v13], .ro ty7 v10 x5.2.1, .ro tI v11 x5.2.2.1, .ro tI v12 x5.2.2.2.1, .ro ty8 v13 x5.2.2.2.2.2, .sl 43 ty6 vq0 q0] G) ho45 ?_ ?_ ?_
 ·exact ⟨v22, ha47.sub ⟨q, q, q, q, q, q, trivial⟩, H48⟩
 ·clear ha47
  intro s o51 a w49 hs50 hI52
  obtain ⟨s42, s43⟩ := s
  obtain ⟨vs42, ha, H53⟩ := hI52
  refine S ?_ ha
  clear ha
  refine C <| rR <| qM q q q <| qM q q q <| za H53.ctx (t := ty6) hS8 u49 q q q <| A q (qt_lss q q) q q <| B ?_
  refine Y q (fun hc54 => ?_) (fun hc54 => ?_)
  ·have hs50 := if_t hc54 hs50
   refine y <| C <| g <| C <| zk <| qM q q q <| qM q q q ?_
   obtain ⟨x55, hx56, hs50⟩ := D hs50
   refine b H53.ctx hS8 hx56 u49 i43 q q q q (fun b57 off58 cap59 hv60 => ?_)
   obtain ⟨F61, hat62, hdup63⟩ := H53.atN hS8 hx56 hv60
   refine XL_load_agg (t := ty6) us43 uo43 i43 hat62 q q q (fun cs64 hr65 => ?_)
   obtain ⟨c66, c67, F68, F69, rfl, eF72, hr70, hr71⟩ := hr65
   obtain ⟨rfl, _⟩ := hr70
   obtain ⟨c73, c74, F75, F76, rfl, eF79, hr77, hr78⟩ := hr71
   obtain ⟨rfl, _⟩ := hr77
   obtain ⟨c80, c81, F82, F83, rfl, eF86, hr84, hr85⟩ := hr78
   obtain ⟨rfl, _⟩ := hr84
   obtain ⟨rfl, _⟩ := hr85
   change XL _ _ _ _ _ ((23, .agg #[iV x55.1, iV x55.2.1, iV x55.2.2.1, iV x55.2.2.2]) :: _) _
   obtain ⟨x87, hx88, hs50⟩ := D hs50
   refine QC q q c22 (fun w' hb => w_spec_DeedText w' _ x55.1 x55.2.1 x55.2.2.1 x55.2.2.2 x87 hx88 (H53.grow hb).ctx) (by rfl) <| A q (qt_sneq q q) q q <| QL_nil fun a ha w89 hb90 => ?_
   have H91 := H53.grow hb90
   refine X (S ?_ ha)
   refine Y q (fun hc92 => ?_) (fun hc92 => ?_)
   ·have hs50 := if_t hc92 hs50
    refine Z <| qM q q q <| qM q q q <| qM q q q ?_
    obtain ⟨x93, hx94, hs50⟩ := D hs50
    refine b H91.ctx hS8 hx94 u49 i43 q q q q (fun b95 off96 cap97 hv98 => ?_)
    obtain ⟨F99, hat100, hdup101⟩ := H91.atN hS8 hx94 hv98
    refine XL_load_agg (t := ty6) us43 uo43 i43 hat100 q q q (fun cs102 hr103 => ?_)
    obtain ⟨c104, c105, F106, F107, rfl, eF110, hr108, hr109⟩ := hr103
    obtain ⟨rfl, _⟩ := hr108
    obtain ⟨c111, c112, F113, F114, rfl, eF117, hr115, hr116⟩ := hr109
    obtain ⟨rfl, _⟩ := hr115
    obtain ⟨c118, c119, F120, F121, rfl, eF124, hr122, hr123⟩ := hr116
    obtain ⟨rfl, _⟩ := hr122
    obtain ⟨rfl, _⟩ := hr123
    change XL _ _ _ _ _ ((30, .agg #[iV x93.1, iV x93.2.1, iV x93.2.2.1, iV x93.2.2.2]) :: _) _
    refine zs (t := ty6) (args := [.tmp 30]) (xs := ([(x93.1, x93.2.1, x93.2.2.1, x93.2.2.2)] : List (Int × Int × Int × Int))) H91 (BltL.cons (Blt.pair (Blt.int) (Blt.pair (Blt.int) (Blt.pair (Blt.int) (Blt.int)))) q (BltL.nil)) u49 j43 q q q q q q (fun v125 w126 H127 => ?_)
    have H129 := H127.p8
    obtain ⟨x130, hx131, hs50⟩ := D hs50
    refine zw H129 hS1 hx131 u49 j43 q q q q q q (fun v132 w133 H134 => ?_)
    refine qA q q q <| WL_nil fun a ha => ?_
    refine zi (X (S ?_ ha))
    refine Z <| qM q q q <| A q (qt_add q q) q q <| qA q q q <| WL_nil fun a ha => ?_
    obtain rfl := L hs50
    have H136 := H134.q1.p8.p1.p8.p8.p8.p8.p8.p8.p8
    exact ⟨q, v132, ha.sub ⟨q, q, q, q, q, q, trivial⟩, H136⟩
   have hs50 := if_f hc92 hs50
   refine WP_skip fun a ha => ?_
   refine zi (X (S ?_ ha))
   refine Z <| qM q q q <| A q (qt_add q q) q q <| qA q q q <| WL_nil fun a ha => ?_
   obtain rfl := L hs50
   have H137 := H91.p8.p8.p8.p8.p8.p8.p8.p8.p8
   exact ⟨q, vs42, ha.sub ⟨q, q, q, q, q, q, trivial⟩, H137⟩
  have hs50 := if_f hc54 hs50
  refine WP_exit fun a ha => ?_
  obtain rfl := L hs50
  have H138 := H53.q8.p7.p7.p7.p7.p7.p7.p7.p7
  exact zo (⟨exit_ne, q, vs42, ha.sub ⟨q, q, q, q, trivial⟩, H138⟩)
 intro e a46 w139 hO140
 obtain ⟨p141, rfl⟩ : ∃ z, z = o44 := ⟨o44, q⟩
 obtain ⟨rfl, hO143⟩ := hO140
 obtain ⟨vp141, ha, H142⟩ := hO143
 refine zn (X (S ?_ ha))
 refine C <| Z ?_
 have hB144 := R H142.p2
 refine zm (cs := [v10, v11, v12, iV x5.2.2.2.2.1, v13]) us27 uo27 il27 hB144 q q q ?_
 change XL _ _ _ _ _ ((33, .agg #[v10, v11, v12, iV x5.2.2.2.2.1, v13]) :: _) _
 refine qM q q q ?_
 have H145 := H142.p1
 refine zl (cs' := [v10, v11, v12, iV x5.2.2.2.2.1, v13]) H145 q il27 q (T (H145.ctx.sliceOne hR3) (T (H145.ctx.sliceOne hR4) (T (H145.ctx.sliceOne hR5) (T q (T (H145.ctx.sliceOne hR6) q))))) q q q (fun w146 H147 => ?_)
 refine qA q q q <| B <| W fun a ha => ?_
 obtain rfl := L h
 have hB149 := R H147.p0
 have H150 := H147.q0.q1.p5.p5.p5.p5.p5
 exact retct q ha q q (run_loadVar_bx (cs := [v10, v11, v12, iV x5.2.2.2.2.1, v13]) us27 uo27 il27 hB149) ⟨v10, v11, v12, v13, vp141, q, H150⟩
theorem w_spec_DrawJournalText (w : World) (G : List Res) (vp0 : Value) (p0 : List Int) (hp0 : HasRo G (.int .u8) vp0 p0) (r : (List (Int × Int × Int × Int))) (h : spec_DrawJournalTextS p0 = some r) (H : Ctx w G) : Calls Tryd.prog 26 #[vp0] w fun e w' => ∃ (v1 : Value), e = .returned (v1) ∧ Holds M0 w w' [.sl 43 ty6 v1 r] G := by
 have H : Holds M0 w w [] G := zb H
 refine zg (args := [vp0]) (n := 20) Tryd.func26 q q q ?_
 unfold spec_DrawJournalTextS at h
 refine rR <| qA q q q <| rN <| qM q q q ?_
 obtain ⟨x1, hx2, h⟩ := D h
 refine zd q q c32 (w_spec_l20Open w G vp0 p0 (hp0) x1 hx2 H.ctx) (by rfl) ?_
 rintro _ w3 ⟨v5, b6, rfl, H4⟩; refine ⟨_, q, ?_⟩
 have H7 := H.cN2 [] H4
 refine qA q q q <| rN <| qM q q q ?_
 have H10 := H7.p1
 obtain ⟨x8, hx9, h⟩ := D h
 refine zd q q c57 (w_spec_l20Written w3 _ b6 v5 x1.1 hR0 x1.2 x8 hx9 H10.ctx) (by rfl) ?_
 rintro _ w11 ⟨v13, v14, v15, v16, v17, rfl, H12⟩; refine ⟨_, q, ?_⟩
 have H18 : Holds _ w w11 [.ro ty7 v13 x8.2.1.1, .ro tI v14 x8.2.1.2.1, .ro tI v15 x8.2.1.2.2.1, .ro ty8 v16 x8.2.1.2.2.2.2, .sl 43 ty6 v17 x8.2.2, .bx b6 104 [v5, iV x8.1], .ro (.int .u8) v5 x1.1] G := H10.calledN (Rs := [_]) H12
 refine qM q q q <| A q (zv q q) q q <| A q (zv q q) q q ?_
 refine zq (cs := [nS, nS, nS, iV 0, nS]) H18 z27 q q q (fun b19 w20 H21 => ?_)
 refine zl (cs' := [v13, v14, v15, iV x8.2.1.2.2.2.1, v16]) H21 q il27 q (T (H21.ctx.sliceOne hR1) (T (H21.ctx.sliceOne hR2) (T (H21.ctx.sliceOne hR3) (T q (T (H21.ctx.sliceOne hR4) q))))) q q q (fun w23 H24 => ?_)
 refine qA q q q <| B <| C <| rR <| qM q q q ?_
 have H28 := H24.p6
 obtain ⟨x26, hx27, h⟩ := D h
 refine zd q q c46 (w_spec_l20Rd__odd w23 _ b6 v5 x1.1 hR6 x8.1 12 x26 hx27 H28.ctx) (by rfl) ?_
 rintro _ w29 ⟨rfl, H30⟩; refine ⟨_, q, ?_⟩
 have H31 := H28.cN1 [_] H30
 refine B ?_
 obtain ⟨o33, ho34, h⟩ := D h
 obtain ⟨j32, rfl⟩ : ∃ z, z = o33 := ⟨o33, q⟩
 refine WP_join (M := fun a w2 => ∃ vj32, Fr a 20 [(5, vj32)] ∧ Holds M0 w w2 [.sl 43 ty6 vj32 j32] G) ?_ ?_
 ·refine Y q (fun hc35 => ?_) (fun hc35 => ?_)
  ·have ho34 := if_t hc35 ho34
   refine Z <| qM q q q <| A q (qt_build (args := [(0, .const (iV 9))]) (css := [#[iV 9]]) (cells := #[iV 9, iV 0, iV 0, iV 0]) q ⟨q, trivial⟩ (by kernel_rfl)) q q ?_
   refine zs (t := ty6) (args := [.tmp 16]) (xs := ([(9, 0, 0, 0)] : List (Int × Int × Int × Int))) H31 (BltL.cons (Blt.pair (Blt.int) (Blt.pair (Blt.int) (Blt.pair (Blt.int) (Blt.int)))) q (BltL.nil)) u49 j43 q q q q q q (fun v36 w37 H38 => ?_)
   have H40 := H38.p7
   obtain ⟨x41, hx42, ho34⟩ := D ho34
   refine zw H40 hS1 hx42 u49 j43 q q q q q q (fun v43 w44 H45 => ?_)
   refine qA q q q <| WL_nil fun a ha => ?_
   obtain rfl := L ho34
   have H47 := H45.q1.q1.q1.q1.q1.q1.q1.q1
   exact X (⟨v43, ha.sub ⟨q, trivial⟩, H47⟩)
  have ho34 := if_f hc35 ho34
  refine WP_skip fun a ha => ?_
  obtain rfl := L ho34
  have H48 := H31.q0.q0.q0.q0.q0.q0.q1
  exact X (⟨v17, ha.sub ⟨q, trivial⟩, H48⟩)
 intro a w49 hI50
 obtain ⟨vj32, ha, H51⟩ := hI50
 refine S ?_ ha
 clear ha
 refine rR <| qM q q q <| qA q q q <| B <| W fun a ha => ?_
 obtain rfl := L h
 exact ret1 q ha q ⟨vj32, q, H51⟩
theorem w_laws_sameDeeds (w : World) (G : List Res) (vp0 : Value) (p0 : List (Int × Int × Int × Int)) (hp0 : Has G ty6 vp0 p0) (vp1 : Value) (p1 : List (Int × Int × Int × Int)) (hp1 : Has G ty6 vp1 p1) (r : Bool) (h : laws_sameDeedsS p0 p1 = some r) (H : Ctx w G) : Calls Tryd.prog 30 #[vp0, vp1] w fun e w' => e = .returned (.bool r) ∧ Holds M0 w w' [] G := by
 have H : Holds M0 w w [] G := zb H
 refine zg (args := [vp0, vp1]) (n := 26) Tryd.func30 q q q ?_
 unfold laws_sameDeedsS at h
 refine rR <| qA q q q <| B <| C <| rR <| qM q q q <| za H.ctx (t := ty6) (hp0) u49 q q q <| qM q q q ?_
 refine za H.ctx (t := ty6) (hp1) u49 q q q <| A q (qt_neq q q) q q <| B ?_
 refine Y q (fun hc1 => ?_) (fun hc1 => ?_)
 ·have h := if_t hc1 h
  refine rR <| qA q q q <| B <| W fun a ha => ?_
  obtain rfl := L h
  exact m (ret1 q ha q ⟨q, H⟩)
 have h := if_f hc1 h
 refine y <| C <| rR <| qA q q q <| B <| g ?_
 obtain ⟨o3, ho4, h⟩ := D h
 refine fun a5 ha6 => zp (I := fun s a w2 => match s with | s2 => (Fr a 26 [(0, vp0), (1, vp1), (5, iV s2)] ∧ Holds M0 w w2 [] G)) (O := fun o e a w2 => match o with | .inl _ => e = .exit 0 ∧ (Fr a 26 [] ∧ Holds M0 w w2 [] G) | .inr q0 => e = .ret ∧ (Fr a 26 [(4, .bool q0)] ∧ Holds M0 w w2 [] G)) ho4 ?_ ?_ ?_
 ·exact ⟨ha6.sub ⟨q, q, q, trivial⟩, H⟩
 ·clear ha6
  intro s o9 a w7 hs8 hI10
  obtain ⟨s2, rfl⟩ : ∃ z, z = s := ⟨s, q⟩
  obtain ⟨ha, H11⟩ := hI10
  refine S ?_ ha
  clear ha
  refine C <| rR <| qM q q q <| qM q q q <| za H11.ctx (t := ty6) (hp0) u49 q q q <| A q (qt_lss q q) q q <| B ?_
  refine Y q (fun hc12 => ?_) (fun hc12 => ?_)
  ·have hs8 := if_t hc12 hs8
   refine y <| C <| g <| C <| WP_quiet (by kernel_rfl) (by kernel_rfl) <| qM q q q <| qM q q q ?_
   obtain ⟨x13, hx14, hs8⟩ := D hs8
   refine b H11.ctx (hp0) hx14 u49 i43 q q q q (fun b15 off16 cap17 hv18 => ?_)
   obtain ⟨F19, hat20, hdup21⟩ := H11.atN (hp0) hx14 hv18
   refine XL_load_agg (t := ty6) us43 uo43 i43 hat20 q q q (fun cs22 hr23 => ?_)
   obtain ⟨c24, c25, F26, F27, rfl, eF30, hr28, hr29⟩ := hr23
   obtain ⟨rfl, _⟩ := hr28
   obtain ⟨c31, c32, F33, F34, rfl, eF37, hr35, hr36⟩ := hr29
   obtain ⟨rfl, _⟩ := hr35
   obtain ⟨c38, c39, F40, F41, rfl, eF44, hr42, hr43⟩ := hr36
   obtain ⟨rfl, _⟩ := hr42
   obtain ⟨rfl, _⟩ := hr43
   change XL _ _ _ _ _ ((20, .agg #[iV x13.1, iV x13.2.1, iV x13.2.2.1, iV x13.2.2.2]) :: _) _
   refine qM q q q <| qM q q q ?_
   obtain ⟨x45, hx46, hs8⟩ := D hs8
   refine b H11.ctx (hp1) hx46 u49 i43 q q q q (fun b47 off48 cap49 hv50 => ?_)
   obtain ⟨F51, hat52, hdup53⟩ := H11.atN (hp1) hx46 hv50
   refine XL_load_agg (t := ty6) us43 uo43 i43 hat52 q q q (fun cs54 hr55 => ?_)
   obtain ⟨c56, c57, F58, F59, rfl, eF62, hr60, hr61⟩ := hr55
   obtain ⟨rfl, _⟩ := hr60
   obtain ⟨c63, c64, F65, F66, rfl, eF69, hr67, hr68⟩ := hr61
   obtain ⟨rfl, _⟩ := hr67
   obtain ⟨c70, c71, F72, F73, rfl, eF76, hr74, hr75⟩ := hr68
   obtain ⟨rfl, _⟩ := hr74
   obtain ⟨rfl, _⟩ := hr75
   change XL _ _ _ _ _ ((24, .agg #[iV x45.1, iV x45.2.1, iV x45.2.2.1, iV x45.2.2.2]) :: _) _
   refine A q (qt_neqA q q (by kernel_rfl) (eqs43 x13.1 x45.1 x13.2.1 x45.2.1 x13.2.2.1 x45.2.2.1 x13.2.2.2 x45.2.2.2)) q q <| QL_nil fun a ha w77 hb78 => ?_
   have H79 := H11.grow hb78
   refine X (S ?_ ha)
   refine Y q (fun hc80 => ?_) (fun hc80 => ?_)
   ·have hs8 := if_t hc80 hs8
    refine rR <| qA q q q <| B <| W fun a ha => ?_
    obtain rfl := L hs8
    exact zj (m (⟨ret_ne, q, ha.sub ⟨q, trivial⟩, H79⟩))
   have hs8 := if_f hc80 hs8
   refine WP_skip fun a ha => ?_
   refine zi (X (S ?_ ha))
   refine Z <| qM q q q <| A q (qt_add q q) q q <| qA q q q <| WL_nil fun a ha => ?_
   obtain rfl := L hs8
   exact ⟨q, ha.sub ⟨q, q, q, trivial⟩, H79⟩
  have hs8 := if_f hc12 hs8
  refine WP_exit fun a ha => ?_
  obtain rfl := L hs8
  exact zo (⟨exit_ne, q, ha.sub trivial, H11⟩)
 intro e a5 w81 hO82
 rcases o3 with o3 | o3
 ·skip
  obtain ⟨rfl, hO84⟩ := hO82
  obtain ⟨ha, H83⟩ := hO84
  refine zn (X (S ?_ ha))
  refine rR <| qA q q q <| B <| W fun a ha => ?_
  obtain rfl := L h
  exact ret1 q ha q ⟨q, H83⟩
 skip
 obtain ⟨p85, rfl⟩ : ∃ z, z = o3 := ⟨o3, q⟩
 obtain ⟨rfl, hO87⟩ := hO82
 obtain ⟨ha, H86⟩ := hO87
 obtain rfl := L h
 exact zj (m (ret1 q ha q ⟨q, H86⟩))
theorem w_spec_JournalText (w : World) (G : List Res) (vp0 : Value) (p0 : List (Int × Int × Int × Int)) (hp0 : Has G ty6 vp0 p0) (r : (List UInt8)) (h : spec_JournalTextS p0 = some r) (H : Ctx w G) : Calls Tryd.prog 28 #[vp0] w fun e w' => e = .returned (strV r) ∧ Holds M0 w w' [] G := by
 have H : Holds M0 w w [] G := zb H
 refine zg (args := [vp0]) (n := 26) Tryd.func28 q q q ?_
 unfold spec_JournalTextS at h
 refine rR <| qA q q q <| rN <| qA q q q <| B <| C <| C ?_
 refine Z <| qA q q q <| B <| g ?_
 obtain ⟨o3, ho4, h⟩ := D h
 refine fun a5 ha6 => zp (I := fun s a w2 => match s with | (s1, s2) => (Fr a 26 [(0, vp0), (3, strV s1), (4, iV s2)] ∧ Holds M0 w w2 [] G)) (O := fun o e a w2 => match o with | .inl q0 => e = .exit 0 ∧ (Fr a 26 [(3, strV q0)] ∧ Holds M0 w w2 [] G) | .inr q0 => e = .ret ∧ (Fr a 26 [(2, strV q0)] ∧ Holds M0 w w2 [] G)) ho4 ?_ ?_ ?_
 ·exact ⟨ha6.sub ⟨q, q, q, trivial⟩, H⟩
 ·clear ha6
  intro s o9 a w7 hs8 hI10
  obtain ⟨s1, s2⟩ := s
  obtain ⟨ha, H11⟩ := hI10
  refine S ?_ ha
  clear ha
  refine C <| rR <| qM q q q <| qM q q q <| za H11.ctx (t := ty6) (hp0) u49 q q q <| A q (qt_lss q q) q q <| B ?_
  refine Y q (fun hc12 => ?_) (fun hc12 => ?_)
  ·have hs8 := if_t hc12 hs8
   refine y <| C <| g <| C <| C <| zk <| qM q q q <| qM q q q ?_
   obtain ⟨x13, hx14, hs8⟩ := D hs8
   refine b H11.ctx (hp0) hx14 u49 i43 q q q q (fun b15 off16 cap17 hv18 => ?_)
   obtain ⟨F19, hat20, hdup21⟩ := H11.atN (hp0) hx14 hv18
   refine XL_load_agg (t := ty6) us43 uo43 i43 hat20 q q q (fun cs22 hr23 => ?_)
   obtain ⟨c24, c25, F26, F27, rfl, eF30, hr28, hr29⟩ := hr23
   obtain ⟨rfl, _⟩ := hr28
   obtain ⟨c31, c32, F33, F34, rfl, eF37, hr35, hr36⟩ := hr29
   obtain ⟨rfl, _⟩ := hr35
   obtain ⟨c38, c39, F40, F41, rfl, eF44, hr42, hr43⟩ := hr36
   obtain ⟨rfl, _⟩ := hr42
   obtain ⟨rfl, _⟩ := hr43
   change XL _ _ _ _ _ ((14, .agg #[iV x13.1, iV x13.2.1, iV x13.2.2.1, iV x13.2.2.2]) :: _) _
   obtain ⟨x45, hx46, hs8⟩ := D hs8
   refine QC q q c22 (fun w' hb => w_spec_DeedText w' G x13.1 x13.2.1 x13.2.2.1 x13.2.2.2 x45 hx46 (H11.grow hb).ctx) (by rfl) <| A q (qt_seql q q) q q <| QL_nil fun a ha w47 hb48 => ?_
   have H49 := H11.grow hb48
   refine X (S ?_ ha)
   refine Y q (fun hc50 => ?_) (fun hc50 => ?_)
   ·have hs8 := if_t hc50 hs8
    refine rR <| qA q q q <| B <| W fun a ha => ?_
    obtain rfl := L hs8
    exact m (zj (m (⟨ret_ne, q, ha.sub ⟨q, trivial⟩, H49⟩)))
   have hs8 := if_f hc50 hs8
   refine y <| zk <| qM q q q <| qM q q q <| qM q q q ?_
   obtain ⟨x51, hx52, hs8⟩ := D hs8
   refine b H49.ctx (hp0) hx52 u49 i43 q q q q (fun b53 off54 cap55 hv56 => ?_)
   obtain ⟨F57, hat58, hdup59⟩ := H49.atN (hp0) hx52 hv56
   refine XL_load_agg (t := ty6) us43 uo43 i43 hat58 q q q (fun cs60 hr61 => ?_)
   obtain ⟨c62, c63, F64, F65, rfl, eF68, hr66, hr67⟩ := hr61
   obtain ⟨rfl, _⟩ := hr66
   obtain ⟨c69, c70, F71, F72, rfl, eF75, hr73, hr74⟩ := hr67
   obtain ⟨rfl, _⟩ := hr73
   obtain ⟨c76, c77, F78, F79, rfl, eF82, hr80, hr81⟩ := hr74
   obtain ⟨rfl, _⟩ := hr80
   obtain ⟨rfl, _⟩ := hr81
   change XL _ _ _ _ _ ((21, .agg #[iV x51.1, iV x51.2.1, iV x51.2.2.1, iV x51.2.2.2]) :: _) _
   obtain ⟨x83, hx84, hs8⟩ := D hs8
   refine QC q q c22 (fun w' hb => w_spec_DeedText w' G x51.1 x51.2.1 x51.2.2.1 x51.2.2.2 x83 hx84 (H49.grow hb).ctx) (by rfl) ?_
   obtain ⟨x85, hx86, hs8⟩ := D hs8
   refine A q (qt_sadd q q hx86) q q ?_
   obtain ⟨x87, hx88, hs8⟩ := D hs8
   refine A q (qt_sadd q q hx88) q q <| qA q q q <| QL_nil fun a ha w89 hb90 => ?_
   have H91 := H49.grow hb90
   refine zi (X (S ?_ ha))
   refine Z <| qM q q q <| A q (qt_add q q) q q <| qA q q q <| WL_nil fun a ha => ?_
   obtain rfl := L hs8
   exact ⟨q, ha.sub ⟨q, q, q, trivial⟩, H91⟩
  have hs8 := if_f hc12 hs8
  refine WP_exit fun a ha => ?_
  obtain rfl := L hs8
  exact zo (⟨exit_ne, q, ha.sub ⟨q, trivial⟩, H11⟩)
 intro e a5 w92 hO93
 rcases o3 with o3 | o3
 ·skip
  obtain ⟨p94, rfl⟩ : ∃ z, z = o3 := ⟨o3, q⟩
  obtain ⟨rfl, hO96⟩ := hO93
  obtain ⟨ha, H95⟩ := hO96
  refine zn (X (S ?_ ha))
  refine rR <| qM q q q <| qA q q q <| B <| W fun a ha => ?_
  obtain rfl := L h
  exact ret1 q ha q ⟨q, H95⟩
 skip
 obtain ⟨p97, rfl⟩ : ∃ z, z = o3 := ⟨o3, q⟩
 obtain ⟨rfl, hO99⟩ := hO93
 obtain ⟨ha, H98⟩ := hO99
 obtain rfl := L h
 exact zj (m (ret1 q ha q ⟨q, H98⟩))
end Go.Proofs.YthofjabphcheeaaDoor
