/- The walks: each Go function computes its shallow function. Printed by a program. -/
import Derived.Test.YthofjabphcheeaaDoorWS7T7
set_option linter.unusedVariables false
set_option maxRecDepth 10000
namespace Go.Proofs.YthofjabphcheeaaDoor
open Go Go.RowKit
theorem w_spec_DrawDeedText (w : World) (G : List Res) (vp0 : Value) (p0 : List Int) (hp0 : HasRo G (.int .u8) vp0 p0) (r : (Int × Int × Int × Int)) (h : spec_DrawDeedTextS p0 = some r) (H : Ctx w G) : Calls Tryd.prog 20 #[vp0] w fun e w' => e = .returned (.agg #[iV r.1, iV r.2.1, iV r.2.2.1, iV r.2.2.2]) ∧ Holds M0 w w' [] G := by
 have H : Holds M0 w w [] G := zb H
 refine zg (args := [vp0]) (n := 17) Tryd.func20 q q q ?_
 unfold spec_DrawDeedTextS at h
 refine C <| Z ?_
 refine zq (cs := [iV 0, iV 0, iV 0, iV 0]) H z43 q q q (fun b1 w2 H3 => ?_)
 refine rN <| qM q q q ?_
 obtain ⟨x5, hx6, h⟩ := D h
 refine zd q q c32 (w_spec_l20Open w2 _ vp0 p0 (hp0.c) x5 hx6 H3.ctx) (by rfl) ?_
 rintro _ w7 ⟨v9, b10, rfl, H8⟩; refine ⟨_, q, ?_⟩
 have H11 := H3.cN2 [] H8
 refine qA q q q <| rN <| qM q q q <| qM q q q ?_
 have H14 := H11.p1
 obtain ⟨x12, hx13, h⟩ := D h
 refine zd q q c31 (w_spec_l20House w7 _ b10 v9 x5.1 hR0 x5.2 0 x12 hx13 H14.ctx) (by rfl) ?_
 rintro _ w15 ⟨v17, v18, v19, v20, rfl, H16⟩; refine ⟨_, q, ?_⟩
 have H21 := H14.cN5 [_] H16
 have H24 := H21.p4
 obtain ⟨x22, hx23, h⟩ := D h
 refine zd q q c45 (w_spec_l20HouseDeed w15 _ b10 v9 x5.1 hR4 x12.1 v17 x12.2.1 hS0 v18 x12.2.2.1 hS1 v19 x12.2.2.2.1 hS2 x12.2.2.2.2.1 v20 x12.2.2.2.2.2 hS3 x22 hx23 H24.ctx) (by rfl) ?_
 rintro _ w25 ⟨rfl, H26⟩; refine ⟨_, q, ?_⟩
 have H27 := H24.cN1 [_] H26
 refine zq (cs := [iV 0, iV 0, iV 0, iV 0]) H27 z43 q q q (fun b28 w29 H30 => ?_)
 refine zl (cs' := [iV x22.2.1, iV x22.2.2.1, iV x22.2.2.2.1, iV x22.2.2.2.2]) H30 q il43 q q q q q (fun w32 H33 => ?_)
 refine B <| C <| rR <| qM q q q ?_
 have H37 := H33.p1
 obtain ⟨x35, hx36, h⟩ := D h
 refine zd q q c46 (w_spec_l20Rd__odd w32 _ b10 v9 x5.1 hR5 x22.1 9 x35 hx36 H37.ctx) (by rfl) ?_
 rintro _ w38 ⟨rfl, H39⟩; refine ⟨_, q, ?_⟩
 have H40 := H37.cN1 [_] H39
 refine B ?_
 obtain ⟨o42, ho43, h⟩ := D h
 obtain ⟨j41, rfl⟩ : ∃ z, z = o42 := ⟨o42, q⟩
 refine WP_join (M := fun a w2 => (Fr a 17 [(2, pB b1), (4, pB b28)] ∧ Holds M0 w w2 [.bx b1 43 [iV 0, iV 0, iV 0, iV 0], .bx b28 43 [iV x22.2.1, iV x22.2.2.1, iV x22.2.2.2.1, iV j41]] G)) ?_ ?_
 ·refine Y q (fun hc44 => ?_) (fun hc44 => ?_)
  ·have ho43 := if_t hc44 ho43
   refine Z <| qM q q q ?_
   obtain ⟨x45, hx46, ho43⟩ := D ho43
   refine zd q q c44 (w_spec_l20Rd__pick w38 _ b10 v9 x5.1 hR5 x35.1 3 x45 hx46 H40.ctx) (by rfl) ?_
   rintro _ w47 ⟨rfl, H48⟩; refine ⟨_, q, ?_⟩
   have H49 := H40.cN1 [_] H48
   refine qF uf43 fi43_3 nz3 q q q ?_
   have H50 := H49.p1
   refine WL_store_bx H50 q il3 q q q q q (fun w51 H52 => ?_)
   refine WL_nil fun a ha => ?_
   obtain rfl := L ho43
   have H54 := H52.q1.q1.q1.q1.q1.q1.p1
   exact X (⟨ha.sub ⟨q, q, trivial⟩, H54⟩)
  have ho43 := if_f hc44 ho43
  refine WP_skip fun a ha => ?_
  obtain rfl := L ho43
  have H55 := H40.q0.q1.q1.q1.q1.q1.p1
  exact X (⟨ha.sub ⟨q, q, trivial⟩, H55⟩)
 intro a w56 hI57
 obtain ⟨ha, H58⟩ := hI57
 refine S ?_ ha
 clear ha
 refine C <| Z ?_
 have hB59 := R H58.p1
 refine zm (cs := [iV x22.2.1, iV x22.2.2.1, iV x22.2.2.2.1, iV j41]) us43 uo43 il43 hB59 q q q ?_
 change XL _ _ _ _ _ ((16, .agg #[iV x22.2.1, iV x22.2.2.1, iV x22.2.2.2.1, iV j41]) :: _) _
 refine zl (cs' := [iV x22.2.1, iV x22.2.2.1, iV x22.2.2.2.1, iV j41]) H58 q il43 q q q q q (fun w60 H61 => ?_)
 refine B <| W fun a ha => ?_
 obtain rfl := L h
 have hB63 := R H61.p0
 have H64 := H61.q0.q0
 exact retc q ha q (run_loadVar_bx (cs := [iV x22.2.1, iV x22.2.2.1, iV x22.2.2.2.1, iV j41]) us43 uo43 il43 hB63) ⟨q, H64⟩
theorem w_impl_onlyNamed (w : World) (G : List Res) (hGl : Glob G) (B0 : Int) (B1 : Int) (B2 : Int) (B3 : Int) (r : Bool) (h : impl_onlyNamedS B0 B1 B2 B3 = some r) (H : Ctx w G) : Calls Tryd.prog 47 #[.agg #[iV B0, iV B1, iV B2, iV B3]] w fun e w' => e = .returned (.bool r) ∧ Holds M0 w w' [] G := by
 have H : Holds M0 w w [] G := zb H
 refine zg (args := [.agg #[iV B0, iV B1, iV B2, iV B3]]) (n := 34) Tryd.func47 q q q ?_
 unfold impl_onlyNamedS at h
 refine C <| Z ?_
 refine WL_box (cs := [iV B0, iV B1, iV B2, iV B3]) H q q q q (fun b1 w2 H3 => ?_)
 refine qA q q q <| B <| C <| rR <| qF uf43 fi43_0 nz3 q q q ?_
 have hB5 := R H3.p0
 refine l u3 q hB5 q q q q <| A q (qt_lss q q) q q <| qM q q q ?_
 refine zh 4 13 (.bool ((decide (B0 < 0)) || (decide (B0 > 5)))) ?_ (fun md hmd hk => ?_)
 rotate_left
 ·obtain ⟨Q, rfl⟩ := Md.seq_of hmd
  rcases btf (decide (B0 < 0)) with hc6 | hc6
  ·skip
   refine qS q hc6 q q <| qS q hc6 q q <| qS q hc6 q q <| A q (ze q hc6 q) q q ?_
   exact hk _ (p (by rw [hc6]; rfl) (cfn 3 q (u)))
  skip
  refine qF uf43 fi43_0 nz3 (J q hc6) q q ?_
  have hB7 := R H3.p0
  refine l u3 q hB7 q (J q hc6) q q <| A (J q hc6) (qt_gtr q q) q q <| A q (zf q hc6 q) q q ?_
  exact hk _ (p (by rw [hc6]; rfl) (cfn 3 q (u)))
 refine B ?_
 refine Y q (fun hc8 => ?_) (fun hc8 => ?_)
 ·have h := if_t hc8 h
  refine rR <| qA q q q <| B <| W fun a ha => ?_
  obtain rfl := L h
  have H9 := H3.q0
  exact m (ret1 q ha q ⟨q, H9⟩)
 have h := if_f hc8 h
 refine y <| rR <| qF uf43 fi43_1 nz3 q q q ?_
 have hB10 := R H3.p0
 refine l u3 q hB10 q q q q <| qF uf43 fi43_2 nz3 q q q ?_
 have hB11 := R H3.p0
 refine l u3 q hB11 q q q q <| qF uf43 fi43_3 nz3 q q q ?_
 have hB12 := R H3.p0
 refine l u3 q hB12 q q q q <| A q (qt_build (args := [(0, .tmp 15), (1, .tmp 17), (2, .tmp 19)]) (css := [#[iV B1], #[iV B2], #[iV B3]]) (cells := #[iV B1, iV B2, iV B3]) q ⟨q, q, q, trivial⟩ (by kernel_rfl)) q q ?_
 refine zq (cs := [iV 0, iV 0, iV 0]) H3 z75 q q q (fun b13 w14 H15 => ?_)
 refine zl (cs' := [iV B1, iV B2, iV B3]) H15 q il75 q q q q q (fun w17 H18 => ?_)
 have H20 : Holds _ w w17 [.sl 75 tI (.slice (some ⟨b13, 0, none⟩) 3 3) ([B1, B2, B3] : List Int), .bx b1 43 [iV B0, iV B1, iV B2, iV B3]] G := Holds.bx_sl (t := tI) (xs := [B1, B2, B3]) H18 (fun _ => ⟨[_], _, [], [], q, q, ⟨q, q⟩, ⟨[_], _, [], [], q, q, ⟨q, q⟩, ⟨[_], _, [], [], q, q, ⟨q, q⟩, ⟨q, q⟩⟩⟩⟩) q q
 refine B <| C <| rR <| qF uf43 fi43_0 nz3 q q q ?_
 have hB21 := R H20.p1
 refine l u3 q hB21 q q q q ?_
 obtain ⟨x22, hx23, h⟩ := D h
 refine XL_indexA H20.ctx (hGl.2.c.c.has) q hx23 u77 i3 q q q q (fun b24 off25 cap26 hv27 => ?_)
 obtain ⟨F28, hat29, hdup30⟩ := H20.at (hGl.2.c.c.has) hx23 hv27
 refine zt (k := .i64) u3 q hat29 q q q ?_
 obtain ⟨x31, hx32, h⟩ := D h
 refine XL_sliceA H20.ctx hS0 q hx32 u75 i3 ⟨_, q⟩ q q q q <| za H20.ctx (t := tI) (Has.sub hS0 hx32) u24 q q q <| qM q q q <| B <| g ?_
 obtain ⟨o34, ho35, h⟩ := D h
 have H38 := H20.q1
 refine fun a36 ha37 => zp (I := fun s a w2 => match s with | s33 => (Fr a 34 [(25, (subV (Ty.size tI) (.slice (some ⟨b13, 0, none⟩) 3 3) (Int.toNat x22) (Int.toNat (List.length ([B1, B2, B3] : List Int) : Int)))), (26, iV (List.length x31 : Int)), (27, iV s33)] ∧ Holds M0 w w2 [.sl 75 tI (.slice (some ⟨b13, 0, none⟩) 3 3) ([B1, B2, B3] : List Int)] G)) (O := fun o e a w2 => match o with | .inl _ => e = .exit 0 ∧ (Fr a 34 [] ∧ Holds M0 w w2 [] G) | .inr q0 => e = .ret ∧ (Fr a 34 [(2, .bool q0)] ∧ Holds M0 w w2 [] G)) ho35 ?_ ?_ ?_
 ·exact ⟨ha37.sub ⟨q, q, q, trivial⟩, H38⟩
 ·clear ha37
  intro s o41 a w39 hs40 hI42
  obtain ⟨s33, rfl⟩ : ∃ z, z = s := ⟨s, q⟩
  obtain ⟨ha, H43⟩ := hI42
  refine S ?_ ha
  clear ha
  refine rR <| A q (qt_lss q q) q q <| B <| C ?_
  refine Y q (fun hc44 => ?_) (fun hc44 => ?_)
  ·have hs40 := if_t hc44 hs40
   refine y <| C <| g <| C <| Z ?_
   obtain ⟨x45, hx46, hs40⟩ := D hs40
   refine b H43.ctx (Has.sub hS0 hx32) hx46 u24 i3 q q q q (fun b47 off48 cap49 hv50 => ?_)
   obtain ⟨F51, hat52, hdup53⟩ := H43.at (Has.sub hS0 hx32) hx46 hv50
   refine zt (k := .i64) u3 q hat52 q q q <| qA q q q <| rN <| qM q q q <| A q (qt_neq q q) q q <| B ?_
   refine Y q (fun hc54 => ?_) (fun hc54 => ?_)
   ·have hs40 := if_t hc54 hs40
    refine rR <| qA q q q <| B <| W fun a ha => ?_
    obtain rfl := L hs40
    have H55 := H43.q0
    exact zj (m (⟨ret_ne, q, ha.sub ⟨q, trivial⟩, H55⟩))
   have hs40 := if_f hc54 hs40
   refine WP_skip fun a ha => ?_
   refine zi (X (S ?_ ha))
   refine Z <| A q (qt_add q q) q q <| qM q q q <| WL_nil fun a ha => ?_
   obtain rfl := L hs40
   exact ⟨q, ha.sub ⟨q, q, q, trivial⟩, H43⟩
  have hs40 := if_f hc44 hs40
  refine WP_exit fun a ha => ?_
  obtain rfl := L hs40
  have H56 := H43.q0
  exact zo (⟨exit_ne, q, ha.sub trivial, H56⟩)
 intro e a36 w57 hO58
 rcases o34 with o34 | o34
 ·skip
  obtain ⟨rfl, hO60⟩ := hO58
  obtain ⟨ha, H59⟩ := hO60
  refine zn (X (S ?_ ha))
  refine rR <| qA q q q <| B <| W fun a ha => ?_
  obtain rfl := L h
  exact ret1 q ha q ⟨q, H59⟩
 skip
 obtain ⟨p61, rfl⟩ : ∃ z, z = o34 := ⟨o34, q⟩
 obtain ⟨rfl, hO63⟩ := hO58
 obtain ⟨ha, H62⟩ := hO63
 obtain rfl := L h
 exact zj (m (ret1 q ha q ⟨q, H62⟩))
theorem w_impl_DeedText (w : World) (G : List Res) (hGl : Glob G) (hGp : GlobP G) (B0 : Int) (B1 : Int) (B2 : Int) (B3 : Int) (r : (List UInt8)) (h : impl_DeedTextS B0 B1 B2 B3 = some r) (H : Ctx w G) : Calls Tryd.prog 21 #[.agg #[iV B0, iV B1, iV B2, iV B3]] w fun e w' => e = .returned (strV r) ∧ Holds M0 w w' [] G := by
 have H : Holds M0 w w [] G := zb H
 refine zg (args := [.agg #[iV B0, iV B1, iV B2, iV B3]]) (n := 44) Tryd.func21 q q q ?_
 unfold impl_DeedTextS at h
 refine C <| Z ?_
 refine WL_box (cs := [iV B0, iV B1, iV B2, iV B3]) H q q q q (fun b1 w2 H3 => ?_)
 refine qA q q q <| B <| C <| C <| zk ?_
 have hB5 := R H3.p0
 refine zm (cs := [iV B0, iV B1, iV B2, iV B3]) us43 uo43 il43 hB5 q q q ?_
 change XL _ _ _ _ _ ((7, .agg #[iV B0, iV B1, iV B2, iV B3]) :: _) _
 obtain ⟨x6, hx7, h⟩ := D h
 refine QC q q c47 (fun w' hb => w_impl_onlyNamed w' _ hGl.c B0 B1 B2 B3 x6 hx7 (H3.grow hb).ctx) (by rfl) <| A q (qt_not q) q q <| QL_nil fun a ha w8 hb9 => ?_
 have H10 := H3.grow hb9
 refine X (S ?_ ha)
 refine Y q (fun hc11 => ?_) (fun hc11 => ?_)
 ·have h := if_t hc11 h
  refine rR <| qA q q q <| B <| W fun a ha => ?_
  obtain rfl := L h
  have H12 := H10.q0
  exact m (ret1 q ha q ⟨q, H12⟩)
 have h := if_f hc11 h
 refine y <| rR <| qF uf43 fi43_1 nz3 q q q ?_
 have hB13 := R H10.p0
 refine l u3 q hB13 q q q q <| qF uf43 fi43_2 nz3 q q q ?_
 have hB14 := R H10.p0
 refine l u3 q hB14 q q q q <| qF uf43 fi43_3 nz3 q q q ?_
 have hB15 := R H10.p0
 refine l u3 q hB15 q q q q <| A q (qt_build (args := [(0, .tmp 11), (1, .tmp 13), (2, .tmp 15)]) (css := [#[iV B1], #[iV B2], #[iV B3]]) (cells := #[iV B1, iV B2, iV B3]) q ⟨q, q, q, trivial⟩ (by kernel_rfl)) q q ?_
 refine zq (cs := [iV 0, iV 0, iV 0]) H10 z75 q q q (fun b16 w17 H18 => ?_)
 refine zl (cs' := [iV B1, iV B2, iV B3]) H18 q il75 q q q q q (fun w20 H21 => ?_)
 have H23 : Holds _ w w20 [.sl 75 tI (.slice (some ⟨b16, 0, none⟩) 3 3) ([B1, B2, B3] : List Int), .bx b1 43 [iV B0, iV B1, iV B2, iV B3]] G := Holds.bx_sl (t := tI) (xs := [B1, B2, B3]) H21 (fun _ => ⟨[_], _, [], [], q, q, ⟨q, q⟩, ⟨[_], _, [], [], q, q, ⟨q, q⟩, ⟨[_], _, [], [], q, q, ⟨q, q⟩, ⟨q, q⟩⟩⟩⟩) q q
 refine rN <| qF uf43 fi43_0 nz3 q q q ?_
 have hB24 := R H23.p1
 refine l u3 q hB24 q q q q ?_
 obtain ⟨x25, hx26, h⟩ := D h
 refine XL_indexA H23.ctx (hGl.1.c.c.has) q hx26 u76 i9 q q q q (fun b27 off28 cap29 hv30 => ?_)
 obtain ⟨F31, hat32, hdup33⟩ := H23.at (hGl.1.c.c.has) hx26 hv30
 refine XL_load_str u9 q hat32 q q q <| qA q q q <| B <| C <| rR <| qF uf43 fi43_0 nz3 q q q ?_
 have hB34 := R H23.p1
 refine l u3 q hB34 q q q q ?_
 obtain ⟨x35, hx36, h⟩ := D h
 refine XL_indexA H23.ctx (hGl.2.c.c.has) q hx36 u77 i3 q q q q (fun b37 off38 cap39 hv40 => ?_)
 obtain ⟨F41, hat42, hdup43⟩ := H23.at (hGl.2.c.c.has) hx36 hv40
 refine zt (k := .i64) u3 q hat42 q q q ?_
 obtain ⟨x44, hx45, h⟩ := D h
 refine XL_sliceA H23.ctx hS0 q hx45 u75 i3 q ⟨_, q⟩ q q q <| za H23.ctx (t := tI) (Has.sub hS0 hx45) u24 q q q <| qM q q q <| B <| g ?_
 obtain ⟨o48, ho49, h⟩ := D h
 have H52 := H23.q1
 refine fun a50 ha51 => zp (I := fun s a w2 => match s with | (s46, s47) => (Fr a 44 [(4, strV s46), (25, (subV (Ty.size tI) (.slice (some ⟨b16, 0, none⟩) 3 3) (Int.toNat 0) (Int.toNat x35))), (26, iV (List.length x44 : Int)), (27, iV s47)] ∧ Holds M0 w w2 [.sl 75 tI (.slice (some ⟨b16, 0, none⟩) 3 3) ([B1, B2, B3] : List Int)] G)) (O := fun o e a w2 => match o with | .inl q0 => e = .exit 0 ∧ (Fr a 44 [(4, strV q0)] ∧ Holds M0 w w2 [] G) | .inr q0 => e = .ret ∧ (Fr a 44 [(2, strV q0)] ∧ Holds M0 w w2 [] G)) ho49 ?_ ?_ ?_
 ·exact ⟨ha51.sub ⟨q, q, q, q, trivial⟩, H52⟩
 ·clear ha51
  intro s o55 a w53 hs54 hI56
  obtain ⟨s46, s47⟩ := s
  obtain ⟨ha, H57⟩ := hI56
  refine S ?_ ha
  clear ha
  refine rR <| A q (qt_lss q q) q q <| B <| C ?_
  refine Y q (fun hc58 => ?_) (fun hc58 => ?_)
  ·have hs54 := if_t hc58 hs54
   refine y <| C <| g <| C <| Z ?_
   obtain ⟨x59, hx60, hs54⟩ := D hs54
   refine b H57.ctx (Has.sub hS0 hx45) hx60 u24 i3 q q q q (fun b61 off62 cap63 hv64 => ?_)
   obtain ⟨F65, hat66, hdup67⟩ := H57.at (Has.sub hS0 hx45) hx60 hv64
   refine zt (k := .i64) u3 q hat66 q q q <| qA q q q <| B <| C <| rR <| qM q q q <| A q (qt_lss q q) q q <| qM q q q ?_
   refine zh 3 36 (.bool ((decide (x59 < 0)) || (decide (x59 > 999)))) ?_ (fun md hmd hk => ?_)
   rotate_left
   ·obtain ⟨Q, rfl⟩ := Md.seq_of hmd
    rcases btf (decide (x59 < 0)) with hc68 | hc68
    ·skip
     refine qS q hc68 q q <| qS q hc68 q q <| A q (ze q hc68 q) q q ?_
     exact hk _ (p (by rw [hc68]; rfl) (cfn 2 q (u)))
    skip
    refine qM (J q hc68) q q <| A (J q hc68) (qt_gtr q q) q q <| A q (zf q hc68 q) q q ?_
    exact hk _ (p (by rw [hc68]; rfl) (cfn 2 q (u)))
   refine B ?_
   refine Y q (fun hc69 => ?_) (fun hc69 => ?_)
   ·have hs54 := if_t hc69 hs54
    refine rR <| qA q q q <| B <| W fun a ha => ?_
    obtain rfl := L hs54
    have H70 := H57.q0
    exact m (zj (m (⟨ret_ne, q, ha.sub ⟨q, trivial⟩, H70⟩)))
   have hs54 := if_f hc69 hs54
   refine y <| zk <| qM q q q <| qM q q q ?_
   obtain ⟨x71, hx72, hs54⟩ := D hs54
   refine QC q q c48 (fun w' hb => w_strconv_Itoa w' _ hGp.c x59 x71 hx72 (H57.grow hb).ctx) (by rfl) ?_
   obtain ⟨x73, hx74, hs54⟩ := D hs54
   refine A q (qt_sadd q q hx74) q q ?_
   obtain ⟨x75, hx76, hs54⟩ := D hs54
   refine A q (qt_sadd q q hx76) q q <| qA q q q <| QL_nil fun a ha w77 hb78 => ?_
   have H79 := H57.grow hb78
   refine zi (X (S ?_ ha))
   refine Z <| A q (qt_add q q) q q <| qM q q q <| WL_nil fun a ha => ?_
   obtain rfl := L hs54
   exact ⟨q, ha.sub ⟨q, q, q, q, trivial⟩, H79⟩
  have hs54 := if_f hc58 hs54
  refine WP_exit fun a ha => ?_
  obtain rfl := L hs54
  have H80 := H57.q0
  exact zo (⟨exit_ne, q, ha.sub ⟨q, trivial⟩, H80⟩)
 intro e a50 w81 hO82
 rcases o48 with o48 | o48
 ·skip
  obtain ⟨p83, rfl⟩ : ∃ z, z = o48 := ⟨o48, q⟩
  obtain ⟨rfl, hO85⟩ := hO82
  obtain ⟨ha, H84⟩ := hO85
  refine zn (X (S ?_ ha))
  refine rR <| qM q q q <| qA q q q <| B <| W fun a ha => ?_
  obtain rfl := L h
  exact ret1 q ha q ⟨q, H84⟩
 skip
 obtain ⟨p86, rfl⟩ : ∃ z, z = o48 := ⟨o48, q⟩
 obtain ⟨rfl, hO88⟩ := hO82
 obtain ⟨ha, H87⟩ := hO88
 obtain rfl := L h
 exact zj (m (ret1 q ha q ⟨q, H87⟩))
theorem w_spec_l7Name (w : World) (G : List Res) (p0 : Int) (r : (List UInt8)) (h : spec_l7NameS p0 = some r) (H : Ctx w G) : Calls Tryd.prog 49 #[iV p0] w fun e w' => e = .returned (strV r) ∧ Holds M0 w w' [] G := by
 have H : Holds M0 w w [] G := zb H
 refine zg (args := [iV p0]) (n := 10) Tryd.func49 q q q ?_
 unfold spec_l7NameS at h
 refine rR <| qA q q q <| B <| C <| C <| zk <| qM q q q ?_
 obtain ⟨x1, hx2, h⟩ := D h
 refine QC q q c38 (fun w' hb => w_spec_l1In w' G p0 0 5 x1 hx2 (H.grow hb).ctx) (by rfl) <| A q (qt_not q) q q <| QL_nil fun a ha w3 hb4 => ?_
 have H5 := H.grow hb4
 refine X (S ?_ ha)
 refine Y q (fun hc6 => ?_) (fun hc6 => ?_)
 ·have h := if_t hc6 h
  refine rR <| qA q q q <| B <| W fun a ha => ?_
  obtain rfl := L h
  exact m (ret1 q ha q ⟨q, H5⟩)
 have h := if_f hc6 h
 refine y <| C <| Z ?_
 refine zs (t := .str) (args := [.const (strV [98, 117, 121]), .const (strV [109, 97, 107, 101]), .const (strV [111, 112, 101, 110]), .const (strV [111, 114, 100, 101, 114]), .const (strV [119, 111, 114, 107]), .const (strV [99, 108, 111, 115, 101])]) (xs := ([([98, 117, 121] : List UInt8), ([109, 97, 107, 101] : List UInt8), ([111, 112, 101, 110] : List UInt8), ([111, 114, 100, 101, 114] : List UInt8), ([119, 111, 114, 107] : List UInt8), ([99, 108, 111, 115, 101] : List UInt8)] : List (List UInt8))) H5 (BltL.cons (Blt.str) q (BltL.cons (Blt.str) q (BltL.cons (Blt.str) q (BltL.cons (Blt.str) q (BltL.cons (Blt.str) q (BltL.cons (Blt.str) q (BltL.nil))))))) u79 j9 q q q q q q (fun v7 w8 H9 => ?_)
 refine qM q q q ?_
 obtain ⟨x11, hx12, h⟩ := D h
 refine b H9.ctx hS0 hx12 u79 i9 q q q q (fun b13 off14 cap15 hv16 => ?_)
 obtain ⟨F17, hat18, hdup19⟩ := H9.at hS0 hx12 hv16
 refine XL_load_str u9 q hat18 q q q <| qA q q q <| B <| W fun a ha => ?_
 obtain rfl := L h
 have H20 := H9.q0
 exact ret1 q ha q ⟨q, H20⟩
theorem w_spec_l7Many (w : World) (G : List Res) (p0 : Int) (r : Int) (h : spec_l7ManyS p0 = some r) (H : Ctx w G) : Calls Tryd.prog 50 #[iV p0] w fun e w' => e = .returned (iV r) ∧ Holds M0 w w' [] G := by
 have H : Holds M0 w w [] G := zb H
 refine zg (args := [iV p0]) (n := 7) Tryd.func50 q q q ?_
 unfold spec_l7ManyS at h
 refine rR <| qA q q q <| B <| C <| Z ?_
 refine zs (t := tI) (args := [.const (iV 2), .const (iV 2), .const (iV 1), .const (iV 3), .const (iV 0), .const (iV 1)]) (xs := ([2, 2, 1, 3, 0, 1] : List Int)) H (BltL.cons (Blt.int) q (BltL.cons (Blt.int) q (BltL.cons (Blt.int) q (BltL.cons (Blt.int) q (BltL.cons (Blt.int) q (BltL.cons (Blt.int) q (BltL.nil))))))) u24 j3 q q q q q q (fun v1 w2 H3 => ?_)
 refine qM q q q ?_
 obtain ⟨x5, hx6, h⟩ := D h
 refine b H3.ctx hS0 hx6 u24 i3 q q q q (fun b7 off8 cap9 hv10 => ?_)
 obtain ⟨F11, hat12, hdup13⟩ := H3.at hS0 hx6 hv10
 refine zt (k := .i64) u3 q hat12 q q q <| qA q q q <| B <| W fun a ha => ?_
 obtain rfl := L h
 have H14 := H3.q0
 exact ret1 q ha q ⟨q, H14⟩
theorem w_spec_l1NumberF (fuel : Nat) (w : World) (G : List Res) (p0 : Int) (r : (List UInt8)) (h : spec_l1NumberF fuel p0 = some r) (H : Ctx w G) : Calls Tryd.prog 51 #[iV p0] w fun e w' => e = .returned (strV r) ∧ Holds M0 w w' [] G := by
 induction fuel generalizing w G p0 r with
 | zero => rw [spec_l1NumberF] at h; cases h
 | succ fuel ih =>
  have H : Holds M0 w w [] G := zb H
  refine zg (args := [iV p0]) (n := 34) Tryd.func51 q q q ?_
  rw [spec_l1NumberF] at h
  refine rR <| qA q q q <| B <| C <| rR <| qM q q q <| A q (qt_lss q q) q q <| qM q q q ?_
  refine zh 5 10 (.bool ((decide (p0 < 0)) && (p0 == (IntKind.wrap .i64 (-p0))))) ?_ (fun md hmd hk => ?_)
  rotate_left
  ·obtain ⟨Q, rfl⟩ := Md.seq_of hmd
   rcases btf (decide (p0 < 0)) with hc1 | hc1
   ·skip
    refine qM (J q hc1) q q <| qM (J q hc1) q q <| A (J q hc1) (qt_neg q) q q <| A (J q hc1) (qt_eql q q) q q <| A q (ze q hc1 q) q q ?_
    exact hk _ (p (by rw [hc1]; rfl) (cfn 4 q (u)))
   skip
   refine qS q hc1 q q <| qS q hc1 q q <| qS q hc1 q q <| qS q hc1 q q <| A q (zf q hc1 q) q q ?_
   exact hk _ (p (by rw [hc1]; rfl) (cfn 4 q (u)))
  refine B ?_
  refine Y q (fun hc2 => ?_) (fun hc2 => ?_)
  ·have h := if_t hc2 h
   refine rR <| qA q q q <| B <| W fun a ha => ?_
   obtain rfl := L h
   exact m (ret1 q ha q ⟨q, H⟩)
  have h := if_f hc2 h
  refine y <| C <| rR <| qM q q q <| A q (qt_lss q q) q q <| B ?_
  refine Y q (fun hc3 => ?_) (fun hc3 => ?_)
  ·have h := if_t hc3 h
   refine C <| zk <| qM q q q <| A q (qt_neg q) q q ?_
   obtain ⟨x4, hx5, h⟩ := D h
   refine QC q q c51 (fun w' hb => ih w' G (IntKind.wrap .i64 (-p0)) x4 hx5 (H.grow hb).ctx) (by rfl) ?_
   obtain ⟨x6, hx7, h⟩ := D h
   refine A q (qt_sadd q q hx7) q q <| qA q q q <| QL_nil fun a ha w8 hb9 => ?_
   have H10 := H.grow hb9
   refine X (S ?_ ha)
   refine W fun a ha => ?_
   obtain rfl := L h
   exact m (ret1 q ha q ⟨q, H10⟩)
  have h := if_f hc3 h
  refine y <| C <| rR <| qM q q q <| A q (qt_lss q q) q q <| B ?_
  refine Y q (fun hc11 => ?_) (fun hc11 => ?_)
  ·have h := if_t hc11 h
   refine rR <| qM q q q <| A q (qt_add q q) q q <| A q (qt_int u5 q u3) q q ?_
   refine zs (t := (.int .u8)) (args := [.tmp 21]) (xs := ([IntKind.wrap .u8 (IntKind.wrap .i64 (48 + p0))] : List Int)) H (BltL.cons (Blt.int) q (BltL.nil)) u22 j5 q q q q q q (fun v12 w13 H14 => ?_)
   refine XL_bytesH H14.ctx hS0 u22 u5 u9 q q q <| qA q q q <| B <| W fun a ha => ?_
   obtain rfl := L h
   have H16 := H14.q0
   exact m (ret1 q ha q ⟨q, H16⟩)
  have h := if_f hc11 h
  refine y <| C ?_
  obtain ⟨x17, hx18, h⟩ := D h
  obtain ⟨x26, hx27, h⟩ := D h
  refine WP_join (M := fun a w2 => (Fr a 34 [(2, strV x26)] ∧ Holds M0 w w2 [] G)) ?_ ?_
  ·refine WP_ordersT (fun w1 w2 => Chg M0 w1 w2) 10 (by kernel_rfl) (fun w217 hb218 => ?_)
   have H219 := H.grow hb218
   have C220 : Ctx w217 ([] ++ G) := H219.ctx
   have H221 : Holds _ w217 w217 [] G := zb (Rs := []) C220
   refine XQ (i := 0) q (by kernel_rfl) q H221.chg q (fun _ => qt_move q) q q <| XQ (i := 1) q (by kernel_rfl) q H221.chg q (fun _ => qt_quo q q (by decide)) q q <| XQ (i := 3) q (by kernel_rfl) q H221.chg q (fun _ => qt_move q) q q <| XQ (i := 4) q (by kernel_rfl) q H221.chg q (fun _ => qt_rem q q (by decide)) q q <| XQ (i := 5) q (by kernel_rfl) q H221.chg q (fun _ => qt_add q q) q q <| XQ (i := 6) q (by kernel_rfl) q H221.chg q (fun _ => qt_int u5 q u3) q q ?_
   refine zy [2, 7] (by kernel_rfl) (by simp) (allc ?_ (allc ?_ alln))
   ·refine XC_do q ?_
    refine zd q q c51 (ih w217 G (IntKind.wrap .i64 (Int.tdiv p0 10)) x17 hx18 H221.ctx) (by rfl) ?_
    rintro _ w247 ⟨rfl, H248⟩; refine ⟨_, q, ?_⟩
    have H249 := H221.cN0 [] H248
    refine XN H249.chg <| X1 7 (by kernel_rfl) q ?_
    refine zs (t := (.int .u8)) (args := [.tmp 30]) (xs := ([IntKind.wrap .u8 (IntKind.wrap .i64 (48 + (Int.tmod p0 10)))] : List Int)) H249 (BltL.cons (Blt.int) q (BltL.nil)) u22 j5 q q q q q q (fun v250 w251 H252 => ?_)
    refine XN H252.chg <| X1 8 (by kernel_rfl) q <| XL_bytesH H252.ctx hS0 u22 u5 u9 q q q <| XN H252.chg <| XQ (i := 9) q (by kernel_rfl) q H252.chg q (fun _ => qt_sadd q q hx27) q q ?_
    have H254 := H219.cN1 [] H252
    refine X1 10 (by kernel_rfl) q <| qA q q q <| XE q ?_
    refine XC_done (by kernel_rfl) (fun a ha => ?_)
    have H255 := H254.q0
    exact ⟨ha.sub ⟨q, trivial⟩, H255⟩
   refine XC_do q ?_
   refine zs (t := (.int .u8)) (args := [.tmp 30]) (xs := ([IntKind.wrap .u8 (IntKind.wrap .i64 (48 + (Int.tmod p0 10)))] : List Int)) H221 (BltL.cons (Blt.int) q (BltL.nil)) u22 j5 q q q q q q (fun v256 w257 H258 => ?_)
   refine XN H258.chg ?_
   refine zy [2, 8] (by kernel_rfl) (by simp) (allc ?_ (allc ?_ alln))
   ·refine XC_do q ?_
    refine zd q q c51 (ih w257 ([.sl 5 (.int .u8) v256 ([IntKind.wrap .u8 (IntKind.wrap .i64 (48 + (Int.tmod p0 10)))])] ++ G) (IntKind.wrap .i64 (Int.tdiv p0 10)) x17 hx18 H258.ctx) (by rfl) ?_
    rintro _ w260 ⟨rfl, H261⟩; refine ⟨_, q, ?_⟩
    have H262 := H258.cN0 [] H261
    refine XN H262.chg <| X1 8 (by kernel_rfl) q <| XL_bytesH H262.ctx hS0 u22 u5 u9 q q q <| XN H262.chg <| XQ (i := 9) q (by kernel_rfl) q H262.chg q (fun _ => qt_sadd q q hx27) q q ?_
    have H263 := H219.cN1 [] H262
    refine X1 10 (by kernel_rfl) q <| qA q q q <| XE q ?_
    refine XC_done (by kernel_rfl) (fun a ha => ?_)
    have H264 := H263.q0
    exact ⟨ha.sub ⟨q, trivial⟩, H264⟩
   refine XC_do q <| XL_bytesH H258.ctx hS0 u22 u5 u9 q q q <| XN H258.chg <| X1 2 (by kernel_rfl) q <| zd q q c51 (ih w257 ([.sl 5 (.int .u8) v256 ([IntKind.wrap .u8 (IntKind.wrap .i64 (48 + (Int.tmod p0 10)))])] ++ G) (IntKind.wrap .i64 (Int.tdiv p0 10)) x17 hx18 H258.ctx) (by rfl) ?_
   rintro _ w265 ⟨rfl, H266⟩; refine ⟨_, q, ?_⟩
   have H267 := H258.cN0 [] H266
   refine XN H267.chg <| XQ (i := 9) q (by kernel_rfl) q H267.chg q (fun _ => qt_sadd q q hx27) q q ?_
   have H268 := H219.cN1 [] H267
   refine X1 10 (by kernel_rfl) q <| qA q q q <| XE q ?_
   refine XC_done (by kernel_rfl) (fun a ha => ?_)
   have H269 := H268.q0
   exact ⟨ha.sub ⟨q, trivial⟩, H269⟩
  intro a w270 hI271
  obtain ⟨ha, H272⟩ := hI271
  refine S ?_ ha
  clear ha
  refine W fun a ha => ?_
  obtain rfl := L h
  exact ret1 q ha q ⟨q, H272⟩
theorem w_spec_l1Number (w : World) (G : List Res) (p0 : Int) (r : (List UInt8)) (h : spec_l1NumberS p0 = some r) (H : Ctx w G) : Calls Tryd.prog 51 #[iV p0] w fun e w' => e = .returned (strV r) ∧ Holds M0 w w' [] G :=
 w_spec_l1NumberF 200 w G p0 r h H
theorem w_spec_DeedText (w : World) (G : List Res) (B0 : Int) (B1 : Int) (B2 : Int) (B3 : Int) (r : (List UInt8)) (h : spec_DeedTextS B0 B1 B2 B3 = some r) (H : Ctx w G) : Calls Tryd.prog 22 #[.agg #[iV B0, iV B1, iV B2, iV B3]] w fun e w' => e = .returned (strV r) ∧ Holds M0 w w' [] G := by
 have H : Holds M0 w w [] G := zb H
 refine zg (args := [.agg #[iV B0, iV B1, iV B2, iV B3]]) (n := 60) Tryd.func22 q q q ?_
 unfold spec_DeedTextS at h
 refine C <| Z ?_
 refine WL_box (cs := [iV B0, iV B1, iV B2, iV B3]) H q q q q (fun b1 w2 H3 => ?_)
 refine qA q q q <| B <| C <| C <| zk <| qF uf43 fi43_0 nz3 q q q ?_
 have hB5 := R H3.p0
 refine l u3 q hB5 q q q q ?_
 obtain ⟨x6, hx7, h⟩ := D h
 refine QC q q c49 (fun w' hb => w_spec_l7Name w' _ B0 x6 hx7 (H3.grow hb).ctx) (by rfl) <| A q (qt_seql q q) q q <| QL_nil fun a ha w8 hb9 => ?_
 have H10 := H3.grow hb9
 refine X (S ?_ ha)
 refine Y q (fun hc11 => ?_) (fun hc11 => ?_)
 ·have h := if_t hc11 h
  refine rR <| qA q q q <| B <| W fun a ha => ?_
  obtain rfl := L h
  have H12 := H10.q0
  exact m (ret1 q ha q ⟨q, H12⟩)
 have h := if_f hc11 h
 refine y <| C <| zk <| qF uf43 fi43_0 nz3 q q q ?_
 have hB13 := R H10.p0
 refine l u3 q hB13 q q q q ?_
 obtain ⟨x14, hx15, h⟩ := D h
 refine QC q q c49 (fun w' hb => w_spec_l7Name w' _ B0 x14 hx15 (H10.grow hb).ctx) (by rfl) <| qA q q q <| QL_nil fun a ha w16 hb17 => ?_
 have H18 := H10.grow hb17
 refine X (S ?_ ha)
 refine rR <| qF uf43 fi43_1 nz3 q q q ?_
 have hB19 := R H18.p0
 refine l u3 q hB19 q q q q <| qF uf43 fi43_2 nz3 q q q ?_
 have hB20 := R H18.p0
 refine l u3 q hB20 q q q q <| qF uf43 fi43_3 nz3 q q q ?_
 have hB21 := R H18.p0
 refine l u3 q hB21 q q q q ?_
 refine zs (t := tI) (args := [.tmp 14, .tmp 16, .tmp 18]) (xs := ([B1, B2, B3] : List Int)) H18 (BltL.cons (Blt.int) q (BltL.cons (Blt.int) q (BltL.cons (Blt.int) q (BltL.nil)))) u24 j3 q q q q q q (fun v22 w23 H24 => ?_)
 refine qA q q q <| B <| C <| rR <| qA q q q <| B <| g ?_
 obtain ⟨o28, ho29, h⟩ := D h
 have H32 := H24.p1
 refine fun a30 ha31 => zp (I := fun s a w2 => match s with | (s26, s27) => (Fr a 60 [(1, pB b1), (3, strV s26), (4, v22), (5, iV s27)] ∧ Holds M0 w w2 [.bx b1 43 [iV B0, iV B1, iV B2, iV B3], .sl 3 tI v22 ([B1, B2, B3])] G)) (O := fun o e a w2 => match o with | .inl q0 => e = .exit 0 ∧ (Fr a 60 [(3, strV q0)] ∧ Holds M0 w w2 [] G) | .inr q0 => e = .ret ∧ (Fr a 60 [(2, strV q0)] ∧ Holds M0 w w2 [] G)) ho29 ?_ ?_ ?_
 ·exact ⟨ha31.sub ⟨q, q, q, q, trivial⟩, H32⟩
 ·clear ha31
  intro s o35 a w33 hs34 hI36
  obtain ⟨s26, s27⟩ := s
  obtain ⟨ha, H37⟩ := hI36
  refine S ?_ ha
  clear ha
  refine C <| rR <| qM q q q <| qM q q q <| za H37.ctx (t := tI) hS1 u24 q q q <| A q (qt_lss q q) q q <| B ?_
  refine Y q (fun hc38 => ?_) (fun hc38 => ?_)
  ·have hs34 := if_t hc38 hs34
   refine y <| C <| g <| C <| C <| zk <| qM q q q <| qM q q q ?_
   obtain ⟨x39, hx40, hs34⟩ := D hs34
   refine b H37.ctx hS1 hx40 u24 i3 q q q q (fun b41 off42 cap43 hv44 => ?_)
   obtain ⟨F45, hat46, hdup47⟩ := H37.at hS1 hx40 hv44
   refine zt (k := .i64) u3 q hat46 q q q ?_
   obtain ⟨x48, hx49, hs34⟩ := D hs34
   refine QC q q c38 (fun w' hb => w_spec_l1In w' _ x39 0 999 x48 hx49 (H37.grow hb).ctx) (by rfl) <| A q (qt_not q) q q <| qM q q q ?_
   obtain ⟨b50, hg51, hs34⟩ := D hs34
   refine zh 13 45 (.bool b50) ?_ (fun md hmd hk => ?_)
   rotate_left
   ·obtain ⟨K, rfl⟩ := zr hmd
    rcases btf (!x48) with hc52 | hc52
    ·skip
     refine qS q hc52 q q <| qS q hc52 q q <| qS q hc52 q q <| qS q hc52 q q <| qS q hc52 q q <| qS q hc52 q q <| XL_skip q q q <| XL_skip q q q <| XL_skip q q q <| XL_skip q q q ?_
     refine XL_skip q q q <| qS q hc52 q q <| A q (ze q hc52 q) q q ?_
     exact hk _ (p (vb (if_t hc52 hg51)) (cfn 12 q (u)))
    skip
    have hg51 := if_f hc52 hg51
    refine qM (J q hc52) q q <| qF uf43 fi43_0 nz3 (J q hc52) q q ?_
    have hB53 := R H37.p0
    refine l u3 q hB53 q (J q hc52) q q ?_
    obtain ⟨x54, hx55, hg51⟩ := D hg51
    refine QC (J q hc52) q c50 (fun w' hb => w_spec_l7Many w' _ B0 x54 hx55 (H37.grow hb).ctx) (by rfl) <| A (J q hc52) (qt_geq q q) q q <| qM (J q hc52) q q ?_
    obtain ⟨b56, hg57, hg51⟩ := D hg51
    refine zh 6 44 (.bool b56) ?_ (fun md hmd hk => ?_)
    rotate_left
    ·obtain ⟨K, rfl⟩ := zr hmd
     rcases btf (decide (s27 ≥ x54)) with hc58 | hc58
     ·skip
      have hg57 := if_t hc58 hg57
      refine qM (J q hc58) q q <| qM (J q hc58) q q ?_
      obtain ⟨x59, hx60, hg57⟩ := D hg57
      refine b H37.ctx hS1 hx60 u24 i3 (J q hc58) q q q (fun b61 off62 cap63 hv64 => ?_)
      obtain ⟨F65, hat66, hdup67⟩ := H37.at hS1 hx60 hv64
      refine zt (k := .i64) u3 q hat66 (J q hc58) q q <| A (J q hc58) (qt_neq q q) q q <| A (J q hc52) (ze q hc58 q) q q ?_
      exact hk _ (p (vb hg57) (cfn 5 q (u)))
     skip
     refine qS q hc58 q q <| qS q hc58 q q <| qS q hc58 q q <| qS q hc58 q q <| qS q hc58 q q <| A (J q hc52) (zf q hc58 q) q q ?_
     exact hk _ (p (vb (if_f hc58 hg57)) (cfn 5 q (u)))
    refine A q (zf q hc52 q) q q ?_
    exact hk _ (p (vb hg51) (cfn 7 q (u)))
   refine QL_nil fun a ha w68 hb69 => ?_
   have H70 := H37.grow hb69
   refine X (S ?_ ha)
   refine Y q (fun hc71 => ?_) (fun hc71 => ?_)
   ·have hs34 := if_t hc71 hs34
    refine rR <| qA q q q <| B <| W fun a ha => ?_
    obtain rfl := L hs34
    have H72 := H70.q0.q0
    exact m (zj (m (⟨ret_ne, q, ha.sub ⟨q, trivial⟩, H72⟩)))
   have hs34 := if_f hc71 hs34
   refine y <| C <| zk <| qM q q q <| qF uf43 fi43_0 nz3 q q q ?_
   have hB73 := R H70.p0
   refine l u3 q hB73 q q q q ?_
   obtain ⟨x74, hx75, hs34⟩ := D hs34
   refine QC q q c50 (fun w' hb => w_spec_l7Many w' _ B0 x74 hx75 (H70.grow hb).ctx) (by rfl) <| A q (qt_lss q q) q q <| QL_nil fun a ha w76 hb77 => ?_
   have H78 := H70.grow hb77
   refine X (S ?_ ha)
   refine Y q (fun hc79 => ?_) (fun hc79 => ?_)
   ·have hs34 := if_t hc79 hs34
    refine zk <| qM q q q ?_
    obtain ⟨x80, hx81, hs34⟩ := D hs34
    refine A q (qt_sadd q q hx81) q q <| qM q q q <| qM q q q ?_
    obtain ⟨x82, hx83, hs34⟩ := D hs34
    refine b H78.ctx hS1 hx83 u24 i3 q q q q (fun b84 off85 cap86 hv87 => ?_)
    obtain ⟨F88, hat89, hdup90⟩ := H78.at hS1 hx83 hv87
    refine zt (k := .i64) u3 q hat89 q q q ?_
    obtain ⟨x91, hx92, hs34⟩ := D hs34
    refine QC q q c51 (fun w' hb => w_spec_l1Number w' _ x82 x91 hx92 (H78.grow hb).ctx) (by rfl) ?_
    obtain ⟨x93, hx94, hs34⟩ := D hs34
    refine A q (qt_sadd q q hx94) q q <| qA q q q <| QL_nil fun a ha w95 hb96 => ?_
    have H97 := H78.grow hb96
    refine zi (X (S ?_ ha))
    refine Z <| qM q q q <| A q (qt_add q q) q q <| qA q q q <| WL_nil fun a ha => ?_
    obtain rfl := L hs34
    have H98 := H97.p1.p1
    exact ⟨q, ha.sub ⟨q, q, q, q, trivial⟩, H98⟩
   have hs34 := if_f hc79 hs34
   refine WP_skip fun a ha => ?_
   refine zi (X (S ?_ ha))
   refine Z <| qM q q q <| A q (qt_add q q) q q <| qA q q q <| WL_nil fun a ha => ?_
   obtain rfl := L hs34
   have H99 := H78.p1.p1
   exact ⟨q, ha.sub ⟨q, q, q, q, trivial⟩, H99⟩
  have hs34 := if_f hc38 hs34
  refine WP_exit fun a ha => ?_
  obtain rfl := L hs34
  have H100 := H37.q0.q0
  exact zo (⟨exit_ne, q, ha.sub ⟨q, trivial⟩, H100⟩)
 intro e a30 w101 hO102
 rcases o28 with o28 | o28
 ·skip
  obtain ⟨p103, rfl⟩ : ∃ z, z = o28 := ⟨o28, q⟩
  obtain ⟨rfl, hO105⟩ := hO102
  obtain ⟨ha, H104⟩ := hO105
  refine zn (X (S ?_ ha))
  refine rR <| qM q q q <| qA q q q <| B <| W fun a ha => ?_
  obtain rfl := L h
  exact ret1 q ha q ⟨q, H104⟩
 skip
 obtain ⟨p106, rfl⟩ : ∃ z, z = o28 := ⟨o28, q⟩
 obtain ⟨rfl, hO108⟩ := hO102
 obtain ⟨ha, H107⟩ := hO108
 obtain rfl := L h
 exact zj (m (ret1 q ha q ⟨q, H107⟩))
theorem w_impl_readNumber (w : World) (G : List Res) (p0 : List UInt8) (p1 : Int) (r : Int × Bool) (h : impl_readNumberS p0 p1 = some r) (H : Ctx w G) : Calls Tryd.prog 53 #[strV p0, iV p1] w fun e w' => e = .returned (.tuple #[iV r.1, .bool r.2]) ∧ Holds M0 w w' [] G := by
 have H : Holds M0 w w [] G := zb H
 refine zg (args := [strV p0, iV p1]) (n := 52) Tryd.func53 q q q ?_
 unfold impl_readNumberS at h
 refine rR <| qA q q q <| qA q q q <| B <| C <| rR <| qM q q q <| A q (qt_slen u9 q) q q ?_
 refine A q (qt_lss q q) q q <| qM q q q ?_
 refine zh 5 16 (.bool ((decide ((List.length p0 : Int) < 1)) || (decide ((List.length p0 : Int) > p1)))) ?_ (fun md hmd hk => ?_)
 rotate_left
 ·obtain ⟨Q, rfl⟩ := Md.seq_of hmd
  rcases btf (decide ((List.length p0 : Int) < 1)) with hc1 | hc1
  ·skip
   refine qS q hc1 q q <| qS q hc1 q q <| qS q hc1 q q <| qS q hc1 q q <| A q (ze q hc1 q) q q ?_
   exact hk _ (p (by rw [hc1]; rfl) (cfn 4 q (u)))
  skip
  refine qM (J q hc1) q q <| A (J q hc1) (qt_slen u9 q) q q <| qM (J q hc1) q q <| A (J q hc1) (qt_gtr q q) q q <| A q (zf q hc1 q) q q ?_
  exact hk _ (p (by rw [hc1]; rfl) (cfn 4 q (u)))
 refine qM q q q ?_
 obtain ⟨b2, hg3, h⟩ := D h
 refine zh 9 26 (.bool b2) ?_ (fun md hmd hk => ?_)
 rotate_left
 ·obtain ⟨Q, rfl⟩ := Md.seq_of hmd
  rcases btf ((decide ((List.length p0 : Int) < 1)) || (decide ((List.length p0 : Int) > p1))) with hc4 | hc4
  ·skip
   refine qS q hc4 q q <| qS q hc4 q q <| qS q hc4 q q <| qS q hc4 q q <| XL_skip q q q <| XL_skip q q q <| XL_skip q q q <| qS q hc4 q q <| A q (ze q hc4 q) q q ?_
   exact hk _ (p (vb (if_t hc4 hg3)) (cfn 8 q (u)))
  skip
  have hg3 := if_f hc4 hg3
  refine qM (J q hc4) q q <| A (J q hc4) (qt_slen u9 q) q q <| A (J q hc4) (qt_gtr q q) q q <| qM (J q hc4) q q ?_
  obtain ⟨b5, hg6, hg3⟩ := D hg3
  refine zh 4 25 (.bool b5) ?_ (fun md hmd hk => ?_)
  rotate_left
  ·obtain ⟨Q, rfl⟩ := Md.seq_of hmd
   rcases btf (decide ((List.length p0 : Int) > 1)) with hc7 | hc7
   ·skip
    have hg6 := if_t hc7 hg6
    refine qM (J q hc7) q q ?_
    obtain ⟨x8, hx9, hg6⟩ := D hg6
    refine A (J q hc7) (qt_sidx u9 q q hx9) q q <| A (J q hc7) (qt_eql q q) q q <| A (J q hc4) (ze q hc7 q) q q ?_
    exact hk _ (p (vb hg6) (cfn 3 q (u)))
   skip
   refine qS q hc7 q q <| qS q hc7 q q <| qS q hc7 q q <| A (J q hc4) (zf q hc7 q) q q ?_
   exact hk _ (p (vb (if_f hc7 hg6)) (cfn 3 q (u)))
  refine A q (zf q hc4 q) q q ?_
  exact hk _ (p (vb hg3) (cfn 5 q (u)))
 refine B ?_
 refine Y q (fun hc10 => ?_) (fun hc10 => ?_)
 ·have h := if_t hc10 h
  refine rR <| qA q q q <| qA q q q <| B <| W fun a ha => ?_
  obtain rfl := L h
  exact m (ret2 q ha q q ⟨q, H⟩)
 have h := if_f hc10 h
 refine y <| rR <| qA q q q <| B <| C <| rR <| qA q q q <| B ?_
 refine g ?_
 obtain ⟨o13, ho14, h⟩ := D h
 refine fun a15 ha16 => zp (I := fun s a w2 => match s with | (s11, s12) => (Fr a 52 [(0, strV p0), (6, iV s11), (7, iV s12)] ∧ Holds M0 w w2 [] G)) (O := fun o e a w2 => match o with | .inl q0 => e = .exit 0 ∧ (Fr a 52 [(6, iV q0)] ∧ Holds M0 w w2 [] G) | .inr (q0, q1) => e = .ret ∧ (Fr a 52 [(4, iV q0), (5, .bool q1)] ∧ Holds M0 w w2 [] G)) ho14 ?_ ?_ ?_
 ·exact ⟨ha16.sub ⟨q, q, q, trivial⟩, H⟩
 ·clear ha16
  intro s o19 a w17 hs18 hI20
  obtain ⟨s11, s12⟩ := s
  obtain ⟨ha, H21⟩ := hI20
  refine S ?_ ha
  clear ha
  refine C <| rR <| qM q q q <| qM q q q <| A q (qt_slen u9 q) q q <| A q (qt_lss q q) q q <| B ?_
  refine Y q (fun hc22 => ?_) (fun hc22 => ?_)
  ·have hs18 := if_t hc22 hs18
   refine y <| C <| g <| C <| rR <| qM q q q <| qM q q q ?_
   obtain ⟨x23, hx24, hs18⟩ := D hs18
   refine A q (qt_sidx u9 q q hx24) q q <| A q (qt_lss q q) q q <| qM q q q ?_
   obtain ⟨b25, hg26, hs18⟩ := D hs18
   refine zh 5 42 (.bool b25) ?_ (fun md hmd hk => ?_)
   rotate_left
   ·obtain ⟨Q, rfl⟩ := Md.seq_of hmd
    rcases btf (decide (x23 < 48)) with hc27 | hc27
    ·skip
     refine qS q hc27 q q <| qS q hc27 q q <| qS q hc27 q q <| qS q hc27 q q <| A q (ze q hc27 q) q q ?_
     exact hk _ (p (vb (if_t hc27 hg26)) (cfn 4 q (u)))
    skip
    have hg26 := if_f hc27 hg26
    refine qM (J q hc27) q q <| qM (J q hc27) q q ?_
    obtain ⟨x28, hx29, hg26⟩ := D hg26
    refine A (J q hc27) (qt_sidx u9 q q hx29) q q <| A (J q hc27) (qt_gtr q q) q q <| A q (zf q hc27 q) q q ?_
    exact hk _ (p (vb hg26) (cfn 4 q (u)))
   refine B ?_
   refine Y q (fun hc30 => ?_) (fun hc30 => ?_)
   ·have hs18 := if_t hc30 hs18
    refine rR <| qA q q q <| qA q q q <| B <| W fun a ha => ?_
    obtain rfl := L hs18
    exact m (zj (m (⟨ret_ne, q, ha.sub ⟨q, q, trivial⟩, H21⟩)))
   have hs18 := if_f hc30 hs18
   refine y <| Z <| qM q q q <| A q (qt_mul q q) q q <| qM q q q <| qM q q q ?_
   obtain ⟨x31, hx32, hs18⟩ := D hs18
   refine A q (qt_sidx u9 q q hx32) q q <| A q (qt_sub q q) q q <| A q (qt_int u3 q u5) q q <| A q (qt_add q q) q q <| qA q q q <| WL_nil fun a ha => ?_
   refine zi (X (S ?_ ha))
   refine Z <| qM q q q <| A q (qt_add q q) q q <| qA q q q <| WL_nil fun a ha => ?_
   obtain rfl := L hs18
   exact ⟨q, ha.sub ⟨q, q, q, trivial⟩, H21⟩
  have hs18 := if_f hc22 hs18
  refine WP_exit fun a ha => ?_
  obtain rfl := L hs18
  exact zo (⟨exit_ne, q, ha.sub ⟨q, trivial⟩, H21⟩)
 intro e a15 w33 hO34
 rcases o13 with o13 | o13
 ·skip
  obtain ⟨p35, rfl⟩ : ∃ z, z = o13 := ⟨o13, q⟩
  obtain ⟨rfl, hO37⟩ := hO34
  obtain ⟨ha, H36⟩ := hO37
  refine zn (X (S ?_ ha))
  refine rR <| qM q q q <| qA q q q <| qA q q q <| B <| W fun a ha => ?_
  obtain rfl := L h
  exact ret2 q ha q q ⟨q, H36⟩
 skip
 obtain ⟨p38, p39⟩ := o13
 obtain ⟨rfl, hO41⟩ := hO34
 obtain ⟨ha, H40⟩ := hO41
 obtain rfl := L h
 exact zj (m (ret2 q ha q q ⟨q, H40⟩))
theorem w_impl_ReadDeed (w : World) (G : List Res) (hGl : Glob G) (hGm : GlobM G) (p0 : List UInt8) (r : (Int × Int × Int × Int) × Bool) (h : impl_ReadDeedS p0 = some r) (H : Ctx w G) : Calls Tryd.prog 23 #[strV p0] w fun e w' => e = .returned (.tuple #[.agg #[iV r.1.1, iV r.1.2.1, iV r.1.2.2.1, iV r.1.2.2.2], .bool r.2]) ∧ Holds M0 w w' [] G := by
 have H : Holds M0 w w [] G := zb H
 refine zg (args := [strV p0]) (n := 63) Tryd.func23 q q q ?_
 unfold impl_ReadDeedS at h
 refine C <| Z ?_
 refine zq (cs := [iV 0, iV 0, iV 0, iV 0]) H z43 q q q (fun b1 w2 H3 => ?_)
 refine qA q q q <| rN <| qM q q q ?_
 obtain ⟨x5, hx6, h⟩ := D h
 refine zd q q c52 (w_strings_Split w2 _ hGm.c p0 ([32] : List UInt8) x5 hx6 H3.ctx) (by rfl) ?_
 rintro _ w7 ⟨v9, rfl, H8⟩; refine ⟨_, q, ?_⟩
 have H10 := H3.cN1 [] H8
 refine qA q q q <| B <| C <| rR <| XL_loadArrS H10.ctx (hGl.1.c.c.has) us76 uo76 il76 q q q <| qM q q q <| B <| g ?_
 obtain ⟨o16, ho17, h⟩ := D h
 have H20 := H10.p1
 refine fun a18 ha19 => zp (I := fun s a w2 => match s with | (s11, s12, s13, s14, s15) => (Fr a 63 [(2, pB b1), (4, v9), (14, .agg (List.map strV deedNames).toArray), (15, iV s11)] ∧ Holds M0 w w2 [.bx b1 43 [iV s12, iV s13, iV s14, iV s15], .sl 9 .str v9 x5] G)) (O := fun o e a w2 => match o with | .inl (q0, q1, q2, q3) => e = .exit 0 ∧ (Fr a 63 [(2, pB b1)] ∧ Holds M0 w w2 [.bx b1 43 [iV q0, iV q1, iV q2, iV q3]] G) | .inr (q0, q1, q2, q3, q4) => e = .ret ∧ (Fr a 63 [(2, pB b1), (3, .bool q0)] ∧ Holds M0 w w2 [.bx b1 43 [iV q1, iV q2, iV q3, iV q4]] G)) ho17 ?_ ?_ ?_
 ·exact ⟨ha19.sub ⟨q, q, q, q, trivial⟩, H20⟩
 ·clear ha19
  intro s o23 a w21 hs22 hI24
  obtain ⟨s11, s12, s13, s14, s15⟩ := s
  obtain ⟨ha, H25⟩ := hI24
  refine S ?_ ha
  clear ha
  refine rR <| A q (qt_lss q q) q q <| B <| C ?_
  refine Y q (fun hc26 => ?_) (fun hc26 => ?_)
  ·have hs22 := if_t hc26 hs22
   refine y <| C <| g <| rR <| qM q q q ?_
   obtain ⟨x27, hx28, hs22⟩ := D hs22
   refine A q (qt_idxS (xs := deedNames) u76 u9 il9 q q q hx28) q q <| qA q q q <| qA q q q <| B <| C <| rR <| qM q q q ?_
   obtain ⟨x29, hx30, hs22⟩ := D hs22
   refine b H25.ctx hS1 hx30 u79 i9 q q q q (fun b31 off32 cap33 hv34 => ?_)
   obtain ⟨F35, hat36, hdup37⟩ := H25.at hS1 hx30 hv34
   refine XL_load_str u9 q hat36 q q q <| qM q q q <| A q (qt_sneq q q) q q <| qM q q q ?_
   obtain ⟨b38, hg39, hs22⟩ := D hs22
   refine zh 8 32 (.bool b38) ?_ (fun md hmd hk => ?_)
   rotate_left
   ·obtain ⟨Q, rfl⟩ := Md.seq_of hmd
    rcases btf (x29 != x27) with hc40 | hc40
    ·skip
     refine qS q hc40 q q <| qS q hc40 q q <| qS q hc40 q q <| qS q hc40 q q <| qS q hc40 q q <| qS q hc40 q q <| qS q hc40 q q <| A q (ze q hc40 q) q q ?_
     exact hk _ (p (vb (if_t hc40 hg39)) (cfn 7 q (u)))
    skip
    have hg39 := if_f hc40 hg39
    refine qM (J q hc40) q q <| za H25.ctx (t := .str) hS1 u79 (J q hc40) q q <| qM (J q hc40) q q ?_
    obtain ⟨x41, hx42, hg39⟩ := D hg39
    refine XL_indexA H25.ctx (hGl.2.c.c.has) q hx42 u77 i3 (J q hc40) q q q (fun b43 off44 cap45 hv46 => ?_)
    obtain ⟨F47, hat48, hdup49⟩ := H25.at (hGl.2.c.c.has) hx42 hv46
    refine zt (k := .i64) u3 q hat48 (J q hc40) q q <| A (J q hc40) (qt_add q q) q q <| A (J q hc40) (qt_neq q q) q q <| A q (zf q hc40 q) q q ?_
    exact hk _ (p (vb hg39) (cfn 7 q (u)))
   refine B ?_
   refine Y q (fun hc50 => ?_) (fun hc50 => ?_)
   ·have hs22 := if_t hc50 hs22
    refine WP_exit fun a ha => ?_
    refine zo (zn (X (S ?_ ha)))
    refine Z <| A q (qt_add q q) q q <| qM q q q <| WL_nil fun a ha => ?_
    obtain rfl := L hs22
    have H51 := H25.p1.p1
    exact ⟨q, ha.sub ⟨q, q, q, q, trivial⟩, H51⟩
   have hs22 := if_f hc50 hs22
   refine y <| C <| Z ?_
   refine zq (cs := [iV 0, iV 0, iV 0]) H25 z75 q q q (fun b52 w53 H54 => ?_)
   have H56 : Holds _ w w53 [.sl 75 tI (.slice (some ⟨b52, 0, none⟩) 3 3) ([0, 0, 0] : List Int), .bx b1 43 [iV s12, iV s13, iV s14, iV s15], .sl 9 .str v9 x5] G := Holds.bx_sl (t := tI) (xs := [0, 0, 0]) H54 (fun _ => ⟨[_], _, [], [], q, q, ⟨q, q⟩, ⟨[_], _, [], [], q, q, ⟨q, q⟩, ⟨[_], _, [], [], q, q, ⟨q, q⟩, ⟨q, q⟩⟩⟩⟩) q q
   refine B <| C <| rR <| qM q q q ?_
   obtain ⟨x57, hx58, hs22⟩ := D hs22
   refine XL_sliceH H56.ctx hS2 hx58 u79 i9 ⟨_, q⟩ q q q q <| za H56.ctx (t := .str) (Has.sub hS2 hx58) u79 q q q <| qM q q q <| B <| g ?_
   obtain ⟨o65, ho66, hs22⟩ := D hs22
   have H69 := H56.p2.p1.p2
   refine fun a67 ha68 => zp (I := fun s a w2 => match s with | (s59, s60, s61, s62, s63, s64) => (Fr a 63 [(2, pB b1), (5, iV s11), (7, pB b52), (34, (subV (Ty.size .str) v9 (Int.toNat 1) (Int.toNat (List.length x5 : Int)))), (35, iV (List.length x57 : Int)), (36, iV s59)] ∧ Holds M0 w w2 [.bx b1 43 [iV s60, iV s61, iV s62, iV s63], .sl 75 tI (.slice (some ⟨b52, 0, none⟩) 3 3) s64, .sl 9 .str v9 x5] G)) (O := fun o e a w2 => match o with | .inl (q0, q1, q2, q3, q4) => e = .exit 2 ∧ (Fr a 63 [(2, pB b1), (5, iV s11), (7, pB b52)] ∧ Holds M0 w w2 [.bx b1 43 [iV q0, iV q1, iV q2, iV q3], .sl 75 tI (.slice (some ⟨b52, 0, none⟩) 3 3) q4] G) | .inr (q0, q1, q2, q3, q4, q5) => e = .ret ∧ (Fr a 63 [(2, pB b1), (3, .bool q0)] ∧ Holds M0 w w2 [.bx b1 43 [iV q1, iV q2, iV q3, iV q4]] G)) ho66 ?_ ?_ ?_
   ·exact ⟨ha68.sub ⟨q, q, q, q, q, q, trivial⟩, H69⟩
   ·clear ha68
    intro s o72 a w70 hs71 hI73
    obtain ⟨s59, s60, s61, s62, s63, s64⟩ := s
    obtain ⟨ha, H74⟩ := hI73
    refine S ?_ ha
    clear ha
    refine rR <| A q (qt_lss q q) q q <| B <| C ?_
    refine Y q (fun hc75 => ?_) (fun hc75 => ?_)
    ·have hs71 := if_t hc75 hs71
     refine y <| C <| g <| rR <| qM q q q ?_
     obtain ⟨x76, hx77, hs71⟩ := D hs71
     refine b H74.ctx (Has.sub hS2 hx58) hx77 u79 i9 q q q q (fun b78 off79 cap80 hv81 => ?_)
     obtain ⟨F82, hat83, hdup84⟩ := H74.at (Has.sub hS2 hx58) hx77 hv81
     refine XL_load_str u9 q hat83 q q q <| qA q q q <| qA q q q <| rN <| qM q q q ?_
     obtain ⟨x85, hx86, hs71⟩ := D hs71
     refine zd q q c53 (w_impl_readNumber w70 _ x76 3 x85 hx86 H74.ctx) (by rfl) ?_
     rintro _ w87 ⟨rfl, H88⟩; refine ⟨_, q, ?_⟩
     have H89 := H74.cN0 [] H88
     refine qM q q q <| A q (zv q q) q q <| A q (zv q q) q q <| qA q q q <| qA q q q <| B <| C <| rR <| qM q q q ?_
     refine A q (qt_not q) q q <| B ?_
     refine Y q (fun hc90 => ?_) (fun hc90 => ?_)
     ·have hs71 := if_t hc90 hs71
      refine rR <| A q (qt_build (args := []) (css := []) (cells := #[iV 0, iV 0, iV 0, iV 0]) q trivial (by kernel_rfl)) q q ?_
      refine zl (cs' := [iV 0, iV 0, iV 0, iV 0]) H89 q il43 q q q q q (fun w91 H92 => ?_)
      refine qA q q q <| B <| W fun a ha => ?_
      obtain rfl := L hs71
      have H94 := H92.q1.q1
      exact m (zj (m (⟨ret_ne, q, ha.sub ⟨q, q, trivial⟩, H94⟩)))
     have hs71 := if_f hc90 hs71
     refine y <| Z <| qM q q q <| qM q q q ?_
     obtain ⟨x95, hx96, hs71⟩ := D hs71
     refine XL_indexA H89.ctx hS1 q hx96 u75 i3 q q q q (fun b97 off98 cap99 hv100 => ?_)
     have H101 := H89.p1
     refine WL_storeH (fo := 0) (cs' := [iV x85.1]) H101 hx96 hv100 (Upd.whole (Blt.int)) q il3 q q q q (fun w102 H103 => ?_)
     refine WL_nil fun a ha => ?_
     refine zi (X (S ?_ ha))
     refine Z <| A q (qt_add q q) q q <| qM q q q <| WL_nil fun a ha => ?_
     obtain rfl := L hs71
     have H105 := H103.p2.p1.p2
     exact ⟨q, ha.sub ⟨q, q, q, q, q, q, trivial⟩, H105⟩
    have hs71 := if_f hc75 hs71
    refine WP_exit fun a ha => ?_
    obtain rfl := L hs71
    have H106 := H74.q2.p1.p1
    exact zo (⟨exit_ne, q, ha.sub ⟨q, q, q, trivial⟩, H106⟩)
   intro e a67 w107 hO108
   rcases o65 with o65 | o65
   ·skip
    obtain ⟨p109, p110, p111, p112, p113⟩ := o65
    obtain ⟨rfl, hO115⟩ := hO108
    obtain ⟨ha, H114⟩ := hO115
    refine zn (X (S ?_ ha))
    refine rR <| qM q q q ?_
    obtain ⟨x116, hx117, hs22⟩ := D hs22
    refine XL_indexA H114.ctx hS1 q hx117 u75 i3 q q q q (fun b118 off119 cap120 hv121 => ?_)
    obtain ⟨F122, hat123, hdup124⟩ := H114.at hS1 hx117 hv121
    refine zt (k := .i64) u3 q hat123 q q q ?_
    obtain ⟨x125, hx126, hs22⟩ := D hs22
    refine XL_indexA H114.ctx hS1 q hx126 u75 i3 q q q q (fun b127 off128 cap129 hv130 => ?_)
    obtain ⟨F131, hat132, hdup133⟩ := H114.at hS1 hx126 hv130
    refine zt (k := .i64) u3 q hat132 q q q ?_
    obtain ⟨x134, hx135, hs22⟩ := D hs22
    refine XL_indexA H114.ctx hS1 q hx135 u75 i3 q q q q (fun b136 off137 cap138 hv139 => ?_)
    obtain ⟨F140, hat141, hdup142⟩ := H114.at hS1 hx135 hv139
    refine zt (k := .i64) u3 q hat141 q q q <| A q (qt_build (args := [(0, .tmp 53), (1, .tmp 55), (2, .tmp 57), (3, .tmp 59)]) (css := [#[iV s11], #[iV x116], #[iV x125], #[iV x134]]) (cells := #[iV s11, iV x116, iV x125, iV x134]) q ⟨q, q, q, q, trivial⟩ (by kernel_rfl)) q q ?_
    refine zl (cs' := [iV s11, iV x116, iV x125, iV x134]) H114 q il43 q q q q q (fun w143 H144 => ?_)
    refine qA q q q <| B <| W fun a ha => ?_
    obtain rfl := L hs22
    have H146 := H144.q1
    exact zj (m (⟨ret_ne, q, ha.sub ⟨q, q, trivial⟩, H146⟩))
   skip
   obtain ⟨p147, p148, p149, p150, p151, p152⟩ := o65
   obtain ⟨rfl, hO154⟩ := hO108
   obtain ⟨ha, H153⟩ := hO154
   obtain rfl := L hs22
   exact zj (m (zj (m (⟨ret_ne, q, ha.sub ⟨q, q, trivial⟩, H153⟩))))
  have hs22 := if_f hc26 hs22
  refine WP_exit fun a ha => ?_
  obtain rfl := L hs22
  have H155 := H25.q1
  exact zo (⟨exit_ne, q, ha.sub ⟨q, trivial⟩, H155⟩)
 intro e a18 w156 hO157
 rcases o16 with o16 | o16
 ·skip
  obtain ⟨p158, p159, p160, p161⟩ := o16
  obtain ⟨rfl, hO163⟩ := hO157
  obtain ⟨ha, H162⟩ := hO163
  refine zn (X (S ?_ ha))
  refine rR <| A q (qt_build (args := []) (css := []) (cells := #[iV 0, iV 0, iV 0, iV 0]) q trivial (by kernel_rfl)) q q ?_
  refine zl (cs' := [iV 0, iV 0, iV 0, iV 0]) H162 q il43 q q q q q (fun w164 H165 => ?_)
  refine qA q q q <| B <| W fun a ha => ?_
  obtain rfl := L h
  have hB167 := R H165.p0
  have H168 := H165.q0
  exact retct q ha q q (run_loadVar_bx (cs := [iV 0, iV 0, iV 0, iV 0]) us43 uo43 il43 hB167) ⟨q, H168⟩
 skip
 obtain ⟨p169, p170, p171, p172, p173⟩ := o16
 obtain ⟨rfl, hO175⟩ := hO157
 obtain ⟨ha, H174⟩ := hO175
 obtain rfl := L h
 have hB176 := R H174.p0
 have H177 := H174.q0
 exact zj (m (retct q ha q q (run_loadVar_bx (cs := [iV p170, iV p171, iV p172, iV p173]) us43 uo43 il43 hB176) ⟨q, H177⟩))
theorem w_laws_FnDeedText (w : World) (G : List Res) (hGl : Glob G) (hGm : GlobM G) (hGp : GlobP G) (vp0 : Value) (p0 : List Int) (hp0 : HasRo G (.int .u8) vp0 p0) (r : Bool) (h : laws_FnDeedTextS p0 = some r) (H : Ctx w G) : Calls Tryd.prog 6 #[vp0] w fun e w' => e = .returned (.bool r) ∧ Holds M0 w w' [] G := by
 have H : Holds M0 w w [] G := zb H
 refine zg (args := [vp0]) (n := 32) Tryd.func6 q q q ?_
 unfold laws_FnDeedTextS at h
 refine rR <| qA q q q <| B <| C <| rR <| qM q q q <| za H.ctx (t := (.int .u8)) (hp0.has) u22 q q q <| A q (qt_gtr q q) q q ?_
 refine B ?_
 refine Y q (fun hc1 => ?_) (fun hc1 => ?_)
 ·have h := if_t hc1 h
  refine rR <| qA q q q <| B <| W fun a ha => ?_
  obtain rfl := L h
  exact m (ret1 q ha q ⟨q, H⟩)
 have h := if_f hc1 h
 refine y <| rR <| qM q q q ?_
 obtain ⟨x2, hx3, h⟩ := D h
 refine zd q q c20 (w_spec_DrawDeedText w G vp0 p0 (hp0) x2 hx3 H.ctx) (by rfl) ?_
 rintro _ w4 ⟨rfl, H5⟩; refine ⟨_, q, ?_⟩
 have H6 := H.cN0 [] H5
 refine zq (cs := [iV 0, iV 0, iV 0, iV 0]) H6 z43 q q q (fun b7 w8 H9 => ?_)
 refine zl (cs' := [iV x2.1, iV x2.2.1, iV x2.2.2.1, iV x2.2.2.2]) H9 q il43 q q q q q (fun w11 H12 => ?_)
 refine B <| C <| zk ?_
 have hB14 := R H12.p0
 refine zm (cs := [iV x2.1, iV x2.2.1, iV x2.2.2.1, iV x2.2.2.2]) us43 uo43 il43 hB14 q q q ?_
 change XL _ _ _ _ _ ((12, .agg #[iV x2.1, iV x2.2.1, iV x2.2.2.1, iV x2.2.2.2]) :: _) _
 obtain ⟨x15, hx16, h⟩ := D h
 refine QC q q c21 (fun w' hb => w_impl_DeedText w' _ hGl.c hGp.c x2.1 x2.2.1 x2.2.2.1 x2.2.2.2 x15 hx16 (H12.grow hb).ctx) (by rfl) <| qA q q q <| QL_nil fun a ha w17 hb18 => ?_
 have H19 := H12.grow hb18
 refine X (S ?_ ha)
 refine C <| C <| zk <| qM q q q ?_
 have hB20 := R H19.p0
 refine zm (cs := [iV x2.1, iV x2.2.1, iV x2.2.2.1, iV x2.2.2.2]) us43 uo43 il43 hB20 q q q ?_
 change XL _ _ _ _ _ ((15, .agg #[iV x2.1, iV x2.2.1, iV x2.2.2.1, iV x2.2.2.2]) :: _) _
 obtain ⟨x21, hx22, h⟩ := D h
 refine QC q q c22 (fun w' hb => w_spec_DeedText w' _ x2.1 x2.2.1 x2.2.2.1 x2.2.2.2 x21 hx22 (H19.grow hb).ctx) (by rfl) <| A q (qt_sneq q q) q q <| QL_nil fun a ha w23 hb24 => ?_
 have H25 := H19.grow hb24
 refine X (S ?_ ha)
 refine Y q (fun hc26 => ?_) (fun hc26 => ?_)
 ·have h := if_t hc26 h
  refine rR <| qA q q q <| B <| W fun a ha => ?_
  obtain rfl := L h
  have H27 := H25.q0
  exact m (ret1 q ha q ⟨q, H27⟩)
 have h := if_f hc26 h
 refine y <| C <| rR <| qM q q q <| A q (qt_seql q q) q q <| B ?_
 refine Y q (fun hc28 => ?_) (fun hc28 => ?_)
 ·have h := if_t hc28 h
  refine C <| zk ?_
  obtain ⟨x29, hx30, h⟩ := D h
  refine QC q q c12 (fun w' hb => w_laws_alive w' _  x29 hx30 (H25.grow hb).ctx) (by rfl) <| qA q q q <| QL_nil fun a ha w31 hb32 => ?_
  have H33 := H25.grow hb32
  refine X (S ?_ ha)
  refine W fun a ha => ?_
  obtain rfl := L h
  have H34 := H33.q0
  exact m (ret1 q ha q ⟨q, H34⟩)
 have h := if_f hc28 h
 refine y <| rR <| qM q q q ?_
 obtain ⟨x35, hx36, h⟩ := D h
 refine zd q q c23 (w_impl_ReadDeed w23 _ hGl.c hGm.c x15 x35 hx36 H25.ctx) (by rfl) ?_
 rintro _ w37 ⟨rfl, H38⟩; refine ⟨_, q, ?_⟩
 have H39 := H25.cN0 [] H38
 refine qM q q q <| A q (zv q q) q q <| A q (zv q q) q q ?_
 refine zq (cs := [iV 0, iV 0, iV 0, iV 0]) H39 z43 q q q (fun b40 w41 H42 => ?_)
 refine zl (cs' := [iV x35.1.1, iV x35.1.2.1, iV x35.1.2.2.1, iV x35.1.2.2.2]) H42 q il43 q q q q q (fun w44 H45 => ?_)
 refine qA q q q <| rN <| qM q q q <| qM q q q ?_
 refine zh 4 31 (.bool (x35.2 && (((x35.1.1, x35.1.2.1, x35.1.2.2.1, x35.1.2.2.2) : Int × Int × Int × Int) == ((x2.1, x2.2.1, x2.2.2.1, x2.2.2.2) : Int × Int × Int × Int)))) ?_ (fun md hmd hk => ?_)
 rotate_left
 ·obtain ⟨Q, rfl⟩ := Md.seq_of hmd
  rcases btf x35.2 with hc47 | hc47
  ·skip
   have hB48 := R H45.p0
   refine zm (cs := [iV x35.1.1, iV x35.1.2.1, iV x35.1.2.2.1, iV x35.1.2.2.2]) us43 uo43 il43 hB48 (J q hc47) q q ?_
   change XL _ _ _ _ _ ((28, .agg #[iV x35.1.1, iV x35.1.2.1, iV x35.1.2.2.1, iV x35.1.2.2.2]) :: _) _
   have hB49 := R H45.p1
   refine zm (cs := [iV x2.1, iV x2.2.1, iV x2.2.2.1, iV x2.2.2.2]) us43 uo43 il43 hB49 (J q hc47) q q ?_
   change XL _ _ _ _ _ ((29, .agg #[iV x2.1, iV x2.2.1, iV x2.2.2.1, iV x2.2.2.2]) :: _) _
   refine A (J q hc47) (qt_eqlA q q (by kernel_rfl) (eqs43 x35.1.1 x2.1 x35.1.2.1 x2.2.1 x35.1.2.2.1 x2.2.2.1 x35.1.2.2.2 x2.2.2.2)) q q <| A q (ze q hc47 q) q q ?_
   exact hk _ (p (by rw [hc47]; rfl) (cfn 3 q (u)))
  skip
  refine qS q hc47 q q <| qS q hc47 q q <| qS q hc47 q q <| A q (zf q hc47 q) q q ?_
  exact hk _ (p (by rw [hc47]; rfl) (cfn 3 q (u)))
 refine qA q q q <| B <| W fun a ha => ?_
 obtain rfl := L h
 have H50 := H45.q0.q0
 exact ret1 q ha q ⟨q, H50⟩
theorem w_spec_l20Spoil (w : World) (G : List Res) (bp0 : Nat) (A0 : Value) (B0 : List Int) (C0 : Has G (.int .u8) A0 B0) (B1 : Int) (p1 : List UInt8) (r : Int × (List UInt8)) (h : spec_l20SpoilS B0 B1 p1 = some r) (H : Ctx w ([.bx bp0 104 [A0, iV B1]] ++ G)) : Calls Tryd.prog 54 #[pB bp0, strV p1] w fun e w' => e = .returned (strV r.2) ∧ Holds (([.bx bp0 104 [A0, iV B1]] : List Res).flatMap Res.own) w w' [.bx bp0 104 [A0, iV r.1]] G := by
 have H : Holds (([.bx bp0 104 [A0, iV B1]] : List Res).flatMap Res.own) w w [.bx bp0 104 [A0, iV B1]] G := zb H
 refine zg (args := [pB bp0, strV p1]) (n := 27) Tryd.func54 q q q ?_
 unfold spec_l20SpoilS at h
 refine rR <| qA q q q <| B <| C <| rR <| qM q q q <| A q (qt_slen u9 q) q q <| A q (qt_eql q q) q q ?_
 refine B ?_
 refine Y q (fun hc1 => ?_) (fun hc1 => ?_)
 ·have h := if_t hc1 h
  refine rR <| qA q q q <| B <| W fun a ha => ?_
  obtain rfl := L h
  exact m (ret1 q ha q ⟨q, H⟩)
 have h := if_f hc1 h
 refine y <| rR <| qM q q q <| qM q q q <| A q (qt_slen u9 q) q q ?_
 obtain ⟨x2, hx3, h⟩ := D h
 refine zd q q c44 (w_spec_l20Rd__pick w G bp0 A0 B0 (C0) B1 (List.length p1 : Int) x2 hx3 H.ctx) (by rfl) ?_
 rintro _ w4 ⟨rfl, H5⟩; refine ⟨_, q, ?_⟩
 have H6 := H.cN1 [_] H5
 refine qA q q q <| B <| C ?_
 obtain ⟨x7, hx8, h⟩ := D h
 obtain ⟨x13, hx14, h⟩ := D h
 obtain ⟨x19, hx20, h⟩ := D h
 obtain ⟨x28, hx29, h⟩ := D h
 obtain ⟨x30, hx31, h⟩ := D h
 obtain ⟨x32, hx33, h⟩ := D h
 refine WP_join (M := fun a w2 => (Fr a 27 [(0, pB bp0), (4, strV x32)] ∧ Holds (([.bx bp0 104 [A0, iV B1]] : List Res).flatMap Res.own) w w2 [.bx bp0 104 [A0, iV x13.1]] G)) ?_ ?_
 ·refine WP_ordersT (fun w1 w2 => Chg (([.bx bp0 104 [A0, iV x2.1]] : List Res).flatMap Res.own) w1 w2) 14 (by kernel_rfl) (fun w207 hb208 => ?_)
  have H209 := H6.grow hb208
  have C210 : Ctx w207 ([.bx bp0 104 [A0, iV x2.1]] ++ G) := H209.ctx
  have H211 : Holds _ w207 w207 [.bx bp0 104 [A0, iV x2.1]] G := zb (Rs := [.bx bp0 104 [A0, iV x2.1]]) C210
  refine XQ (i := 0) q (by kernel_rfl) q H211.chg q (fun _ => qt_move q) q q <| XQ (i := 1) q (by kernel_rfl) q H211.chg q (fun _ => qt_move q) q q <| XQ (i := 2) q (by kernel_rfl) q H211.chg q (fun _ => qt_ssub u9 q ⟨_, q⟩ q hx8) q q <| XQ (i := 4) q (by kernel_rfl) q H211.chg q (fun _ => qt_move q) q q <| XQ (i := 9) q (by kernel_rfl) q H211.chg q (fun _ => qt_move q) q q <| XQ (i := 10) q (by kernel_rfl) q H211.chg q (fun _ => qt_move q) q q <| XQ (i := 11) q (by kernel_rfl) q H211.chg q (fun _ => qt_add q q) q q <| XQ (i := 12) q (by kernel_rfl) q H211.chg q (fun _ => qt_ssub u9 ⟨_, q⟩ q q hx31) q q ?_
  refine zy [3, 5] (by kernel_rfl) (by simp) (allc ?_ (allc ?_ alln))
  ·refine XC_do q ?_
   refine zs (t := .str) (args := [.const (strV []), .const (strV [48]), .const (strV [32]), .const (strV [10]), .const (strV [57]), .const (strV [98, 117, 121])]) (xs := ([([] : List UInt8), ([48] : List UInt8), ([32] : List UInt8), ([10] : List UInt8), ([57] : List UInt8), ([98, 117, 121] : List UInt8)] : List (List UInt8))) H211 (BltL.cons (Blt.str) q (BltL.cons (Blt.str) q (BltL.cons (Blt.str) q (BltL.cons (Blt.str) q (BltL.cons (Blt.str) q (BltL.cons (Blt.str) q (BltL.nil))))))) u79 j9 q q q q q q (fun v254 w255 H256 => ?_)
   refine XN H256.chg <| X1 5 (by kernel_rfl) q ?_
   have H258 := H256.p1
   refine zd q q c44 (w_spec_l20Rd__pick w255 _ bp0 A0 B0 (C0.c) x2.1 6 x13 hx14 H258.ctx) (by rfl) ?_
   rintro _ w259 ⟨rfl, H260⟩; refine ⟨_, q, ?_⟩
   have H261 := H258.cN1 [_] H260
   refine XN H261.chg ?_
   obtain ⟨b262, off263, cap264, hv265⟩ := Ctx.isAt H261.ctx hS1 hx20
   refine XT (i := 6) q (by kernel_rfl) q H261.chg q (qs_index hx20 hv265 u79 i9 q q) q q <| X1 7 (by kernel_rfl) q ?_
   obtain ⟨F266, hat267, hdup268⟩ := H261.at hS1 hx20 hv265
   refine XL_load_str u9 q hat267 q q q <| XN H261.chg <| XQ (i := 8) q (by kernel_rfl) q H261.chg q (fun _ => qt_sadd q q hx29) q q <| XQ (i := 13) q (by kernel_rfl) q H261.chg q (fun _ => qt_sadd q q hx33) q q ?_
   have H269 := H209.cN2 [_] H261
   refine X1 14 (by kernel_rfl) q <| qA q q q <| XE q ?_
   refine XC_done (by kernel_rfl) (fun a ha => ?_)
   have H270 := H269.q1
   exact ⟨ha.sub ⟨q, q, trivial⟩, H270⟩
  refine XC_do q <| zd q q c44 (w_spec_l20Rd__pick w207 G bp0 A0 B0 (C0) x2.1 6 x13 hx14 H211.ctx) (by rfl) ?_
  rintro _ w271 ⟨rfl, H272⟩; refine ⟨_, q, ?_⟩
  have H273 := H211.cN1 [_] H272
  refine XN H273.chg <| X1 3 (by kernel_rfl) q ?_
  refine zs (t := .str) (args := [.const (strV []), .const (strV [48]), .const (strV [32]), .const (strV [10]), .const (strV [57]), .const (strV [98, 117, 121])]) (xs := ([([] : List UInt8), ([48] : List UInt8), ([32] : List UInt8), ([10] : List UInt8), ([57] : List UInt8), ([98, 117, 121] : List UInt8)] : List (List UInt8))) H273 (BltL.cons (Blt.str) q (BltL.cons (Blt.str) q (BltL.cons (Blt.str) q (BltL.cons (Blt.str) q (BltL.cons (Blt.str) q (BltL.cons (Blt.str) q (BltL.nil))))))) u79 j9 q q q q q q (fun v274 w275 H276 => ?_)
  refine XN H276.chg ?_
  obtain ⟨b278, off279, cap280, hv281⟩ := Ctx.isAt H276.ctx hS0 hx20
  refine XT (i := 6) q (by kernel_rfl) q H276.chg q (qs_index hx20 hv281 u79 i9 q q) q q <| X1 7 (by kernel_rfl) q ?_
  obtain ⟨F282, hat283, hdup284⟩ := H276.at hS0 hx20 hv281
  refine XL_load_str u9 q hat283 q q q <| XN H276.chg <| XQ (i := 8) q (by kernel_rfl) q H276.chg q (fun _ => qt_sadd q q hx29) q q <| XQ (i := 13) q (by kernel_rfl) q H276.chg q (fun _ => qt_sadd q q hx33) q q ?_
  have H285 := H209.cN2 [_] H276
  refine X1 14 (by kernel_rfl) q <| qA q q q <| XE q ?_
  refine XC_done (by kernel_rfl) (fun a ha => ?_)
  have H286 := H285.q0
  exact ⟨ha.sub ⟨q, q, trivial⟩, H286⟩
 intro a w287 hI288
 obtain ⟨ha, H289⟩ := hI288
 refine S ?_ ha
 clear ha
 refine W fun a ha => ?_
 obtain rfl := L h
 exact ret1 q ha q ⟨q, H289⟩
theorem w_spec_DrawReadDeed (w : World) (G : List Res) (vp0 : Value) (p0 : List Int) (hp0 : HasRo G (.int .u8) vp0 p0) (r : (List UInt8)) (h : spec_DrawReadDeedS p0 = some r) (H : Ctx w G) : Calls Tryd.prog 24 #[vp0] w fun e w' => e = .returned (strV r) ∧ Holds M0 w w' [] G := by
 have H : Holds M0 w w [] G := zb H
 refine zg (args := [vp0]) (n := 19) Tryd.func24 q q q ?_
 unfold spec_DrawReadDeedS at h
 refine rR <| qA q q q <| rN <| qM q q q ?_
 obtain ⟨x1, hx2, h⟩ := D h
 refine zd q q c32 (w_spec_l20Open w G vp0 p0 (hp0) x1 hx2 H.ctx) (by rfl) ?_
 rintro _ w3 ⟨v5, b6, rfl, H4⟩; refine ⟨_, q, ?_⟩
 have H7 := H.cN2 [] H4
 refine qA q q q <| rN <| qM q q q <| qM q q q ?_
 have H10 := H7.p1
 obtain ⟨x8, hx9, h⟩ := D h
 refine zd q q c31 (w_spec_l20House w3 _ b6 v5 x1.1 hR0 x1.2 0 x8 hx9 H10.ctx) (by rfl) ?_
 rintro _ w11 ⟨v13, v14, v15, v16, rfl, H12⟩; refine ⟨_, q, ?_⟩
 have H17 := H10.cN5 [_] H12
 have H20 := H17.p4
 obtain ⟨x18, hx19, h⟩ := D h
 refine zd q q c45 (w_spec_l20HouseDeed w11 _ b6 v5 x1.1 hR4 x8.1 v13 x8.2.1 hS0 v14 x8.2.2.1 hS1 v15 x8.2.2.2.1 hS2 x8.2.2.2.2.1 v16 x8.2.2.2.2.2 hS3 x18 hx19 H20.ctx) (by rfl) ?_
 rintro _ w21 ⟨rfl, H22⟩; refine ⟨_, q, ?_⟩
 have H23 := H20.cN1 [_] H22
 obtain ⟨x24, hx25, h⟩ := D h
 refine zd q q c22 (w_spec_DeedText w21 _ x18.2.1 x18.2.2.1 x18.2.2.2.1 x18.2.2.2.2 x24 hx25 H23.ctx) (by rfl) ?_
 rintro _ w26 ⟨rfl, H27⟩; refine ⟨_, q, ?_⟩
 have H28 := H23.cN0 [] H27
 refine qA q q q <| B <| C <| rR <| qM q q q ?_
 obtain ⟨x29, hx30, h⟩ := D h
 refine zd q q c44 (w_spec_l20Rd__pick w26 _ b6 v5 x1.1 hR4 x18.1 3 x29 hx30 H28.ctx) (by rfl) ?_
 rintro _ w31 ⟨rfl, H32⟩; refine ⟨_, q, ?_⟩
 have H33 := H28.cN1 [_] H32
 refine A q (qt_eql q q) q q <| B ?_
 refine Y q (fun hc34 => ?_) (fun hc34 => ?_)
 ·have h := if_t hc34 h
  refine rR <| qM q q q <| qM q q q ?_
  obtain ⟨x35, hx36, h⟩ := D h
  refine zd q q c54 (w_spec_l20Spoil w31 _ b6 v5 x1.1 hR4 x29.1 x24 x35 hx36 H33.ctx) (by rfl) ?_
  rintro _ w37 ⟨rfl, H38⟩; refine ⟨_, q, ?_⟩
  have H39 := H33.cN1 [_] H38
  refine qA q q q <| B <| W fun a ha => ?_
  obtain rfl := L h
  have H40 := H39.q0.q0.q0.q0.q0.q0
  exact m (ret1 q ha q ⟨q, H40⟩)
 have h := if_f hc34 h
 refine y <| rR <| qM q q q <| qA q q q <| B <| W fun a ha => ?_
 obtain rfl := L h
 have H41 := H33.q0.q0.q0.q0.q0.q0
 exact ret1 q ha q ⟨q, H41⟩
theorem w_spec_l1Cut (w : World) (G : List Res) (p0 : List UInt8) (p1 : Int) (r : (List (List UInt8))) (h : spec_l1CutS p0 p1 = some r) (H : Ctx w G) : Calls Tryd.prog 55 #[strV p0, .int .u8 p1] w fun e w' => ∃ (v1 : Value), e = .returned (v1) ∧ Holds M0 w w' [.sl 9 .str v1 r] G := by
 have H : Holds M0 w w [] G := zb H
 refine zg (args := [strV p0, .int .u8 p1]) (n := 35) Tryd.func55 q q q ?_
 unfold spec_l1CutS at h
 refine rR <| qA q q q <| B <| C <| Z ?_
 refine zs (t := .str) (args := []) (xs := ([] : List (List UInt8))) H (BltL.nil) u79 j9 q q q q q q (fun v1 w2 H3 => ?_)
 refine qA q q q <| rN <| qA q q q <| B <| C <| rR <| qA q q q ?_
 refine B <| g ?_
 obtain ⟨o8, ho9, h⟩ := D h
 refine fun a10 ha11 => zp (I := fun s a w2 => match s with | (s5, s6, s7) => ∃ vs5, Fr a 35 [(0, strV p0), (1, .int .u8 p1), (5, vs5), (6, iV s6), (7, iV s7)] ∧ Holds M0 w w2 [.sl 9 .str vs5 s5] G) (O := fun o e a w2 => match o with | (q0, q1) => e = .exit 0 ∧ ∃ vq0, Fr a 35 [(0, strV p0), (5, vq0), (6, iV q1)] ∧ Holds M0 w w2 [.sl 9 .str vq0 q0] G) ho9 ?_ ?_ ?_
 ·exact ⟨v1, ha11.sub ⟨q, q, q, q, q, trivial⟩, H3⟩
 ·clear ha11
  intro s o14 a w12 hs13 hI15
  obtain ⟨s5, s6, s7⟩ := s
  obtain ⟨vs5, ha, H16⟩ := hI15
  refine S ?_ ha
  clear ha
  refine C <| rR <| qM q q q <| qM q q q <| A q (qt_slen u9 q) q q <| A q (qt_lss q q) q q <| B ?_
  refine Y q (fun hc17 => ?_) (fun hc17 => ?_)
  ·have hs13 := if_t hc17 hs13
   refine y <| C <| g <| rR <| qM q q q <| qM q q q ?_
   obtain ⟨x18, hx19, hs13⟩ := D hs13
   refine A q (qt_sidx u9 q q hx19) q q <| qM q q q <| A q (qt_eql q q) q q <| B ?_
   refine Y q (fun hc20 => ?_) (fun hc20 => ?_)
   ·have hs13 := if_t hc20 hs13
    refine rR <| qM q q q <| qM q q q <| qM q q q <| qM q q q ?_
    obtain ⟨x21, hx22, hs13⟩ := D hs13
    refine A q (qt_ssub u9 ⟨_, q⟩ ⟨_, q⟩ q hx22) q q ?_
    refine zs (t := .str) (args := [.tmp 24]) (xs := ([x21] : List (List UInt8))) H16 (BltL.cons (Blt.str) q (BltL.nil)) u79 j9 q q q q q q (fun v23 w24 H25 => ?_)
    have H27 := H25.p1
    obtain ⟨x28, hx29, hs13⟩ := D hs13
    refine zw H27 hS1 hx29 u79 j9 q q q q q q (fun v30 w31 H32 => ?_)
    refine qA q q q <| B <| Z <| qM q q q <| A q (qt_add q q) q q <| qA q q q <| WL_nil fun a ha => ?_
    refine zi (X (S ?_ ha))
    refine Z <| qM q q q <| A q (qt_add q q) q q <| qA q q q <| WL_nil fun a ha => ?_
    obtain rfl := L hs13
    have H34 := H32.q1
    exact ⟨q, v30, ha.sub ⟨q, q, q, q, q, trivial⟩, H34⟩
   have hs13 := if_f hc20 hs13
   refine WP_skip fun a ha => ?_
   refine zi (X (S ?_ ha))
   refine Z <| qM q q q <| A q (qt_add q q) q q <| qA q q q <| WL_nil fun a ha => ?_
   obtain rfl := L hs13
   exact ⟨q, vs5, ha.sub ⟨q, q, q, q, q, trivial⟩, H16⟩
  have hs13 := if_f hc17 hs13
  refine WP_exit fun a ha => ?_
  obtain rfl := L hs13
  exact zo (⟨exit_ne, q, vs5, ha.sub ⟨q, q, q, trivial⟩, H16⟩)
 intro e a10 w35 hO36
 obtain ⟨p37, p38⟩ := o8
 obtain ⟨rfl, hO40⟩ := hO36
 obtain ⟨vp37, ha, H39⟩ := hO40
 refine zn (X (S ?_ ha))
 refine rR <| qM q q q <| qM q q q <| qM q q q ?_
 obtain ⟨x41, hx42, h⟩ := D h
 refine A q (qt_ssub u9 ⟨_, q⟩ q q hx42) q q ?_
 refine zs (t := .str) (args := [.tmp 32]) (xs := ([x41] : List (List UInt8))) H39 (BltL.cons (Blt.str) q (BltL.nil)) u79 j9 q q q q q q (fun v43 w44 H45 => ?_)
 have H47 := H45.p1
 obtain ⟨x48, hx49, h⟩ := D h
 refine zw H47 hS1 hx49 u79 j9 q q q q q q (fun v50 w51 H52 => ?_)
 refine qA q q q <| B <| W fun a ha => ?_
 obtain rfl := L h
 have H54 := H52.q1
 exact ret1 q ha q ⟨v50, q, H54⟩
theorem w_spec_l1Read (w : World) (G : List Res) (p0 : List UInt8) (r : Int) (h : spec_l1ReadS p0 = some r) (H : Ctx w G) : Calls Tryd.prog 56 #[strV p0] w fun e w' => e = .returned (iV r) ∧ Holds M0 w w' [] G := by
 have H : Holds M0 w w [] G := zb H
 refine zg (args := [strV p0]) (n := 44) Tryd.func56 q q q ?_
 unfold spec_l1ReadS at h
 refine rR <| qA q q q <| B <| C <| C <| zk <| qM q q q <| A q (qt_slen u9 q) q q ?_
 obtain ⟨x1, hx2, h⟩ := D h
 refine QC q q c38 (fun w' hb => w_spec_l1In w' G (List.length p0 : Int) 1 5 x1 hx2 (H.grow hb).ctx) (by rfl) <| A q (qt_not q) q q <| qM q q q ?_
 obtain ⟨b3, hg4, h⟩ := D h
 refine zh 9 18 (.bool b3) ?_ (fun md hmd hk => ?_)
 rotate_left
 ·obtain ⟨K, rfl⟩ := zr hmd
  rcases btf (!x1) with hc5 | hc5
  ·skip
   refine qS q hc5 q q <| qS q hc5 q q <| qS q hc5 q q <| qS q hc5 q q <| XL_skip q q q <| XL_skip q q q <| XL_skip q q q <| qS q hc5 q q <| A q (ze q hc5 q) q q ?_
   exact hk _ (p (vb (if_t hc5 hg4)) (cfn 8 q (u)))
  skip
  have hg4 := if_f hc5 hg4
  refine qM (J q hc5) q q <| A (J q hc5) (qt_slen u9 q) q q <| A (J q hc5) (qt_gtr q q) q q <| qM (J q hc5) q q ?_
  obtain ⟨b6, hg7, hg4⟩ := D hg4
  refine zh 4 17 (.bool b6) ?_ (fun md hmd hk => ?_)
  rotate_left
  ·obtain ⟨K, rfl⟩ := zr hmd
   rcases btf (decide ((List.length p0 : Int) > 1)) with hc8 | hc8
   ·skip
    have hg7 := if_t hc8 hg7
    refine qM (J q hc8) q q ?_
    obtain ⟨x9, hx10, hg7⟩ := D hg7
    refine A (J q hc8) (qt_sidx u9 q q hx10) q q <| A (J q hc8) (qt_eql q q) q q <| A (J q hc5) (ze q hc8 q) q q ?_
    exact hk _ (p (vb hg7) (cfn 3 q (u)))
   skip
   refine qS q hc8 q q <| qS q hc8 q q <| qS q hc8 q q <| A (J q hc5) (zf q hc8 q) q q ?_
   exact hk _ (p (vb (if_f hc8 hg7)) (cfn 3 q (u)))
  refine A q (zf q hc5 q) q q ?_
  exact hk _ (p (vb hg4) (cfn 5 q (u)))
 refine QL_nil fun a ha w11 hb12 => ?_
 have H13 := H.grow hb12
 refine X (S ?_ ha)
 refine Y q (fun hc14 => ?_) (fun hc14 => ?_)
 ·have h := if_t hc14 h
  refine rR <| qA q q q <| B <| W fun a ha => ?_
  obtain rfl := L h
  exact m (ret1 q ha q ⟨q, H13⟩)
 have h := if_f hc14 h
 refine y <| rR <| qA q q q <| B <| C <| rR <| qA q q q <| B ?_
 refine g ?_
 obtain ⟨o17, ho18, h⟩ := D h
 refine fun a19 ha20 => zp (I := fun s a w2 => match s with | (s15, s16) => (Fr a 44 [(0, strV p0), (3, iV s15), (4, iV s16)] ∧ Holds M0 w w2 [] G)) (O := fun o e a w2 => match o with | .inl q0 => e = .exit 0 ∧ (Fr a 44 [(3, iV q0)] ∧ Holds M0 w w2 [] G) | .inr q0 => e = .ret ∧ (Fr a 44 [(2, iV q0)] ∧ Holds M0 w w2 [] G)) ho18 ?_ ?_ ?_
 ·exact ⟨ha20.sub ⟨q, q, q, trivial⟩, H13⟩
 ·clear ha20
  intro s o23 a w21 hs22 hI24
  obtain ⟨s15, s16⟩ := s
  obtain ⟨ha, H25⟩ := hI24
  refine S ?_ ha
  clear ha
  refine C <| rR <| qM q q q <| qM q q q <| A q (qt_slen u9 q) q q <| A q (qt_lss q q) q q <| B ?_
  refine Y q (fun hc26 => ?_) (fun hc26 => ?_)
  ·have hs22 := if_t hc26 hs22
   refine y <| C <| g <| C <| rR <| qM q q q <| qM q q q ?_
   obtain ⟨x27, hx28, hs22⟩ := D hs22
   refine A q (qt_sidx u9 q q hx28) q q <| A q (qt_lss q q) q q <| qM q q q ?_
   obtain ⟨b29, hg30, hs22⟩ := D hs22
   refine zh 5 34 (.bool b29) ?_ (fun md hmd hk => ?_)
   rotate_left
   ·obtain ⟨Q, rfl⟩ := Md.seq_of hmd
    rcases btf (decide (x27 < 48)) with hc31 | hc31
    ·skip
     refine qS q hc31 q q <| qS q hc31 q q <| qS q hc31 q q <| qS q hc31 q q <| A q (ze q hc31 q) q q ?_
     exact hk _ (p (vb (if_t hc31 hg30)) (cfn 4 q (u)))
    skip
    have hg30 := if_f hc31 hg30
    refine qM (J q hc31) q q <| qM (J q hc31) q q ?_
    obtain ⟨x32, hx33, hg30⟩ := D hg30
    refine A (J q hc31) (qt_sidx u9 q q hx33) q q <| A (J q hc31) (qt_gtr q q) q q <| A q (zf q hc31 q) q q ?_
    exact hk _ (p (vb hg30) (cfn 4 q (u)))
   refine B ?_
   refine Y q (fun hc34 => ?_) (fun hc34 => ?_)
   ·have hs22 := if_t hc34 hs22
    refine rR <| qA q q q <| B <| W fun a ha => ?_
    obtain rfl := L hs22
    exact m (zj (m (⟨ret_ne, q, ha.sub ⟨q, trivial⟩, H25⟩)))
   have hs22 := if_f hc34 hs22
   refine y <| Z <| qM q q q <| A q (qt_mul q q) q q <| qM q q q <| qM q q q ?_
   obtain ⟨x35, hx36, hs22⟩ := D hs22
   refine A q (qt_sidx u9 q q hx36) q q <| A q (qt_sub q q) q q <| A q (qt_int u3 q u5) q q <| A q (qt_add q q) q q <| qA q q q <| WL_nil fun a ha => ?_
   refine zi (X (S ?_ ha))
   refine Z <| qM q q q <| A q (qt_add q q) q q <| qA q q q <| WL_nil fun a ha => ?_
   obtain rfl := L hs22
   exact ⟨q, ha.sub ⟨q, q, q, trivial⟩, H25⟩
  have hs22 := if_f hc26 hs22
  refine WP_exit fun a ha => ?_
  obtain rfl := L hs22
  exact zo (⟨exit_ne, q, ha.sub ⟨q, trivial⟩, H25⟩)
 intro e a19 w37 hO38
 rcases o17 with o17 | o17
 ·skip
  obtain ⟨p39, rfl⟩ : ∃ z, z = o17 := ⟨o17, q⟩
  obtain ⟨rfl, hO41⟩ := hO38
  obtain ⟨ha, H40⟩ := hO41
  refine zn (X (S ?_ ha))
  refine rR <| qM q q q <| qA q q q <| B <| W fun a ha => ?_
  obtain rfl := L h
  exact ret1 q ha q ⟨q, H40⟩
 skip
 obtain ⟨p42, rfl⟩ : ∃ z, z = o17 := ⟨o17, q⟩
 obtain ⟨rfl, hO44⟩ := hO38
 obtain ⟨ha, H43⟩ := hO44
 obtain rfl := L h
 exact zj (m (ret1 q ha q ⟨q, H43⟩))
theorem w_spec_ReadDeed (w : World) (G : List Res) (p0 : List UInt8) (r : (Int × Int × Int × Int) × Bool) (h : spec_ReadDeedS p0 = some r) (H : Ctx w G) : Calls Tryd.prog 25 #[strV p0] w fun e w' => e = .returned (.tuple #[.agg #[iV r.1.1, iV r.1.2.1, iV r.1.2.2.1, iV r.1.2.2.2], .bool r.2]) ∧ Holds M0 w w' [] G := by
 have H : Holds M0 w w [] G := zb H
 refine zg (args := [strV p0]) (n := 66) Tryd.func25 q q q ?_
 unfold spec_ReadDeedS at h
 refine C <| Z ?_
 refine zq (cs := [iV 0, iV 0, iV 0, iV 0]) H z43 q q q (fun b1 w2 H3 => ?_)
 refine qA q q q <| rN <| qM q q q ?_
 obtain ⟨x5, hx6, h⟩ := D h
 refine zd q q c55 (w_spec_l1Cut w2 _ p0 32 x5 hx6 H3.ctx) (by rfl) ?_
 rintro _ w7 ⟨v9, rfl, H8⟩; refine ⟨_, q, ?_⟩
 have H10 := H3.cN1 [] H8
 refine qA q q q <| B <| C <| Z ?_
 refine zs (t := tI) (args := [.const (iV 0), .const (iV 0), .const (iV 0)]) (xs := ([0, 0, 0] : List Int)) H10 (BltL.cons (Blt.int) q (BltL.cons (Blt.int) q (BltL.cons (Blt.int) q (BltL.nil)))) u24 j3 q q q q q q (fun v11 w12 H13 => ?_)
 refine qA q q q <| rN <| A q (qt_build (args := [(0, .const (iV (-1)))]) (css := [#[iV (-1)]]) (cells := #[iV (-1), iV 0, iV 0, iV 0]) q ⟨q, trivial⟩ (by kernel_rfl)) q q ?_
 refine zq (cs := [iV 0, iV 0, iV 0, iV 0]) H13 z43 q q q (fun b15 w16 H17 => ?_)
 refine zl (cs' := [iV (-1), iV 0, iV 0, iV 0]) H17 q il43 q q q q q (fun w19 H20 => ?_)
 refine B <| C <| rR <| qA q q q <| B <| g ?_
 obtain ⟨o24, ho25, h⟩ := D h
 have H28 := H20.p1.p2.p3
 refine fun a26 ha27 => zp (I := fun s a w2 => match s with | (s22, s23) => (Fr a 66 [(0, strV p0), (2, pB b1), (4, v9), (5, v11), (6, pB b15), (7, iV s22)] ∧ Holds M0 w w2 [.bx b1 43 [iV 0, iV 0, iV 0, iV 0], .sl 9 .str v9 x5, .sl 3 tI v11 ([0, 0, 0]), .bx b15 43 [iV s23, iV 0, iV 0, iV 0]] G)) (O := fun o e a w2 => match o with | q0 => e = .exit 0 ∧ (Fr a 66 [(0, strV p0), (2, pB b1), (4, v9), (5, v11), (6, pB b15)] ∧ Holds M0 w w2 [.bx b1 43 [iV 0, iV 0, iV 0, iV 0], .sl 9 .str v9 x5, .sl 3 tI v11 ([0, 0, 0]), .bx b15 43 [iV q0, iV 0, iV 0, iV 0]] G)) ho25 ?_ ?_ ?_
 ·exact ⟨ha27.sub ⟨q, q, q, q, q, q, trivial⟩, H28⟩
 ·clear ha27
  intro s o31 a w29 hs30 hI32
  obtain ⟨s22, s23⟩ := s
  obtain ⟨ha, H33⟩ := hI32
  refine S ?_ ha
  clear ha
  refine C <| rR <| qM q q q <| A q (qt_leq q q) q q <| B ?_
  refine Y q (fun hc34 => ?_) (fun hc34 => ?_)
  ·have hs30 := if_t hc34 hs30
   refine y <| C <| g <| C <| WP_quiet (by kernel_rfl) (by kernel_rfl) <| qM q q q ?_
   obtain ⟨x35, hx36, hs30⟩ := D hs30
   refine b H33.ctx hS1 hx36 u79 i9 q q q q (fun b37 off38 cap39 hv40 => ?_)
   obtain ⟨F41, hat42, hdup43⟩ := H33.at hS1 hx36 hv40
   refine XL_load_str u9 q hat42 q q q <| qM q q q ?_
   obtain ⟨x44, hx45, hs30⟩ := D hs30
   refine QC q q c49 (fun w' hb => w_spec_l7Name w' _ s22 x44 hx45 (H33.grow hb).ctx) (by rfl) <| A q (qt_seql q q) q q <| QL_nil fun a ha w46 hb47 => ?_
   have H48 := H33.grow hb47
   refine X (S ?_ ha)
   refine Y q (fun hc49 => ?_) (fun hc49 => ?_)
   ·have hs30 := if_t hc49 hs30
    refine Z <| qM q q q <| qF uf43 fi43_0 nz3 q q q ?_
    have H50 := H48.p3
    refine WL_store_bx H50 q il3 q q q q q (fun w51 H52 => ?_)
    refine WL_nil fun a ha => ?_
    refine zi (X (S ?_ ha))
    refine Z <| qM q q q <| A q (qt_add q q) q q <| qA q q q <| WL_nil fun a ha => ?_
    obtain rfl := L hs30
    have H54 := H52.p3.p3.p3
    exact ⟨q, ha.sub ⟨q, q, q, q, q, q, trivial⟩, H54⟩
   have hs30 := if_f hc49 hs30
   refine WP_skip fun a ha => ?_
   refine zi (X (S ?_ ha))
   refine Z <| qM q q q <| A q (qt_add q q) q q <| qA q q q <| WL_nil fun a ha => ?_
   obtain rfl := L hs30
   have H55 := H48.p3.p3.p3.p3
   exact ⟨q, ha.sub ⟨q, q, q, q, q, q, trivial⟩, H55⟩
  have hs30 := if_f hc34 hs30
  refine WP_exit fun a ha => ?_
  obtain rfl := L hs30
  have H56 := H33.p3.p3.p3.p3
  exact zo (⟨exit_ne, q, ha.sub ⟨q, q, q, q, q, trivial⟩, H56⟩)
 intro e a26 w57 hO58
 obtain ⟨p59, rfl⟩ : ∃ z, z = o24 := ⟨o24, q⟩
 obtain ⟨rfl, hO61⟩ := hO58
 obtain ⟨ha, H60⟩ := hO61
 refine zn (X (S ?_ ha))
 refine C <| rR <| qA q q q <| B <| g ?_
 obtain ⟨o64, ho65, h⟩ := D h
 have H68 := H60.p3.p3.p3.p3
 refine fun a66 ha67 => zp (I := fun s a w2 => match s with | (s62, s63) => (Fr a 66 [(0, strV p0), (2, pB b1), (4, v9), (5, v11), (6, pB b15), (8, iV s62)] ∧ Holds M0 w w2 [.bx b1 43 [iV 0, iV 0, iV 0, iV 0], .sl 9 .str v9 x5, .sl 3 tI v11 s63, .bx b15 43 [iV p59, iV 0, iV 0, iV 0]] G)) (O := fun o e a w2 => match o with | q0 => e = .exit 2 ∧ (Fr a 66 [(0, strV p0), (2, pB b1), (5, v11), (6, pB b15)] ∧ Holds M0 w w2 [.bx b1 43 [iV 0, iV 0, iV 0, iV 0], .sl 3 tI v11 q0, .bx b15 43 [iV p59, iV 0, iV 0, iV 0]] G)) ho65 ?_ ?_ ?_
 ·exact ⟨ha67.sub ⟨q, q, q, q, q, q, trivial⟩, H68⟩
 ·clear ha67
  intro s o71 a w69 hs70 hI72
  obtain ⟨s62, s63⟩ := s
  obtain ⟨ha, H73⟩ := hI72
  refine S ?_ ha
  clear ha
  refine C <| rR <| qM q q q <| qM q q q <| za H73.ctx (t := .str) hS1 u79 q q q <| A q (qt_lss q q) q q <| qM q q q ?_
  refine zh 3 32 (.bool ((decide (s62 < (List.length x5 : Int))) && (decide (s62 ≤ 3)))) ?_ (fun md hmd hk => ?_)
  rotate_left
  ·obtain ⟨Q, rfl⟩ := Md.seq_of hmd
   rcases btf (decide (s62 < (List.length x5 : Int))) with hc74 | hc74
   ·skip
    refine qM (J q hc74) q q <| A (J q hc74) (qt_leq q q) q q <| A q (ze q hc74 q) q q ?_
    exact hk _ (p (by rw [hc74]; rfl) (cfn 2 q (u)))
   skip
   refine qS q hc74 q q <| qS q hc74 q q <| A q (zf q hc74 q) q q ?_
   exact hk _ (p (by rw [hc74]; rfl) (cfn 2 q (u)))
  refine B ?_
  refine Y q (fun hc75 => ?_) (fun hc75 => ?_)
  ·have hs70 := if_t hc75 hs70
   refine y <| C <| g <| Z <| qM q q q <| qM q q q <| A q (qt_sub q q) q q <| qM q q q <| qM q q q ?_
   obtain ⟨x76, hx77, hs70⟩ := D hs70
   refine b H73.ctx hS1 hx77 u79 i9 q q q q (fun b78 off79 cap80 hv81 => ?_)
   obtain ⟨F82, hat83, hdup84⟩ := H73.at hS1 hx77 hv81
   refine XL_load_str u9 q hat83 q q q ?_
   obtain ⟨x85, hx86, hs70⟩ := D hs70
   refine zd q q c56 (w_spec_l1Read w69 _ x76 x85 hx86 H73.ctx) (by rfl) ?_
   rintro _ w87 ⟨rfl, H88⟩; refine ⟨_, q, ?_⟩
   have H89 := H73.cN0 [] H88
   obtain ⟨x90, hx91, hs70⟩ := D hs70
   refine b H89.ctx hS2 hx91 u24 i3 q q q q (fun b92 off93 cap94 hv95 => ?_)
   have H96 := H89.p2
   refine WL_storeH (fo := 0) (cs' := [iV x85]) H96 hx91 hv95 (Upd.whole (Blt.int)) q il3 q q q q (fun w97 H98 => ?_)
   refine WL_nil fun a ha => ?_
   refine zi (X (S ?_ ha))
   refine Z <| qM q q q <| A q (qt_add q q) q q <| qA q q q <| WL_nil fun a ha => ?_
   obtain rfl := L hs70
   have H100 := H98.p3.p1.p3.p3
   exact ⟨q, ha.sub ⟨q, q, q, q, q, q, trivial⟩, H100⟩
  have hs70 := if_f hc75 hs70
  refine WP_exit fun a ha => ?_
  obtain rfl := L hs70
  have H101 := H73.q1.p2.p2.p2
  exact zo (⟨exit_ne, q, ha.sub ⟨q, q, q, q, trivial⟩, H101⟩)
 intro e a66 w102 hO103
 obtain ⟨p104, rfl⟩ : ∃ z, z = o64 := ⟨o64, q⟩
 obtain ⟨rfl, hO106⟩ := hO103
 obtain ⟨ha, H105⟩ := hO106
 refine zn (X (S ?_ ha))
 refine rR <| qM q q q ?_
 obtain ⟨x107, hx108, h⟩ := D h
 refine b H105.ctx hS1 hx108 u24 i3 q q q q (fun b109 off110 cap111 hv112 => ?_)
 obtain ⟨F113, hat114, hdup115⟩ := H105.at hS1 hx108 hv112
 refine zt (k := .i64) u3 q hat114 q q q <| qF uf43 fi43_1 nz3 q q q ?_
 have H116 := H105.p2
 refine WL_store_bx H116 q il3 q q q q q (fun w117 H118 => ?_)
 refine rN <| qM q q q ?_
 obtain ⟨x120, hx121, h⟩ := D h
 refine b H118.ctx hS2 hx121 u24 i3 q q q q (fun b122 off123 cap124 hv125 => ?_)
 obtain ⟨F126, hat127, hdup128⟩ := H118.at hS2 hx121 hv125
 refine zt (k := .i64) u3 q hat127 q q q <| qF uf43 fi43_2 nz3 q q q ?_
 refine WL_store_bx H118 q il3 q q q q q (fun w129 H130 => ?_)
 refine rN <| qM q q q ?_
 obtain ⟨x132, hx133, h⟩ := D h
 refine b H130.ctx hS2 hx133 u24 i3 q q q q (fun b134 off135 cap136 hv137 => ?_)
 obtain ⟨F138, hat139, hdup140⟩ := H130.at hS2 hx133 hv137
 refine zt (k := .i64) u3 q hat139 q q q <| qF uf43 fi43_3 nz3 q q q ?_
 refine WL_store_bx H130 q il3 q q q q q (fun w141 H142 => ?_)
 refine B <| C <| C <| zk <| qM q q q <| A q (qt_seql q q) q q <| qM q q q ?_
 obtain ⟨b144, hg145, h⟩ := D h
 refine zh 5 63 (.bool b144) ?_ (fun md hmd hk => ?_)
 rotate_left
 ·obtain ⟨K, rfl⟩ := zr hmd
  rcases btf (p0 == ([] : List UInt8)) with hc146 | hc146
  ·skip
   refine qS q hc146 q q <| qS q hc146 q q <| qS q hc146 q q <| qS q hc146 q q <| A q (ze q hc146 q) q q ?_
   exact hk _ (p (vb (if_t hc146 hg145)) (cfn 4 q (u)))
  skip
  have hg145 := if_f hc146 hg145
  have hB147 := R H142.p0
  refine zm (cs := [iV p59, iV x107, iV x120, iV x132]) us43 uo43 il43 hB147 (J q hc146) q q ?_
  change XL _ _ _ _ _ ((59, .agg #[iV p59, iV x107, iV x120, iV x132]) :: _) _
  obtain ⟨x148, hx149, hg145⟩ := D hg145
  refine QC (J q hc146) q c22 (fun w' hb => w_spec_DeedText w' _ p59 x107 x120 x132 x148 hx149 (H142.grow hb).ctx) (by rfl) <| qM (J q hc146) q q <| A (J q hc146) (qt_sneq q q) q q <| A q (zf q hc146 q) q q ?_
  exact hk _ (p (vb hg145) (cfn 4 q (u)))
 refine QL_nil fun a ha w150 hb151 => ?_
 have H152 := H142.grow hb151
 refine X (S ?_ ha)
 refine Y q (fun hc153 => ?_) (fun hc153 => ?_)
 ·have h := if_t hc153 h
  refine rR <| A q (qt_build (args := []) (css := []) (cells := #[iV 0, iV 0, iV 0, iV 0]) q trivial (by kernel_rfl)) q q ?_
  have H154 := H152.p1
  refine zl (cs' := [iV 0, iV 0, iV 0, iV 0]) H154 q il43 q q q q q (fun w155 H156 => ?_)
  refine qA q q q <| B <| W fun a ha => ?_
  obtain rfl := L h
  have hB158 := R H156.p0
  have H159 := H156.q0.q0.q0
  exact m (retct q ha q q (run_loadVar_bx (cs := [iV 0, iV 0, iV 0, iV 0]) us43 uo43 il43 hB158) ⟨q, H159⟩)
 have h := if_f hc153 h
 refine y <| C <| Z ?_
 have hB160 := R H152.p0
 refine zm (cs := [iV p59, iV x107, iV x120, iV x132]) us43 uo43 il43 hB160 q q q ?_
 change XL _ _ _ _ _ ((65, .agg #[iV p59, iV x107, iV x120, iV x132]) :: _) _
 have H161 := H152.p1
 refine zl (cs' := [iV p59, iV x107, iV x120, iV x132]) H161 q il43 q q q q q (fun w162 H163 => ?_)
 refine qA q q q <| B <| W fun a ha => ?_
 obtain rfl := L h
 have hB165 := R H163.p0
 have H166 := H163.q0.q0.q0
 exact retct q ha q q (run_loadVar_bx (cs := [iV p59, iV x107, iV x120, iV x132]) us43 uo43 il43 hB165) ⟨q, H166⟩
theorem w_laws_FnReadDeed (w : World) (G : List Res) (hGl : Glob G) (hGm : GlobM G) (hGp : GlobP G) (vp0 : Value) (p0 : List Int) (hp0 : HasRo G (.int .u8) vp0 p0) (r : Bool) (h : laws_FnReadDeedS p0 = some r) (H : Ctx w G) : Calls Tryd.prog 7 #[vp0] w fun e w' => e = .returned (.bool r) ∧ Holds M0 w w' [] G := by
 have H : Holds M0 w w [] G := zb H
 refine zg (args := [vp0]) (n := 55) Tryd.func7 q q q ?_
 unfold laws_FnReadDeedS at h
 refine rR <| qA q q q <| B <| C <| rR <| qM q q q <| za H.ctx (t := (.int .u8)) (hp0.has) u22 q q q <| A q (qt_gtr q q) q q ?_
 refine B ?_
 refine Y q (fun hc1 => ?_) (fun hc1 => ?_)
 ·have h := if_t hc1 h
  refine rR <| qA q q q <| B <| W fun a ha => ?_
  obtain rfl := L h
  exact m (ret1 q ha q ⟨q, H⟩)
 have h := if_f hc1 h
 refine y <| C <| zk <| qM q q q ?_
 obtain ⟨x2, hx3, h⟩ := D h
 refine QC q q c24 (fun w' hb => w_spec_DrawReadDeed w' G vp0 p0 (hp0) x2 hx3 (H.grow hb).ctx) (by rfl) <| qA q q q <| QL_nil fun a ha w4 hb5 => ?_
 have H6 := H.grow hb5
 refine X (S ?_ ha)
 refine rR <| qM q q q ?_
 obtain ⟨x7, hx8, h⟩ := D h
 refine zd q q c23 (w_impl_ReadDeed w4 G hGl hGm x2 x7 hx8 H6.ctx) (by rfl) ?_
 rintro _ w9 ⟨rfl, H10⟩; refine ⟨_, q, ?_⟩
 have H11 := H6.cN0 [] H10
 refine qM q q q <| A q (zv q q) q q <| A q (zv q q) q q ?_
 refine zq (cs := [iV 0, iV 0, iV 0, iV 0]) H11 z43 q q q (fun b12 w13 H14 => ?_)
 refine zl (cs' := [iV x7.1.1, iV x7.1.2.1, iV x7.1.2.2.1, iV x7.1.2.2.2]) H14 q il43 q q q q q (fun w16 H17 => ?_)
 refine qA q q q <| rN <| qM q q q ?_
 obtain ⟨x19, hx20, h⟩ := D h
 refine zd q q c25 (w_spec_ReadDeed w16 _ x2 x19 hx20 H17.ctx) (by rfl) ?_
 rintro _ w21 ⟨rfl, H22⟩; refine ⟨_, q, ?_⟩
 have H23 := H17.cN0 [] H22
 refine qM q q q <| A q (zv q q) q q <| A q (zv q q) q q ?_
 refine zq (cs := [iV 0, iV 0, iV 0, iV 0]) H23 z43 q q q (fun b24 w25 H26 => ?_)
 refine zl (cs' := [iV x19.1.1, iV x19.1.2.1, iV x19.1.2.2.1, iV x19.1.2.2.2]) H26 q il43 q q q q q (fun w28 H29 => ?_)
 refine qA q q q <| B <| C <| C <| Z ?_
 have hB31 := R H29.p1
 refine zm (cs := [iV x7.1.1, iV x7.1.2.1, iV x7.1.2.2.1, iV x7.1.2.2.2]) us43 uo43 il43 hB31 q q q ?_
 change XL _ _ _ _ _ ((25, .agg #[iV x7.1.1, iV x7.1.2.1, iV x7.1.2.2.1, iV x7.1.2.2.2]) :: _) _
 have hB32 := R H29.p0
 refine zm (cs := [iV x19.1.1, iV x19.1.2.1, iV x19.1.2.2.1, iV x19.1.2.2.2]) us43 uo43 il43 hB32 q q q ?_
 change XL _ _ _ _ _ ((26, .agg #[iV x19.1.1, iV x19.1.2.1, iV x19.1.2.2.1, iV x19.1.2.2.2]) :: _) _
 refine A q (qt_neqA q q (by kernel_rfl) (eqs43 x7.1.1 x19.1.1 x7.1.2.1 x19.1.2.1 x7.1.2.2.1 x19.1.2.2.1 x7.1.2.2.2 x19.1.2.2.2)) q q <| qM q q q ?_
 refine zh 4 32 (.bool ((!(((x7.1.1, x7.1.2.1, x7.1.2.2.1, x7.1.2.2.2) : Int × Int × Int × Int) == ((x19.1.1, x19.1.2.1, x19.1.2.2.1, x19.1.2.2.2) : Int × Int × Int × Int))) || (!(x7.2 == x19.2)))) ?_ (fun md hmd hk => ?_)
 rotate_left
 ·obtain ⟨Q, rfl⟩ := Md.seq_of hmd
  rcases btf (!(((x7.1.1, x7.1.2.1, x7.1.2.2.1, x7.1.2.2.2) : Int × Int × Int × Int) == ((x19.1.1, x19.1.2.1, x19.1.2.2.1, x19.1.2.2.2) : Int × Int × Int × Int))) with hc33 | hc33
  ·skip
   refine qS q hc33 q q <| qS q hc33 q q <| qS q hc33 q q <| A q (ze q hc33 q) q q ?_
   exact hk _ (p (by rw [hc33]; rfl) (cfn 3 q (u)))
  skip
  refine qM (J q hc33) q q <| qM (J q hc33) q q <| A (J q hc33) (qt_bneq u4 q q) q q <| A q (zf q hc33 q) q q ?_
  exact hk _ (p (by rw [hc33]; rfl) (cfn 3 q (u)))
 refine B ?_
 refine Y q (fun hc34 => ?_) (fun hc34 => ?_)
 ·have h := if_t hc34 h
  refine rR <| qA q q q <| B <| W fun a ha => ?_
  obtain rfl := L h
  have H35 := H29.q0.q0
  exact m (ret1 q ha q ⟨q, H35⟩)
 have h := if_f hc34 h
 refine y <| C <| rR <| qM q q q <| A q (qt_not q) q q <| B ?_
 refine Y q (fun hc36 => ?_) (fun hc36 => ?_)
 ·have h := if_t hc36 h
  refine C <| zk ?_
  have hB37 := R H29.p1
  refine zm (cs := [iV x7.1.1, iV x7.1.2.1, iV x7.1.2.2.1, iV x7.1.2.2.2]) us43 uo43 il43 hB37 q q q ?_
  change XL _ _ _ _ _ ((35, .agg #[iV x7.1.1, iV x7.1.2.1, iV x7.1.2.2.1, iV x7.1.2.2.2]) :: _) _
  refine A q (qt_build (args := []) (css := []) (cells := #[iV 0, iV 0, iV 0, iV 0]) q trivial (by kernel_rfl)) q q <| A q (qt_eqlA q q (by kernel_rfl) (eqs43 x7.1.1 0 x7.1.2.1 0 x7.1.2.2.1 0 x7.1.2.2.2 0)) q q <| qM q q q ?_
  obtain ⟨b38, hg39, h⟩ := D h
  refine zh 2 40 (.bool b38) ?_ (fun md hmd hk => ?_)
  rotate_left
  ·obtain ⟨K, rfl⟩ := zr hmd
   rcases btf (((x7.1.1, x7.1.2.1, x7.1.2.2.1, x7.1.2.2.2) : Int × Int × Int × Int) == ((0, 0, 0, 0) : Int × Int × Int × Int)) with hc40 | hc40
   ·skip
    have hg39 := if_t hc40 hg39
    obtain ⟨x41, hx42, hg39⟩ := D hg39
    refine QC (J q hc40) q c12 (fun w' hb => w_laws_alive w' _  x41 hx42 (H29.grow hb).ctx) (by rfl) <| A q (ze q hc40 q) q q ?_
    exact hk _ (p (vb hg39) (Cov.fresh q (u)))
   skip
   refine qS q hc40 q q <| A q (zf q hc40 q) q q ?_
   exact hk _ (p (vb (if_f hc40 hg39)) (Cov.fresh q (u)))
  refine qA q q q <| QL_nil fun a ha w43 hb44 => ?_
  have H45 := H29.grow hb44
  refine X (S ?_ ha)
  refine W fun a ha => ?_
  obtain rfl := L h
  have H46 := H45.q0.q0
  exact m (ret1 q ha q ⟨q, H46⟩)
 have h := if_f hc36 h
 refine y <| rR <| qM q q q ?_
 obtain ⟨x47, hx48, h⟩ := D h
 refine A q (qt_sadd q q hx48) q q ?_
 obtain ⟨x49, hx50, h⟩ := D h
 refine zd q q c23 (w_impl_ReadDeed w28 _ hGl.c.c hGm.c.c x47 x49 hx50 H29.ctx) (by rfl) ?_
 rintro _ w51 ⟨rfl, H52⟩; refine ⟨_, q, ?_⟩
 have H53 := H29.cN0 [] H52
 refine qM q q q <| A q (zv q q) q q <| A q (zv q q) q q ?_
 refine zq (cs := [iV 0, iV 0, iV 0, iV 0]) H53 z43 q q q (fun b54 w55 H56 => ?_)
 refine zl (cs' := [iV x49.1.1, iV x49.1.2.1, iV x49.1.2.2.1, iV x49.1.2.2.2]) H56 q il43 q q q q q (fun w58 H59 => ?_)
 refine qA q q q <| B <| C <| zk ?_
 have hB61 := R H59.p2
 refine zm (cs := [iV x7.1.1, iV x7.1.2.1, iV x7.1.2.2.1, iV x7.1.2.2.2]) us43 uo43 il43 hB61 q q q ?_
 change XL _ _ _ _ _ ((47, .agg #[iV x7.1.1, iV x7.1.2.1, iV x7.1.2.2.1, iV x7.1.2.2.2]) :: _) _
 obtain ⟨x62, hx63, h⟩ := D h
 refine QC q q c21 (fun w' hb => w_impl_DeedText w' _ hGl.c.c.c hGp.c.c.c x7.1.1 x7.1.2.1 x7.1.2.2.1 x7.1.2.2.2 x62 hx63 (H59.grow hb).ctx) (by rfl) <| qM q q q <| A q (qt_seql q q) q q <| qM q q q ?_
 refine zh 3 54 (.bool ((x62 == x2) && (!x49.2))) ?_ (fun md hmd hk => ?_)
 rotate_left
 ·obtain ⟨K, rfl⟩ := zr hmd
  rcases btf (x62 == x2) with hc64 | hc64
  ·skip
   refine qM (J q hc64) q q <| A (J q hc64) (qt_not q) q q <| A q (ze q hc64 q) q q ?_
   exact hk _ (p (by rw [hc64]; rfl) (cfn 2 q (u)))
  skip
  refine qS q hc64 q q <| qS q hc64 q q <| A q (zf q hc64 q) q q ?_
  exact hk _ (p (by rw [hc64]; rfl) (cfn 2 q (u)))
 refine qA q q q <| QL_nil fun a ha w65 hb66 => ?_
 have H67 := H59.grow hb66
 refine X (S ?_ ha)
 refine W fun a ha => ?_
 obtain rfl := L h
 have H68 := H67.q0.q0.q0
 exact ret1 q ha q ⟨q, H68⟩
theorem w_impl_ReadJournal (w : World) (G : List Res) (hGl : Glob G) (hGm : GlobM G) (p0 : List UInt8) (r : (List (Int × Int × Int × Int)) × Int) (h : impl_ReadJournalS p0 = some r) (H : Ctx w G) : Calls Tryd.prog 29 #[strV p0] w fun e w' => ∃ (v1 : Value), e = .returned (.tuple #[v1, iV r.2]) ∧ Holds M0 w w' [.sl 43 ty6 v1 r.1] G := by
 have H : Holds M0 w w [] G := zb H
 refine zg (args := [strV p0]) (n := 41) Tryd.func29 q q q ?_
 unfold impl_ReadJournalS at h
 refine rR <| qA q q q <| qA q q q <| rN <| qA q q q <| B <| C ?_
 refine Z <| qA q q q <| B <| g ?_
 have H3 := H.nS 43 ty6
 obtain ⟨o4, ho5, h⟩ := D h
 refine fun a6 ha7 => zp (I := fun s a w2 => match s with | (s1, s2) => ∃ vs1, Fr a 41 [(0, strV p0), (4, vs1), (5, iV s2)] ∧ Holds M0 w w2 [.sl 43 ty6 vs1 s1] G) (O := fun o e a w2 => match o with | (q0, q1) => e = .ret ∧ ∃ vq0, Fr a 41 [(2, vq0), (3, iV q1)] ∧ Holds M0 w w2 [.sl 43 ty6 vq0 q0] G) ho5 ?_ ?_ ?_
 ·exact ⟨(nS), ha7.sub ⟨q, q, q, trivial⟩, H3⟩
 ·clear ha7
  intro s o10 a w8 hs9 hI11
  obtain ⟨s1, s2⟩ := s
  obtain ⟨vs1, ha, H12⟩ := hI11
  refine S ?_ ha
  clear ha
  refine g <| rR <| qM q q q <| qM q q q ?_
  obtain ⟨x13, hx14, hs9⟩ := D hs9
  refine A q (qt_ssub u9 ⟨_, q⟩ q q hx14) q q ?_
  obtain ⟨x15, hx16, hs9⟩ := D hs9
  refine zd q q c61 (w_strings_Cut w8 _ hGm.c x13 ([10] : List UInt8) x15 hx16 H12.ctx) (by rfl) ?_
  rintro _ w17 ⟨rfl, H18⟩; refine ⟨_, q, ?_⟩
  have H19 := H12.cN0 [] H18
  refine qM q q q <| A q (zv q q) q q <| A q (zv q q) q q <| A q (zv q q) q q <| qA q q q <| qA q q q <| qA q q q <| B <| C <| C ?_
  refine Z <| qM q q q <| A q (qt_not q) q q <| B ?_
  refine Y q (fun hc20 => ?_) (fun hc20 => ?_)
  ·have hs9 := if_t hc20 hs9
   refine rR <| qM q q q <| qM q q q <| qA q q q <| qA q q q <| B <| W fun a ha => ?_
   obtain rfl := L hs9
   exact m (zj (⟨ret_ne, q, vs1, ha.sub ⟨q, q, trivial⟩, H19⟩))
  have hs9 := if_f hc20 hs9
  refine y <| rR <| qM q q q ?_
  obtain ⟨x21, hx22, hs9⟩ := D hs9
  refine zd q q c23 (w_impl_ReadDeed w17 _ hGl.c hGm.c x15.1 x21 hx22 H19.ctx) (by rfl) ?_
  rintro _ w23 ⟨rfl, H24⟩; refine ⟨_, q, ?_⟩
  have H25 := H19.cN0 [] H24
  refine qM q q q <| A q (zv q q) q q <| A q (zv q q) q q ?_
  refine zq (cs := [iV 0, iV 0, iV 0, iV 0]) H25 z43 q q q (fun b26 w27 H28 => ?_)
  refine zl (cs' := [iV x21.1.1, iV x21.1.2.1, iV x21.1.2.2.1, iV x21.1.2.2.2]) H28 q il43 q q q q q (fun w30 H31 => ?_)
  refine qA q q q <| B <| C <| rR <| qM q q q <| A q (qt_not q) q q <| B ?_
  refine Y q (fun hc33 => ?_) (fun hc33 => ?_)
  ·have hs9 := if_t hc33 hs9
   refine rR <| qM q q q <| qM q q q <| qA q q q <| qA q q q <| B <| W fun a ha => ?_
   obtain rfl := L hs9
   have H34 := H31.q0
   exact m (zj (⟨ret_ne, q, vs1, ha.sub ⟨q, q, trivial⟩, H34⟩))
  have hs9 := if_f hc33 hs9
  refine y <| rR <| qM q q q ?_
  have hB35 := R H31.p0
  refine zm (cs := [iV x21.1.1, iV x21.1.2.1, iV x21.1.2.2.1, iV x21.1.2.2.2]) us43 uo43 il43 hB35 q q q ?_
  change XL _ _ _ _ _ ((33, .agg #[iV x21.1.1, iV x21.1.2.1, iV x21.1.2.2.1, iV x21.1.2.2.2]) :: _) _
  refine zs (t := ty6) (args := [.tmp 33]) (xs := ([(x21.1.1, x21.1.2.1, x21.1.2.2.1, x21.1.2.2.2)] : List (Int × Int × Int × Int))) H31 (BltL.cons (Blt.pair (Blt.int) (Blt.pair (Blt.int) (Blt.pair (Blt.int) (Blt.int)))) q (BltL.nil)) u49 j43 q q q q q q (fun v36 w37 H38 => ?_)
  have H40 := H38.p2
  obtain ⟨x41, hx42, hs9⟩ := D hs9
  refine zw H40 hS1 hx42 u49 j43 q q q q q q (fun v43 w44 H45 => ?_)
  refine qA q q q <| B <| Z <| qM q q q <| qM q q q <| A q (qt_slen u9 q) q q <| A q (qt_add q q) q q <| A q (qt_add q q) q q <| qA q q q <| WL_nil fun a ha => ?_
  obtain rfl := L hs9
  have H47 := H45.q1.q1
  exact zi (⟨q, v43, ha.sub ⟨q, q, q, trivial⟩, H47⟩)
 intro e a6 w48 hO49
 obtain ⟨p50, p51⟩ := o4
 obtain ⟨rfl, hO53⟩ := hO49
 obtain ⟨vp50, ha, H52⟩ := hO53
 obtain rfl := L h
 exact zj (ret2 q ha q q ⟨vp50, q, H52⟩)
theorem w_spec_l20HouseDeeds (w : World) (G : List Res) (bp0 : Nat) (A0 : Value) (B0 : List Int) (C0 : Has G (.int .u8) A0 B0) (B1 : Int) (A1_0 : Value) (p1_0 : LI) (hp1_0 : HasRo G ty7 A1_0 p1_0) (A1_1 : Value) (p1_1 : List Int) (hp1_1 : HasRo G tI A1_1 p1_1) (A1_2 : Value) (p1_2 : List Int) (hp1_2 : HasRo G tI A1_2 p1_2) (p1_3 : Int) (A1_4 : Value) (p1_4 : LT) (hp1_4 : HasRo G ty8 A1_4 p1_4) (r : Int × (List (Int × Int × Int × Int))) (h : spec_l20HouseDeedsS B0 B1 p1_0 p1_1 p1_2 p1_3 p1_4 = some r) (H : Ctx w ([.bx bp0 104 [A0, iV B1]] ++ G)) : Calls Tryd.prog 77 #[pB bp0, .agg #[A1_0, A1_1, A1_2, iV p1_3, A1_4]] w fun e w' => ∃ (v1 : Value), e = .returned (v1) ∧ Holds (([.bx bp0 104 [A0, iV B1]] : List Res).flatMap Res.own) w w' [.sl 43 ty6 v1 r.2, .bx bp0 104 [A0, iV r.1]] G := by
 have H : Holds (([.bx bp0 104 [A0, iV B1]] : List Res).flatMap Res.own) w w [.bx bp0 104 [A0, iV B1]] G := zb H
 refine zg (args := [pB bp0, .agg #[A1_0, A1_1, A1_2, iV p1_3, A1_4]]) (n := 35) Tryd.func77 q q q ?_
 unfold spec_l20HouseDeedsS at h
 refine C <| Z ?_
 refine WL_box (cs := [A1_0, A1_1, A1_2, iV p1_3, A1_4]) H q q q q (fun b1 w2 H3 => ?_)
 refine qA q q q <| B <| C <| Z ?_
 refine zs (t := ty6) (args := []) (xs := ([] : List (Int × Int × Int × Int))) H3 (BltL.nil) u49 j43 q q q q q q (fun v5 w6 H7 => ?_)
 refine qA q q q <| B <| C <| Z ?_
 have hB9 := R H7.p1
 refine zm (cs := [A1_0, A1_1, A1_2, iV p1_3, A1_4]) us27 uo27 il27 hB9 q q q ?_
 change XL _ _ _ _ _ ((12, .agg #[A1_0, A1_1, A1_2, iV p1_3, A1_4]) :: _) _
 refine zq (cs := [nS, nS, nS, iV 0, nS]) H7 z27 q q q (fun b10 w11 H12 => ?_)
 refine zl (cs' := [A1_0, A1_1, A1_2, iV p1_3, A1_4]) H12 q il27 q (T (H12.ctx.sliceOne (hp1_0.c.c.c.c.has)) (T (H12.ctx.sliceOne (hp1_1.c.c.c.c.has)) (T (H12.ctx.sliceOne (hp1_2.c.c.c.c.has)) (T q (T (H12.ctx.sliceOne (hp1_4.c.c.c.c.has)) q))))) q q q (fun w14 H15 => ?_)
 refine B <| C <| rR <| qM q q q ?_
 have H19 := H15.p3
 obtain ⟨x17, hx18, h⟩ := D h
 refine zd q q c44 (w_spec_l20Rd__pick w14 _ bp0 A0 B0 (C0.c.c.c) B1 14 x17 hx18 H19.ctx) (by rfl) ?_
 rintro _ w20 ⟨rfl, H21⟩; refine ⟨_, q, ?_⟩
 have H22 := H19.cN1 [_] H21
 refine qA q q q <| B <| g ?_
 have H31 : Holds _ w w20 [.ro ty7 A1_0 p1_0, .bx bp0 104 [A0, iV x17.1], .bx b10 27 [A1_0, A1_1, A1_2, iV p1_3, A1_4], .sl 43 ty6 v5 ([]), .bx b1 27 [A1_0, A1_1, A1_2, iV p1_3, A1_4]] G := H22.dup (hp1_0.c.c.c.c)
 have H32 : Holds _ w w20 [.ro tI A1_1 p1_1, .ro ty7 A1_0 p1_0, .bx bp0 104 [A0, iV x17.1], .bx b10 27 [A1_0, A1_1, A1_2, iV p1_3, A1_4], .sl 43 ty6 v5 ([]), .bx b1 27 [A1_0, A1_1, A1_2, iV p1_3, A1_4]] G := H31.dup (hp1_1.c.c.c.c.c)
 have H33 : Holds _ w w20 [.ro tI A1_2 p1_2, .ro tI A1_1 p1_1, .ro ty7 A1_0 p1_0, .bx bp0 104 [A0, iV x17.1], .bx b10 27 [A1_0, A1_1, A1_2, iV p1_3, A1_4], .sl 43 ty6 v5 ([]), .bx b1 27 [A1_0, A1_1, A1_2, iV p1_3, A1_4]] G := H32.dup (hp1_2.c.c.c.c.c.c)
 have H34 : Holds _ w w20 [.ro ty8 A1_4 p1_4, .ro tI A1_2 p1_2, .ro tI A1_1 p1_1, .ro ty7 A1_0 p1_0, .bx bp0 104 [A0, iV x17.1], .bx b10 27 [A1_0, A1_1, A1_2, iV p1_3, A1_4], .sl 43 ty6 v5 ([]), .bx b1 27 [A1_0, A1_1, A1_2, iV p1_3, A1_4]] G := H33.dup (hp1_4.c.c.c.c.c.c.c)
 obtain ⟨o35, ho36, h⟩ := D h
 have H39 := H34.q7.p1.p2.p3.p5.p6.p6
 refine fun a37 ha38 => zp (I := fun s a w2 => match s with | (s23, s24, s25, s26, s27, s28, s29, s30) => ∃ vs23 vs26 vs27 vs28 vs30, Fr a 35 [(0, pB bp0), (5, vs23), (6, pB b10), (7, iV s24)] ∧ Holds (([.bx bp0 104 [A0, iV B1]] : List Res).flatMap Res.own) w w2 [.bx bp0 104 [A0, iV s25], .sl 43 ty6 vs23 s23, .bx b10 27 [vs26, vs27, vs28, iV s29, vs30], .ro ty7 vs26 s26, .ro tI vs27 s27, .ro tI vs28 s28, .ro ty8 vs30 s30] G) (O := fun o e a w2 => match o with | (q0, q1, q2, q3, q4, q5, q6) => e = .exit 0 ∧ ∃ vq0, Fr a 35 [(0, pB bp0), (5, vq0)] ∧ Holds (([.bx bp0 104 [A0, iV B1]] : List Res).flatMap Res.own) w w2 [.bx bp0 104 [A0, iV q1], .sl 43 ty6 vq0 q0] G) ho36 ?_ ?_ ?_
 ·exact ⟨v5, A1_0, A1_1, A1_2, A1_4, ha38.sub ⟨q, q, q, q, trivial⟩, H39⟩
 ·clear ha38
  intro s o42 a w40 hs41 hI43
  obtain ⟨s23, s24, s25, s26, s27, s28, s29, s30⟩ := s
  obtain ⟨vs23, vs26, vs27, vs28, vs30, ha, H44⟩ := hI43
  refine S ?_ ha
  clear ha
  refine C <| rR <| qM q q q <| A q (qt_gtr q q) q q <| B ?_
  refine Y q (fun hc45 => ?_) (fun hc45 => ?_)
  ·have hs41 := if_t hc45 hs41
   refine y <| C <| g <| rR <| qM q q q ?_
   have hB46 := R H44.p2
   refine zm (cs := [vs26, vs27, vs28, iV s29, vs30]) us27 uo27 il27 hB46 q q q ?_
   change XL _ _ _ _ _ ((20, .agg #[vs26, vs27, vs28, iV s29, vs30]) :: _) _
   obtain ⟨x47, hx48, hs41⟩ := D hs41
   refine zd q q c45 (w_spec_l20HouseDeed w40 _ bp0 A0 B0 (C0.c.c.c.c.c.c) s25 vs26 s26 hR2 vs27 s27 hR3 vs28 s28 hR4 s29 vs30 s30 hR5 x47 hx48 H44.ctx) (by rfl) ?_
   rintro _ w49 ⟨rfl, H50⟩; refine ⟨_, q, ?_⟩
   have H51 := H44.cN1 [_] H50
   refine zq (cs := [iV 0, iV 0, iV 0, iV 0]) H51 z43 q q q (fun b52 w53 H54 => ?_)
   refine zl (cs' := [iV x47.2.1, iV x47.2.2.1, iV x47.2.2.2.1, iV x47.2.2.2.2]) H54 q il43 q q q q q (fun w56 H57 => ?_)
   refine B <| C <| Z ?_
   have hB59 := R H57.p3
   refine zm (cs := [vs26, vs27, vs28, iV s29, vs30]) us27 uo27 il27 hB59 q q q ?_
   change XL _ _ _ _ _ ((23, .agg #[vs26, vs27, vs28, iV s29, vs30]) :: _) _
   have hB60 := R H57.p0
   refine zm (cs := [iV x47.2.1, iV x47.2.2.1, iV x47.2.2.2.1, iV x47.2.2.2.2]) us43 uo43 il43 hB60 q q q ?_
   change XL _ _ _ _ _ ((24, .agg #[iV x47.2.1, iV x47.2.2.1, iV x47.2.2.2.1, iV x47.2.2.2.2]) :: _) _
   obtain ⟨x61, hx62, hs41⟩ := D hs41
   refine zd q q c65 (w_spec_HouseDo w56 _ vs26 s26 hR4 vs27 s27 hR5 vs28 s28 hR6 s29 vs30 s30 hR7 x47.2.1 x47.2.2.1 x47.2.2.2.1 x47.2.2.2.2 x61 hx62 H57.ctx) (by rfl) ?_
   rintro _ w63 ⟨v65, v66, v67, v68, rfl, H64⟩; refine ⟨_, q, ?_⟩
   have H69 := H57.cN4 [] H64
   refine qM q q q <| A q (zv q q) q q <| A q (zv q q) q q ?_
   refine zq (cs := [nS, nS, nS, iV 0, nS]) H69 z27 q q q (fun b70 w71 H72 => ?_)
   refine zl (cs' := [v65, v66, v67, iV x61.1.2.2.2.1, v68]) H72 q il27 q (T (H72.ctx.sliceOne hS1) (T (H72.ctx.sliceOne hS2) (T (H72.ctx.sliceOne hS3) (T q (T (H72.ctx.sliceOne hS4) q))))) q q q (fun w74 H75 => ?_)
   refine qA q q q <| B <| C <| rR <| qM q q q <| B ?_
   obtain ⟨o82, ho83, hs41⟩ := D hs41
   obtain ⟨j77, j78, j79, j80, j81⟩ := o82
   refine WP_join (M := fun a w2 => ∃ vj77 vj78 vj79 vj81, Fr a 35 [(0, pB bp0), (5, vs23), (6, pB b10), (7, iV s24), (8, pB b52)] ∧ Holds (([.bx bp0 104 [A0, iV B1]] : List Res).flatMap Res.own) w w2 [.bx bp0 104 [A0, iV x47.1], .sl 43 ty6 vs23 s23, .bx b10 27 [vj77, vj78, vj79, iV j80, vj81], .ro ty7 vj77 j77, .ro tI vj78 j78, .ro tI vj79 j79, .ro ty8 vj81 j81, .bx b52 43 [iV x47.2.1, iV x47.2.2.1, iV x47.2.2.2.1, iV x47.2.2.2.2]] G) ?_ ?_
   ·refine Y q (fun hc84 => ?_) (fun hc84 => ?_)
    ·have ho83 := if_t hc84 ho83
     refine Z ?_
     have hB85 := R H75.p0
     refine zm (cs := [v65, v66, v67, iV x61.1.2.2.2.1, v68]) us27 uo27 il27 hB85 q q q ?_
     change XL _ _ _ _ _ ((29, .agg #[v65, v66, v67, iV x61.1.2.2.2.1, v68]) :: _) _
     have H86 := H75.p8
     refine zl (cs' := [v65, v66, v67, iV x61.1.2.2.2.1, v68]) H86 q il27 q (T (H86.ctx.sliceOne hS2) (T (H86.ctx.sliceOne hS3) (T (H86.ctx.sliceOne hS4) (T q (T (H86.ctx.sliceOne hS5) q))))) q q q (fun w87 H88 => ?_)
     refine WL_nil fun a ha => ?_
     obtain ⟨rfl, rfl, rfl, rfl, rfl⟩ := (by simpa only [Option.some.injEq, Prod.mk.injEq] using ho83 : _)
     have H90 := H88.p2
     have H91 := H90.freeze
     have H92 := H91.p3
     have H93 := H92.freeze
     have H94 := H93.p4
     have H95 := H94.freeze
     have H96 := H95.p5
     have H97 := H96.freeze
     have H98 := H97.q5.q8.q8.q8.q8.p5.p1.p2.p3.p4.p5.p7.p7
     exact X (⟨v65, v66, v67, v68, ha.sub ⟨q, q, q, q, q, trivial⟩, H98⟩)
    have ho83 := if_f hc84 ho83
    refine WP_skip fun a ha => ?_
    obtain ⟨rfl, rfl, rfl, rfl, rfl⟩ := (by simpa only [Option.some.injEq, Prod.mk.injEq] using ho83 : _)
    have H99 := H75.q0.q0.q0.q0.q0.p7.p7.p7.p7.p7.p7.p7
    exact X (⟨vs26, vs27, vs28, vs30, ha.sub ⟨q, q, q, q, q, trivial⟩, H99⟩)
   intro a w100 hI101
   obtain ⟨vj77, vj78, vj79, vj81, ha, H102⟩ := hI101
   refine S ?_ ha
   clear ha
   refine Z <| qM q q q ?_
   have hB103 := R H102.p7
   refine zm (cs := [iV x47.2.1, iV x47.2.2.1, iV x47.2.2.2.1, iV x47.2.2.2.2]) us43 uo43 il43 hB103 q q q ?_
   change XL _ _ _ _ _ ((31, .agg #[iV x47.2.1, iV x47.2.2.1, iV x47.2.2.2.1, iV x47.2.2.2.2]) :: _) _
   refine zs (t := ty6) (args := [.tmp 31]) (xs := ([(x47.2.1, x47.2.2.1, x47.2.2.2.1, x47.2.2.2.2)] : List (Int × Int × Int × Int))) H102 (BltL.cons (Blt.pair (Blt.int) (Blt.pair (Blt.int) (Blt.pair (Blt.int) (Blt.int)))) q (BltL.nil)) u49 j43 q q q q q q (fun v104 w105 H106 => ?_)
   have H108 := H106.p2
   obtain ⟨x109, hx110, hs41⟩ := D hs41
   refine zw H108 hS1 hx110 u49 j43 q q q q q q (fun v111 w112 H113 => ?_)
   refine qA q q q <| WL_nil fun a ha => ?_
   refine zi (X (S ?_ ha))
   refine Z <| qM q q q <| A q (qt_sub q q) q q <| qA q q q <| WL_nil fun a ha => ?_
   obtain rfl := L hs41
   have H115 := H113.q1.q7.p6.p6.p6.p6.p6.p5.p6
   exact ⟨q, v111, vj77, vj78, vj79, vj81, ha.sub ⟨q, q, q, q, trivial⟩, H115⟩
  have hs41 := if_f hc45 hs41
  refine WP_exit fun a ha => ?_
  obtain rfl := L hs41
  have H116 := H44.q2.q2.q2.q2.q2.p1.p1
  exact zo (⟨exit_ne, q, vs23, ha.sub ⟨q, q, trivial⟩, H116⟩)
 intro e a37 w117 hO118
 obtain ⟨p119, p120, p121, p122, p123, p124, p125⟩ := o35
 obtain ⟨rfl, hO127⟩ := hO118
 obtain ⟨vp119, ha, H126⟩ := hO127
 refine zn (X (S ?_ ha))
 refine rR <| qM q q q <| qA q q q <| B <| W fun a ha => ?_
 obtain rfl := L h
 have H128 := H126.p1
 exact ret1 q ha q ⟨vp119, q, H128⟩
end Go.Proofs.YthofjabphcheeaaDoor
