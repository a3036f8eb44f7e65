/- The walks of SeatsMany, printed by a program. -/
import Derived.Test.YtefgdbldkdgogaaMany
set_option linter.unusedVariables false
set_option maxRecDepth 10000
namespace Go.Proofs.Ytefgdbldkdgogaa
open Go Go.RowKit
theorem w_laws_toIntS (w : World) (G : List Res) (vp0 : Value) (p0 : List Int) (hp0 : Has G (.int .i64) vp0 p0) (r : (List Int)) (h : laws_toIntSS p0 = some r) (H : Ctx w G) : Calls Try.prog 18 #[vp0] w fun e w' => ∃ (v1 : Value), e = .returned (v1) ∧ Holds (([] : List Res).flatMap Res.own) w w' [.sl 3 (.int .i64) v1 r] G := by
  have H : Holds (([] : List Res).flatMap Res.own) w w [] G := Holds.startN H
  refine calls_enter (args := [vp0]) (n := 22) Try.func18 rfl rfl rfl ?_
  unfold laws_toIntSS at h
  refine WP_seq ?_
  refine WP_region ?_
  refine XL_q rfl (qt_assign rfl) rfl rfl ?_
  refine WL_nil_seq ?_
  refine WP_seq ?_
  refine WP_region ?_
  refine XL_q rfl (qt_move rfl) rfl rfl ?_
  refine XL_lenH H.ctx (t := (.int .i64)) (hp0) u22 rfl rfl rfl ?_
  obtain ⟨x1, hx2, h⟩ := bind_some h
  refine WL_makeH H hx2 u22 j3 rfl (fun _ => ⟨rfl, rfl⟩) rfl rfl rfl rfl rfl (fun v3 w4 H5 => ?_)
  have H6 : Holds (([] : List Res).flatMap Res.own) w w4 [.sl 3 (.int .i64) v3 x1] G := H5
  refine XL_q rfl (qt_assign rfl) rfl rfl ?_
  refine WL_nil_seq ?_
  refine WP_seq ?_
  refine WP_seq ?_
  refine WP_region ?_
  refine XL_q rfl (qt_assign rfl) rfl rfl ?_
  refine WL_nil_seq ?_
  refine WP_block ?_
  obtain ⟨o9, ho10, h⟩ := bind_some h
  refine fun a11 ha12 => wp_loop_fix (I := fun s a w2 => match s with | (s7, s8) => ∃ vs7, Fr a 22 [(0, vp0), (3, vs7), (4, .int .i64 s8)] ∧ Holds (([] : List Res).flatMap Res.own) w w2 [.sl 3 (.int .i64) vs7 s7] G) (O := fun o e a w2 => match o with | q0 => e = .exit 0 ∧ ∃ vq0, Fr a 22 [(3, vq0)] ∧ Holds (([] : List Res).flatMap Res.own) w w2 [.sl 3 (.int .i64) vq0 q0] G) ho10 ?_ ?_ ?_
  · exact ⟨v3, ha12.sub ⟨rfl, rfl, rfl, trivial⟩, H6⟩
  · clear ha12
    intro s o15 a w13 hs14 hI16
    obtain ⟨s7, s8⟩ := s
    obtain ⟨vs7, ha, H17⟩ := hI16
    refine WP.app ?_ ha
    clear ha
    refine WP_seq ?_
    refine WP_seq ?_
    refine WP_region ?_
    refine XL_q rfl (qt_move rfl) rfl rfl ?_
    refine XL_q rfl (qt_move rfl) rfl rfl ?_
    refine XL_lenH H17.ctx (t := (.int .i64)) (hp0.c) u22 rfl rfl rfl ?_
    refine XL_q rfl (qt_lss rfl rfl) rfl rfl ?_
    refine WL_nil_seq ?_
    refine WP_cond rfl (fun hc18 => ?_) (fun hc18 => ?_)
    · have hs14 := if_t hc18 hs14
      refine WP_skip_seq ?_
      refine WP_seq ?_
      refine WP_block ?_
      refine WP_region ?_
      refine XL_q rfl (qt_move rfl) rfl rfl ?_
      refine XL_q rfl (qt_move rfl) rfl rfl ?_
      refine XL_q rfl (qt_move rfl) rfl rfl ?_
      refine XL_q rfl (qt_move rfl) rfl rfl ?_
      obtain ⟨x19, hx20, hs14⟩ := bind_some hs14
      refine XL_indexH H17.ctx (hp0.c) hx20 u22 i3 rfl rfl rfl rfl (fun b21 off22 cap23 hv24 => ?_)
      obtain ⟨F25, hat26, hdup27⟩ := H17.at (hp0.c) hx20 hv24
      refine XL_load_int (k := .i64) u3 rfl hat26 rfl rfl rfl ?_
      obtain ⟨x28, hx29, hs14⟩ := bind_some hs14
      refine XL_indexH H17.ctx (Has.hd) hx29 u22 i3 rfl rfl rfl rfl (fun b30 off31 cap32 hv33 => ?_)
      refine WL_storeH (fo := 0) (cs' := [.int .i64 x19]) H17 hx29 hv33 (Upd.whole (Blt.int)) rfl il3 rfl rfl rfl rfl (fun w34 H35 => ?_)
      have H36 : Holds (([] : List Res).flatMap Res.own) w w34 [.sl 3 (.int .i64) vs7 (List.set s7 (Int.toNat s8) x19)] G := H35
      refine WL_nil fun a ha => ?_
      refine nrm_block (nrm_seq (WP.app ?_ ha))
      refine WP_region ?_
      refine XL_q rfl (qt_move rfl) rfl rfl ?_
      refine XL_q rfl (qt_add rfl rfl) rfl rfl ?_
      refine XL_q rfl (qt_assign rfl) rfl rfl ?_
      refine WL_nil fun a ha => ?_
      obtain rfl := Option.some.inj hs14
      exact ⟨rfl, vs7, ha.sub ⟨rfl, rfl, rfl, trivial⟩, H36⟩
    · have hs14 := if_f hc18 hs14
      refine WP_exit fun a ha => ?_
      obtain rfl := Option.some.inj hs14
      exact exit_seq (⟨exit_ne, rfl, vs7, ha.sub ⟨rfl, trivial⟩, H17⟩)
  · intro e a11 w37 hO38
    obtain ⟨p39, rfl⟩ : ∃ z, z = o9 := ⟨o9, rfl⟩
    obtain ⟨rfl, hO41⟩ := hO38
    obtain ⟨vp39, ha, H40⟩ := hO41
    refine exit_block_eq (nrm_seq (WP.app ?_ ha))
    refine WP_seq ?_
    refine WP_region ?_
    refine XL_q rfl (qt_move rfl) rfl rfl ?_
    refine XL_q rfl (qt_assign rfl) rfl rfl ?_
    refine WL_nil_seq ?_
    refine WP_ret fun a ha => ?_
    obtain rfl := Option.some.inj h
    exact ret1 rfl ha rfl ⟨vp39, rfl, H40⟩
theorem w_spec_l1Has (w : World) (G : List Res) (vp0 : Value) (p0 : List Int) (hp0 : Has G (.int .i64) vp0 p0) (p1 : Int) (r : Bool) (h : spec_l1HasS p0 p1 = some r) (H : Ctx w G) : Calls Try.prog 60 #[vp0, .int .i64 p1] w fun e w' => e = .returned (.bool r) ∧ Holds (([] : List Res).flatMap Res.own) w w' [] G := by
  have H : Holds (([] : List Res).flatMap Res.own) w w [] G := Holds.startN H
  refine calls_enter (args := [vp0, .int .i64 p1]) (n := 18) Try.func60 rfl rfl rfl ?_
  unfold spec_l1HasS at h
  refine WP_seq ?_
  refine WP_region ?_
  refine XL_q rfl (qt_assign rfl) rfl rfl ?_
  refine WL_nil_seq ?_
  refine WP_seq ?_
  refine WP_seq ?_
  refine WP_region ?_
  refine XL_q rfl (qt_assign rfl) rfl rfl ?_
  refine WL_nil_seq ?_
  refine WP_block ?_
  obtain ⟨o2, ho3, h⟩ := bind_some h
  refine fun a4 ha5 => wp_loop_fix (I := fun s a w2 => match s with | s1 => (Fr a 18 [(0, vp0), (1, .int .i64 p1), (5, .int .i64 s1)] ∧ Holds (([] : List Res).flatMap Res.own) w w2 [] G)) (O := fun o e a w2 => match o with | .inl _ => e = .exit 0 ∧ (Fr a 18 [] ∧ Holds (([] : List Res).flatMap Res.own) w w2 [] G) | .inr q0 => e = .ret ∧ (Fr a 18 [(4, .bool q0)] ∧ Holds (([] : List Res).flatMap Res.own) w w2 [] G)) ho3 ?_ ?_ ?_
  · exact ⟨ha5.sub ⟨rfl, rfl, rfl, trivial⟩, H⟩
  · clear ha5
    intro s o8 a w6 hs7 hI9
    obtain ⟨s1, rfl⟩ : ∃ z, z = s := ⟨s, rfl⟩
    obtain ⟨ha, H10⟩ := hI9
    refine WP.app ?_ ha
    clear ha
    refine WP_seq ?_
    refine WP_seq ?_
    refine WP_region ?_
    refine XL_q rfl (qt_move rfl) rfl rfl ?_
    refine XL_q rfl (qt_move rfl) rfl rfl ?_
    refine XL_lenH H10.ctx (t := (.int .i64)) (hp0) u22 rfl rfl rfl ?_
    refine XL_q rfl (qt_lss rfl rfl) rfl rfl ?_
    refine WL_nil_seq ?_
    refine WP_cond rfl (fun hc11 => ?_) (fun hc11 => ?_)
    · have hs7 := if_t hc11 hs7
      refine WP_skip_seq ?_
      refine WP_seq ?_
      refine WP_block ?_
      refine WP_seq ?_
      refine WP_region ?_
      refine XL_q rfl (qt_move rfl) rfl rfl ?_
      refine XL_q rfl (qt_move rfl) rfl rfl ?_
      obtain ⟨x12, hx13, hs7⟩ := bind_some hs7
      refine XL_indexH H10.ctx (hp0) hx13 u22 i3 rfl rfl rfl rfl (fun b14 off15 cap16 hv17 => ?_)
      obtain ⟨F18, hat19, hdup20⟩ := H10.at (hp0) hx13 hv17
      refine XL_load_int (k := .i64) u3 rfl hat19 rfl rfl rfl ?_
      refine XL_q rfl (qt_move rfl) rfl rfl ?_
      refine XL_q rfl (qt_eql rfl rfl) rfl rfl ?_
      refine WL_nil_seq ?_
      refine WP_cond rfl (fun hc21 => ?_) (fun hc21 => ?_)
      · have hs7 := if_t hc21 hs7
        refine WP_seq ?_
        refine WP_region ?_
        refine XL_q rfl (qt_assign rfl) rfl rfl ?_
        refine WL_nil_seq ?_
        refine WP_ret fun a ha => ?_
        obtain rfl := Option.some.inj hs7
        exact ret_block (ret_seq (⟨ret_ne, rfl, ha.sub ⟨rfl, trivial⟩, H10⟩))
      · have hs7 := if_f hc21 hs7
        refine WP_skip fun a ha => ?_
        refine nrm_block (nrm_seq (WP.app ?_ ha))
        refine WP_region ?_
        refine XL_q rfl (qt_move rfl) rfl rfl ?_
        refine XL_q rfl (qt_add rfl rfl) rfl rfl ?_
        refine XL_q rfl (qt_assign rfl) rfl rfl ?_
        refine WL_nil fun a ha => ?_
        obtain rfl := Option.some.inj hs7
        exact ⟨rfl, ha.sub ⟨rfl, rfl, rfl, trivial⟩, H10⟩
    · have hs7 := if_f hc11 hs7
      refine WP_exit fun a ha => ?_
      obtain rfl := Option.some.inj hs7
      exact exit_seq (⟨exit_ne, rfl, ha.sub trivial, H10⟩)
  · intro e a4 w22 hO23
    rcases o2 with o2 | o2
    · skip
      obtain ⟨rfl, hO25⟩ := hO23
      obtain ⟨ha, H24⟩ := hO25
      refine exit_block_eq (nrm_seq (WP.app ?_ ha))
      refine WP_seq ?_
      refine WP_region ?_
      refine XL_q rfl (qt_assign rfl) rfl rfl ?_
      refine WL_nil_seq ?_
      refine WP_ret fun a ha => ?_
      obtain rfl := Option.some.inj h
      exact ret1 rfl ha rfl ⟨rfl, H24⟩
    · skip
      obtain ⟨p26, rfl⟩ : ∃ z, z = o2 := ⟨o2, rfl⟩
      obtain ⟨rfl, hO28⟩ := hO23
      obtain ⟨ha, H27⟩ := hO28
      obtain rfl := Option.some.inj h
      exact ret_block (ret_seq (ret1 rfl ha rfl ⟨rfl, H27⟩))
theorem w_spec_SeatsMany (w : World) (G : List Res) (vp0 : Value) (p0 : List Int) (hp0 : Has G (.int .i64) vp0 p0) (r : Int) (h : spec_SeatsManyS p0 = some r) (H : Ctx w G) : Calls Try.prog 47 #[vp0] w fun e w' => e = .returned (.int .i64 r) ∧ Holds (([] : List Res).flatMap Res.own) w w' [] G := by
  have H : Holds (([] : List Res).flatMap Res.own) w w [] G := Holds.startN H
  refine calls_enter (args := [vp0]) (n := 23) Try.func47 rfl rfl rfl ?_
  unfold spec_SeatsManyS at h
  refine WP_seq ?_
  refine WP_region ?_
  refine XL_q rfl (qt_assign rfl) rfl rfl ?_
  refine WL_nil_seq ?_
  refine WP_seq ?_
  refine WP_region ?_
  refine XL_q rfl (qt_assign rfl) rfl rfl ?_
  refine WL_nil_seq ?_
  refine WP_seq ?_
  refine WP_seq ?_
  refine WP_region ?_
  refine XL_q rfl (qt_assign rfl) rfl rfl ?_
  refine WL_nil_seq ?_
  refine WP_block ?_
  obtain ⟨o3, ho4, h⟩ := bind_some h
  refine fun a5 ha6 => wp_loop_fix (I := fun s a w2 => match s with | (s1, s2) => (Fr a 23 [(0, vp0), (3, .int .i64 s1), (4, .int .i64 s2)] ∧ Holds (([] : List Res).flatMap Res.own) w w2 [] G)) (O := fun o e a w2 => match o with | q0 => e = .exit 0 ∧ (Fr a 23 [(3, .int .i64 q0)] ∧ Holds (([] : List Res).flatMap Res.own) w w2 [] G)) ho4 ?_ ?_ ?_
  · exact ⟨ha6.sub ⟨rfl, rfl, rfl, trivial⟩, H⟩
  · clear ha6
    intro s o9 a w7 hs8 hI10
    obtain ⟨s1, s2⟩ := s
    obtain ⟨ha, H11⟩ := hI10
    refine WP.app ?_ ha
    clear ha
    refine WP_seq ?_
    refine WP_seq ?_
    refine WP_region ?_
    refine XL_q rfl (qt_move rfl) rfl rfl ?_
    refine XL_q rfl (qt_move rfl) rfl rfl ?_
    refine XL_lenH H11.ctx (t := (.int .i64)) (hp0) u22 rfl rfl rfl ?_
    refine XL_q rfl (qt_lss rfl rfl) rfl rfl ?_
    refine WL_nil_seq ?_
    refine WP_cond rfl (fun hc12 => ?_) (fun hc12 => ?_)
    · have hs8 := if_t hc12 hs8
      refine WP_skip_seq ?_
      refine WP_seq ?_
      refine WP_block ?_
      refine WP_seq ?_
      refine WP_quiet (by kernel_rfl) (by kernel_rfl) ?_
      refine XL_q rfl (qt_move rfl) rfl rfl ?_
      refine XL_q rfl (qt_move rfl) rfl rfl ?_
      obtain ⟨x13, hx14, hs8⟩ := bind_some hs8
      refine XL_sliceH H11.ctx (hp0) hx14 u22 i3 rfl ⟨_, rfl⟩ rfl rfl rfl ?_
      refine XL_q rfl (qt_move rfl) rfl rfl ?_
      refine XL_q rfl (qt_move rfl) rfl rfl ?_
      obtain ⟨x15, hx16, hs8⟩ := bind_some hs8
      refine XL_indexH H11.ctx (hp0) hx16 u22 i3 rfl rfl rfl rfl (fun b17 off18 cap19 hv20 => ?_)
      obtain ⟨F21, hat22, hdup23⟩ := H11.at (hp0) hx16 hv20
      refine XL_load_int (k := .i64) u3 rfl hat22 rfl rfl rfl ?_
      obtain ⟨x24, hx25, hs8⟩ := bind_some hs8
      refine QL_call rfl rfl c60 (fun w' hb => (w_spec_l1Has w' G (subV (Ty.size (.int .i64)) vp0 (Int.toNat 0) (Int.toNat s2)) x13 (Has.sub (hp0) hx14) x15 x24 hx25 (H11.grow hb).ctx).mono fun e w'' hK => ⟨hK.1, hK.2.bel⟩) (by rfl) ?_
      refine XL_q rfl (qt_not rfl) rfl rfl ?_
      refine QL_nil fun a ha w26 hb27 => ?_
      have H28 : Holds (([] : List Res).flatMap Res.own) w w26 [] G := H11.grow hb27
      refine nrm_seq (WP.app ?_ ha)
      refine WP_cond rfl (fun hc29 => ?_) (fun hc29 => ?_)
      · have hs8 := if_t hc29 hs8
        refine WP_region ?_
        refine XL_q rfl (qt_move rfl) rfl rfl ?_
        refine XL_q rfl (qt_add rfl rfl) rfl rfl ?_
        refine XL_q rfl (qt_assign rfl) rfl rfl ?_
        refine WL_nil fun a ha => ?_
        refine nrm_block (nrm_seq (WP.app ?_ ha))
        refine WP_region ?_
        refine XL_q rfl (qt_move rfl) rfl rfl ?_
        refine XL_q rfl (qt_add rfl rfl) rfl rfl ?_
        refine XL_q rfl (qt_assign rfl) rfl rfl ?_
        refine WL_nil fun a ha => ?_
        obtain rfl := Option.some.inj hs8
        exact ⟨rfl, ha.sub ⟨rfl, rfl, rfl, trivial⟩, H28⟩
      · have hs8 := if_f hc29 hs8
        refine WP_skip fun a ha => ?_
        refine nrm_block (nrm_seq (WP.app ?_ ha))
        refine WP_region ?_
        refine XL_q rfl (qt_move rfl) rfl rfl ?_
        refine XL_q rfl (qt_add rfl rfl) rfl rfl ?_
        refine XL_q rfl (qt_assign rfl) rfl rfl ?_
        refine WL_nil fun a ha => ?_
        obtain rfl := Option.some.inj hs8
        exact ⟨rfl, ha.sub ⟨rfl, rfl, rfl, trivial⟩, H28⟩
    · have hs8 := if_f hc12 hs8
      refine WP_exit fun a ha => ?_
      obtain rfl := Option.some.inj hs8
      exact exit_seq (⟨exit_ne, rfl, ha.sub ⟨rfl, trivial⟩, H11⟩)
  · intro e a5 w30 hO31
    obtain ⟨p32, rfl⟩ : ∃ z, z = o3 := ⟨o3, rfl⟩
    obtain ⟨rfl, hO34⟩ := hO31
    obtain ⟨ha, H33⟩ := hO34
    refine exit_block_eq (nrm_seq (WP.app ?_ ha))
    refine WP_seq ?_
    refine WP_region ?_
    refine XL_q rfl (qt_move rfl) rfl rfl ?_
    refine XL_q rfl (qt_assign rfl) rfl rfl ?_
    refine WL_nil_seq ?_
    refine WP_ret fun a ha => ?_
    obtain rfl := Option.some.inj h
    exact ret1 rfl ha rfl ⟨rfl, H33⟩
theorem w_laws_eqIntS (w : World) (G : List Res) (vp0 : Value) (p0 : List Int) (hp0 : Has G (.int .i64) vp0 p0) (vp1 : Value) (p1 : List Int) (hp1 : Has G (.int .i64) vp1 p1) (r : Bool) (h : laws_eqIntSS p0 p1 = some r) (H : Ctx w G) : Calls Try.prog 20 #[vp0, vp1] w fun e w' => e = .returned (.bool r) ∧ Holds (([] : List Res).flatMap Res.own) w w' [] G := by
  have H : Holds (([] : List Res).flatMap Res.own) w w [] G := Holds.startN H
  refine calls_enter (args := [vp0, vp1]) (n := 26) Try.func20 rfl rfl rfl ?_
  unfold laws_eqIntSS at h
  refine WP_seq ?_
  refine WP_region ?_
  refine XL_q rfl (qt_assign rfl) rfl rfl ?_
  refine WL_nil_seq ?_
  refine WP_seq ?_
  refine WP_seq ?_
  refine WP_region ?_
  refine XL_q rfl (qt_move rfl) rfl rfl ?_
  refine XL_lenH H.ctx (t := (.int .i64)) (hp0) u22 rfl rfl rfl ?_
  refine XL_q rfl (qt_move rfl) rfl rfl ?_
  refine XL_lenH H.ctx (t := (.int .i64)) (hp1) u22 rfl rfl rfl ?_
  refine XL_q rfl (qt_neq rfl rfl) rfl rfl ?_
  refine WL_nil_seq ?_
  refine WP_cond rfl (fun hc1 => ?_) (fun hc1 => ?_)
  · have h := if_t hc1 h
    refine WP_seq ?_
    refine WP_region ?_
    refine XL_q rfl (qt_assign rfl) rfl rfl ?_
    refine WL_nil_seq ?_
    refine WP_ret fun a ha => ?_
    obtain rfl := Option.some.inj h
    exact ret_seq (ret1 rfl ha rfl ⟨rfl, H⟩)
  · have h := if_f hc1 h
    refine WP_skip_seq ?_
    refine WP_seq ?_
    refine WP_seq ?_
    refine WP_region ?_
    refine XL_q rfl (qt_assign rfl) rfl rfl ?_
    refine WL_nil_seq ?_
    refine WP_block ?_
    obtain ⟨o3, ho4, h⟩ := bind_some h
    refine fun a5 ha6 => wp_loop_fix (I := fun s a w2 => match s with | s2 => (Fr a 26 [(0, vp0), (1, vp1), (5, .int .i64 s2)] ∧ Holds (([] : List Res).flatMap Res.own) w w2 [] G)) (O := fun o e a w2 => match o with | .inl _ => e = .exit 0 ∧ (Fr a 26 [] ∧ Holds (([] : List Res).flatMap Res.own) w w2 [] G) | .inr q0 => e = .ret ∧ (Fr a 26 [(4, .bool q0)] ∧ Holds (([] : List Res).flatMap Res.own) w w2 [] G)) ho4 ?_ ?_ ?_
    · exact ⟨ha6.sub ⟨rfl, rfl, rfl, trivial⟩, H⟩
    · clear ha6
      intro s o9 a w7 hs8 hI10
      obtain ⟨s2, rfl⟩ : ∃ z, z = s := ⟨s, rfl⟩
      obtain ⟨ha, H11⟩ := hI10
      refine WP.app ?_ ha
      clear ha
      refine WP_seq ?_
      refine WP_seq ?_
      refine WP_region ?_
      refine XL_q rfl (qt_move rfl) rfl rfl ?_
      refine XL_q rfl (qt_move rfl) rfl rfl ?_
      refine XL_lenH H11.ctx (t := (.int .i64)) (hp0) u22 rfl rfl rfl ?_
      refine XL_q rfl (qt_lss rfl rfl) rfl rfl ?_
      refine WL_nil_seq ?_
      refine WP_cond rfl (fun hc12 => ?_) (fun hc12 => ?_)
      · have hs8 := if_t hc12 hs8
        refine WP_skip_seq ?_
        refine WP_seq ?_
        refine WP_block ?_
        refine WP_seq ?_
        refine WP_quiet (by kernel_rfl) (by kernel_rfl) ?_
        refine XL_q rfl (qt_move rfl) rfl rfl ?_
        refine XL_q rfl (qt_move rfl) rfl rfl ?_
        obtain ⟨x13, hx14, hs8⟩ := bind_some hs8
        refine XL_indexH H11.ctx (hp0) hx14 u22 i3 rfl rfl rfl rfl (fun b15 off16 cap17 hv18 => ?_)
        obtain ⟨F19, hat20, hdup21⟩ := H11.at (hp0) hx14 hv18
        refine XL_load_int (k := .i64) u3 rfl hat20 rfl rfl rfl ?_
        refine XL_q rfl (qt_move rfl) rfl rfl ?_
        refine XL_q rfl (qt_move rfl) rfl rfl ?_
        obtain ⟨x22, hx23, hs8⟩ := bind_some hs8
        refine XL_indexH H11.ctx (hp1) hx23 u22 i3 rfl rfl rfl rfl (fun b24 off25 cap26 hv27 => ?_)
        obtain ⟨F28, hat29, hdup30⟩ := H11.at (hp1) hx23 hv27
        refine XL_load_int (k := .i64) u3 rfl hat29 rfl rfl rfl ?_
        refine XL_q rfl (qt_neq rfl rfl) rfl rfl ?_
        refine QL_nil fun a ha w31 hb32 => ?_
        have H33 : Holds (([] : List Res).flatMap Res.own) w w31 [] G := H11.grow hb32
        refine nrm_seq (WP.app ?_ ha)
        refine WP_cond rfl (fun hc34 => ?_) (fun hc34 => ?_)
        · have hs8 := if_t hc34 hs8
          refine WP_seq ?_
          refine WP_region ?_
          refine XL_q rfl (qt_assign rfl) rfl rfl ?_
          refine WL_nil_seq ?_
          refine WP_ret fun a ha => ?_
          obtain rfl := Option.some.inj hs8
          exact ret_block (ret_seq (⟨ret_ne, rfl, ha.sub ⟨rfl, trivial⟩, H33⟩))
        · have hs8 := if_f hc34 hs8
          refine WP_skip fun a ha => ?_
          refine nrm_block (nrm_seq (WP.app ?_ ha))
          refine WP_region ?_
          refine XL_q rfl (qt_move rfl) rfl rfl ?_
          refine XL_q rfl (qt_add rfl rfl) rfl rfl ?_
          refine XL_q rfl (qt_assign rfl) rfl rfl ?_
          refine WL_nil fun a ha => ?_
          obtain rfl := Option.some.inj hs8
          exact ⟨rfl, ha.sub ⟨rfl, rfl, rfl, trivial⟩, H33⟩
      · have hs8 := if_f hc12 hs8
        refine WP_exit fun a ha => ?_
        obtain rfl := Option.some.inj hs8
        exact exit_seq (⟨exit_ne, rfl, ha.sub trivial, H11⟩)
    · intro e a5 w35 hO36
      rcases o3 with o3 | o3
      · skip
        obtain ⟨rfl, hO38⟩ := hO36
        obtain ⟨ha, H37⟩ := hO38
        refine exit_block_eq (nrm_seq (WP.app ?_ ha))
        refine WP_seq ?_
        refine WP_region ?_
        refine XL_q rfl (qt_assign rfl) rfl rfl ?_
        refine WL_nil_seq ?_
        refine WP_ret fun a ha => ?_
        obtain rfl := Option.some.inj h
        exact ret1 rfl ha rfl ⟨rfl, H37⟩
      · skip
        obtain ⟨p39, rfl⟩ : ∃ z, z = o3 := ⟨o3, rfl⟩
        obtain ⟨rfl, hO41⟩ := hO36
        obtain ⟨ha, H40⟩ := hO41
        obtain rfl := Option.some.inj h
        exact ret_block (ret_seq (ret1 rfl ha rfl ⟨rfl, H40⟩))
theorem v_laws_FnExactSeatsMany (w : World) (G : List Res) (vp0 : Value) (p0 : List Int) (hp0 : Has G (.int .i64) vp0 p0) (r : Bool) (h : laws_FnExactSeatsManyS p0 = some r) (H : Ctx w G) : Calls Try.prog 16 #[vp0] w fun e w' => e = .returned (.bool r) ∧ Holds (([] : List Res).flatMap Res.own) w w' [] G := by
  have H : Holds (([] : List Res).flatMap Res.own) w w [] G := Holds.startN H
  refine calls_enter (args := [vp0]) (n := 24) Try.func16 rfl rfl rfl ?_
  unfold laws_FnExactSeatsManyS at h
  refine WP_seq ?_
  refine WP_region ?_
  refine XL_q rfl (qt_assign rfl) rfl rfl ?_
  refine WL_nil_seq ?_
  refine WP_seq ?_
  refine WP_seq ?_
  refine WP_region ?_
  refine XL_q rfl (qt_move rfl) rfl rfl ?_
  refine XL_lenH H.ctx (t := (.int .i64)) (hp0) u22 rfl rfl rfl ?_
  refine XL_q rfl (qt_gtr rfl rfl) rfl rfl ?_
  refine WL_nil_seq ?_
  refine WP_cond rfl (fun hc1 => ?_) (fun hc1 => ?_)
  · have h := if_t hc1 h
    refine WP_seq ?_
    refine WP_region ?_
    refine XL_q rfl (qt_assign rfl) rfl rfl ?_
    refine WL_nil_seq ?_
    refine WP_ret fun a ha => ?_
    obtain rfl := Option.some.inj h
    exact ret_seq (ret1 rfl ha rfl ⟨rfl, H⟩)
  · have h := if_f hc1 h
    refine WP_skip_seq ?_
    refine WP_seq ?_
    refine WP_region ?_
    refine XL_q rfl (qt_move rfl) rfl rfl ?_
    obtain ⟨x2, hx3, h⟩ := bind_some h
    refine WL_call rfl rfl c18 (w_laws_toIntS w G vp0 p0 (hp0) x2 hx3 H.ctx) (by rfl) ?_
    rintro _ w4 ⟨v6, rfl, H5⟩; refine ⟨_, rfl, ?_⟩
    have H7 : Holds (([] : List Res).flatMap Res.own) w w4 [.sl 3 (.int .i64) v6 x2] G := H.calledN (Rs := []) H5
    obtain ⟨x8, hx9, h⟩ := bind_some h
    refine WL_call rfl rfl c47 (w_spec_SeatsMany w4 ([.sl 3 (.int .i64) v6 x2] ++ G) v6 x2 (Has.hd) x8 hx9 H7.ctx) (by rfl) ?_
    rintro _ w10 ⟨rfl, H11⟩; refine ⟨_, rfl, ?_⟩
    have H12 : Holds (([] : List Res).flatMap Res.own) w w10 [.sl 3 (.int .i64) v6 x2] G := H7.calledN (Rs := []) H11
    refine XL_q rfl (qt_assign rfl) rfl rfl ?_
    refine WL_nil_seq ?_
    refine WP_seq ?_
    refine WP_region ?_
    refine XL_q rfl (qt_move rfl) rfl rfl ?_
    obtain ⟨x13, hx14, h⟩ := bind_some h
    refine WL_call rfl rfl c18 (w_laws_toIntS w10 ([.sl 3 (.int .i64) v6 x2] ++ G) vp0 p0 (hp0.c) x13 hx14 H12.ctx) (by rfl) ?_
    rintro _ w15 ⟨v17, rfl, H16⟩; refine ⟨_, rfl, ?_⟩
    have H18 : Holds (([] : List Res).flatMap Res.own) w w15 [.sl 3 (.int .i64) v17 x13, .sl 3 (.int .i64) v6 x2] G := H12.calledN (Rs := []) H16
    refine XL_q rfl (qt_assign rfl) rfl rfl ?_
    refine WL_nil_seq ?_
    refine WP_seq ?_
    refine WP_still ?_
    refine XL_q rfl (qt_move rfl) rfl rfl ?_
    obtain ⟨x19, hx20, h⟩ := bind_some h
    refine QL_call rfl rfl c48 (fun w' hb => (w_impl_SeatsMany w' ([.sl 3 (.int .i64) v17 x13, .sl 3 (.int .i64) v6 x2] ++ G) v17 x13 (Has.hd) x19 hx20 (H18.grow hb).ctx).mono fun e w'' hK => ⟨hK.1, hK.2.bel⟩) (by rfl) ?_
    refine XL_q rfl (qt_assign rfl) rfl rfl ?_
    refine QL_nil fun a ha w21 hb22 => ?_
    have H23 : Holds (([] : List Res).flatMap Res.own) w w21 [.sl 3 (.int .i64) v17 x13, .sl 3 (.int .i64) v6 x2] G := H18.grow hb22
    refine nrm_seq (WP.app ?_ ha)
    refine WP_seq ?_
    refine WP_seq ?_
    refine WP_region ?_
    refine XL_q rfl (qt_move rfl) rfl rfl ?_
    refine XL_q rfl (qt_move rfl) rfl rfl ?_
    refine XL_q rfl (qt_neq rfl rfl) rfl rfl ?_
    refine WL_nil_seq ?_
    refine WP_cond rfl (fun hc24 => ?_) (fun hc24 => ?_)
    · have h := if_t hc24 h
      refine WP_seq ?_
      refine WP_region ?_
      refine XL_q rfl (qt_assign rfl) rfl rfl ?_
      refine WL_nil_seq ?_
      refine WP_ret fun a ha => ?_
      obtain rfl := Option.some.inj h
      have H25 : Holds (([] : List Res).flatMap Res.own) w w21 [] G := ((H23.cut 0).cut 0)
      exact ret_seq (ret1 rfl ha rfl ⟨rfl, H25⟩)
    · have h := if_f hc24 h
      refine WP_skip_seq ?_
      refine WP_seq ?_
      refine WP_seq ?_
      refine WP_region ?_
      refine XL_q rfl (qt_move rfl) rfl rfl ?_
      refine XL_q rfl (qt_move rfl) rfl rfl ?_
      obtain ⟨x26, hx27, h⟩ := bind_some h
      refine WL_call rfl rfl c18 (w_laws_toIntS w21 ([.sl 3 (.int .i64) v17 x13, .sl 3 (.int .i64) v6 x2] ++ G) vp0 p0 (hp0.c.c) x26 hx27 H23.ctx) (by rfl) ?_
      rintro _ w28 ⟨v30, rfl, H29⟩; refine ⟨_, rfl, ?_⟩
      have H31 : Holds (([] : List Res).flatMap Res.own) w w28 [.sl 3 (.int .i64) v30 x26, .sl 3 (.int .i64) v17 x13, .sl 3 (.int .i64) v6 x2] G := H23.calledN (Rs := []) H29
      obtain ⟨x32, hx33, h⟩ := bind_some h
      refine WL_call rfl rfl c20 (w_laws_eqIntS w28 ([.sl 3 (.int .i64) v30 x26, .sl 3 (.int .i64) v17 x13, .sl 3 (.int .i64) v6 x2] ++ G) v17 x13 (Has.c (Has.hd)) v30 x26 (Has.hd) x32 hx33 H31.ctx) (by rfl) ?_
      rintro _ w34 ⟨rfl, H35⟩; refine ⟨_, rfl, ?_⟩
      have H36 : Holds (([] : List Res).flatMap Res.own) w w34 [.sl 3 (.int .i64) v30 x26, .sl 3 (.int .i64) v17 x13, .sl 3 (.int .i64) v6 x2] G := H31.calledN (Rs := []) H35
      refine XL_q rfl (qt_not rfl) rfl rfl ?_
      refine WL_nil_seq ?_
      refine WP_cond rfl (fun hc37 => ?_) (fun hc37 => ?_)
      · have h := if_t hc37 h
        refine WP_seq ?_
        refine WP_region ?_
        refine XL_q rfl (qt_assign rfl) rfl rfl ?_
        refine WL_nil_seq ?_
        refine WP_ret fun a ha => ?_
        obtain rfl := Option.some.inj h
        have H38 : Holds (([] : List Res).flatMap Res.own) w w34 [] G := (((H36.cut 0).cut 0).cut 0)
        exact ret_seq (ret1 rfl ha rfl ⟨rfl, H38⟩)
      · have h := if_f hc37 h
        refine WP_skip_seq ?_
        refine WP_seq ?_
        refine WP_region ?_
        refine XL_q rfl (qt_assign rfl) rfl rfl ?_
        refine WL_nil_seq ?_
        refine WP_ret fun a ha => ?_
        obtain rfl := Option.some.inj h
        have H39 : Holds (([] : List Res).flatMap Res.own) w w34 [] G := (((H36.cut 0).cut 0).cut 0)
        exact ret1 rfl ha rfl ⟨rfl, H39⟩
theorem w_laws_FnExactSeatsMany (w : World) (vp0 : Value) (p0 : List Int) (Fp0 : List Nat) (hmp0 : Rep w (.slice (.int .i64)) [vp0] p0 Fp0) (r : Bool) (h : laws_FnExactSeatsManyS p0 = some r) : Calls Try.prog 16 #[vp0] w fun e w' => e = .returned (.bool r) ∧ Below w.heap.size w w' := by
  have H0 : Holds (([] : List Res).flatMap Res.own) w w [] [] := Holds.startN (Rs := []) (G := []) ⟨[], rfl, trivial, List.Pairwise.nil, fun f hf => by cases hf⟩
  have H1 : Holds (([] : List Res).flatMap Res.own) w w [.ro (.int .i64) vp0 p0] [] := Holds.addRo H0 hmp0 (by simp [Res.own])
  refine (v_laws_FnExactSeatsMany w [.ro (.int .i64) vp0 p0] vp0 p0 (HasRo.hd).has r h H1.ctx).mono ?_
  rintro e w' ⟨rfl, H⟩
  exact ⟨rfl, H.bel⟩
end Go.Proofs.Ytefgdbldkdgogaa
