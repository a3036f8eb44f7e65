/- The walks: each Go function computes its shallow function. Printed by a program. -/
import Derived.Test.YtidhmbmollkhdaaDoorWS62
set_option linter.unusedVariables false
set_option maxRecDepth 10000
namespace Go.Proofs.YtidhmbmollkhdaaDoor
open Go Go.RowKit
theorem w_impl_DishesGreedy (w : World) (G : List Res) (p0 : Int) (vp1 : Value) (p1 : List Int) (hp1 : Has G (.int .i64) vp1 p1) (r : (List Int)) (h : impl_DishesGreedyS p0 p1 = some r) (H : Ctx w G) : Calls Tryd.prog 48 #[.int .i64 p0, vp1] w fun e w' => ∃ (v1 : Value), e = .returned (v1) ∧ Holds (([] : List Res).flatMap Res.own) w w' [.sl 3 (.int .i64) v1 r] G := by
  have H : Holds (([] : List Res).flatMap Res.own) w w [] G := Holds.startN H
  refine calls_enter (args := [.int .i64 p0, vp1]) (n := 49) Tryd.func48 rfl rfl rfl ?_
  unfold impl_DishesGreedyS at h
  refine WP_seq ?_
  refine WP_region ?_
  refine XL_q rfl (qt_assign rfl) rfl rfl ?_
  refine WL_nil_seq ?_
  refine WP_seq ?_
  refine WP_seq ?_
  refine WP_still ?_
  refine XL_q rfl (qt_move rfl) rfl rfl ?_
  refine XL_q rfl (qt_move rfl) rfl rfl ?_
  obtain ⟨x1, hx2, h⟩ := bind_some h
  refine QL_call rfl rfl c23 (fun w' hb => (w_impl_MenuValid w' G p0 vp1 p1 (hp1) x1 hx2 (H.grow hb).ctx).mono fun e w'' hK => ⟨hK.1, hK.2.bel⟩) (by rfl) ?_
  refine XL_q rfl (qt_not rfl) rfl rfl ?_
  refine QL_nil fun a ha w3 hb4 => ?_
  have H5 : Holds (([] : List Res).flatMap Res.own) w w3 [] G := H.grow hb4
  refine nrm_seq (WP.app ?_ ha)
  refine WP_cond rfl (fun hc6 => ?_) (fun hc6 => ?_)
  · have h := if_t hc6 h
    refine WP_seq ?_
    refine WP_region ?_
    refine XL_q rfl (qt_assign rfl) rfl rfl ?_
    refine WL_nil_seq ?_
    refine WP_ret fun a ha => ?_
    obtain rfl := Option.some.inj h
    have H7 : Holds (([] : List Res).flatMap Res.own) w w3 [.sl 3 (.int .i64) (.slice none 0 0) ([])] G := H5.nilSl
    exact ret_seq (ret1 rfl ha rfl ⟨(.slice none 0 0), rfl, H7⟩)
  · have h := if_f hc6 h
    refine WP_skip_seq ?_
    refine WP_seq ?_
    refine WP_still ?_
    refine XL_q rfl (qt_move rfl) rfl rfl ?_
    obtain ⟨x8, hx9, h⟩ := bind_some h
    refine QL_call rfl rfl c69 (fun w' hb => (w_impl_everybody w' G p0 x8 hx9 (H5.grow hb).ctx).mono fun e w'' hK => ⟨hK.1, hK.2.bel⟩) (by rfl) ?_
    refine XL_q rfl (qt_assign rfl) rfl rfl ?_
    refine QL_nil fun a ha w10 hb11 => ?_
    have H12 : Holds (([] : List Res).flatMap Res.own) w w10 [] G := H5.grow hb11
    refine nrm_seq (WP.app ?_ ha)
    refine WP_seq ?_
    refine WP_region ?_
    refine XL_q rfl (qt_assign rfl) rfl rfl ?_
    refine WL_nil_seq ?_
    refine WP_block ?_
    have H15 : Holds (([] : List Res).flatMap Res.own) w w10 [.sl 3 (.int .i64) (.slice none 0 0) ([])] G := H12.nilSl
    obtain ⟨o16, ho17, h⟩ := bind_some h
    refine fun a18 ha19 => wp_loop_fix (I := fun s a w2 => match s with | (s13, s14) => ∃ vs14, Fr a 49 [(1, vp1), (5, .int .i64 s13), (6, vs14)] ∧ Holds (([] : List Res).flatMap Res.own) w w2 [.sl 3 (.int .i64) vs14 s14] G) (O := fun o e a w2 => match o with | q0 => e = .ret ∧ ∃ vq0, Fr a 49 [(4, vq0)] ∧ Holds (([] : List Res).flatMap Res.own) w w2 [.sl 3 (.int .i64) vq0 q0] G) ho17 ?_ ?_ ?_
    · exact ⟨(.slice none 0 0), ha19.sub ⟨rfl, rfl, rfl, trivial⟩, H15⟩
    · clear ha19
      intro s o22 a w20 hs21 hI23
      obtain ⟨s13, s14⟩ := s
      obtain ⟨vs14, ha, H24⟩ := hI23
      refine WP.app ?_ ha
      clear ha
      refine WP_block ?_
      refine WP_seq ?_
      refine WP_region ?_
      refine XL_q rfl (qt_assign rfl) rfl rfl ?_
      refine XL_q rfl (qt_assign rfl) rfl rfl ?_
      refine WL_nil_seq ?_
      refine WP_seq ?_
      refine WP_seq ?_
      refine WP_region ?_
      refine XL_q rfl (qt_move rfl) rfl rfl ?_
      refine XL_lenH H24.ctx (t := (.int .i64)) (hp1.c) u27 rfl rfl rfl ?_
      refine XL_q rfl (qt_move rfl) rfl rfl ?_
      refine WL_nil_seq ?_
      refine WP_block ?_
      obtain ⟨o28, ho29, hs21⟩ := bind_some hs21
      refine fun a30 ha31 => wp_loop_fix (I := fun s a w2 => match s with | (s25, s26, s27) => (Fr a 49 [(1, vp1), (5, .int .i64 s13), (6, vs14), (7, .int .i64 s25), (8, .int .i64 s26), (18, vp1), (19, .int .i64 (List.length p1 : Int)), (20, .int .i64 s27)] ∧ Holds (([] : List Res).flatMap Res.own) w w2 [.sl 3 (.int .i64) vs14 s14] G)) (O := fun o e a w2 => match o with | q0 => e = .exit 2 ∧ (Fr a 49 [(1, vp1), (5, .int .i64 s13), (6, vs14), (7, .int .i64 q0)] ∧ Holds (([] : List Res).flatMap Res.own) w w2 [.sl 3 (.int .i64) vs14 s14] G)) ho29 ?_ ?_ ?_
      · exact ⟨ha31.sub ⟨rfl, rfl, rfl, rfl, rfl, rfl, rfl, rfl, trivial⟩, H24⟩
      · clear ha31
        intro s o34 a w32 hs33 hI35
        obtain ⟨s25, s26, s27⟩ := s
        obtain ⟨ha, H36⟩ := hI35
        refine WP.app ?_ ha
        clear ha
        refine WP_seq ?_
        refine WP_region ?_
        refine XL_q rfl (qt_lss rfl rfl) rfl rfl ?_
        refine WL_nil_seq ?_
        refine WP_seq ?_
        refine WP_cond rfl (fun hc37 => ?_) (fun hc37 => ?_)
        · have hs33 := if_t hc37 hs33
          refine WP_skip_seq ?_
          refine WP_seq ?_
          refine WP_block ?_
          refine WP_seq ?_
          refine WP_region ?_
          refine XL_q rfl (qt_move rfl) rfl rfl ?_
          obtain ⟨x38, hx39, hs33⟩ := bind_some hs33
          refine XL_indexH H36.ctx (hp1.c) hx39 u27 i3 rfl rfl rfl rfl (fun b40 off41 cap42 hv43 => ?_)
          obtain ⟨F44, hat45, hdup46⟩ := H36.at (hp1.c) hx39 hv43
          refine XL_load_int (k := .i64) u3 rfl hat45 rfl rfl rfl ?_
          refine XL_q rfl (qt_assign rfl) rfl rfl ?_
          refine XL_q rfl (qt_assign rfl) rfl rfl ?_
          refine WL_nil_seq ?_
          refine WP_seq ?_
          refine WP_still ?_
          refine XL_q rfl (qt_move rfl) rfl rfl ?_
          refine XL_q rfl (qt_move rfl) rfl rfl ?_
          refine XL_q rfl (qt_and rfl rfl) rfl rfl ?_
          refine XL_q rfl (qt_int u46 rfl u3) rfl rfl ?_
          obtain ⟨x47, hx48, hs33⟩ := bind_some hs33
          refine QL_call rfl rfl c64 (fun w' hb => (w_bits_OnesCount w' ([.sl 3 (.int .i64) vs14 s14] ++ G) (IntKind.wrap .u64 (iand .i64 x38 s13)) x47 hx48 (H36.grow hb).ctx).mono fun e w'' hK => ⟨hK.1, hK.2.bel⟩) (by rfl) ?_
          refine XL_q rfl (qt_assign rfl) rfl rfl ?_
          refine QL_nil fun a ha w49 hb50 => ?_
          have H51 : Holds (([] : List Res).flatMap Res.own) w w49 [.sl 3 (.int .i64) vs14 s14] G := H36.grow hb50
          refine nrm_seq (WP.app ?_ ha)
          refine WP_seq ?_
          refine WP_region ?_
          refine XL_q rfl (qt_move rfl) rfl rfl ?_
          refine XL_q rfl (qt_move rfl) rfl rfl ?_
          refine XL_q rfl (qt_gtr rfl rfl) rfl rfl ?_
          refine WL_nil_seq ?_
          refine WP_cond rfl (fun hc52 => ?_) (fun hc52 => ?_)
          · have hs33 := if_t hc52 hs33
            refine WP_region ?_
            refine XL_q rfl (qt_move rfl) rfl rfl ?_
            refine XL_q rfl (qt_move rfl) rfl rfl ?_
            refine XL_q rfl (qt_assign rfl) rfl rfl ?_
            refine XL_q rfl (qt_assign rfl) rfl rfl ?_
            refine WL_nil fun a ha => ?_
            refine nrm_block (nrm_seq (WP.app ?_ ha))
            refine WP_region ?_
            refine XL_q rfl (qt_add rfl rfl) rfl rfl ?_
            refine XL_q rfl (qt_move rfl) rfl rfl ?_
            refine WL_nil fun a ha => ?_
            obtain rfl := Option.some.inj hs33
            exact ⟨rfl, ha.sub ⟨rfl, rfl, rfl, rfl, rfl, rfl, rfl, rfl, trivial⟩, H51⟩
          · have hs33 := if_f hc52 hs33
            refine WP_skip fun a ha => ?_
            refine nrm_block (nrm_seq (WP.app ?_ ha))
            refine WP_region ?_
            refine XL_q rfl (qt_add rfl rfl) rfl rfl ?_
            refine XL_q rfl (qt_move rfl) rfl rfl ?_
            refine WL_nil fun a ha => ?_
            obtain rfl := Option.some.inj hs33
            exact ⟨rfl, ha.sub ⟨rfl, rfl, rfl, rfl, rfl, rfl, rfl, rfl, trivial⟩, H51⟩
        · have hs33 := if_f hc37 hs33
          refine WP_exit fun a ha => ?_
          obtain rfl := Option.some.inj hs33
          exact exit_seq (⟨exit_ne, rfl, ha.sub ⟨rfl, rfl, rfl, rfl, trivial⟩, H36⟩)
      · intro e a30 w53 hO54
        obtain ⟨p55, rfl⟩ : ∃ z, z = o28 := ⟨o28, rfl⟩
        obtain ⟨rfl, hO57⟩ := hO54
        obtain ⟨ha, H56⟩ := hO57
        refine exit_block_eq (nrm_seq (WP.app ?_ ha))
        refine WP_seq ?_
        refine WP_seq ?_
        refine WP_region ?_
        refine XL_q rfl (qt_move rfl) rfl rfl ?_
        refine XL_q rfl (qt_lss rfl rfl) rfl rfl ?_
        refine WL_nil_seq ?_
        refine WP_cond rfl (fun hc58 => ?_) (fun hc58 => ?_)
        · have hs21 := if_t hc58 hs21
          refine WP_seq ?_
          refine WP_region ?_
          refine XL_q rfl (qt_move rfl) rfl rfl ?_
          refine XL_q rfl (qt_assign rfl) rfl rfl ?_
          refine WL_nil_seq ?_
          refine WP_ret fun a ha => ?_
          obtain rfl := Option.some.inj hs21
          exact ret_seq (ret_block (⟨ret_ne, rfl, vs14, ha.sub ⟨rfl, trivial⟩, H56⟩))
        · have hs21 := if_f hc58 hs21
          refine WP_skip_seq ?_
          refine WP_seq ?_
          refine WP_region ?_
          refine XL_q rfl (qt_move rfl) rfl rfl ?_
          refine XL_q rfl (qt_move rfl) rfl rfl ?_
          refine WL_buildH (t := (.int .i64)) (args := [.tmp 40]) (xs := ([p55] : List Int)) H56 (BltL.cons (Blt.int) rfl (BltL.nil)) u27 j3 rfl rfl rfl rfl rfl rfl (fun v59 w60 H61 => ?_)
          have H62 : Holds (([] : List Res).flatMap Res.own) w w60 [.sl 3 (.int .i64) v59 ([p55]), .sl 3 (.int .i64) vs14 s14] G := H61
          have H63 : Holds (([] : List Res).flatMap Res.own) w w60 [.sl 3 (.int .i64) vs14 s14, .sl 3 (.int .i64) v59 ([p55])] G := H62.pull 1
          obtain ⟨x64, hx65, hs21⟩ := bind_some hs21
          refine WL_appendH H63 (Has.c (Has.hd)) hx65 u27 j3 rfl rfl rfl rfl rfl rfl (fun v66 w67 H68 => ?_)
          have H69 : Holds (([] : List Res).flatMap Res.own) w w67 [.sl 3 (.int .i64) v66 x64, .sl 3 (.int .i64) v59 ([p55])] G := H68
          refine XL_q rfl (qt_assign rfl) rfl rfl ?_
          refine WL_nil_seq ?_
          refine WP_region ?_
          refine XL_q rfl (qt_move rfl) rfl rfl ?_
          refine XL_q rfl (qt_move rfl) rfl rfl ?_
          refine XL_q rfl (qt_move rfl) rfl rfl ?_
          obtain ⟨x70, hx71, hs21⟩ := bind_some hs21
          refine XL_indexH H69.ctx (hp1.c.c) hx71 u27 i3 rfl rfl rfl rfl (fun b72 off73 cap74 hv75 => ?_)
          obtain ⟨F76, hat77, hdup78⟩ := H69.at (hp1.c.c) hx71 hv75
          refine XL_load_int (k := .i64) u3 rfl hat77 rfl rfl rfl ?_
          refine XL_q rfl (qt_andNot rfl rfl) rfl rfl ?_
          refine XL_q rfl (qt_assign rfl) rfl rfl ?_
          refine WL_nil fun a ha => ?_
          obtain rfl := Option.some.inj hs21
          have H79 : Holds (([] : List Res).flatMap Res.own) w w67 [.sl 3 (.int .i64) v66 x64] G := (H69.cut 1)
          exact nrm_block (⟨rfl, v66, ha.sub ⟨rfl, rfl, rfl, trivial⟩, H79⟩)
    · intro e a18 w80 hO81
      obtain ⟨p82, rfl⟩ : ∃ z, z = o16 := ⟨o16, rfl⟩
      obtain ⟨rfl, hO84⟩ := hO81
      obtain ⟨vp82, ha, H83⟩ := hO84
      obtain rfl := Option.some.inj h
      exact ret_block (ret1 rfl ha rfl ⟨vp82, rfl, H83⟩)
theorem w_spec_DishesGreedy (w : World) (G : List Res) (p0 : Int) (vp1 : Value) (p1 : List Int) (hp1 : Has G (.int .i64) vp1 p1) (r : (List Int)) (h : spec_DishesGreedyS p0 p1 = some r) (H : Ctx w G) : Calls Tryd.prog 50 #[.int .i64 p0, vp1] w fun e w' => ∃ (v1 : Value), e = .returned (v1) ∧ Holds (([] : List Res).flatMap Res.own) w w' [.sl 3 (.int .i64) v1 r] G := by
  have H : Holds (([] : List Res).flatMap Res.own) w w [] G := Holds.startN H
  refine calls_enter (args := [.int .i64 p0, vp1]) (n := 53) Tryd.func50 rfl rfl rfl ?_
  unfold spec_DishesGreedyS at h
  refine WP_seq ?_
  refine WP_region ?_
  refine XL_q rfl (qt_assign rfl) rfl rfl ?_
  refine WL_nil_seq ?_
  refine WP_seq ?_
  refine WP_region ?_
  refine WL_buildH (t := (.int .i64)) (args := []) (xs := ([] : List Int)) H (BltL.nil) u27 j3 rfl rfl rfl rfl rfl rfl (fun v1 w2 H3 => ?_)
  have H4 : Holds (([] : List Res).flatMap Res.own) w w2 [.sl 3 (.int .i64) v1 ([])] G := H3
  refine XL_q rfl (qt_assign rfl) rfl rfl ?_
  refine WL_nil_seq ?_
  refine WP_seq ?_
  refine WP_region ?_
  refine XL_q rfl (qt_assign rfl) rfl rfl ?_
  refine WL_nil_seq ?_
  refine WP_seq ?_
  refine WP_block ?_
  obtain ⟨o7, ho8, h⟩ := bind_some h
  refine fun a9 ha10 => wp_loop_fix (I := fun s a w2 => match s with | (s5, s6) => ∃ vs5, Fr a 53 [(0, .int .i64 p0), (1, vp1), (5, vs5), (6, .int .i64 s6)] ∧ Holds (([] : List Res).flatMap Res.own) w w2 [.sl 3 (.int .i64) vs5 s5] G) (O := fun o e a w2 => match o with | .inl q0 => e = .exit 0 ∧ ∃ vq0, Fr a 53 [(5, vq0)] ∧ Holds (([] : List Res).flatMap Res.own) w w2 [.sl 3 (.int .i64) vq0 q0] G | .inr q0 => e = .ret ∧ ∃ vq0, Fr a 53 [(4, vq0)] ∧ Holds (([] : List Res).flatMap Res.own) w w2 [.sl 3 (.int .i64) vq0 q0] G) ho8 ?_ ?_ ?_
  · exact ⟨v1, ha10.sub ⟨rfl, rfl, rfl, rfl, trivial⟩, H4⟩
  · clear ha10
    intro s o13 a w11 hs12 hI14
    obtain ⟨s5, s6⟩ := s
    obtain ⟨vs5, ha, H15⟩ := hI14
    refine WP.app ?_ ha
    clear ha
    refine WP_seq ?_
    refine WP_seq ?_
    refine WP_still ?_
    refine XL_q rfl (qt_move rfl) rfl rfl ?_
    refine XL_q rfl (qt_move rfl) rfl rfl ?_
    obtain ⟨x16, hx17, hs12⟩ := bind_some hs12
    refine QL_call rfl rfl c24 (fun w' hb => (w_spec_MenuValid w' ([.sl 3 (.int .i64) vs5 s5] ++ G) p0 vp1 p1 (hp1.c) x16 hx17 (H15.grow hb).ctx).mono fun e w'' hK => ⟨hK.1, hK.2.bel⟩) (by rfl) ?_
    refine QL_nil fun a ha w18 hb19 => ?_
    have H20 : Holds (([] : List Res).flatMap Res.own) w w18 [.sl 3 (.int .i64) vs5 s5] G := H15.grow hb19
    refine nrm_seq (WP.app ?_ ha)
    refine WP_cond rfl (fun hc21 => ?_) (fun hc21 => ?_)
    · have hs12 := if_t hc21 hs12
      refine WP_skip_seq ?_
      refine WP_block ?_
      refine WP_seq ?_
      refine WP_region ?_
      refine XL_q rfl (qt_assign rfl) rfl rfl ?_
      refine WL_nil_seq ?_
      refine WP_seq ?_
      refine WP_region ?_
      refine XL_q rfl (qt_assign rfl) rfl rfl ?_
      refine WL_nil_seq ?_
      refine WP_seq ?_
      refine WP_seq ?_
      refine WP_region ?_
      refine XL_q rfl (qt_assign rfl) rfl rfl ?_
      refine WL_nil_seq ?_
      refine WP_block ?_
      obtain ⟨o25, ho26, hs12⟩ := bind_some hs12
      refine fun a27 ha28 => wp_loop_fix (I := fun s a w2 => match s with | (s22, s23, s24) => (Fr a 53 [(0, .int .i64 p0), (1, vp1), (5, vs5), (6, .int .i64 s6), (7, .int .i64 s22), (8, .int .i64 s23), (9, .int .i64 s24)] ∧ Holds (([] : List Res).flatMap Res.own) w w2 [.sl 3 (.int .i64) vs5 s5] G)) (O := fun o e a w2 => match o with | q0 => e = .exit 2 ∧ (Fr a 53 [(0, .int .i64 p0), (1, vp1), (5, vs5), (6, .int .i64 s6), (7, .int .i64 q0)] ∧ Holds (([] : List Res).flatMap Res.own) w w2 [.sl 3 (.int .i64) vs5 s5] G)) ho26 ?_ ?_ ?_
      · exact ⟨ha28.sub ⟨rfl, rfl, rfl, rfl, rfl, rfl, rfl, trivial⟩, H20⟩
      · clear ha28
        intro s o31 a w29 hs30 hI32
        obtain ⟨s22, s23, s24⟩ := s
        obtain ⟨ha, H33⟩ := hI32
        refine WP.app ?_ ha
        clear ha
        refine WP_seq ?_
        refine WP_seq ?_
        refine WP_region ?_
        refine XL_q rfl (qt_move rfl) rfl rfl ?_
        refine XL_q rfl (qt_move rfl) rfl rfl ?_
        refine XL_lenH H33.ctx (t := (.int .i64)) (hp1.c) u27 rfl rfl rfl ?_
        refine XL_q rfl (qt_lss rfl rfl) rfl rfl ?_
        refine WL_nil_seq ?_
        refine WP_cond rfl (fun hc34 => ?_) (fun hc34 => ?_)
        · have hs30 := if_t hc34 hs30
          refine WP_skip_seq ?_
          refine WP_seq ?_
          refine WP_block ?_
          refine WP_seq ?_
          refine WP_quiet (by kernel_rfl) (by kernel_rfl) ?_
          refine XL_q rfl (qt_move rfl) rfl rfl ?_
          refine XL_q rfl (qt_move rfl) rfl rfl ?_
          obtain ⟨x35, hx36, hs30⟩ := bind_some hs30
          refine XL_indexH H33.ctx (hp1.c) hx36 u27 i3 rfl rfl rfl rfl (fun b37 off38 cap39 hv40 => ?_)
          obtain ⟨F41, hat42, hdup43⟩ := H33.at (hp1.c) hx36 hv40
          refine XL_load_int (k := .i64) u3 rfl hat42 rfl rfl rfl ?_
          obtain ⟨x44, hx45, hs30⟩ := bind_some hs30
          refine QL_call rfl rfl c65 (fun w' hb => (w_spec_l6Count w' ([.sl 3 (.int .i64) vs5 s5] ++ G) x35 x44 hx45 (H33.grow hb).ctx).mono fun e w'' hK => ⟨hK.1, hK.2.bel⟩) (by rfl) ?_
          refine XL_q rfl (qt_move rfl) rfl rfl ?_
          refine XL_q rfl (qt_move rfl) rfl rfl ?_
          obtain ⟨x46, hx47, hs30⟩ := bind_some hs30
          refine XL_indexH H33.ctx (hp1.c) hx47 u27 i3 rfl rfl rfl rfl (fun b48 off49 cap50 hv51 => ?_)
          obtain ⟨F52, hat53, hdup54⟩ := H33.at (hp1.c) hx47 hv51
          refine XL_load_int (k := .i64) u3 rfl hat53 rfl rfl rfl ?_
          refine XL_q rfl (qt_move rfl) rfl rfl ?_
          obtain ⟨x55, hx56, hs30⟩ := bind_some hs30
          refine QL_call rfl rfl c76 (fun w' hb => (w_spec_l1Meet w' ([.sl 3 (.int .i64) vs5 s5] ++ G) x46 s6 x55 hx56 (H33.grow hb).ctx).mono fun e w'' hK => ⟨hK.1, hK.2.bel⟩) (by rfl) ?_
          obtain ⟨x57, hx58, hs30⟩ := bind_some hs30
          refine QL_call rfl rfl c65 (fun w' hb => (w_spec_l6Count w' ([.sl 3 (.int .i64) vs5 s5] ++ G) x55 x57 hx58 (H33.grow hb).ctx).mono fun e w'' hK => ⟨hK.1, hK.2.bel⟩) (by rfl) ?_
          refine XL_q rfl (qt_sub rfl rfl) rfl rfl ?_
          refine XL_q rfl (qt_assign rfl) rfl rfl ?_
          refine QL_nil fun a ha w59 hb60 => ?_
          have H61 : Holds (([] : List Res).flatMap Res.own) w w59 [.sl 3 (.int .i64) vs5 s5] G := H33.grow hb60
          refine nrm_seq (WP.app ?_ ha)
          refine WP_seq ?_
          refine WP_region ?_
          refine XL_q rfl (qt_move rfl) rfl rfl ?_
          refine XL_q rfl (qt_move rfl) rfl rfl ?_
          refine XL_q rfl (qt_gtr rfl rfl) rfl rfl ?_
          refine WL_nil_seq ?_
          refine WP_cond rfl (fun hc62 => ?_) (fun hc62 => ?_)
          · have hs30 := if_t hc62 hs30
            refine WP_seq ?_
            refine WP_region ?_
            refine XL_q rfl (qt_move rfl) rfl rfl ?_
            refine XL_q rfl (qt_assign rfl) rfl rfl ?_
            refine WL_nil_seq ?_
            refine WP_region ?_
            refine XL_q rfl (qt_move rfl) rfl rfl ?_
            refine XL_q rfl (qt_assign rfl) rfl rfl ?_
            refine WL_nil fun a ha => ?_
            refine nrm_block (nrm_seq (WP.app ?_ ha))
            refine WP_region ?_
            refine XL_q rfl (qt_move rfl) rfl rfl ?_
            refine XL_q rfl (qt_add rfl rfl) rfl rfl ?_
            refine XL_q rfl (qt_assign rfl) rfl rfl ?_
            refine WL_nil fun a ha => ?_
            obtain rfl := Option.some.inj hs30
            exact ⟨rfl, ha.sub ⟨rfl, rfl, rfl, rfl, rfl, rfl, rfl, trivial⟩, H61⟩
          · have hs30 := if_f hc62 hs30
            refine WP_skip fun a ha => ?_
            refine nrm_block (nrm_seq (WP.app ?_ ha))
            refine WP_region ?_
            refine XL_q rfl (qt_move rfl) rfl rfl ?_
            refine XL_q rfl (qt_add rfl rfl) rfl rfl ?_
            refine XL_q rfl (qt_assign rfl) rfl rfl ?_
            refine WL_nil fun a ha => ?_
            obtain rfl := Option.some.inj hs30
            exact ⟨rfl, ha.sub ⟨rfl, rfl, rfl, rfl, rfl, rfl, rfl, trivial⟩, H61⟩
        · have hs30 := if_f hc34 hs30
          refine WP_exit fun a ha => ?_
          obtain rfl := Option.some.inj hs30
          exact exit_seq (⟨exit_ne, rfl, ha.sub ⟨rfl, rfl, rfl, rfl, rfl, trivial⟩, H33⟩)
      · intro e a27 w63 hO64
        obtain ⟨p65, rfl⟩ : ∃ z, z = o25 := ⟨o25, rfl⟩
        obtain ⟨rfl, hO67⟩ := hO64
        obtain ⟨ha, H66⟩ := hO67
        refine exit_block_eq (nrm_seq (WP.app ?_ ha))
        refine WP_seq ?_
        refine WP_seq ?_
        refine WP_region ?_
        refine XL_q rfl (qt_move rfl) rfl rfl ?_
        refine XL_q rfl (qt_lss rfl rfl) rfl rfl ?_
        refine WL_nil_seq ?_
        refine WP_cond rfl (fun hc68 => ?_) (fun hc68 => ?_)
        · have hs12 := if_t hc68 hs12
          refine WP_seq ?_
          refine WP_region ?_
          refine XL_q rfl (qt_move rfl) rfl rfl ?_
          refine XL_q rfl (qt_assign rfl) rfl rfl ?_
          refine WL_nil_seq ?_
          refine WP_ret fun a ha => ?_
          obtain rfl := Option.some.inj hs12
          exact ret_seq (ret_block (⟨ret_ne, rfl, vs5, ha.sub ⟨rfl, trivial⟩, H66⟩))
        · have hs12 := if_f hc68 hs12
          refine WP_skip_seq ?_
          refine WP_seq ?_
          refine WP_region ?_
          refine XL_q rfl (qt_move rfl) rfl rfl ?_
          refine XL_q rfl (qt_move rfl) rfl rfl ?_
          refine WL_buildH (t := (.int .i64)) (args := [.tmp 43]) (xs := ([p65] : List Int)) H66 (BltL.cons (Blt.int) rfl (BltL.nil)) u27 j3 rfl rfl rfl rfl rfl rfl (fun v69 w70 H71 => ?_)
          have H72 : Holds (([] : List Res).flatMap Res.own) w w70 [.sl 3 (.int .i64) v69 ([p65]), .sl 3 (.int .i64) vs5 s5] G := H71
          have H73 : Holds (([] : List Res).flatMap Res.own) w w70 [.sl 3 (.int .i64) vs5 s5, .sl 3 (.int .i64) v69 ([p65])] G := H72.pull 1
          obtain ⟨x74, hx75, hs12⟩ := bind_some hs12
          refine WL_appendH H73 (Has.c (Has.hd)) hx75 u27 j3 rfl rfl rfl rfl rfl rfl (fun v76 w77 H78 => ?_)
          have H79 : Holds (([] : List Res).flatMap Res.own) w w77 [.sl 3 (.int .i64) v76 x74, .sl 3 (.int .i64) v69 ([p65])] G := H78
          refine XL_q rfl (qt_assign rfl) rfl rfl ?_
          refine WL_nil_seq ?_
          refine WP_still ?_
          refine XL_q rfl (qt_move rfl) rfl rfl ?_
          refine XL_q rfl (qt_move rfl) rfl rfl ?_
          refine XL_q rfl (qt_move rfl) rfl rfl ?_
          obtain ⟨x80, hx81, hs12⟩ := bind_some hs12
          refine XL_indexH H79.ctx (hp1.c.c) hx81 u27 i3 rfl rfl rfl rfl (fun b82 off83 cap84 hv85 => ?_)
          obtain ⟨F86, hat87, hdup88⟩ := H79.at (hp1.c.c) hx81 hv85
          refine XL_load_int (k := .i64) u3 rfl hat87 rfl rfl rfl ?_
          obtain ⟨x89, hx90, hs12⟩ := bind_some hs12
          refine QL_call rfl rfl c79 (fun w' hb => (w_spec_l1Join w' ([.sl 3 (.int .i64) v76 x74, .sl 3 (.int .i64) v69 ([p65])] ++ G) s6 x80 x89 hx90 (H79.grow hb).ctx).mono fun e w'' hK => ⟨hK.1, hK.2.bel⟩) (by rfl) ?_
          refine XL_q rfl (qt_assign rfl) rfl rfl ?_
          refine QL_nil fun a ha w91 hb92 => ?_
          have H93 : Holds (([] : List Res).flatMap Res.own) w w91 [.sl 3 (.int .i64) v76 x74, .sl 3 (.int .i64) v69 ([p65])] G := H79.grow hb92
          obtain rfl := Option.some.inj hs12
          have H94 : Holds (([] : List Res).flatMap Res.own) w w91 [.sl 3 (.int .i64) v76 x74] G := (H93.cut 1)
          exact nrm_block (⟨rfl, v76, ha.sub ⟨rfl, rfl, rfl, rfl, trivial⟩, H94⟩)
    · have hs12 := if_f hc21 hs12
      refine WP_exit fun a ha => ?_
      obtain rfl := Option.some.inj hs12
      exact exit_seq (⟨exit_ne, rfl, vs5, ha.sub ⟨rfl, trivial⟩, H20⟩)
  · intro e a9 w95 hO96
    rcases o7 with o7 | o7
    · skip
      obtain ⟨p97, rfl⟩ : ∃ z, z = o7 := ⟨o7, rfl⟩
      obtain ⟨rfl, hO99⟩ := hO96
      obtain ⟨vp97, ha, H98⟩ := hO99
      refine exit_block_eq (nrm_seq (WP.app ?_ ha))
      refine WP_seq ?_
      refine WP_region ?_
      refine XL_q rfl (qt_move rfl) rfl rfl ?_
      refine XL_q rfl (qt_assign rfl) rfl rfl ?_
      refine WL_nil_seq ?_
      refine WP_ret fun a ha => ?_
      obtain rfl := Option.some.inj h
      exact ret1 rfl ha rfl ⟨vp97, rfl, H98⟩
    · skip
      obtain ⟨p100, rfl⟩ : ∃ z, z = o7 := ⟨o7, rfl⟩
      obtain ⟨rfl, hO102⟩ := hO96
      obtain ⟨vp100, ha, H101⟩ := hO102
      obtain rfl := Option.some.inj h
      exact ret_block (ret_seq (ret1 rfl ha rfl ⟨vp100, rfl, H101⟩))
theorem w_laws_sameInts (w : World) (G : List Res) (vp0 : Value) (p0 : List Int) (hp0 : Has G (.int .i64) vp0 p0) (vp1 : Value) (p1 : List Int) (hp1 : Has G (.int .i64) vp1 p1) (r : Bool) (h : laws_sameIntsS p0 p1 = some r) (H : Ctx w G) : Calls Tryd.prog 49 #[vp0, vp1] w fun e w' => e = .returned (.bool r) ∧ Holds (([] : List Res).flatMap Res.own) w w' [] G := by
  have H : Holds (([] : List Res).flatMap Res.own) w w [] G := Holds.startN H
  refine calls_enter (args := [vp0, vp1]) (n := 26) Tryd.func49 rfl rfl rfl ?_
  unfold laws_sameIntsS at h
  refine WP_seq ?_
  refine WP_region ?_
  refine XL_q rfl (qt_assign rfl) rfl rfl ?_
  refine WL_nil_seq ?_
  refine WP_seq ?_
  refine WP_seq ?_
  refine WP_region ?_
  refine XL_q rfl (qt_move rfl) rfl rfl ?_
  refine XL_lenH H.ctx (t := (.int .i64)) (hp0) u27 rfl rfl rfl ?_
  refine XL_q rfl (qt_move rfl) rfl rfl ?_
  refine XL_lenH H.ctx (t := (.int .i64)) (hp1) u27 rfl rfl rfl ?_
  refine XL_q rfl (qt_neq rfl rfl) rfl rfl ?_
  refine WL_nil_seq ?_
  refine WP_cond rfl (fun hc1 => ?_) (fun hc1 => ?_)
  · have h := if_t hc1 h
    refine WP_seq ?_
    refine WP_region ?_
    refine XL_q rfl (qt_assign rfl) rfl rfl ?_
    refine WL_nil_seq ?_
    refine WP_ret fun a ha => ?_
    obtain rfl := Option.some.inj h
    exact ret_seq (ret1 rfl ha rfl ⟨rfl, H⟩)
  · have h := if_f hc1 h
    refine WP_skip_seq ?_
    refine WP_seq ?_
    refine WP_seq ?_
    refine WP_region ?_
    refine XL_q rfl (qt_assign rfl) rfl rfl ?_
    refine WL_nil_seq ?_
    refine WP_block ?_
    obtain ⟨o3, ho4, h⟩ := bind_some h
    refine fun a5 ha6 => wp_loop_fix (I := fun s a w2 => match s with | s2 => (Fr a 26 [(0, vp0), (1, vp1), (5, .int .i64 s2)] ∧ Holds (([] : List Res).flatMap Res.own) w w2 [] G)) (O := fun o e a w2 => match o with | .inl _ => e = .exit 0 ∧ (Fr a 26 [] ∧ Holds (([] : List Res).flatMap Res.own) w w2 [] G) | .inr q0 => e = .ret ∧ (Fr a 26 [(4, .bool q0)] ∧ Holds (([] : List Res).flatMap Res.own) w w2 [] G)) ho4 ?_ ?_ ?_
    · exact ⟨ha6.sub ⟨rfl, rfl, rfl, trivial⟩, H⟩
    · clear ha6
      intro s o9 a w7 hs8 hI10
      obtain ⟨s2, rfl⟩ : ∃ z, z = s := ⟨s, rfl⟩
      obtain ⟨ha, H11⟩ := hI10
      refine WP.app ?_ ha
      clear ha
      refine WP_seq ?_
      refine WP_seq ?_
      refine WP_region ?_
      refine XL_q rfl (qt_move rfl) rfl rfl ?_
      refine XL_q rfl (qt_move rfl) rfl rfl ?_
      refine XL_lenH H11.ctx (t := (.int .i64)) (hp0) u27 rfl rfl rfl ?_
      refine XL_q rfl (qt_lss rfl rfl) rfl rfl ?_
      refine WL_nil_seq ?_
      refine WP_cond rfl (fun hc12 => ?_) (fun hc12 => ?_)
      · have hs8 := if_t hc12 hs8
        refine WP_skip_seq ?_
        refine WP_seq ?_
        refine WP_block ?_
        refine WP_seq ?_
        refine WP_quiet (by kernel_rfl) (by kernel_rfl) ?_
        refine XL_q rfl (qt_move rfl) rfl rfl ?_
        refine XL_q rfl (qt_move rfl) rfl rfl ?_
        obtain ⟨x13, hx14, hs8⟩ := bind_some hs8
        refine XL_indexH H11.ctx (hp0) hx14 u27 i3 rfl rfl rfl rfl (fun b15 off16 cap17 hv18 => ?_)
        obtain ⟨F19, hat20, hdup21⟩ := H11.at (hp0) hx14 hv18
        refine XL_load_int (k := .i64) u3 rfl hat20 rfl rfl rfl ?_
        refine XL_q rfl (qt_move rfl) rfl rfl ?_
        refine XL_q rfl (qt_move rfl) rfl rfl ?_
        obtain ⟨x22, hx23, hs8⟩ := bind_some hs8
        refine XL_indexH H11.ctx (hp1) hx23 u27 i3 rfl rfl rfl rfl (fun b24 off25 cap26 hv27 => ?_)
        obtain ⟨F28, hat29, hdup30⟩ := H11.at (hp1) hx23 hv27
        refine XL_load_int (k := .i64) u3 rfl hat29 rfl rfl rfl ?_
        refine XL_q rfl (qt_neq rfl rfl) rfl rfl ?_
        refine QL_nil fun a ha w31 hb32 => ?_
        have H33 : Holds (([] : List Res).flatMap Res.own) w w31 [] G := H11.grow hb32
        refine nrm_seq (WP.app ?_ ha)
        refine WP_cond rfl (fun hc34 => ?_) (fun hc34 => ?_)
        · have hs8 := if_t hc34 hs8
          refine WP_seq ?_
          refine WP_region ?_
          refine XL_q rfl (qt_assign rfl) rfl rfl ?_
          refine WL_nil_seq ?_
          refine WP_ret fun a ha => ?_
          obtain rfl := Option.some.inj hs8
          exact ret_block (ret_seq (⟨ret_ne, rfl, ha.sub ⟨rfl, trivial⟩, H33⟩))
        · have hs8 := if_f hc34 hs8
          refine WP_skip fun a ha => ?_
          refine nrm_block (nrm_seq (WP.app ?_ ha))
          refine WP_region ?_
          refine XL_q rfl (qt_move rfl) rfl rfl ?_
          refine XL_q rfl (qt_add rfl rfl) rfl rfl ?_
          refine XL_q rfl (qt_assign rfl) rfl rfl ?_
          refine WL_nil fun a ha => ?_
          obtain rfl := Option.some.inj hs8
          exact ⟨rfl, ha.sub ⟨rfl, rfl, rfl, trivial⟩, H33⟩
      · have hs8 := if_f hc12 hs8
        refine WP_exit fun a ha => ?_
        obtain rfl := Option.some.inj hs8
        exact exit_seq (⟨exit_ne, rfl, ha.sub trivial, H11⟩)
    · intro e a5 w35 hO36
      rcases o3 with o3 | o3
      · skip
        obtain ⟨rfl, hO38⟩ := hO36
        obtain ⟨ha, H37⟩ := hO38
        refine exit_block_eq (nrm_seq (WP.app ?_ ha))
        refine WP_seq ?_
        refine WP_region ?_
        refine XL_q rfl (qt_assign rfl) rfl rfl ?_
        refine WL_nil_seq ?_
        refine WP_ret fun a ha => ?_
        obtain rfl := Option.some.inj h
        exact ret1 rfl ha rfl ⟨rfl, H37⟩
      · skip
        obtain ⟨p39, rfl⟩ : ∃ z, z = o3 := ⟨o3, rfl⟩
        obtain ⟨rfl, hO41⟩ := hO36
        obtain ⟨ha, H40⟩ := hO41
        obtain rfl := Option.some.inj h
        exact ret_block (ret_seq (ret1 rfl ha rfl ⟨rfl, H40⟩))
theorem w_laws_FnDishesGreedy (w : World) (G : List Res) (vp0 : Value) (p0 : List Int) (hp0 : HasRo G (.int .u8) vp0 p0) (r : Bool) (h : laws_FnDishesGreedyS p0 = some r) (H : Ctx w G) : Calls Tryd.prog 12 #[vp0] w fun e w' => e = .returned (.bool r) ∧ Holds (([] : List Res).flatMap Res.own) w w' [] G := by
  have H : Holds (([] : List Res).flatMap Res.own) w w [] G := Holds.startN H
  refine calls_enter (args := [vp0]) (n := 107) Tryd.func12 rfl rfl rfl ?_
  unfold laws_FnDishesGreedyS at h
  refine WP_seq ?_
  refine WP_region ?_
  refine XL_q rfl (qt_assign rfl) rfl rfl ?_
  refine WL_nil_seq ?_
  refine WP_seq ?_
  refine WP_seq ?_
  refine WP_region ?_
  refine XL_q rfl (qt_move rfl) rfl rfl ?_
  refine XL_lenH H.ctx (t := (.int .u8)) (hp0.has) u22 rfl rfl rfl ?_
  refine XL_q rfl (qt_gtr rfl rfl) rfl rfl ?_
  refine WL_nil_seq ?_
  refine WP_cond rfl (fun hc1 => ?_) (fun hc1 => ?_)
  · have h := if_t hc1 h
    refine WP_seq ?_
    refine WP_region ?_
    refine XL_q rfl (qt_assign rfl) rfl rfl ?_
    refine WL_nil_seq ?_
    refine WP_ret fun a ha => ?_
    obtain rfl := Option.some.inj h
    exact ret_seq (ret1 rfl ha rfl ⟨rfl, H⟩)
  · have h := if_f hc1 h
    refine WP_skip_seq ?_
    refine WP_seq ?_
    refine WP_region ?_
    refine XL_q rfl (qt_move rfl) rfl rfl ?_
    obtain ⟨x2, hx3, h⟩ := bind_some h
    refine WL_call rfl rfl c47 (w_spec_DrawDishesGreedy w G vp0 p0 (hp0) x2 hx3 H.ctx) (by rfl) ?_
    rintro _ w4 ⟨v6, rfl, H5⟩; refine ⟨_, rfl, ?_⟩
    have H7 : Holds (([] : List Res).flatMap Res.own) w w4 [.sl 3 (.int .i64) v6 x2.2] G := H.calledN (Rs := []) H5
    refine XL_q rfl (qt_move rfl) rfl rfl ?_
    refine XL_q rfl (qt_extract rfl rfl) rfl rfl ?_
    refine XL_q rfl (qt_extract rfl rfl) rfl rfl ?_
    refine XL_q rfl (qt_assign rfl) rfl rfl ?_
    refine XL_q rfl (qt_assign rfl) rfl rfl ?_
    refine WL_nil_seq ?_
    refine WP_seq ?_
    refine WP_region ?_
    refine XL_q rfl (qt_move rfl) rfl rfl ?_
    refine XL_q rfl (qt_move rfl) rfl rfl ?_
    obtain ⟨x8, hx9, h⟩ := bind_some h
    refine WL_call rfl rfl c48 (w_impl_DishesGreedy w4 ([.sl 3 (.int .i64) v6 x2.2] ++ G) x2.1 v6 x2.2 (Has.hd) x8 hx9 H7.ctx) (by rfl) ?_
    rintro _ w10 ⟨v12, rfl, H11⟩; refine ⟨_, rfl, ?_⟩
    have H13 : Holds (([] : List Res).flatMap Res.own) w w10 [.sl 3 (.int .i64) v12 x8, .sl 3 (.int .i64) v6 x2.2] G := H7.calledN (Rs := []) H11
    refine XL_q rfl (qt_assign rfl) rfl rfl ?_
    refine WL_nil_seq ?_
    refine WP_seq ?_
    refine WP_seq ?_
    refine WP_region ?_
    refine XL_q rfl (qt_move rfl) rfl rfl ?_
    refine XL_q rfl (qt_move rfl) rfl rfl ?_
    refine XL_q rfl (qt_move rfl) rfl rfl ?_
    obtain ⟨x14, hx15, h⟩ := bind_some h
    refine WL_call rfl rfl c50 (w_spec_DishesGreedy w10 ([.sl 3 (.int .i64) v12 x8, .sl 3 (.int .i64) v6 x2.2] ++ G) x2.1 v6 x2.2 (Has.c (Has.hd)) x14 hx15 H13.ctx) (by rfl) ?_
    rintro _ w16 ⟨v18, rfl, H17⟩; refine ⟨_, rfl, ?_⟩
    have H19 : Holds (([] : List Res).flatMap Res.own) w w16 [.sl 3 (.int .i64) v18 x14, .sl 3 (.int .i64) v12 x8, .sl 3 (.int .i64) v6 x2.2] G := H13.calledN (Rs := []) H17
    obtain ⟨x20, hx21, h⟩ := bind_some h
    refine WL_call rfl rfl c49 (w_laws_sameInts w16 ([.sl 3 (.int .i64) v18 x14, .sl 3 (.int .i64) v12 x8, .sl 3 (.int .i64) v6 x2.2] ++ G) v12 x8 (Has.c (Has.hd)) v18 x14 (Has.hd) x20 hx21 H19.ctx) (by rfl) ?_
    rintro _ w22 ⟨rfl, H23⟩; refine ⟨_, rfl, ?_⟩
    have H24 : Holds (([] : List Res).flatMap Res.own) w w22 [.sl 3 (.int .i64) v18 x14, .sl 3 (.int .i64) v12 x8, .sl 3 (.int .i64) v6 x2.2] G := H19.calledN (Rs := []) H23
    refine XL_q rfl (qt_not rfl) rfl rfl ?_
    refine WL_nil_seq ?_
    refine WP_cond rfl (fun hc25 => ?_) (fun hc25 => ?_)
    · have h := if_t hc25 h
      refine WP_seq ?_
      refine WP_region ?_
      refine XL_q rfl (qt_assign rfl) rfl rfl ?_
      refine WL_nil_seq ?_
      refine WP_ret fun a ha => ?_
      obtain rfl := Option.some.inj h
      have H26 : Holds (([] : List Res).flatMap Res.own) w w22 [] G := (((H24.cut 0).cut 0).cut 0)
      exact ret_seq (ret1 rfl ha rfl ⟨rfl, H26⟩)
    · have h := if_f hc25 h
      refine WP_skip_seq ?_
      refine WP_seq ?_
      refine WP_seq ?_
      refine WP_still ?_
      refine XL_q rfl (qt_move rfl) rfl rfl ?_
      refine XL_q rfl (qt_move rfl) rfl rfl ?_
      obtain ⟨x27, hx28, h⟩ := bind_some h
      refine QL_call rfl rfl c24 (fun w' hb => (w_spec_MenuValid w' ([.sl 3 (.int .i64) v18 x14, .sl 3 (.int .i64) v12 x8, .sl 3 (.int .i64) v6 x2.2] ++ G) x2.1 v6 x2.2 (Has.c (Has.c (Has.hd))) x27 hx28 (H24.grow hb).ctx).mono fun e w'' hK => ⟨hK.1, hK.2.bel⟩) (by rfl) ?_
      refine XL_q rfl (qt_not rfl) rfl rfl ?_
      refine QL_nil fun a ha w29 hb30 => ?_
      have H31 : Holds (([] : List Res).flatMap Res.own) w w29 [.sl 3 (.int .i64) v18 x14, .sl 3 (.int .i64) v12 x8, .sl 3 (.int .i64) v6 x2.2] G := H24.grow hb30
      refine nrm_seq (WP.app ?_ ha)
      refine WP_cond rfl (fun hc32 => ?_) (fun hc32 => ?_)
      · have h := if_t hc32 h
        refine WP_seq ?_
        refine WP_still ?_
        refine XL_q rfl (qt_move rfl) rfl rfl ?_
        refine XL_lenH H31.ctx (t := (.int .i64)) (Has.c (Has.hd)) u27 rfl rfl rfl ?_
        refine XL_q rfl (qt_eql rfl rfl) rfl rfl ?_
        refine XL_q rfl (qt_move rfl) rfl rfl ?_
        obtain ⟨b33, hg34, h⟩ := bind_some h
        refine XL_join 2 39 (.bool b33) ?_ (fun md hmd hk => ?_)
        rotate_left
        · obtain ⟨K, rfl⟩ := Md.quiet_of hmd
          rcases btf ((List.length x8 : Int) == 0) with hc35 | hc35
          · skip
            have hg34 := if_t hc35 hg34
            obtain ⟨x36, hx37, hg34⟩ := bind_some hg34
            refine QL_call (w_take rfl hc35) rfl c20 (fun w' hb => (w_laws_alive w' ([.sl 3 (.int .i64) v18 x14, .sl 3 (.int .i64) v12 x8, .sl 3 (.int .i64) v6 x2.2] ++ G)  x36 hx37 (H31.grow hb).ctx).mono fun e w'' hK => ⟨hK.1, hK.2.bel⟩) (by rfl) ?_
            refine XL_q rfl (qt_pickT rfl hc35 rfl) rfl rfl ?_
            exact hk _ (Cov.same (vb hg34) (Cov.fresh rfl (Cov.refl)))
          · skip
            refine XL_skip (w_skip rfl hc35) rfl rfl ?_
            refine XL_q rfl (qt_pickF rfl hc35 rfl) rfl rfl ?_
            exact hk _ (Cov.same (vb (if_f hc35 hg34)) (Cov.fresh rfl (Cov.refl)))
        refine XL_q rfl (qt_assign rfl) rfl rfl ?_
        refine QL_nil fun a ha w38 hb39 => ?_
        have H40 : Holds (([] : List Res).flatMap Res.own) w w38 [.sl 3 (.int .i64) v18 x14, .sl 3 (.int .i64) v12 x8, .sl 3 (.int .i64) v6 x2.2] G := H31.grow hb39
        refine nrm_seq (WP.app ?_ ha)
        refine WP_ret fun a ha => ?_
        obtain rfl := Option.some.inj h
        have H41 : Holds (([] : List Res).flatMap Res.own) w w38 [] G := (((H40.cut 0).cut 0).cut 0)
        exact ret_seq (ret1 rfl ha rfl ⟨rfl, H41⟩)
      · have h := if_f hc32 h
        refine WP_skip_seq ?_
        refine WP_seq ?_
        refine WP_region ?_
        refine XL_q rfl (qt_assign rfl) rfl rfl ?_
        refine WL_nil_seq ?_
        refine WP_seq ?_
        refine WP_region ?_
        refine XL_q rfl (qt_assign rfl) rfl rfl ?_
        refine WL_nil_seq ?_
        refine WP_seq ?_
        refine WP_region ?_
        refine XL_q rfl (qt_assign rfl) rfl rfl ?_
        refine WL_nil_seq ?_
        refine WP_seq ?_
        refine WP_seq ?_
        refine WP_region ?_
        refine XL_q rfl (qt_assign rfl) rfl rfl ?_
        refine WL_nil_seq ?_
        refine WP_block ?_
        obtain ⟨o46, ho47, h⟩ := bind_some h
        have H50 : Holds (([] : List Res).flatMap Res.own) w w29 [.sl 3 (.int .i64) v6 x2.2, .sl 3 (.int .i64) v12 x8] G := ((H31.cut 0).pull 1)
        refine fun a48 ha49 => wp_loop_fix (I := fun s a w2 => match s with | (s42, s43, s44, s45) => (Fr a 107 [(3, .int .i64 x2.1), (4, v6), (5, v12), (6, .int .i64 s42), (7, .int .i64 s43), (8, .int .i64 s44), (9, .int .i64 s45)] ∧ Holds (([] : List Res).flatMap Res.own) w w2 [.sl 3 (.int .i64) v6 x2.2, .sl 3 (.int .i64) v12 x8] G)) (O := fun o e a w2 => match o with | .inl q0 => e = .exit 0 ∧ (Fr a 107 [(3, .int .i64 x2.1), (4, v6), (5, v12), (6, .int .i64 q0)] ∧ Holds (([] : List Res).flatMap Res.own) w w2 [.sl 3 (.int .i64) v6 x2.2, .sl 3 (.int .i64) v12 x8] G) | .inr q0 => e = .ret ∧ (Fr a 107 [(2, .bool q0)] ∧ Holds (([] : List Res).flatMap Res.own) w w2 [] G)) ho47 ?_ ?_ ?_
        · exact ⟨ha49.sub ⟨rfl, rfl, rfl, rfl, rfl, rfl, rfl, trivial⟩, H50⟩
        · clear ha49
          intro s o53 a w51 hs52 hI54
          obtain ⟨s42, s43, s44, s45⟩ := s
          obtain ⟨ha, H55⟩ := hI54
          refine WP.app ?_ ha
          clear ha
          refine WP_seq ?_
          refine WP_seq ?_
          refine WP_region ?_
          refine XL_q rfl (qt_move rfl) rfl rfl ?_
          refine XL_q rfl (qt_move rfl) rfl rfl ?_
          refine XL_lenH H55.ctx (t := (.int .i64)) (Has.c (Has.hd)) u27 rfl rfl rfl ?_
          refine XL_q rfl (qt_lss rfl rfl) rfl rfl ?_
          refine WL_nil_seq ?_
          refine WP_cond rfl (fun hc56 => ?_) (fun hc56 => ?_)
          · have hs52 := if_t hc56 hs52
            refine WP_skip_seq ?_
            refine WP_seq ?_
            refine WP_block ?_
            refine WP_seq ?_
            refine WP_seq ?_
            refine WP_region ?_
            refine XL_q rfl (qt_move rfl) rfl rfl ?_
            refine XL_q rfl (qt_move rfl) rfl rfl ?_
            refine XL_q rfl (qt_move rfl) rfl rfl ?_
            obtain ⟨x57, hx58, hs52⟩ := bind_some hs52
            refine XL_indexH H55.ctx (Has.c (Has.hd)) hx58 u27 i3 rfl rfl rfl rfl (fun b59 off60 cap61 hv62 => ?_)
            obtain ⟨F63, hat64, hdup65⟩ := H55.at (Has.c (Has.hd)) hx58 hv62
            refine XL_load_int (k := .i64) u3 rfl hat64 rfl rfl rfl ?_
            obtain ⟨x66, hx67, hs52⟩ := bind_some hs52
            refine XL_q rfl (qt_shrO rfl rfl hx67) rfl rfl ?_
            refine XL_q rfl (qt_rem rfl rfl (by decide)) rfl rfl ?_
            refine XL_q rfl (qt_eql rfl rfl) rfl rfl ?_
            refine WL_nil_seq ?_
            refine WP_cond rfl (fun hc68 => ?_) (fun hc68 => ?_)
            · have hs52 := if_t hc68 hs52
              refine WP_seq ?_
              refine WP_region ?_
              refine XL_q rfl (qt_assign rfl) rfl rfl ?_
              refine WL_nil_seq ?_
              refine WP_ret fun a ha => ?_
              obtain rfl := Option.some.inj hs52
              have H69 : Holds (([] : List Res).flatMap Res.own) w w51 [] G := ((H55.cut 0).cut 0)
              exact ret_seq (ret_block (ret_seq (⟨ret_ne, rfl, ha.sub ⟨rfl, trivial⟩, H69⟩)))
            · have hs52 := if_f hc68 hs52
              refine WP_skip_seq ?_
              refine WP_seq ?_
              refine WP_region ?_
              refine XL_q rfl (qt_move rfl) rfl rfl ?_
              refine XL_q rfl (qt_move rfl) rfl rfl ?_
              refine XL_q rfl (qt_move rfl) rfl rfl ?_
              obtain ⟨x70, hx71, hs52⟩ := bind_some hs52
              refine XL_indexH H55.ctx (Has.c (Has.hd)) hx71 u27 i3 rfl rfl rfl rfl (fun b72 off73 cap74 hv75 => ?_)
              obtain ⟨F76, hat77, hdup78⟩ := H55.at (Has.c (Has.hd)) hx71 hv75
              refine XL_load_int (k := .i64) u3 rfl hat77 rfl rfl rfl ?_
              obtain ⟨x79, hx80, hs52⟩ := bind_some hs52
              refine XL_q rfl (qt_shlO rfl rfl hx80) rfl rfl ?_
              refine XL_q rfl (qt_add rfl rfl) rfl rfl ?_
              refine XL_q rfl (qt_assign rfl) rfl rfl ?_
              refine WL_nil_seq ?_
              refine WP_seq ?_
              refine WP_still ?_
              refine XL_q rfl (qt_move rfl) rfl rfl ?_
              refine XL_q rfl (qt_move rfl) rfl rfl ?_
              refine XL_q rfl (qt_move rfl) rfl rfl ?_
              obtain ⟨x81, hx82, hs52⟩ := bind_some hs52
              refine QL_call rfl rfl c29 (fun w' hb => (w_impl_FedBy w' ([.sl 3 (.int .i64) v6 x2.2, .sl 3 (.int .i64) v12 x8] ++ G) x2.1 v6 x2.2 (Has.hd) (IntKind.wrap .i64 (s42 + x79)) x81 hx82 (H55.grow hb).ctx).mono fun e w'' hK => ⟨hK.1, hK.2.bel⟩) (by rfl) ?_
              refine XL_q rfl (qt_assign rfl) rfl rfl ?_
              refine QL_nil fun a ha w83 hb84 => ?_
              have H85 : Holds (([] : List Res).flatMap Res.own) w w83 [.sl 3 (.int .i64) v6 x2.2, .sl 3 (.int .i64) v12 x8] G := H55.grow hb84
              refine nrm_seq (WP.app ?_ ha)
              refine WP_seq ?_
              refine WP_still ?_
              refine XL_q rfl (qt_move rfl) rfl rfl ?_
              obtain ⟨x86, hx87, hs52⟩ := bind_some hs52
              refine QL_call rfl rfl c21 (fun w' hb => (w_laws_bitsOf w' ([.sl 3 (.int .i64) v6 x2.2, .sl 3 (.int .i64) v12 x8] ++ G) x81 x86 hx87 (H85.grow hb).ctx).mono fun e w'' hK => ⟨hK.1, hK.2.bel⟩) (by rfl) ?_
              refine XL_q rfl (qt_move rfl) rfl rfl ?_
              refine XL_q rfl (qt_sub rfl rfl) rfl rfl ?_
              refine XL_q rfl (qt_assign rfl) rfl rfl ?_
              refine QL_nil fun a ha w88 hb89 => ?_
              have H90 : Holds (([] : List Res).flatMap Res.own) w w88 [.sl 3 (.int .i64) v6 x2.2, .sl 3 (.int .i64) v12 x8] G := H85.grow hb89
              refine nrm_seq (WP.app ?_ ha)
              refine WP_seq ?_
              refine WP_seq ?_
              refine WP_region ?_
              refine XL_q rfl (qt_move rfl) rfl rfl ?_
              refine XL_q rfl (qt_lss rfl rfl) rfl rfl ?_
              refine XL_q rfl (qt_move rfl) rfl rfl ?_
              refine XL_join 4 75 (.bool ((decide ((IntKind.wrap .i64 (x86 - s43)) < 1)) || (decide ((IntKind.wrap .i64 (x86 - s43)) > s44)))) ?_ (fun md hmd hk => ?_)
              rotate_left
              · obtain ⟨Q, rfl⟩ := Md.seq_of hmd
                rcases btf (decide ((IntKind.wrap .i64 (x86 - s43)) < 1)) with hc91 | hc91
                · skip
                  refine XL_skip (w_skip rfl hc91) rfl rfl ?_
                  refine XL_skip (w_skip rfl hc91) rfl rfl ?_
                  refine XL_skip (w_skip rfl hc91) rfl rfl ?_
                  refine XL_q rfl (qt_pickT rfl hc91 rfl) rfl rfl ?_
                  exact hk _ (Cov.same (by rw [hc91]; rfl) (Cov.fresh rfl (Cov.fresh rfl (Cov.fresh rfl (Cov.refl)))))
                · skip
                  refine XL_q (w_take rfl hc91) (qt_move rfl) rfl rfl ?_
                  refine XL_q (w_take rfl hc91) (qt_move rfl) rfl rfl ?_
                  refine XL_q (w_take rfl hc91) (qt_gtr rfl rfl) rfl rfl ?_
                  refine XL_q rfl (qt_pickF rfl hc91 rfl) rfl rfl ?_
                  exact hk _ (Cov.same (by rw [hc91]; rfl) (Cov.fresh rfl (Cov.fresh rfl (Cov.fresh rfl (Cov.refl)))))
              refine WL_nil_seq ?_
              refine WP_cond rfl (fun hc92 => ?_) (fun hc92 => ?_)
              · have hs52 := if_t hc92 hs52
                refine WP_seq ?_
                refine WP_region ?_
                refine XL_q rfl (qt_assign rfl) rfl rfl ?_
                refine WL_nil_seq ?_
                refine WP_ret fun a ha => ?_
                obtain rfl := Option.some.inj hs52
                have H93 : Holds (([] : List Res).flatMap Res.own) w w88 [] G := ((H90.cut 0).cut 0)
                exact ret_seq (ret_block (ret_seq (⟨ret_ne, rfl, ha.sub ⟨rfl, trivial⟩, H93⟩)))
              · have hs52 := if_f hc92 hs52
                refine WP_skip_seq ?_
                refine WP_seq ?_
                refine WP_still ?_
                refine XL_q rfl (qt_move rfl) rfl rfl ?_
                obtain ⟨x94, hx95, hs52⟩ := bind_some hs52
                refine QL_call rfl rfl c21 (fun w' hb => (w_laws_bitsOf w' ([.sl 3 (.int .i64) v6 x2.2, .sl 3 (.int .i64) v12 x8] ++ G) x81 x94 hx95 (H90.grow hb).ctx).mono fun e w'' hK => ⟨hK.1, hK.2.bel⟩) (by rfl) ?_
                refine XL_q rfl (qt_assign rfl) rfl rfl ?_
                refine QL_nil fun a ha w96 hb97 => ?_
                have H98 : Holds (([] : List Res).flatMap Res.own) w w96 [.sl 3 (.int .i64) v6 x2.2, .sl 3 (.int .i64) v12 x8] G := H90.grow hb97
                refine nrm_seq (WP.app ?_ ha)
                refine WP_region ?_
                refine XL_q rfl (qt_move rfl) rfl rfl ?_
                refine XL_q rfl (qt_assign rfl) rfl rfl ?_
                refine WL_nil fun a ha => ?_
                refine nrm_block (nrm_seq (WP.app ?_ ha))
                refine WP_region ?_
                refine XL_q rfl (qt_move rfl) rfl rfl ?_
                refine XL_q rfl (qt_add rfl rfl) rfl rfl ?_
                refine XL_q rfl (qt_assign rfl) rfl rfl ?_
                refine WL_nil fun a ha => ?_
                obtain rfl := Option.some.inj hs52
                have H99 : Holds (([] : List Res).flatMap Res.own) w w96 [.sl 3 (.int .i64) v6 x2.2, .sl 3 (.int .i64) v12 x8] G := ((H98.pull 1).pull 1)
                exact ⟨rfl, ha.sub ⟨rfl, rfl, rfl, rfl, rfl, rfl, rfl, trivial⟩, H99⟩
          · have hs52 := if_f hc56 hs52
            refine WP_exit fun a ha => ?_
            obtain rfl := Option.some.inj hs52
            have H100 : Holds (([] : List Res).flatMap Res.own) w w51 [.sl 3 (.int .i64) v6 x2.2, .sl 3 (.int .i64) v12 x8] G := ((H55.pull 1).pull 1)
            exact exit_seq (⟨exit_ne, rfl, ha.sub ⟨rfl, rfl, rfl, rfl, trivial⟩, H100⟩)
        · intro e a48 w101 hO102
          rcases o46 with o46 | o46
          · skip
            obtain ⟨p103, rfl⟩ : ∃ z, z = o46 := ⟨o46, rfl⟩
            obtain ⟨rfl, hO105⟩ := hO102
            obtain ⟨ha, H104⟩ := hO105
            refine exit_block_eq (nrm_seq (WP.app ?_ ha))
            refine WP_seq ?_
            refine WP_still ?_
            refine XL_q rfl (qt_move rfl) rfl rfl ?_
            refine XL_q rfl (qt_move rfl) rfl rfl ?_
            obtain ⟨x106, hx107, h⟩ := bind_some h
            refine QL_call rfl rfl c38 (fun w' hb => (w_impl_DishesLeast w' ([.sl 3 (.int .i64) v6 x2.2, .sl 3 (.int .i64) v12 x8] ++ G) x2.1 v6 x2.2 (Has.hd) x106 hx107 (H104.grow hb).ctx).mono fun e w'' hK => ⟨hK.1, hK.2.bel⟩) (by rfl) ?_
            refine XL_q rfl (qt_assign rfl) rfl rfl ?_
            refine QL_nil fun a ha w108 hb109 => ?_
            have H110 : Holds (([] : List Res).flatMap Res.own) w w108 [.sl 3 (.int .i64) v6 x2.2, .sl 3 (.int .i64) v12 x8] G := H104.grow hb109
            refine nrm_seq (WP.app ?_ ha)
            refine WP_seq ?_
            refine WP_quiet (by kernel_rfl) (by kernel_rfl) ?_
            refine XL_q rfl (qt_move rfl) rfl rfl ?_
            refine XL_q rfl (qt_move rfl) rfl rfl ?_
            refine XL_q rfl (qt_move rfl) rfl rfl ?_
            obtain ⟨x111, hx112, h⟩ := bind_some h
            refine QL_call rfl rfl c29 (fun w' hb => (w_impl_FedBy w' ([.sl 3 (.int .i64) v6 x2.2, .sl 3 (.int .i64) v12 x8] ++ G) x2.1 v6 x2.2 (Has.hd) p103 x111 hx112 (H110.grow hb).ctx).mono fun e w'' hK => ⟨hK.1, hK.2.bel⟩) (by rfl) ?_
            refine XL_q rfl (qt_move rfl) rfl rfl ?_
            refine XL_q rfl (qt_move rfl) rfl rfl ?_
            refine XL_q rfl (qt_move rfl) rfl rfl ?_
            refine XL_lenH H110.ctx (t := (.int .i64)) (Has.hd) u27 rfl rfl rfl ?_
            obtain ⟨x113, hx114, h⟩ := bind_some h
            refine XL_q rfl (qt_shlO rfl rfl hx114) rfl rfl ?_
            refine XL_q rfl (qt_sub rfl rfl) rfl rfl ?_
            obtain ⟨x115, hx116, h⟩ := bind_some h
            refine QL_call rfl rfl c29 (fun w' hb => (w_impl_FedBy w' ([.sl 3 (.int .i64) v6 x2.2, .sl 3 (.int .i64) v12 x8] ++ G) x2.1 v6 x2.2 (Has.hd) (IntKind.wrap .i64 (x113 - 1)) x115 hx116 (H110.grow hb).ctx).mono fun e w'' hK => ⟨hK.1, hK.2.bel⟩) (by rfl) ?_
            refine XL_q rfl (qt_eql rfl rfl) rfl rfl ?_
            refine XL_q rfl (qt_move rfl) rfl rfl ?_
            obtain ⟨b117, hg118, h⟩ := bind_some h
            refine XL_join 12 106 (.bool b117) ?_ (fun md hmd hk => ?_)
            rotate_left
            · obtain ⟨K, rfl⟩ := Md.quiet_of hmd
              rcases btf (x111 == x115) with hc119 | hc119
              · skip
                have hg118 := if_t hc119 hg118
                refine XL_q (w_take rfl hc119) (qt_move rfl) rfl rfl ?_
                refine XL_q (w_take rfl hc119) (qt_lss rfl rfl) rfl rfl ?_
                refine XL_q (w_take rfl hc119) (qt_move rfl) rfl rfl ?_
                obtain ⟨b120, hg121, hg118⟩ := bind_some hg118
                refine XL_join 8 105 (.bool b120) ?_ (fun md hmd hk => ?_)
                rotate_left
                · obtain ⟨K, rfl⟩ := Md.quiet_of hmd
                  rcases btf (decide (x106 < 0)) with hc122 | hc122
                  · skip
                    refine XL_skip (w_skip rfl hc122) rfl rfl ?_
                    refine XL_skip (w_skip rfl hc122) rfl rfl ?_
                    refine XL_skip (w_skip rfl hc122) rfl rfl ?_
                    refine XL_skip (w_skip rfl hc122) rfl rfl ?_
                    refine XL_skip (w_skip rfl hc122) rfl rfl ?_
                    refine XL_skip (w_skip rfl hc122) rfl rfl ?_
                    refine XL_skip (w_skip rfl hc122) rfl rfl ?_
                    refine XL_q (w_take rfl hc119) (qt_pickT rfl hc122 rfl) rfl rfl ?_
                    exact hk _ (Cov.same (vb (if_t hc122 hg121)) (Cov.fresh rfl (Cov.fresh rfl (Cov.fresh rfl (Cov.fresh rfl (Cov.fresh rfl (Cov.fresh rfl (Cov.fresh rfl (Cov.refl)))))))))
                  · skip
                    have hg121 := if_f hc122 hg121
                    refine XL_q (w_take rfl hc122) (qt_move rfl) rfl rfl ?_
                    refine XL_lenH H110.ctx (t := (.int .i64)) (Has.c (Has.hd)) u27 (w_take rfl hc122) rfl rfl ?_
                    refine XL_q (w_take rfl hc122) (qt_mul rfl rfl) rfl rfl ?_
                    refine XL_q (w_take rfl hc122) (qt_move rfl) rfl rfl ?_
                    obtain ⟨x123, hx124, hg121⟩ := bind_some hg121
                    refine QL_call (w_take rfl hc122) rfl c21 (fun w' hb => (w_laws_bitsOf w' ([.sl 3 (.int .i64) v6 x2.2, .sl 3 (.int .i64) v12 x8] ++ G) x106 x123 hx124 (H110.grow hb).ctx).mono fun e w'' hK => ⟨hK.1, hK.2.bel⟩) (by rfl) ?_
                    refine XL_q (w_take rfl hc122) (qt_mul rfl rfl) rfl rfl ?_
                    refine XL_q (w_take rfl hc122) (qt_leq rfl rfl) rfl rfl ?_
                    refine XL_q (w_take rfl hc119) (qt_pickF rfl hc122 rfl) rfl rfl ?_
                    exact hk _ (Cov.same (vb hg121) (Cov.fresh rfl (Cov.fresh rfl (Cov.fresh rfl (Cov.fresh rfl (Cov.fresh rfl (Cov.fresh rfl (Cov.fresh rfl (Cov.refl)))))))))
                refine XL_q rfl (qt_pickT rfl hc119 rfl) rfl rfl ?_
                exact hk _ (Cov.same (vb hg118) (Cov.fresh rfl (Cov.fresh rfl (Cov.fresh rfl (Cov.fresh rfl (Cov.refl))))))
              · skip
                refine XL_skip (w_skip rfl hc119) rfl rfl ?_
                refine XL_skip (w_skip rfl hc119) rfl rfl ?_
                refine XL_skip (w_skip rfl hc119) rfl rfl ?_
                refine XL_skip rfl rfl rfl ?_
                refine XL_skip rfl rfl rfl ?_
                refine XL_skip rfl rfl rfl ?_
                refine XL_skip rfl rfl rfl ?_
                refine XL_skip rfl rfl rfl ?_
                refine XL_skip rfl rfl rfl ?_
                refine XL_skip rfl rfl rfl ?_
                refine XL_skip (w_skip rfl hc119) rfl rfl ?_
                refine XL_q rfl (qt_pickF rfl hc119 rfl) rfl rfl ?_
                exact hk _ (Cov.same (vb (if_f hc119 hg118)) (Cov.fresh rfl (Cov.fresh rfl (Cov.fresh rfl (Cov.fresh rfl (Cov.fresh rfl (Cov.fresh rfl (Cov.fresh rfl (Cov.fresh rfl (Cov.fresh rfl (Cov.fresh rfl (Cov.fresh rfl (Cov.refl)))))))))))))
            refine XL_q rfl (qt_assign rfl) rfl rfl ?_
            refine QL_nil fun a ha w125 hb126 => ?_
            have H127 : Holds (([] : List Res).flatMap Res.own) w w125 [.sl 3 (.int .i64) v6 x2.2, .sl 3 (.int .i64) v12 x8] G := H110.grow hb126
            refine nrm_seq (WP.app ?_ ha)
            refine WP_ret fun a ha => ?_
            obtain rfl := Option.some.inj h
            have H128 : Holds (([] : List Res).flatMap Res.own) w w125 [] G := ((H127.cut 0).cut 0)
            exact ret1 rfl ha rfl ⟨rfl, H128⟩
          · skip
            obtain ⟨p129, rfl⟩ : ∃ z, z = o46 := ⟨o46, rfl⟩
            obtain ⟨rfl, hO131⟩ := hO102
            obtain ⟨ha, H130⟩ := hO131
            obtain rfl := Option.some.inj h
            exact ret_block (ret_seq (ret1 rfl ha rfl ⟨rfl, H130⟩))
theorem w_spec_DrawApartMost (w : World) (G : List Res) (vp0 : Value) (p0 : List Int) (hp0 : HasRo G (.int .u8) vp0 p0) (r : Int × (List Int)) (h : spec_DrawApartMostS p0 = some r) (H : Ctx w G) : Calls Tryd.prog 51 #[vp0] w fun e w' => ∃ (v1 : Value), e = .returned (.tuple #[.int .i64 r.1, v1]) ∧ Holds (([] : List Res).flatMap Res.own) w w' [.sl 3 (.int .i64) v1 r.2] G := by
  have H : Holds (([] : List Res).flatMap Res.own) w w [] G := Holds.startN H
  refine calls_enter (args := [vp0]) (n := 9) Tryd.func51 rfl rfl rfl ?_
  unfold spec_DrawApartMostS at h
  refine WP_seq ?_
  refine WP_region ?_
  refine XL_q rfl (qt_assign rfl) rfl rfl ?_
  refine XL_q rfl (qt_assign rfl) rfl rfl ?_
  refine WL_nil_seq ?_
  refine WP_seq ?_
  refine WP_region ?_
  refine XL_q rfl (qt_move rfl) rfl rfl ?_
  obtain ⟨x1, hx2, h⟩ := bind_some h
  refine WL_call rfl rfl c62 (w_spec_l20Open w G vp0 p0 (hp0) x1 hx2 H.ctx) (by rfl) ?_
  rintro _ w3 ⟨v5, b6, rfl, H4⟩; refine ⟨_, rfl, ?_⟩
  have H7 : Holds (([] : List Res).flatMap Res.own) w w3 [.ro (.int .u8) v5 x1.1, .bx b6 66 [v5, .int .i64 x1.2]] G := H.calledN (Rs := []) H4
  have H10 : Holds (([] : List Res).flatMap Res.own) w w3 [.bx b6 66 [v5, .int .i64 x1.2], .ro (.int .u8) v5 x1.1] G := H7.pull 1
  obtain ⟨x8, hx9, h⟩ := bind_some h
  refine WL_call rfl rfl c67 (w_spec_l20Menu w3 ([.ro (.int .u8) v5 x1.1] ++ G) b6 v5 x1.1 (HasRo.has (HasRo.hd)) x1.2 9 x8 hx9 H10.ctx) (by rfl) ?_
  rintro _ w11 ⟨v13, rfl, H12⟩; refine ⟨_, rfl, ?_⟩
  have H14 : Holds (([] : List Res).flatMap Res.own) w w11 [.sl 3 (.int .i64) v13 x8.2.2, .bx b6 66 [v5, .int .i64 x8.1], .ro (.int .u8) v5 x1.1] G := H10.calledN (Rs := [_]) H12
  refine XL_q rfl (qt_extract rfl rfl) rfl rfl ?_
  refine XL_q rfl (qt_extract rfl rfl) rfl rfl ?_
  refine XL_q rfl (qt_assign rfl) rfl rfl ?_
  refine XL_q rfl (qt_assign rfl) rfl rfl ?_
  refine WL_nil_seq ?_
  refine WP_ret fun a ha => ?_
  obtain rfl := Option.some.inj h
  have H15 : Holds (([] : List Res).flatMap Res.own) w w11 [.sl 3 (.int .i64) v13 x8.2.2] G := ((H14.cut 1).cut 1)
  exact ret2 rfl ha rfl rfl ⟨v13, rfl, H15⟩
theorem w_spec_ApartMost (w : World) (G : List Res) (p0 : Int) (vp1 : Value) (p1 : List Int) (hp1 : Has G (.int .i64) vp1 p1) (r : Int) (h : spec_ApartMostS p0 p1 = some r) (H : Ctx w G) : Calls Tryd.prog 52 #[.int .i64 p0, vp1] w fun e w' => e = .returned (.int .i64 r) ∧ Holds (([] : List Res).flatMap Res.own) w w' [] G := by
  have H : Holds (([] : List Res).flatMap Res.own) w w [] G := Holds.startN H
  refine calls_enter (args := [.int .i64 p0, vp1]) (n := 43) Tryd.func52 rfl rfl rfl ?_
  unfold spec_ApartMostS at h
  refine WP_seq ?_
  refine WP_region ?_
  refine XL_q rfl (qt_assign rfl) rfl rfl ?_
  refine WL_nil_seq ?_
  refine WP_seq ?_
  refine WP_seq ?_
  refine WP_still ?_
  refine XL_q rfl (qt_move rfl) rfl rfl ?_
  refine XL_q rfl (qt_move rfl) rfl rfl ?_
  obtain ⟨x1, hx2, h⟩ := bind_some h
  refine QL_call rfl rfl c24 (fun w' hb => (w_spec_MenuValid w' G p0 vp1 p1 (hp1) x1 hx2 (H.grow hb).ctx).mono fun e w'' hK => ⟨hK.1, hK.2.bel⟩) (by rfl) ?_
  refine XL_q rfl (qt_not rfl) rfl rfl ?_
  refine QL_nil fun a ha w3 hb4 => ?_
  have H5 : Holds (([] : List Res).flatMap Res.own) w w3 [] G := H.grow hb4
  refine nrm_seq (WP.app ?_ ha)
  refine WP_cond rfl (fun hc6 => ?_) (fun hc6 => ?_)
  · have h := if_t hc6 h
    refine WP_seq ?_
    refine WP_region ?_
    refine XL_q rfl (qt_assign rfl) rfl rfl ?_
    refine WL_nil_seq ?_
    refine WP_ret fun a ha => ?_
    obtain rfl := Option.some.inj h
    exact ret_seq (ret1 rfl ha rfl ⟨rfl, H5⟩)
  · have h := if_f hc6 h
    refine WP_skip_seq ?_
    refine WP_seq ?_
    refine WP_region ?_
    refine XL_q rfl (qt_assign rfl) rfl rfl ?_
    refine WL_nil_seq ?_
    refine WP_seq ?_
    refine WP_seq ?_
    refine WP_region ?_
    refine XL_q rfl (qt_assign rfl) rfl rfl ?_
    refine WL_nil_seq ?_
    refine WP_block ?_
    obtain ⟨o9, ho10, h⟩ := bind_some h
    refine fun a11 ha12 => wp_loop_fix (I := fun s a w2 => match s with | (s7, s8) => (Fr a 43 [(0, .int .i64 p0), (1, vp1), (5, .int .i64 s7), (6, .int .i64 s8)] ∧ Holds (([] : List Res).flatMap Res.own) w w2 [] G)) (O := fun o e a w2 => match o with | q0 => e = .exit 0 ∧ (Fr a 43 [(5, .int .i64 q0)] ∧ Holds (([] : List Res).flatMap Res.own) w w2 [] G)) ho10 ?_ ?_ ?_
    · exact ⟨ha12.sub ⟨rfl, rfl, rfl, rfl, trivial⟩, H5⟩
    · clear ha12
      intro s o15 a w13 hs14 hI16
      obtain ⟨s7, s8⟩ := s
      obtain ⟨ha, H17⟩ := hI16
      refine WP.app ?_ ha
      clear ha
      refine WP_seq ?_
      refine WP_seq ?_
      refine WP_region ?_
      refine XL_q rfl (qt_move rfl) rfl rfl ?_
      refine XL_q rfl (qt_move rfl) rfl rfl ?_
      obtain ⟨x18, hx19, hs14⟩ := bind_some hs14
      refine XL_q rfl (qt_shlO rfl rfl hx19) rfl rfl ?_
      refine XL_q rfl (qt_lss rfl rfl) rfl rfl ?_
      refine WL_nil_seq ?_
      refine WP_cond rfl (fun hc20 => ?_) (fun hc20 => ?_)
      · have hs14 := if_t hc20 hs14
        refine WP_skip_seq ?_
        refine WP_seq ?_
        refine WP_block ?_
        refine WP_seq ?_
        refine WP_region ?_
        refine WL_buildH (t := (.int .i64)) (args := []) (xs := ([] : List Int)) H17 (BltL.nil) u27 j3 rfl rfl rfl rfl rfl rfl (fun v21 w22 H23 => ?_)
        have H24 : Holds (([] : List Res).flatMap Res.own) w w22 [.sl 3 (.int .i64) v21 ([])] G := H23
        refine XL_q rfl (qt_assign rfl) rfl rfl ?_
        refine WL_nil_seq ?_
        refine WP_seq ?_
        refine WP_seq ?_
        refine WP_region ?_
        refine XL_q rfl (qt_assign rfl) rfl rfl ?_
        refine WL_nil_seq ?_
        refine WP_block ?_
        obtain ⟨o27, ho28, hs14⟩ := bind_some hs14
        refine fun a29 ha30 => wp_loop_fix (I := fun s a w2 => match s with | (s25, s26) => ∃ vs25, Fr a 43 [(0, .int .i64 p0), (1, vp1), (5, .int .i64 s7), (6, .int .i64 s8), (7, vs25), (8, .int .i64 s26)] ∧ Holds (([] : List Res).flatMap Res.own) w w2 [.sl 3 (.int .i64) vs25 s25] G) (O := fun o e a w2 => match o with | q0 => e = .exit 2 ∧ ∃ vq0, Fr a 43 [(0, .int .i64 p0), (1, vp1), (5, .int .i64 s7), (6, .int .i64 s8), (7, vq0)] ∧ Holds (([] : List Res).flatMap Res.own) w w2 [.sl 3 (.int .i64) vq0 q0] G) ho28 ?_ ?_ ?_
        · exact ⟨v21, ha30.sub ⟨rfl, rfl, rfl, rfl, rfl, rfl, trivial⟩, H24⟩
        · clear ha30
          intro s o33 a w31 hs32 hI34
          obtain ⟨s25, s26⟩ := s
          obtain ⟨vs25, ha, H35⟩ := hI34
          refine WP.app ?_ ha
          clear ha
          refine WP_seq ?_
          refine WP_seq ?_
          refine WP_region ?_
          refine XL_q rfl (qt_move rfl) rfl rfl ?_
          refine XL_q rfl (qt_move rfl) rfl rfl ?_
          refine XL_q rfl (qt_lss rfl rfl) rfl rfl ?_
          refine WL_nil_seq ?_
          refine WP_cond rfl (fun hc36 => ?_) (fun hc36 => ?_)
          · have hs32 := if_t hc36 hs32
            refine WP_skip_seq ?_
            refine WP_seq ?_
            refine WP_block ?_
            refine WP_seq ?_
            refine WP_region ?_
            refine XL_q rfl (qt_move rfl) rfl rfl ?_
            refine XL_q rfl (qt_move rfl) rfl rfl ?_
            obtain ⟨x37, hx38, hs32⟩ := bind_some hs32
            refine XL_q rfl (qt_shrO rfl rfl hx38) rfl rfl ?_
            refine XL_q rfl (qt_rem rfl rfl (by decide)) rfl rfl ?_
            refine XL_q rfl (qt_eql rfl rfl) rfl rfl ?_
            refine WL_nil_seq ?_
            refine WP_cond rfl (fun hc39 => ?_) (fun hc39 => ?_)
            · have hs32 := if_t hc39 hs32
              refine WP_region ?_
              refine XL_q rfl (qt_move rfl) rfl rfl ?_
              refine XL_q rfl (qt_move rfl) rfl rfl ?_
              refine WL_buildH (t := (.int .i64)) (args := [.tmp 31]) (xs := ([s26] : List Int)) H35 (BltL.cons (Blt.int) rfl (BltL.nil)) u27 j3 rfl rfl rfl rfl rfl rfl (fun v40 w41 H42 => ?_)
              have H43 : Holds (([] : List Res).flatMap Res.own) w w41 [.sl 3 (.int .i64) v40 ([s26]), .sl 3 (.int .i64) vs25 s25] G := H42
              have H44 : Holds (([] : List Res).flatMap Res.own) w w41 [.sl 3 (.int .i64) vs25 s25, .sl 3 (.int .i64) v40 ([s26])] G := H43.pull 1
              obtain ⟨x45, hx46, hs32⟩ := bind_some hs32
              refine WL_appendH H44 (Has.c (Has.hd)) hx46 u27 j3 rfl rfl rfl rfl rfl rfl (fun v47 w48 H49 => ?_)
              have H50 : Holds (([] : List Res).flatMap Res.own) w w48 [.sl 3 (.int .i64) v47 x45, .sl 3 (.int .i64) v40 ([s26])] G := H49
              refine XL_q rfl (qt_assign rfl) rfl rfl ?_
              refine WL_nil fun a ha => ?_
              refine nrm_block (nrm_seq (WP.app ?_ ha))
              refine WP_region ?_
              refine XL_q rfl (qt_move rfl) rfl rfl ?_
              refine XL_q rfl (qt_add rfl rfl) rfl rfl ?_
              refine XL_q rfl (qt_assign rfl) rfl rfl ?_
              refine WL_nil fun a ha => ?_
              obtain rfl := Option.some.inj hs32
              have H51 : Holds (([] : List Res).flatMap Res.own) w w48 [.sl 3 (.int .i64) v47 x45] G := (H50.cut 1)
              exact ⟨rfl, v47, ha.sub ⟨rfl, rfl, rfl, rfl, rfl, rfl, trivial⟩, H51⟩
            · have hs32 := if_f hc39 hs32
              refine WP_skip fun a ha => ?_
              refine nrm_block (nrm_seq (WP.app ?_ ha))
              refine WP_region ?_
              refine XL_q rfl (qt_move rfl) rfl rfl ?_
              refine XL_q rfl (qt_add rfl rfl) rfl rfl ?_
              refine XL_q rfl (qt_assign rfl) rfl rfl ?_
              refine WL_nil fun a ha => ?_
              obtain rfl := Option.some.inj hs32
              exact ⟨rfl, vs25, ha.sub ⟨rfl, rfl, rfl, rfl, rfl, rfl, trivial⟩, H35⟩
          · have hs32 := if_f hc36 hs32
            refine WP_exit fun a ha => ?_
            obtain rfl := Option.some.inj hs32
            exact exit_seq (⟨exit_ne, rfl, vs25, ha.sub ⟨rfl, rfl, rfl, rfl, rfl, trivial⟩, H35⟩)
        · intro e a29 w52 hO53
          obtain ⟨p54, rfl⟩ : ∃ z, z = o27 := ⟨o27, rfl⟩
          obtain ⟨rfl, hO56⟩ := hO53
          obtain ⟨vp54, ha, H55⟩ := hO56
          refine exit_block_eq (nrm_seq (WP.app ?_ ha))
          refine WP_seq ?_
          refine WP_still ?_
          refine XL_q rfl (qt_move rfl) rfl rfl ?_
          refine XL_q rfl (qt_move rfl) rfl rfl ?_
          refine XL_q rfl (qt_move rfl) rfl rfl ?_
          obtain ⟨x57, hx58, hs14⟩ := bind_some hs14
          refine QL_call rfl rfl c43 (fun w' hb => (w_spec_ApartValid w' ([.sl 3 (.int .i64) vp54 p54] ++ G) p0 vp1 p1 (hp1.c) vp54 p54 (Has.hd) x57 hx58 (H55.grow hb).ctx).mono fun e w'' hK => ⟨hK.1, hK.2.bel⟩) (by rfl) ?_
          refine QL_nil fun a ha w59 hb60 => ?_
          have H61 : Holds (([] : List Res).flatMap Res.own) w w59 [.sl 3 (.int .i64) vp54 p54] G := H55.grow hb60
          refine nrm_seq (WP.app ?_ ha)
          refine WP_cond rfl (fun hc62 => ?_) (fun hc62 => ?_)
          · have hs14 := if_t hc62 hs14
            refine WP_region ?_
            refine XL_q rfl (qt_move rfl) rfl rfl ?_
            refine XL_q rfl (qt_move rfl) rfl rfl ?_
            refine XL_lenH H61.ctx (t := (.int .i64)) (Has.hd) u27 rfl rfl rfl ?_
            refine XL_q rfl (qt_max rfl rfl) rfl rfl ?_
            refine XL_q rfl (qt_assign rfl) rfl rfl ?_
            refine WL_nil fun a ha => ?_
            refine nrm_block (nrm_seq (WP.app ?_ ha))
            refine WP_region ?_
            refine XL_q rfl (qt_move rfl) rfl rfl ?_
            refine XL_q rfl (qt_add rfl rfl) rfl rfl ?_
            refine XL_q rfl (qt_assign rfl) rfl rfl ?_
            refine WL_nil fun a ha => ?_
            obtain rfl := Option.some.inj hs14
            have H63 : Holds (([] : List Res).flatMap Res.own) w w59 [] G := (H61.cut 0)
            exact ⟨rfl, ha.sub ⟨rfl, rfl, rfl, rfl, trivial⟩, H63⟩
          · have hs14 := if_f hc62 hs14
            refine WP_skip fun a ha => ?_
            refine nrm_block (nrm_seq (WP.app ?_ ha))
            refine WP_region ?_
            refine XL_q rfl (qt_move rfl) rfl rfl ?_
            refine XL_q rfl (qt_add rfl rfl) rfl rfl ?_
            refine XL_q rfl (qt_assign rfl) rfl rfl ?_
            refine WL_nil fun a ha => ?_
            obtain rfl := Option.some.inj hs14
            have H64 : Holds (([] : List Res).flatMap Res.own) w w59 [] G := (H61.cut 0)
            exact ⟨rfl, ha.sub ⟨rfl, rfl, rfl, rfl, trivial⟩, H64⟩
      · have hs14 := if_f hc20 hs14
        refine WP_exit fun a ha => ?_
        obtain rfl := Option.some.inj hs14
        exact exit_seq (⟨exit_ne, rfl, ha.sub ⟨rfl, trivial⟩, H17⟩)
    · intro e a11 w65 hO66
      obtain ⟨p67, rfl⟩ : ∃ z, z = o9 := ⟨o9, rfl⟩
      obtain ⟨rfl, hO69⟩ := hO66
      obtain ⟨ha, H68⟩ := hO69
      refine exit_block_eq (nrm_seq (WP.app ?_ ha))
      refine WP_seq ?_
      refine WP_region ?_
      refine XL_q rfl (qt_move rfl) rfl rfl ?_
      refine XL_q rfl (qt_assign rfl) rfl rfl ?_
      refine WL_nil_seq ?_
      refine WP_ret fun a ha => ?_
      obtain rfl := Option.some.inj h
      exact ret1 rfl ha rfl ⟨rfl, H68⟩
theorem w_laws_FnApartMost (w : World) (G : List Res) (vp0 : Value) (p0 : List Int) (hp0 : HasRo G (.int .u8) vp0 p0) (r : Bool) (h : laws_FnApartMostS p0 = some r) (H : Ctx w G) : Calls Tryd.prog 13 #[vp0] w fun e w' => e = .returned (.bool r) ∧ Holds (([] : List Res).flatMap Res.own) w w' [] G := by
  have H : Holds (([] : List Res).flatMap Res.own) w w [] G := Holds.startN H
  refine calls_enter (args := [vp0]) (n := 53) Tryd.func13 rfl rfl rfl ?_
  unfold laws_FnApartMostS at h
  refine WP_seq ?_
  refine WP_region ?_
  refine XL_q rfl (qt_assign rfl) rfl rfl ?_
  refine WL_nil_seq ?_
  refine WP_seq ?_
  refine WP_seq ?_
  refine WP_region ?_
  refine XL_q rfl (qt_move rfl) rfl rfl ?_
  refine XL_lenH H.ctx (t := (.int .u8)) (hp0.has) u22 rfl rfl rfl ?_
  refine XL_q rfl (qt_gtr rfl rfl) rfl rfl ?_
  refine WL_nil_seq ?_
  refine WP_cond rfl (fun hc1 => ?_) (fun hc1 => ?_)
  · have h := if_t hc1 h
    refine WP_seq ?_
    refine WP_region ?_
    refine XL_q rfl (qt_assign rfl) rfl rfl ?_
    refine WL_nil_seq ?_
    refine WP_ret fun a ha => ?_
    obtain rfl := Option.some.inj h
    exact ret_seq (ret1 rfl ha rfl ⟨rfl, H⟩)
  · have h := if_f hc1 h
    refine WP_skip_seq ?_
    refine WP_seq ?_
    refine WP_region ?_
    refine XL_q rfl (qt_move rfl) rfl rfl ?_
    obtain ⟨x2, hx3, h⟩ := bind_some h
    refine WL_call rfl rfl c51 (w_spec_DrawApartMost w G vp0 p0 (hp0) x2 hx3 H.ctx) (by rfl) ?_
    rintro _ w4 ⟨v6, rfl, H5⟩; refine ⟨_, rfl, ?_⟩
    have H7 : Holds (([] : List Res).flatMap Res.own) w w4 [.sl 3 (.int .i64) v6 x2.2] G := H.calledN (Rs := []) H5
    refine XL_q rfl (qt_move rfl) rfl rfl ?_
    refine XL_q rfl (qt_extract rfl rfl) rfl rfl ?_
    refine XL_q rfl (qt_extract rfl rfl) rfl rfl ?_
    refine XL_q rfl (qt_assign rfl) rfl rfl ?_
    refine XL_q rfl (qt_assign rfl) rfl rfl ?_
    refine WL_nil_seq ?_
    refine WP_seq ?_
    refine WP_still ?_
    refine XL_q rfl (qt_move rfl) rfl rfl ?_
    refine XL_q rfl (qt_move rfl) rfl rfl ?_
    obtain ⟨x8, hx9, h⟩ := bind_some h
    refine QL_call rfl rfl c44 (fun w' hb => (w_impl_ApartMost w' ([.sl 3 (.int .i64) v6 x2.2] ++ G) x2.1 v6 x2.2 (Has.hd) x8 hx9 (H7.grow hb).ctx).mono fun e w'' hK => ⟨hK.1, hK.2.bel⟩) (by rfl) ?_
    refine XL_q rfl (qt_assign rfl) rfl rfl ?_
    refine QL_nil fun a ha w10 hb11 => ?_
    have H12 : Holds (([] : List Res).flatMap Res.own) w w10 [.sl 3 (.int .i64) v6 x2.2] G := H7.grow hb11
    refine nrm_seq (WP.app ?_ ha)
    refine WP_seq ?_
    refine WP_seq ?_
    refine WP_still ?_
    refine XL_q rfl (qt_move rfl) rfl rfl ?_
    refine XL_q rfl (qt_move rfl) rfl rfl ?_
    refine XL_q rfl (qt_move rfl) rfl rfl ?_
    obtain ⟨x13, hx14, h⟩ := bind_some h
    refine QL_call rfl rfl c52 (fun w' hb => (w_spec_ApartMost w' ([.sl 3 (.int .i64) v6 x2.2] ++ G) x2.1 v6 x2.2 (Has.hd) x13 hx14 (H12.grow hb).ctx).mono fun e w'' hK => ⟨hK.1, hK.2.bel⟩) (by rfl) ?_
    refine XL_q rfl (qt_neq rfl rfl) rfl rfl ?_
    refine QL_nil fun a ha w15 hb16 => ?_
    have H17 : Holds (([] : List Res).flatMap Res.own) w w15 [.sl 3 (.int .i64) v6 x2.2] G := H12.grow hb16
    refine nrm_seq (WP.app ?_ ha)
    refine WP_cond rfl (fun hc18 => ?_) (fun hc18 => ?_)
    · have h := if_t hc18 h
      refine WP_seq ?_
      refine WP_region ?_
      refine XL_q rfl (qt_assign rfl) rfl rfl ?_
      refine WL_nil_seq ?_
      refine WP_ret fun a ha => ?_
      obtain rfl := Option.some.inj h
      have H19 : Holds (([] : List Res).flatMap Res.own) w w15 [] G := (H17.cut 0)
      exact ret_seq (ret1 rfl ha rfl ⟨rfl, H19⟩)
    · have h := if_f hc18 h
      refine WP_skip_seq ?_
      refine WP_seq ?_
      refine WP_seq ?_
      refine WP_region ?_
      refine XL_q rfl (qt_move rfl) rfl rfl ?_
      refine XL_q rfl (qt_lss rfl rfl) rfl rfl ?_
      refine WL_nil_seq ?_
      refine WP_cond rfl (fun hc20 => ?_) (fun hc20 => ?_)
      · have h := if_t hc20 h
        refine WP_seq ?_
        refine WP_still ?_
        refine XL_q rfl (qt_move rfl) rfl rfl ?_
        refine XL_q rfl (qt_eql rfl rfl) rfl rfl ?_
        refine XL_q rfl (qt_move rfl) rfl rfl ?_
        obtain ⟨b21, hg22, h⟩ := bind_some h
        refine XL_join 2 29 (.bool b21) ?_ (fun md hmd hk => ?_)
        rotate_left
        · obtain ⟨K, rfl⟩ := Md.quiet_of hmd
          rcases btf (x8 == (-1)) with hc23 | hc23
          · skip
            have hg22 := if_t hc23 hg22
            obtain ⟨x24, hx25, hg22⟩ := bind_some hg22
            refine QL_call (w_take rfl hc23) rfl c20 (fun w' hb => (w_laws_alive w' ([.sl 3 (.int .i64) v6 x2.2] ++ G)  x24 hx25 (H17.grow hb).ctx).mono fun e w'' hK => ⟨hK.1, hK.2.bel⟩) (by rfl) ?_
            refine XL_q rfl (qt_pickT rfl hc23 rfl) rfl rfl ?_
            exact hk _ (Cov.same (vb hg22) (Cov.fresh rfl (Cov.refl)))
          · skip
            refine XL_skip (w_skip rfl hc23) rfl rfl ?_
            refine XL_q rfl (qt_pickF rfl hc23 rfl) rfl rfl ?_
            exact hk _ (Cov.same (vb (if_f hc23 hg22)) (Cov.fresh rfl (Cov.refl)))
        refine XL_q rfl (qt_assign rfl) rfl rfl ?_
        refine QL_nil fun a ha w26 hb27 => ?_
        have H28 : Holds (([] : List Res).flatMap Res.own) w w26 [.sl 3 (.int .i64) v6 x2.2] G := H17.grow hb27
        refine nrm_seq (WP.app ?_ ha)
        refine WP_ret fun a ha => ?_
        obtain rfl := Option.some.inj h
        have H29 : Holds (([] : List Res).flatMap Res.own) w w26 [] G := (H28.cut 0)
        exact ret_seq (ret1 rfl ha rfl ⟨rfl, H29⟩)
      · have h := if_f hc20 h
        refine WP_skip_seq ?_
        refine WP_seq ?_
        refine WP_still ?_
        refine XL_q rfl (qt_move rfl) rfl rfl ?_
        refine XL_q rfl (qt_move rfl) rfl rfl ?_
        obtain ⟨x30, hx31, h⟩ := bind_some h
        refine QL_call rfl rfl c38 (fun w' hb => (w_impl_DishesLeast w' ([.sl 3 (.int .i64) v6 x2.2] ++ G) x2.1 v6 x2.2 (Has.hd) x30 hx31 (H17.grow hb).ctx).mono fun e w'' hK => ⟨hK.1, hK.2.bel⟩) (by rfl) ?_
        refine XL_q rfl (qt_assign rfl) rfl rfl ?_
        refine QL_nil fun a ha w32 hb33 => ?_
        have H34 : Holds (([] : List Res).flatMap Res.own) w w32 [.sl 3 (.int .i64) v6 x2.2] G := H17.grow hb33
        refine nrm_seq (WP.app ?_ ha)
        refine WP_seq ?_
        refine WP_still ?_
        refine XL_q rfl (qt_move rfl) rfl rfl ?_
        refine XL_q rfl (qt_move rfl) rfl rfl ?_
        refine XL_q rfl (qt_leq rfl rfl) rfl rfl ?_
        refine XL_q rfl (qt_move rfl) rfl rfl ?_
        obtain ⟨b35, hg36, h⟩ := bind_some h
        refine XL_join 9 45 (.bool b35) ?_ (fun md hmd hk => ?_)
        rotate_left
        · obtain ⟨K, rfl⟩ := Md.quiet_of hmd
          rcases btf (decide (x8 ≤ x2.1)) with hc37 | hc37
          · skip
            have hg36 := if_t hc37 hg36
            refine XL_q (w_take rfl hc37) (qt_move rfl) rfl rfl ?_
            refine XL_q (w_take rfl hc37) (qt_lss rfl rfl) rfl rfl ?_
            refine XL_q (w_take rfl hc37) (qt_move rfl) rfl rfl ?_
            obtain ⟨b38, hg39, hg36⟩ := bind_some hg36
            refine XL_join 5 44 (.bool b38) ?_ (fun md hmd hk => ?_)
            rotate_left
            · obtain ⟨K, rfl⟩ := Md.quiet_of hmd
              rcases btf (decide (x30 < 0)) with hc40 | hc40
              · skip
                refine XL_skip (w_skip rfl hc40) rfl rfl ?_
                refine XL_skip (w_skip rfl hc40) rfl rfl ?_
                refine XL_skip (w_skip rfl hc40) rfl rfl ?_
                refine XL_skip (w_skip rfl hc40) rfl rfl ?_
                refine XL_q (w_take rfl hc37) (qt_pickT rfl hc40 rfl) rfl rfl ?_
                exact hk _ (Cov.same (vb (if_t hc40 hg39)) (Cov.fresh rfl (Cov.fresh rfl (Cov.fresh rfl (Cov.fresh rfl (Cov.refl))))))
              · skip
                have hg39 := if_f hc40 hg39
                refine XL_q (w_take rfl hc40) (qt_move rfl) rfl rfl ?_
                refine XL_q (w_take rfl hc40) (qt_move rfl) rfl rfl ?_
                obtain ⟨x41, hx42, hg39⟩ := bind_some hg39
                refine QL_call (w_take rfl hc40) rfl c21 (fun w' hb => (w_laws_bitsOf w' ([.sl 3 (.int .i64) v6 x2.2] ++ G) x30 x41 hx42 (H34.grow hb).ctx).mono fun e w'' hK => ⟨hK.1, hK.2.bel⟩) (by rfl) ?_
                refine XL_q (w_take rfl hc40) (qt_leq rfl rfl) rfl rfl ?_
                refine XL_q (w_take rfl hc37) (qt_pickF rfl hc40 rfl) rfl rfl ?_
                exact hk _ (Cov.same (vb hg39) (Cov.fresh rfl (Cov.fresh rfl (Cov.fresh rfl (Cov.fresh rfl (Cov.refl))))))
            refine XL_q rfl (qt_pickT rfl hc37 rfl) rfl rfl ?_
            exact hk _ (Cov.same (vb hg36) (Cov.fresh rfl (Cov.fresh rfl (Cov.fresh rfl (Cov.fresh rfl (Cov.refl))))))
          · skip
            refine XL_skip (w_skip rfl hc37) rfl rfl ?_
            refine XL_skip (w_skip rfl hc37) rfl rfl ?_
            refine XL_skip (w_skip rfl hc37) rfl rfl ?_
            refine XL_skip rfl rfl rfl ?_
            refine XL_skip rfl rfl rfl ?_
            refine XL_skip rfl rfl rfl ?_
            refine XL_skip rfl rfl rfl ?_
            refine XL_skip (w_skip rfl hc37) rfl rfl ?_
            refine XL_q rfl (qt_pickF rfl hc37 rfl) rfl rfl ?_
            exact hk _ (Cov.same (vb (if_f hc37 hg36)) (Cov.fresh rfl (Cov.fresh rfl (Cov.fresh rfl (Cov.fresh rfl (Cov.fresh rfl (Cov.fresh rfl (Cov.fresh rfl (Cov.fresh rfl (Cov.refl))))))))))
        refine XL_q rfl (qt_move rfl) rfl rfl ?_
        refine XL_join 6 52 (.bool (b35 && ((decide (x8 > 0)) == (decide (x2.1 > 0))))) ?_ (fun md hmd hk => ?_)
        rotate_left
        · obtain ⟨K, rfl⟩ := Md.quiet_of hmd
          rcases btf b35 with hc43 | hc43
          · skip
            refine XL_q (w_take rfl hc43) (qt_move rfl) rfl rfl ?_
            refine XL_q (w_take rfl hc43) (qt_gtr rfl rfl) rfl rfl ?_
            refine XL_q (w_take rfl hc43) (qt_move rfl) rfl rfl ?_
            refine XL_q (w_take rfl hc43) (qt_gtr rfl rfl) rfl rfl ?_
            refine XL_q (w_take rfl hc43) (qt_beql u4 rfl rfl) rfl rfl ?_
            refine XL_q rfl (qt_pickT rfl hc43 rfl) rfl rfl ?_
            exact hk _ (Cov.same (by rw [hc43]; rfl) (Cov.fresh rfl (Cov.fresh rfl (Cov.fresh rfl (Cov.fresh rfl (Cov.fresh rfl (Cov.refl)))))))
          · skip
            refine XL_skip (w_skip rfl hc43) rfl rfl ?_
            refine XL_skip (w_skip rfl hc43) rfl rfl ?_
            refine XL_skip (w_skip rfl hc43) rfl rfl ?_
            refine XL_skip (w_skip rfl hc43) rfl rfl ?_
            refine XL_skip (w_skip rfl hc43) rfl rfl ?_
            refine XL_q rfl (qt_pickF rfl hc43 rfl) rfl rfl ?_
            exact hk _ (Cov.same (by rw [hc43]; rfl) (Cov.fresh rfl (Cov.fresh rfl (Cov.fresh rfl (Cov.fresh rfl (Cov.fresh rfl (Cov.refl)))))))
        refine XL_q rfl (qt_assign rfl) rfl rfl ?_
        refine QL_nil fun a ha w44 hb45 => ?_
        have H46 : Holds (([] : List Res).flatMap Res.own) w w44 [.sl 3 (.int .i64) v6 x2.2] G := H34.grow hb45
        refine nrm_seq (WP.app ?_ ha)
        refine WP_ret fun a ha => ?_
        obtain rfl := Option.some.inj h
        have H47 : Holds (([] : List Res).flatMap Res.own) w w44 [] G := (H46.cut 0)
        exact ret1 rfl ha rfl ⟨rfl, H47⟩
theorem w_spec_DrawSeatsFirst (w : World) (G : List Res) (vp0 : Value) (p0 : List Int) (hp0 : HasRo G (.int .u8) vp0 p0) (r : Int × (List Int)) (h : spec_DrawSeatsFirstS p0 = some r) (H : Ctx w G) : Calls Tryd.prog 56 #[vp0] w fun e w' => ∃ (v1 : Value), e = .returned (.tuple #[.int .i64 r.1, v1]) ∧ Holds (([] : List Res).flatMap Res.own) w w' [.sl 3 (.int .i64) v1 r.2] G := by
  have H : Holds (([] : List Res).flatMap Res.own) w w [] G := Holds.startN H
  refine calls_enter (args := [vp0]) (n := 9) Tryd.func56 rfl rfl rfl ?_
  unfold spec_DrawSeatsFirstS at h
  refine WP_seq ?_
  refine WP_region ?_
  refine XL_q rfl (qt_assign rfl) rfl rfl ?_
  refine XL_q rfl (qt_assign rfl) rfl rfl ?_
  refine WL_nil_seq ?_
  refine WP_seq ?_
  refine WP_region ?_
  refine XL_q rfl (qt_move rfl) rfl rfl ?_
  obtain ⟨x1, hx2, h⟩ := bind_some h
  refine WL_call rfl rfl c62 (w_spec_l20Open w G vp0 p0 (hp0) x1 hx2 H.ctx) (by rfl) ?_
  rintro _ w3 ⟨v5, b6, rfl, H4⟩; refine ⟨_, rfl, ?_⟩
  have H7 : Holds (([] : List Res).flatMap Res.own) w w3 [.ro (.int .u8) v5 x1.1, .bx b6 66 [v5, .int .i64 x1.2]] G := H.calledN (Rs := []) H4
  have H10 : Holds (([] : List Res).flatMap Res.own) w w3 [.bx b6 66 [v5, .int .i64 x1.2], .ro (.int .u8) v5 x1.1] G := H7.pull 1
  obtain ⟨x8, hx9, h⟩ := bind_some h
  refine WL_call rfl rfl c71 (w_spec_l20Quarrels w3 ([.ro (.int .u8) v5 x1.1] ++ G) b6 v5 x1.1 (HasRo.has (HasRo.hd)) x1.2 9 x8 hx9 H10.ctx) (by rfl) ?_
  rintro _ w11 ⟨v13, rfl, H12⟩; refine ⟨_, rfl, ?_⟩
  have H14 : Holds (([] : List Res).flatMap Res.own) w w11 [.sl 3 (.int .i64) v13 x8.2.2, .bx b6 66 [v5, .int .i64 x8.1], .ro (.int .u8) v5 x1.1] G := H10.calledN (Rs := [_]) H12
  refine XL_q rfl (qt_extract rfl rfl) rfl rfl ?_
  refine XL_q rfl (qt_extract rfl rfl) rfl rfl ?_
  refine XL_q rfl (qt_assign rfl) rfl rfl ?_
  refine XL_q rfl (qt_assign rfl) rfl rfl ?_
  refine WL_nil_seq ?_
  refine WP_ret fun a ha => ?_
  obtain rfl := Option.some.inj h
  have H15 : Holds (([] : List Res).flatMap Res.own) w w11 [.sl 3 (.int .i64) v13 x8.2.2] G := ((H14.cut 1).cut 1)
  exact ret2 rfl ha rfl rfl ⟨v13, rfl, H15⟩
theorem w_impl_SeatsFirst (w : World) (G : List Res) (p0 : Int) (vp1 : Value) (p1 : List Int) (hp1 : Has G (.int .i64) vp1 p1) (r : (List Int)) (h : impl_SeatsFirstS p0 p1 = some r) (H : Ctx w G) : Calls Tryd.prog 57 #[.int .i64 p0, vp1] w fun e w' => ∃ (v1 : Value), e = .returned (v1) ∧ Holds (([] : List Res).flatMap Res.own) w w' [.sl 3 (.int .i64) v1 r] G := by
  have H : Holds (([] : List Res).flatMap Res.own) w w [] G := Holds.startN H
  refine calls_enter (args := [.int .i64 p0, vp1]) (n := 53) Tryd.func57 rfl rfl rfl ?_
  unfold impl_SeatsFirstS at h
  refine WP_seq ?_
  refine WP_region ?_
  refine XL_q rfl (qt_assign rfl) rfl rfl ?_
  refine WL_nil_seq ?_
  refine WP_seq ?_
  refine WP_seq ?_
  refine WP_still ?_
  refine XL_q rfl (qt_move rfl) rfl rfl ?_
  refine XL_q rfl (qt_move rfl) rfl rfl ?_
  obtain ⟨x1, hx2, h⟩ := bind_some h
  refine QL_call rfl rfl c26 (fun w' hb => (w_impl_QuarrelsValid w' G p0 vp1 p1 (hp1) x1 hx2 (H.grow hb).ctx).mono fun e w'' hK => ⟨hK.1, hK.2.bel⟩) (by rfl) ?_
  refine XL_q rfl (qt_not rfl) rfl rfl ?_
  refine QL_nil fun a ha w3 hb4 => ?_
  have H5 : Holds (([] : List Res).flatMap Res.own) w w3 [] G := H.grow hb4
  refine nrm_seq (WP.app ?_ ha)
  refine WP_cond rfl (fun hc6 => ?_) (fun hc6 => ?_)
  · have h := if_t hc6 h
    refine WP_seq ?_
    refine WP_region ?_
    refine XL_q rfl (qt_assign rfl) rfl rfl ?_
    refine WL_nil_seq ?_
    refine WP_ret fun a ha => ?_
    obtain rfl := Option.some.inj h
    have H7 : Holds (([] : List Res).flatMap Res.own) w w3 [.sl 3 (.int .i64) (.slice none 0 0) ([])] G := H5.nilSl
    exact ret_seq (ret1 rfl ha rfl ⟨(.slice none 0 0), rfl, H7⟩)
  · have h := if_f hc6 h
    refine WP_skip_seq ?_
    refine WP_seq ?_
    refine WP_region ?_
    refine XL_q rfl (qt_move rfl) rfl rfl ?_
    obtain ⟨x8, hx9, h⟩ := bind_some h
    refine WL_makeH H5 hx9 u27 j3 rfl (fun _ => ⟨rfl, rfl⟩) rfl rfl rfl rfl rfl (fun v10 w11 H12 => ?_)
    have H13 : Holds (([] : List Res).flatMap Res.own) w w11 [.sl 3 (.int .i64) v10 x8] G := H12
    refine XL_q rfl (qt_assign rfl) rfl rfl ?_
    refine WL_nil_seq ?_
    refine WP_seq ?_
    refine WP_region ?_
    refine XL_q rfl (qt_move rfl) rfl rfl ?_
    obtain ⟨x14, hx15, h⟩ := bind_some h
    refine WL_makeH H13 hx15 u27 j3 rfl (fun _ => ⟨rfl, rfl⟩) rfl rfl rfl rfl rfl (fun v16 w17 H18 => ?_)
    have H19 : Holds (([] : List Res).flatMap Res.own) w w17 [.sl 3 (.int .i64) v16 x14, .sl 3 (.int .i64) v10 x8] G := H18
    refine XL_q rfl (qt_assign rfl) rfl rfl ?_
    refine WL_nil_seq ?_
    refine WP_seq ?_
    refine WP_seq ?_
    refine WP_region ?_
    refine XL_q rfl (qt_move rfl) rfl rfl ?_
    refine XL_lenH H19.ctx (t := (.int .i64)) (hp1.c.c) u27 rfl rfl rfl ?_
    refine XL_q rfl (qt_move rfl) rfl rfl ?_
    refine WL_nil_seq ?_
    refine WP_block ?_
    obtain ⟨o23, ho24, h⟩ := bind_some h
    have H27 : Holds (([] : List Res).flatMap Res.own) w w17 [.sl 3 (.int .i64) v10 x8, .sl 3 (.int .i64) v16 x14] G := (H19.pull 1)
    refine fun a25 ha26 => wp_loop_fix (I := fun s a w2 => match s with | (s20, s21, s22) => ∃ vs20 vs21, Fr a 53 [(5, vs20), (6, vs21), (17, vp1), (18, .int .i64 (List.length p1 : Int)), (19, .int .i64 s22)] ∧ Holds (([] : List Res).flatMap Res.own) w w2 [.sl 3 (.int .i64) vs20 s20, .sl 3 (.int .i64) vs21 s21] G) (O := fun o e a w2 => match o with | q0 => e = .exit 0 ∧ ∃ vq0, Fr a 53 [(5, vq0)] ∧ Holds (([] : List Res).flatMap Res.own) w w2 [.sl 3 (.int .i64) vq0 q0] G) ho24 ?_ ?_ ?_
    · exact ⟨v10, v16, ha26.sub ⟨rfl, rfl, rfl, rfl, rfl, trivial⟩, H27⟩
    · clear ha26
      intro s o30 a w28 hs29 hI31
      obtain ⟨s20, s21, s22⟩ := s
      obtain ⟨vs20, vs21, ha, H32⟩ := hI31
      refine WP.app ?_ ha
      clear ha
      refine WP_seq ?_
      refine WP_region ?_
      refine XL_q rfl (qt_lss rfl rfl) rfl rfl ?_
      refine WL_nil_seq ?_
      refine WP_seq ?_
      refine WP_cond rfl (fun hc33 => ?_) (fun hc33 => ?_)
      · have hs29 := if_t hc33 hs29
        refine WP_skip_seq ?_
        refine WP_seq ?_
        refine WP_block ?_
        refine WP_seq ?_
        refine WP_region ?_
        refine XL_q rfl (qt_move rfl) rfl rfl ?_
        obtain ⟨x34, hx35, hs29⟩ := bind_some hs29
        refine XL_indexH H32.ctx (hp1.c.c) hx35 u27 i3 rfl rfl rfl rfl (fun b36 off37 cap38 hv39 => ?_)
        obtain ⟨F40, hat41, hdup42⟩ := H32.at (hp1.c.c) hx35 hv39
        refine XL_load_int (k := .i64) u3 rfl hat41 rfl rfl rfl ?_
        refine XL_q rfl (qt_assign rfl) rfl rfl ?_
        refine XL_q rfl (qt_assign rfl) rfl rfl ?_
        refine WL_nil_seq ?_
        refine WP_seq ?_
        refine WP_block ?_
        obtain ⟨o44, ho45, hs29⟩ := bind_some hs29
        have H48 : Holds (([] : List Res).flatMap Res.own) w w28 [.sl 3 (.int .i64) vs20 s20, .sl 3 (.int .i64) vs21 s21] G := ((H32.pull 1).pull 1)
        refine fun a46 ha47 => wp_loop_fix (I := fun s a w2 => match s with | s43 => ∃ vs43, Fr a 53 [(5, vs43), (6, vs21), (7, .int .i64 s22), (8, .int .i64 x34), (17, vp1), (18, .int .i64 (List.length p1 : Int)), (19, .int .i64 s22)] ∧ Holds (([] : List Res).flatMap Res.own) w w2 [.sl 3 (.int .i64) vs43 s43, .sl 3 (.int .i64) vs21 s21] G) (O := fun o e a w2 => match o with | q0 => e = .exit 2 ∧ ∃ vq0, Fr a 53 [(5, vq0), (6, vs21), (7, .int .i64 s22), (17, vp1), (18, .int .i64 (List.length p1 : Int)), (19, .int .i64 s22)] ∧ Holds (([] : List Res).flatMap Res.own) w w2 [.sl 3 (.int .i64) vq0 q0, .sl 3 (.int .i64) vs21 s21] G) ho45 ?_ ?_ ?_
        · exact ⟨vs20, ha47.sub ⟨rfl, rfl, rfl, rfl, rfl, rfl, rfl, trivial⟩, H48⟩
        · clear ha47
          intro s o51 a w49 hs50 hI52
          obtain ⟨s43, rfl⟩ : ∃ z, z = s := ⟨s, rfl⟩
          obtain ⟨vs43, ha, H53⟩ := hI52
          refine WP.app ?_ ha
          clear ha
          refine WP_seq ?_
          refine WP_seq ?_
          refine WP_region ?_
          refine XL_q rfl (qt_move rfl) rfl rfl ?_
          refine XL_q rfl (qt_move rfl) rfl rfl ?_
          refine XL_q rfl (qt_move rfl) rfl rfl ?_
          obtain ⟨x54, hx55, hs50⟩ := bind_some hs50
          refine XL_indexH H53.ctx (Has.hd) hx55 u27 i3 rfl rfl rfl rfl (fun b56 off57 cap58 hv59 => ?_)
          obtain ⟨F60, hat61, hdup62⟩ := H53.at (Has.hd) hx55 hv59
          refine XL_load_int (k := .i64) u3 rfl hat61 rfl rfl rfl ?_
          obtain ⟨x63, hx64, hs50⟩ := bind_some hs50
          refine XL_indexH H53.ctx (Has.c (Has.hd)) hx64 u27 i3 rfl rfl rfl rfl (fun b65 off66 cap67 hv68 => ?_)
          obtain ⟨F69, hat70, hdup71⟩ := H53.at (Has.c (Has.hd)) hx64 hv68
          refine XL_load_int (k := .i64) u3 rfl hat70 rfl rfl rfl ?_
          refine XL_q rfl (qt_move rfl) rfl rfl ?_
          refine XL_q rfl (qt_and rfl rfl) rfl rfl ?_
          refine XL_q rfl (qt_neq rfl rfl) rfl rfl ?_
          refine WL_nil_seq ?_
          refine WP_cond rfl (fun hc72 => ?_) (fun hc72 => ?_)
          · have hs50 := if_t hc72 hs50
            refine WP_skip_seq ?_
            refine WP_block ?_
            refine WP_region ?_
            refine XL_q rfl (qt_move rfl) rfl rfl ?_
            refine XL_q rfl (qt_move rfl) rfl rfl ?_
            obtain ⟨x73, hx74, hs50⟩ := bind_some hs50
            refine XL_indexH H53.ctx (Has.hd) hx74 u27 i3 rfl rfl rfl rfl (fun b75 off76 cap77 hv78 => ?_)
            obtain ⟨F79, hat80, hdup81⟩ := H53.at (Has.hd) hx74 hv78
            refine XL_load_int (k := .i64) u3 rfl hat80 rfl rfl rfl ?_
            refine XL_q rfl (qt_add rfl rfl) rfl rfl ?_
            obtain ⟨x82, hx83, hs50⟩ := bind_some hs50
            refine XL_indexH H53.ctx (Has.hd) hx83 u27 i3 rfl rfl rfl rfl (fun b84 off85 cap86 hv87 => ?_)
            refine WL_storeH (fo := 0) (cs' := [.int .i64 (IntKind.wrap .i64 (x73 + 1))]) H53 hx83 hv87 (Upd.whole (Blt.int)) rfl il3 rfl rfl rfl rfl (fun w88 H89 => ?_)
            have H90 : Holds (([] : List Res).flatMap Res.own) w w88 [.sl 3 (.int .i64) vs43 (List.set s43 (Int.toNat s22) (IntKind.wrap .i64 (x73 + 1))), .sl 3 (.int .i64) vs21 s21] G := H89
            refine WL_nil fun a ha => ?_
            obtain rfl := Option.some.inj hs50
            have H91 : Holds (([] : List Res).flatMap Res.own) w w88 [.sl 3 (.int .i64) vs43 (List.set s43 (Int.toNat s22) (IntKind.wrap .i64 (x73 + 1))), .sl 3 (.int .i64) vs21 s21] G := ((H90.pull 1).pull 1)
            exact nrm_block (⟨rfl, vs43, ha.sub ⟨rfl, rfl, rfl, rfl, rfl, rfl, rfl, trivial⟩, H91⟩)
          · have hs50 := if_f hc72 hs50
            refine WP_exit fun a ha => ?_
            obtain rfl := Option.some.inj hs50
            have H92 : Holds (([] : List Res).flatMap Res.own) w w49 [.sl 3 (.int .i64) vs43 s43, .sl 3 (.int .i64) vs21 s21] G := ((H53.pull 1).pull 1)
            exact exit_seq (⟨exit_ne, rfl, vs43, ha.sub ⟨rfl, rfl, rfl, rfl, rfl, rfl, trivial⟩, H92⟩)
        · intro e a46 w93 hO94
          obtain ⟨p95, rfl⟩ : ∃ z, z = o44 := ⟨o44, rfl⟩
          obtain ⟨rfl, hO97⟩ := hO94
          obtain ⟨vp95, ha, H96⟩ := hO97
          refine exit_block_eq (nrm_seq (WP.app ?_ ha))
          refine WP_tail 9 (by kernel_rfl) (by kernel_rfl) (fun w98 hb99 => ?_)
          have H100 : Holds (([] : List Res).flatMap Res.own) w w98 [.sl 3 (.int .i64) vp95 p95, .sl 3 (.int .i64) vs21 s21] G := H96.grow hb99
          refine XL_q rfl (qt_move rfl) rfl rfl ?_
          refine XL_q rfl (qt_move rfl) rfl rfl ?_
          refine XL_q rfl (qt_move rfl) rfl rfl ?_
          obtain ⟨x101, hx102, hs29⟩ := bind_some hs29
          refine XL_indexH H100.ctx (Has.hd) hx102 u27 i3 rfl rfl rfl rfl (fun b103 off104 cap105 hv106 => ?_)
          obtain ⟨F107, hat108, hdup109⟩ := H100.at (Has.hd) hx102 hv106
          refine XL_load_int (k := .i64) u3 rfl hat108 rfl rfl rfl ?_
          obtain ⟨x110, hx111, hs29⟩ := bind_some hs29
          refine XL_indexH H100.ctx (Has.c (Has.hd)) hx111 u27 i3 rfl rfl rfl rfl (fun b112 off113 cap114 hv115 => ?_)
          obtain ⟨F116, hat117, hdup118⟩ := H100.at (Has.c (Has.hd)) hx111 hv115
          refine XL_load_int (k := .i64) u3 rfl hat117 rfl rfl rfl ?_
          refine XL_q rfl (qt_move rfl) rfl rfl ?_
          obtain ⟨x119, hx120, hs29⟩ := bind_some hs29
          refine XL_q rfl (qt_shlO rfl rfl hx120) rfl rfl ?_
          refine SL_nil ?_
          refine XL_q rfl (qt_or rfl rfl) rfl rfl ?_
          obtain ⟨x121, hx122, hs29⟩ := bind_some hs29
          refine XL_indexH H100.ctx (Has.c (Has.hd)) hx122 u27 i3 rfl rfl rfl rfl (fun b123 off124 cap125 hv126 => ?_)
          have H127 : Holds (([] : List Res).flatMap Res.own) w w98 [.sl 3 (.int .i64) vs21 s21, .sl 3 (.int .i64) vp95 p95] G := H100.pull 1
          refine WL_storeH (fo := 0) (cs' := [.int .i64 (ior .i64 x110 x119)]) H127 hx122 hv126 (Upd.whole (Blt.int)) rfl il3 rfl rfl rfl rfl (fun w128 H129 => ?_)
          have H130 : Holds (([] : List Res).flatMap Res.own) w w128 [.sl 3 (.int .i64) vs21 (List.set s21 (Int.toNat x101) (ior .i64 x110 x119)), .sl 3 (.int .i64) vp95 p95] G := H129
          refine WL_nil fun a ha => ?_
          refine nrm_block (nrm_seq (WP.app ?_ ha))
          refine WP_region ?_
          refine XL_q rfl (qt_add rfl rfl) rfl rfl ?_
          refine XL_q rfl (qt_move rfl) rfl rfl ?_
          refine WL_nil fun a ha => ?_
          obtain rfl := Option.some.inj hs29
          have H131 : Holds (([] : List Res).flatMap Res.own) w w128 [.sl 3 (.int .i64) vp95 p95, .sl 3 (.int .i64) vs21 (List.set s21 (Int.toNat x101) (ior .i64 x110 x119))] G := (H130.pull 1)
          exact ⟨rfl, vp95, vs21, ha.sub ⟨rfl, rfl, rfl, rfl, rfl, trivial⟩, H131⟩
      · have hs29 := if_f hc33 hs29
        refine WP_exit fun a ha => ?_
        obtain rfl := Option.some.inj hs29
        have H132 : Holds (([] : List Res).flatMap Res.own) w w28 [.sl 3 (.int .i64) vs20 s20] G := (H32.cut 1)
        exact exit_seq (⟨exit_ne, rfl, vs20, ha.sub ⟨rfl, trivial⟩, H132⟩)
    · intro e a25 w133 hO134
      obtain ⟨p135, rfl⟩ : ∃ z, z = o23 := ⟨o23, rfl⟩
      obtain ⟨rfl, hO137⟩ := hO134
      obtain ⟨vp135, ha, H136⟩ := hO137
      refine exit_block_eq (nrm_seq (WP.app ?_ ha))
      refine WP_seq ?_
      refine WP_region ?_
      refine XL_q rfl (qt_move rfl) rfl rfl ?_
      refine XL_q rfl (qt_assign rfl) rfl rfl ?_
      refine WL_nil_seq ?_
      refine WP_ret fun a ha => ?_
      obtain rfl := Option.some.inj h
      exact ret1 rfl ha rfl ⟨vp135, rfl, H136⟩
theorem w_spec_SeatsFirst (w : World) (G : List Res) (p0 : Int) (vp1 : Value) (p1 : List Int) (hp1 : Has G (.int .i64) vp1 p1) (r : (List Int)) (h : spec_SeatsFirstS p0 p1 = some r) (H : Ctx w G) : Calls Tryd.prog 58 #[.int .i64 p0, vp1] w fun e w' => ∃ (v1 : Value), e = .returned (v1) ∧ Holds (([] : List Res).flatMap Res.own) w w' [.sl 3 (.int .i64) v1 r] G := by
  have H : Holds (([] : List Res).flatMap Res.own) w w [] G := Holds.startN H
  refine calls_enter (args := [.int .i64 p0, vp1]) (n := 48) Tryd.func58 rfl rfl rfl ?_
  unfold spec_SeatsFirstS at h
  refine WP_seq ?_
  refine WP_region ?_
  refine XL_q rfl (qt_assign rfl) rfl rfl ?_
  refine WL_nil_seq ?_
  refine WP_seq ?_
  refine WP_region ?_
  refine WL_buildH (t := (.int .i64)) (args := []) (xs := ([] : List Int)) H (BltL.nil) u27 j3 rfl rfl rfl rfl rfl rfl (fun v1 w2 H3 => ?_)
  have H4 : Holds (([] : List Res).flatMap Res.own) w w2 [.sl 3 (.int .i64) v1 ([])] G := H3
  refine XL_q rfl (qt_assign rfl) rfl rfl ?_
  refine WL_nil_seq ?_
  refine WP_seq ?_
  refine WP_seq ?_
  refine WP_region ?_
  refine XL_q rfl (qt_assign rfl) rfl rfl ?_
  refine WL_nil_seq ?_
  refine WP_block ?_
  obtain ⟨o7, ho8, h⟩ := bind_some h
  refine fun a9 ha10 => wp_loop_fix (I := fun s a w2 => match s with | (s5, s6) => ∃ vs5, Fr a 48 [(0, .int .i64 p0), (1, vp1), (5, vs5), (6, .int .i64 s6)] ∧ Holds (([] : List Res).flatMap Res.own) w w2 [.sl 3 (.int .i64) vs5 s5] G) (O := fun o e a w2 => match o with | q0 => e = .exit 0 ∧ ∃ vq0, Fr a 48 [(5, vq0)] ∧ Holds (([] : List Res).flatMap Res.own) w w2 [.sl 3 (.int .i64) vq0 q0] G) ho8 ?_ ?_ ?_
  · exact ⟨v1, ha10.sub ⟨rfl, rfl, rfl, rfl, trivial⟩, H4⟩
  · clear ha10
    intro s o13 a w11 hs12 hI14
    obtain ⟨s5, s6⟩ := s
    obtain ⟨vs5, ha, H15⟩ := hI14
    refine WP.app ?_ ha
    clear ha
    refine WP_seq ?_
    refine WP_seq ?_
    refine WP_still ?_
    refine XL_q rfl (qt_move rfl) rfl rfl ?_
    refine XL_q rfl (qt_move rfl) rfl rfl ?_
    refine XL_q rfl (qt_lss rfl rfl) rfl rfl ?_
    refine XL_q rfl (qt_move rfl) rfl rfl ?_
    obtain ⟨b16, hg17, hs12⟩ := bind_some hs12
    refine XL_join 4 17 (.bool b16) ?_ (fun md hmd hk => ?_)
    rotate_left
    · obtain ⟨K, rfl⟩ := Md.quiet_of hmd
      rcases btf (decide (s6 < p0)) with hc18 | hc18
      · skip
        have hg17 := if_t hc18 hg17
        refine XL_q (w_take rfl hc18) (qt_move rfl) rfl rfl ?_
        refine XL_q (w_take rfl hc18) (qt_move rfl) rfl rfl ?_
        obtain ⟨x19, hx20, hg17⟩ := bind_some hg17
        refine QL_call (w_take rfl hc18) rfl c27 (fun w' hb => (w_spec_QuarrelsValid w' ([.sl 3 (.int .i64) vs5 s5] ++ G) p0 vp1 p1 (hp1.c) x19 hx20 (H15.grow hb).ctx).mono fun e w'' hK => ⟨hK.1, hK.2.bel⟩) (by rfl) ?_
        refine XL_q rfl (qt_pickT rfl hc18 rfl) rfl rfl ?_
        exact hk _ (Cov.same (vb hg17) (Cov.fresh rfl (Cov.fresh rfl (Cov.fresh rfl (Cov.refl)))))
      · skip
        refine XL_skip (w_skip rfl hc18) rfl rfl ?_
        refine XL_skip (w_skip rfl hc18) rfl rfl ?_
        refine XL_skip (w_skip rfl hc18) rfl rfl ?_
        refine XL_q rfl (qt_pickF rfl hc18 rfl) rfl rfl ?_
        exact hk _ (Cov.same (vb (if_f hc18 hg17)) (Cov.fresh rfl (Cov.fresh rfl (Cov.fresh rfl (Cov.refl)))))
    refine QL_nil fun a ha w21 hb22 => ?_
    have H23 : Holds (([] : List Res).flatMap Res.own) w w21 [.sl 3 (.int .i64) vs5 s5] G := H15.grow hb22
    refine nrm_seq (WP.app ?_ ha)
    refine WP_cond rfl (fun hc24 => ?_) (fun hc24 => ?_)
    · have hs12 := if_t hc24 hs12
      refine WP_skip_seq ?_
      refine WP_seq ?_
      refine WP_block ?_
      refine WP_seq ?_
      refine WP_region ?_
      refine XL_q rfl (qt_assign rfl) rfl rfl ?_
      refine WL_nil_seq ?_
      refine WP_seq ?_
      refine WP_seq ?_
      refine WP_region ?_
      refine XL_q rfl (qt_assign rfl) rfl rfl ?_
      refine WL_nil_seq ?_
      refine WP_block ?_
      obtain ⟨o27, ho28, hs12⟩ := bind_some hs12
      refine fun a29 ha30 => wp_loop_fix (I := fun s a w2 => match s with | (s25, s26) => (Fr a 48 [(0, .int .i64 p0), (1, vp1), (5, vs5), (6, .int .i64 s6), (7, .int .i64 s25), (8, .int .i64 s26)] ∧ Holds (([] : List Res).flatMap Res.own) w w2 [.sl 3 (.int .i64) vs5 s5] G)) (O := fun o e a w2 => match o with | q0 => e = .exit 2 ∧ (Fr a 48 [(0, .int .i64 p0), (1, vp1), (5, vs5), (6, .int .i64 s6), (7, .int .i64 q0)] ∧ Holds (([] : List Res).flatMap Res.own) w w2 [.sl 3 (.int .i64) vs5 s5] G)) ho28 ?_ ?_ ?_
      · exact ⟨ha30.sub ⟨rfl, rfl, rfl, rfl, rfl, rfl, trivial⟩, H23⟩
      · clear ha30
        intro s o33 a w31 hs32 hI34
        obtain ⟨s25, s26⟩ := s
        obtain ⟨ha, H35⟩ := hI34
        refine WP.app ?_ ha
        clear ha
        refine WP_seq ?_
        refine WP_seq ?_
        refine WP_region ?_
        refine XL_q rfl (qt_move rfl) rfl rfl ?_
        refine XL_q rfl (qt_move rfl) rfl rfl ?_
        refine XL_q rfl (qt_lss rfl rfl) rfl rfl ?_
        refine WL_nil_seq ?_
        refine WP_cond rfl (fun hc36 => ?_) (fun hc36 => ?_)
        · have hs32 := if_t hc36 hs32
          refine WP_skip_seq ?_
          refine WP_seq ?_
          refine WP_block ?_
          refine WP_seq ?_
          refine WP_region ?_
          refine XL_q rfl (qt_move rfl) rfl rfl ?_
          refine XL_q rfl (qt_move rfl) rfl rfl ?_
          obtain ⟨x37, hx38, hs32⟩ := bind_some hs32
          refine XL_indexH H35.ctx (Has.hd) hx38 u27 i3 rfl rfl rfl rfl (fun b39 off40 cap41 hv42 => ?_)
          obtain ⟨F43, hat44, hdup45⟩ := H35.at (Has.hd) hx38 hv42
          refine XL_load_int (k := .i64) u3 rfl hat44 rfl rfl rfl ?_
          refine XL_q rfl (qt_move rfl) rfl rfl ?_
          refine XL_q rfl (qt_eql rfl rfl) rfl rfl ?_
          refine XL_q rfl (qt_move rfl) rfl rfl ?_
          obtain ⟨b46, hg47, hs32⟩ := bind_some hs32
          refine XL_join 9 40 (.bool b46) ?_ (fun md hmd hk => ?_)
          rotate_left
          · obtain ⟨Q, rfl⟩ := Md.seq_of hmd
            rcases btf (x37 == s25) with hc48 | hc48
            · skip
              have hg47 := if_t hc48 hg47
              refine XL_q (w_take rfl hc48) (qt_move rfl) rfl rfl ?_
              refine XL_q (w_take rfl hc48) (qt_move rfl) rfl rfl ?_
              obtain ⟨x49, hx50, hg47⟩ := bind_some hg47
              refine XL_indexH H35.ctx (hp1.c) hx50 u27 i3 (w_take rfl hc48) rfl rfl rfl (fun b51 off52 cap53 hv54 => ?_)
              obtain ⟨F55, hat56, hdup57⟩ := H35.at (hp1.c) hx50 hv54
              refine XL_load_int (k := .i64) u3 rfl hat56 (w_take rfl hc48) rfl rfl ?_
              refine XL_q (w_take rfl hc48) (qt_move rfl) rfl rfl ?_
              obtain ⟨x58, hx59, hg47⟩ := bind_some hg47
              refine XL_q (w_take rfl hc48) (qt_shrO rfl rfl hx59) rfl rfl ?_
              refine XL_q (w_take rfl hc48) (qt_rem rfl rfl (by decide)) rfl rfl ?_
              refine XL_q (w_take rfl hc48) (qt_eql rfl rfl) rfl rfl ?_
              refine XL_q rfl (qt_pickT rfl hc48 rfl) rfl rfl ?_
              exact hk _ (Cov.same (vb hg47) (Cov.fresh rfl (Cov.fresh rfl (Cov.fresh rfl (Cov.fresh rfl (Cov.fresh rfl (Cov.fresh rfl (Cov.fresh rfl (Cov.fresh rfl (Cov.refl))))))))))
            · skip
              refine XL_skip (w_skip rfl hc48) rfl rfl ?_
              refine XL_skip (w_skip rfl hc48) rfl rfl ?_
              refine XL_skip (w_skip rfl hc48) rfl rfl ?_
              refine XL_skip (w_skip rfl hc48) rfl rfl ?_
              refine XL_skip (w_skip rfl hc48) rfl rfl ?_
              refine XL_skip (w_skip rfl hc48) rfl rfl ?_
              refine XL_skip (w_skip rfl hc48) rfl rfl ?_
              refine XL_skip (w_skip rfl hc48) rfl rfl ?_
              refine XL_q rfl (qt_pickF rfl hc48 rfl) rfl rfl ?_
              exact hk _ (Cov.same (vb (if_f hc48 hg47)) (Cov.fresh rfl (Cov.fresh rfl (Cov.fresh rfl (Cov.fresh rfl (Cov.fresh rfl (Cov.fresh rfl (Cov.fresh rfl (Cov.fresh rfl (Cov.refl))))))))))
          refine WL_nil_seq ?_
          refine WP_cond rfl (fun hc60 => ?_) (fun hc60 => ?_)
          · have hs32 := if_t hc60 hs32
            refine WP_seq ?_
            refine WP_region ?_
            refine XL_q rfl (qt_move rfl) rfl rfl ?_
            refine XL_q rfl (qt_add rfl rfl) rfl rfl ?_
            refine XL_q rfl (qt_assign rfl) rfl rfl ?_
            refine WL_nil_seq ?_
            refine WP_region ?_
            refine XL_q rfl (qt_assign rfl) rfl rfl ?_
            refine WL_nil fun a ha => ?_
            refine nrm_block (nrm_seq (WP.app ?_ ha))
            refine WP_region ?_
            refine XL_q rfl (qt_move rfl) rfl rfl ?_
            refine XL_q rfl (qt_add rfl rfl) rfl rfl ?_
            refine XL_q rfl (qt_assign rfl) rfl rfl ?_
            refine WL_nil fun a ha => ?_
            obtain rfl := Option.some.inj hs32
            exact ⟨rfl, ha.sub ⟨rfl, rfl, rfl, rfl, rfl, rfl, trivial⟩, H35⟩
          · have hs32 := if_f hc60 hs32
            refine WP_skip fun a ha => ?_
            refine nrm_block (nrm_seq (WP.app ?_ ha))
            refine WP_region ?_
            refine XL_q rfl (qt_move rfl) rfl rfl ?_
            refine XL_q rfl (qt_add rfl rfl) rfl rfl ?_
            refine XL_q rfl (qt_assign rfl) rfl rfl ?_
            refine WL_nil fun a ha => ?_
            obtain rfl := Option.some.inj hs32
            exact ⟨rfl, ha.sub ⟨rfl, rfl, rfl, rfl, rfl, rfl, trivial⟩, H35⟩
        · have hs32 := if_f hc36 hs32
          refine WP_exit fun a ha => ?_
          obtain rfl := Option.some.inj hs32
          exact exit_seq (⟨exit_ne, rfl, ha.sub ⟨rfl, rfl, rfl, rfl, rfl, trivial⟩, H35⟩)
      · intro e a29 w61 hO62
        obtain ⟨p63, rfl⟩ : ∃ z, z = o27 := ⟨o27, rfl⟩
        obtain ⟨rfl, hO65⟩ := hO62
        obtain ⟨ha, H64⟩ := hO65
        refine exit_block_eq (nrm_seq (WP.app ?_ ha))
        refine WP_region ?_
        refine XL_q rfl (qt_move rfl) rfl rfl ?_
        refine XL_q rfl (qt_move rfl) rfl rfl ?_
        refine WL_buildH (t := (.int .i64)) (args := [.tmp 44]) (xs := ([p63] : List Int)) H64 (BltL.cons (Blt.int) rfl (BltL.nil)) u27 j3 rfl rfl rfl rfl rfl rfl (fun v66 w67 H68 => ?_)
        have H69 : Holds (([] : List Res).flatMap Res.own) w w67 [.sl 3 (.int .i64) v66 ([p63]), .sl 3 (.int .i64) vs5 s5] G := H68
        have H70 : Holds (([] : List Res).flatMap Res.own) w w67 [.sl 3 (.int .i64) vs5 s5, .sl 3 (.int .i64) v66 ([p63])] G := H69.pull 1
        obtain ⟨x71, hx72, hs12⟩ := bind_some hs12
        refine WL_appendH H70 (Has.c (Has.hd)) hx72 u27 j3 rfl rfl rfl rfl rfl rfl (fun v73 w74 H75 => ?_)
        have H76 : Holds (([] : List Res).flatMap Res.own) w w74 [.sl 3 (.int .i64) v73 x71, .sl 3 (.int .i64) v66 ([p63])] G := H75
        refine XL_q rfl (qt_assign rfl) rfl rfl ?_
        refine WL_nil fun a ha => ?_
        refine nrm_block (nrm_seq (WP.app ?_ ha))
        refine WP_region ?_
        refine XL_q rfl (qt_move rfl) rfl rfl ?_
        refine XL_q rfl (qt_add rfl rfl) rfl rfl ?_
        refine XL_q rfl (qt_assign rfl) rfl rfl ?_
        refine WL_nil fun a ha => ?_
        obtain rfl := Option.some.inj hs12
        have H77 : Holds (([] : List Res).flatMap Res.own) w w74 [.sl 3 (.int .i64) v73 x71] G := (H76.cut 1)
        exact ⟨rfl, v73, ha.sub ⟨rfl, rfl, rfl, rfl, trivial⟩, H77⟩
    · have hs12 := if_f hc24 hs12
      refine WP_exit fun a ha => ?_
      obtain rfl := Option.some.inj hs12
      exact exit_seq (⟨exit_ne, rfl, vs5, ha.sub ⟨rfl, trivial⟩, H23⟩)
  · intro e a9 w78 hO79
    obtain ⟨p80, rfl⟩ : ∃ z, z = o7 := ⟨o7, rfl⟩
    obtain ⟨rfl, hO82⟩ := hO79
    obtain ⟨vp80, ha, H81⟩ := hO82
    refine exit_block_eq (nrm_seq (WP.app ?_ ha))
    refine WP_seq ?_
    refine WP_region ?_
    refine XL_q rfl (qt_move rfl) rfl rfl ?_
    refine XL_q rfl (qt_assign rfl) rfl rfl ?_
    refine WL_nil_seq ?_
    refine WP_ret fun a ha => ?_
    obtain rfl := Option.some.inj h
    exact ret1 rfl ha rfl ⟨vp80, rfl, H81⟩
theorem w_impl_SeatsOk (w : World) (G : List Res) (p0 : Int) (vp1 : Value) (p1 : List Int) (hp1 : Has G (.int .i64) vp1 p1) (vp2 : Value) (p2 : List Int) (hp2 : Has G (.int .i64) vp2 p2) (r : Bool) (h : impl_SeatsOkS p0 p1 p2 = some r) (H : Ctx w G) : Calls Tryd.prog 59 #[.int .i64 p0, vp1, vp2] w fun e w' => e = .returned (.bool r) ∧ Holds (([] : List Res).flatMap Res.own) w w' [] G := by
  have H : Holds (([] : List Res).flatMap Res.own) w w [] G := Holds.startN H
  refine calls_enter (args := [.int .i64 p0, vp1, vp2]) (n := 48) Tryd.func59 rfl rfl rfl ?_
  unfold impl_SeatsOkS at h
  refine WP_seq ?_
  refine WP_region ?_
  refine XL_q rfl (qt_assign rfl) rfl rfl ?_
  refine WL_nil_seq ?_
  refine WP_seq ?_
  refine WP_seq ?_
  refine WP_still ?_
  refine XL_q rfl (qt_move rfl) rfl rfl ?_
  refine XL_q rfl (qt_move rfl) rfl rfl ?_
  obtain ⟨x1, hx2, h⟩ := bind_some h
  refine QL_call rfl rfl c26 (fun w' hb => (w_impl_QuarrelsValid w' G p0 vp1 p1 (hp1) x1 hx2 (H.grow hb).ctx).mono fun e w'' hK => ⟨hK.1, hK.2.bel⟩) (by rfl) ?_
  refine XL_q rfl (qt_not rfl) rfl rfl ?_
  refine XL_q rfl (qt_move rfl) rfl rfl ?_
  obtain ⟨b3, hg4, h⟩ := bind_some h
  refine XL_join 7 22 (.bool b3) ?_ (fun md hmd hk => ?_)
  rotate_left
  · obtain ⟨K, rfl⟩ := Md.quiet_of hmd
    rcases btf (!x1) with hc5 | hc5
    · skip
      refine XL_skip (w_skip rfl hc5) rfl rfl ?_
      refine XL_skip (w_skip rfl hc5) rfl rfl ?_
      refine XL_skip (w_skip rfl hc5) rfl rfl ?_
      refine XL_skip (w_skip rfl hc5) rfl rfl ?_
      refine XL_skip (w_skip rfl hc5) rfl rfl ?_
      refine XL_skip (w_skip rfl hc5) rfl rfl ?_
      refine XL_q rfl (qt_pickT rfl hc5 rfl) rfl rfl ?_
      exact hk _ (Cov.same (vb (if_t hc5 hg4)) (Cov.fresh rfl (Cov.fresh rfl (Cov.fresh rfl (Cov.fresh rfl (Cov.fresh rfl (Cov.fresh rfl (Cov.refl))))))))
    · skip
      have hg4 := if_f hc5 hg4
      refine XL_q (w_take rfl hc5) (qt_move rfl) rfl rfl ?_
      refine XL_q (w_take rfl hc5) (qt_move rfl) rfl rfl ?_
      refine XL_q (w_take rfl hc5) (qt_move rfl) rfl rfl ?_
      refine XL_q (w_take rfl hc5) (qt_sub rfl rfl) rfl rfl ?_
      obtain ⟨x6, hx7, hg4⟩ := bind_some hg4
      refine QL_call (w_take rfl hc5) rfl c68 (fun w' hb => (w_impl_amountsOk w' G vp2 p2 (hp2) p0 (IntKind.wrap .i64 (p0 - 1)) x6 hx7 (H.grow hb).ctx).mono fun e w'' hK => ⟨hK.1, hK.2.bel⟩) (by rfl) ?_
      refine XL_q (w_take rfl hc5) (qt_not rfl) rfl rfl ?_
      refine XL_q rfl (qt_pickF rfl hc5 rfl) rfl rfl ?_
      exact hk _ (Cov.same (vb hg4) (Cov.fresh rfl (Cov.fresh rfl (Cov.fresh rfl (Cov.fresh rfl (Cov.fresh rfl (Cov.fresh rfl (Cov.refl))))))))
  refine QL_nil fun a ha w8 hb9 => ?_
  have H10 : Holds (([] : List Res).flatMap Res.own) w w8 [] G := H.grow hb9
  refine nrm_seq (WP.app ?_ ha)
  refine WP_cond rfl (fun hc11 => ?_) (fun hc11 => ?_)
  · have h := if_t hc11 h
    refine WP_seq ?_
    refine WP_region ?_
    refine XL_q rfl (qt_assign rfl) rfl rfl ?_
    refine WL_nil_seq ?_
    refine WP_ret fun a ha => ?_
    obtain rfl := Option.some.inj h
    exact ret_seq (ret1 rfl ha rfl ⟨rfl, H10⟩)
  · have h := if_f hc11 h
    refine WP_skip_seq ?_
    refine WP_seq ?_
    refine WP_seq ?_
    refine WP_region ?_
    refine XL_q rfl (qt_move rfl) rfl rfl ?_
    refine XL_lenH H10.ctx (t := (.int .i64)) (hp1) u27 rfl rfl rfl ?_
    refine XL_q rfl (qt_move rfl) rfl rfl ?_
    refine WL_nil_seq ?_
    refine WP_block ?_
    obtain ⟨o13, ho14, h⟩ := bind_some h
    refine fun a15 ha16 => wp_loop_fix (I := fun s a w2 => match s with | s12 => (Fr a 48 [(2, vp2), (23, vp1), (24, .int .i64 (List.length p1 : Int)), (25, .int .i64 s12)] ∧ Holds (([] : List Res).flatMap Res.own) w w2 [] G)) (O := fun o e a w2 => match o with | .inl _ => e = .exit 0 ∧ (Fr a 48 [] ∧ Holds (([] : List Res).flatMap Res.own) w w2 [] G) | .inr q0 => e = .ret ∧ (Fr a 48 [(6, .bool q0)] ∧ Holds (([] : List Res).flatMap Res.own) w w2 [] G)) ho14 ?_ ?_ ?_
    · exact ⟨ha16.sub ⟨rfl, rfl, rfl, rfl, trivial⟩, H10⟩
    · clear ha16
      intro s o19 a w17 hs18 hI20
      obtain ⟨s12, rfl⟩ : ∃ z, z = s := ⟨s, rfl⟩
      obtain ⟨ha, H21⟩ := hI20
      refine WP.app ?_ ha
      clear ha
      refine WP_seq ?_
      refine WP_region ?_
      refine XL_q rfl (qt_lss rfl rfl) rfl rfl ?_
      refine WL_nil_seq ?_
      refine WP_seq ?_
      refine WP_cond rfl (fun hc22 => ?_) (fun hc22 => ?_)
      · have hs18 := if_t hc22 hs18
        refine WP_skip_seq ?_
        refine WP_seq ?_
        refine WP_block ?_
        refine WP_seq ?_
        refine WP_region ?_
        refine XL_q rfl (qt_move rfl) rfl rfl ?_
        obtain ⟨x23, hx24, hs18⟩ := bind_some hs18
        refine XL_indexH H21.ctx (hp1) hx24 u27 i3 rfl rfl rfl rfl (fun b25 off26 cap27 hv28 => ?_)
        obtain ⟨F29, hat30, hdup31⟩ := H21.at (hp1) hx24 hv28
        refine XL_load_int (k := .i64) u3 rfl hat30 rfl rfl rfl ?_
        refine XL_q rfl (qt_assign rfl) rfl rfl ?_
        refine XL_q rfl (qt_assign rfl) rfl rfl ?_
        refine WL_nil_seq ?_
        refine WP_seq ?_
        refine WP_region ?_
        refine XL_q rfl (qt_move rfl) rfl rfl ?_
        obtain ⟨x32, hx33, hs18⟩ := bind_some hs18
        refine WL_call rfl rfl c72 (w_impl_membersOf w17 G x23 x32 hx33 H21.ctx) (by rfl) ?_
        rintro _ w34 ⟨v36, rfl, H35⟩; refine ⟨_, rfl, ?_⟩
        have H37 : Holds (([] : List Res).flatMap Res.own) w w34 [.sl 3 (.int .i64) v36 x32] G := H21.calledN (Rs := []) H35
        refine XL_lenH H37.ctx (t := (.int .i64)) (Has.hd) u27 rfl rfl rfl ?_
        refine XL_q rfl (qt_move rfl) rfl rfl ?_
        refine WL_nil_seq ?_
        refine WP_block ?_
        obtain ⟨o39, ho40, hs18⟩ := bind_some hs18
        refine fun a41 ha42 => wp_loop_fix (I := fun s a w2 => match s with | s38 => (Fr a 48 [(2, vp2), (7, .int .i64 s12), (23, vp1), (24, .int .i64 (List.length p1 : Int)), (25, .int .i64 s12), (31, v36), (32, .int .i64 (List.length x32 : Int)), (33, .int .i64 s38)] ∧ Holds (([] : List Res).flatMap Res.own) w w2 [.sl 3 (.int .i64) v36 x32] G)) (O := fun o e a w2 => match o with | .inl _ => e = .exit 2 ∧ (Fr a 48 [(2, vp2), (23, vp1), (24, .int .i64 (List.length p1 : Int)), (25, .int .i64 s12)] ∧ Holds (([] : List Res).flatMap Res.own) w w2 [] G) | .inr q0 => e = .ret ∧ (Fr a 48 [(6, .bool q0)] ∧ Holds (([] : List Res).flatMap Res.own) w w2 [] G)) ho40 ?_ ?_ ?_
        · exact ⟨ha42.sub ⟨rfl, rfl, rfl, rfl, rfl, rfl, rfl, rfl, trivial⟩, H37⟩
        · clear ha42
          intro s o45 a w43 hs44 hI46
          obtain ⟨s38, rfl⟩ : ∃ z, z = s := ⟨s, rfl⟩
          obtain ⟨ha, H47⟩ := hI46
          refine WP.app ?_ ha
          clear ha
          refine WP_seq ?_
          refine WP_region ?_
          refine XL_q rfl (qt_lss rfl rfl) rfl rfl ?_
          refine WL_nil_seq ?_
          refine WP_seq ?_
          refine WP_cond rfl (fun hc48 => ?_) (fun hc48 => ?_)
          · have hs44 := if_t hc48 hs44
            refine WP_skip_seq ?_
            refine WP_seq ?_
            refine WP_block ?_
            refine WP_seq ?_
            refine WP_region ?_
            obtain ⟨x49, hx50, hs44⟩ := bind_some hs44
            refine XL_indexH H47.ctx (Has.hd) hx50 u27 i3 rfl rfl rfl rfl (fun b51 off52 cap53 hv54 => ?_)
            obtain ⟨F55, hat56, hdup57⟩ := H47.at (Has.hd) hx50 hv54
            refine XL_load_int (k := .i64) u3 rfl hat56 rfl rfl rfl ?_
            refine XL_q rfl (qt_assign rfl) rfl rfl ?_
            refine WL_nil_seq ?_
            refine WP_seq ?_
            refine WP_quiet (by kernel_rfl) (by kernel_rfl) ?_
            refine XL_q rfl (qt_move rfl) rfl rfl ?_
            refine XL_q rfl (qt_move rfl) rfl rfl ?_
            obtain ⟨x58, hx59, hs44⟩ := bind_some hs44
            refine XL_indexH H47.ctx (hp2.c) hx59 u27 i3 rfl rfl rfl rfl (fun b60 off61 cap62 hv63 => ?_)
            obtain ⟨F64, hat65, hdup66⟩ := H47.at (hp2.c) hx59 hv63
            refine XL_load_int (k := .i64) u3 rfl hat65 rfl rfl rfl ?_
            refine XL_q rfl (qt_move rfl) rfl rfl ?_
            refine XL_q rfl (qt_move rfl) rfl rfl ?_
            obtain ⟨x67, hx68, hs44⟩ := bind_some hs44
            refine XL_indexH H47.ctx (hp2.c) hx68 u27 i3 rfl rfl rfl rfl (fun b69 off70 cap71 hv72 => ?_)
            obtain ⟨F73, hat74, hdup75⟩ := H47.at (hp2.c) hx68 hv72
            refine XL_load_int (k := .i64) u3 rfl hat74 rfl rfl rfl ?_
            refine XL_q rfl (qt_eql rfl rfl) rfl rfl ?_
            refine QL_nil fun a ha w76 hb77 => ?_
            have H78 : Holds (([] : List Res).flatMap Res.own) w w76 [.sl 3 (.int .i64) v36 x32] G := H47.grow hb77
            refine nrm_seq (WP.app ?_ ha)
            refine WP_cond rfl (fun hc79 => ?_) (fun hc79 => ?_)
            · have hs44 := if_t hc79 hs44
              refine WP_seq ?_
              refine WP_region ?_
              refine XL_q rfl (qt_assign rfl) rfl rfl ?_
              refine WL_nil_seq ?_
              refine WP_ret fun a ha => ?_
              obtain rfl := Option.some.inj hs44
              have H80 : Holds (([] : List Res).flatMap Res.own) w w76 [] G := (H78.cut 0)
              exact ret_block (ret_seq (⟨ret_ne, rfl, ha.sub ⟨rfl, trivial⟩, H80⟩))
            · have hs44 := if_f hc79 hs44
              refine WP_skip fun a ha => ?_
              refine nrm_block (nrm_seq (WP.app ?_ ha))
              refine WP_region ?_
              refine XL_q rfl (qt_add rfl rfl) rfl rfl ?_
              refine XL_q rfl (qt_move rfl) rfl rfl ?_
              refine WL_nil fun a ha => ?_
              obtain rfl := Option.some.inj hs44
              exact ⟨rfl, ha.sub ⟨rfl, rfl, rfl, rfl, rfl, rfl, rfl, rfl, trivial⟩, H78⟩
          · have hs44 := if_f hc48 hs44
            refine WP_exit fun a ha => ?_
            obtain rfl := Option.some.inj hs44
            have H81 : Holds (([] : List Res).flatMap Res.own) w w43 [] G := (H47.cut 0)
            exact exit_seq (⟨exit_ne, rfl, ha.sub ⟨rfl, rfl, rfl, rfl, trivial⟩, H81⟩)
        · intro e a41 w82 hO83
          rcases o39 with o39 | o39
          · skip
            obtain ⟨rfl, hO85⟩ := hO83
            obtain ⟨ha, H84⟩ := hO85
            refine exit_block_eq (nrm_block (nrm_seq (WP.app ?_ ha)))
            refine WP_region ?_
            refine XL_q rfl (qt_add rfl rfl) rfl rfl ?_
            refine XL_q rfl (qt_move rfl) rfl rfl ?_
            refine WL_nil fun a ha => ?_
            obtain rfl := Option.some.inj hs18
            exact ⟨rfl, ha.sub ⟨rfl, rfl, rfl, rfl, trivial⟩, H84⟩
          · skip
            obtain ⟨p86, rfl⟩ : ∃ z, z = o39 := ⟨o39, rfl⟩
            obtain ⟨rfl, hO88⟩ := hO83
            obtain ⟨ha, H87⟩ := hO88
            obtain rfl := Option.some.inj hs18
            exact ret_block (ret_block (ret_seq (⟨ret_ne, rfl, ha.sub ⟨rfl, trivial⟩, H87⟩)))
      · have hs18 := if_f hc22 hs18
        refine WP_exit fun a ha => ?_
        obtain rfl := Option.some.inj hs18
        exact exit_seq (⟨exit_ne, rfl, ha.sub trivial, H21⟩)
    · intro e a15 w89 hO90
      rcases o13 with o13 | o13
      · skip
        obtain ⟨rfl, hO92⟩ := hO90
        obtain ⟨ha, H91⟩ := hO92
        refine exit_block_eq (nrm_seq (WP.app ?_ ha))
        refine WP_seq ?_
        refine WP_region ?_
        refine XL_q rfl (qt_assign rfl) rfl rfl ?_
        refine WL_nil_seq ?_
        refine WP_ret fun a ha => ?_
        obtain rfl := Option.some.inj h
        exact ret1 rfl ha rfl ⟨rfl, H91⟩
      · skip
        obtain ⟨p93, rfl⟩ : ∃ z, z = o13 := ⟨o13, rfl⟩
        obtain ⟨rfl, hO95⟩ := hO90
        obtain ⟨ha, H94⟩ := hO95
        obtain rfl := Option.some.inj h
        exact ret_block (ret_seq (ret1 rfl ha rfl ⟨rfl, H94⟩))
theorem w_impl_copyInts (w : World) (G : List Res) (vp0 : Value) (p0 : List Int) (hp0 : Has G (.int .i64) vp0 p0) (r : (List Int)) (h : impl_copyIntsS p0 = some r) (H : Ctx w G) : Calls Tryd.prog 81 #[vp0] w fun e w' => ∃ (v1 : Value), e = .returned (v1) ∧ Holds (([] : List Res).flatMap Res.own) w w' [.sl 3 (.int .i64) v1 r] G := by
  have H : Holds (([] : List Res).flatMap Res.own) w w [] G := Holds.startN H
  refine calls_enter (args := [vp0]) (n := 14) Tryd.func81 rfl rfl rfl ?_
  unfold impl_copyIntsS at h
  refine WP_seq ?_
  refine WP_region ?_
  refine XL_q rfl (qt_assign rfl) rfl rfl ?_
  refine WL_nil_seq ?_
  refine WP_seq ?_
  refine WP_seq ?_
  refine WP_region ?_
  refine XL_q rfl (qt_move rfl) rfl rfl ?_
  refine XL_lenH H.ctx (t := (.int .i64)) (hp0) u27 rfl rfl rfl ?_
  refine XL_q rfl (qt_eql rfl rfl) rfl rfl ?_
  refine WL_nil_seq ?_
  refine WP_cond rfl (fun hc1 => ?_) (fun hc1 => ?_)
  · have h := if_t hc1 h
    refine WP_seq ?_
    refine WP_region ?_
    refine XL_q rfl (qt_assign rfl) rfl rfl ?_
    refine WL_nil_seq ?_
    refine WP_ret fun a ha => ?_
    obtain rfl := Option.some.inj h
    have H2 : Holds (([] : List Res).flatMap Res.own) w w [.sl 3 (.int .i64) (.slice none 0 0) ([])] G := H.nilSl
    exact ret_seq (ret1 rfl ha rfl ⟨(.slice none 0 0), rfl, H2⟩)
  · have h := if_f hc1 h
    refine WP_skip_seq ?_
    refine WP_seq ?_
    refine WP_region ?_
    refine XL_q rfl (qt_move rfl) rfl rfl ?_
    refine XL_lenH H.ctx (t := (.int .i64)) (hp0) u27 rfl rfl rfl ?_
    obtain ⟨x3, hx4, h⟩ := bind_some h
    refine WL_makeH H hx4 u27 j3 rfl (fun _ => ⟨rfl, rfl⟩) rfl rfl rfl rfl rfl (fun v5 w6 H7 => ?_)
    have H8 : Holds (([] : List Res).flatMap Res.own) w w6 [.sl 3 (.int .i64) v5 x3] G := H7
    refine XL_q rfl (qt_assign rfl) rfl rfl ?_
    refine WL_nil_seq ?_
    refine WP_seq ?_
    refine WP_region ?_
    refine XL_q rfl (qt_move rfl) rfl rfl ?_
    refine XL_q rfl (qt_move rfl) rfl rfl ?_
    refine WL_copyH rfl H8 (hp0.c) rfl u27 i3 rfl rfl rfl rfl (fun w9 H10 => ?_)
    have H11 : Holds (([] : List Res).flatMap Res.own) w w9 [.sl 3 (.int .i64) v5 (List.take (List.length x3) p0 ++ List.drop (List.length p0) x3)] G := H10
    refine WL_nil_seq ?_
    refine WP_seq ?_
    refine WP_region ?_
    refine XL_q rfl (qt_move rfl) rfl rfl ?_
    refine XL_q rfl (qt_assign rfl) rfl rfl ?_
    refine WL_nil_seq ?_
    refine WP_ret fun a ha => ?_
    obtain rfl := Option.some.inj h
    exact ret1 rfl ha rfl ⟨v5, rfl, H11⟩
theorem w_cmp_isNaN_int (w : World) (G : List Res) (p0 : Int) (r : Bool) (h : cmp_isNaN_intS p0 = some r) (H : Ctx w G) : Calls Tryd.prog 115 #[.int .i64 p0] w fun e w' => e = .returned (.bool r) ∧ Holds (([] : List Res).flatMap Res.own) w w' [] G := by
  have H : Holds (([] : List Res).flatMap Res.own) w w [] G := Holds.startN H
  refine calls_enter (args := [.int .i64 p0]) (n := 6) Tryd.func115 rfl rfl rfl ?_
  unfold cmp_isNaN_intS at h
  refine WP_seq ?_
  refine WP_region ?_
  refine XL_q rfl (qt_assign rfl) rfl rfl ?_
  refine WL_nil_seq ?_
  refine WP_seq ?_
  refine WP_region ?_
  refine XL_q rfl (qt_move rfl) rfl rfl ?_
  refine XL_q rfl (qt_move rfl) rfl rfl ?_
  refine XL_q rfl (qt_neq rfl rfl) rfl rfl ?_
  refine XL_q rfl (qt_assign rfl) rfl rfl ?_
  refine WL_nil_seq ?_
  refine WP_ret fun a ha => ?_
  obtain rfl := Option.some.inj h
  exact ret1 rfl ha rfl ⟨rfl, H⟩
theorem w_cmp_Less_int (w : World) (G : List Res) (p0 : Int) (p1 : Int) (r : Bool) (h : cmp_Less_intS p0 p1 = some r) (H : Ctx w G) : Calls Tryd.prog 103 #[.int .i64 p0, .int .i64 p1] w fun e w' => e = .returned (.bool r) ∧ Holds (([] : List Res).flatMap Res.own) w w' [] G := by
  have H : Holds (([] : List Res).flatMap Res.own) w w [] G := Holds.startN H
  refine calls_enter (args := [.int .i64 p0, .int .i64 p1]) (n := 17) Tryd.func103 rfl rfl rfl ?_
  unfold cmp_Less_intS at h
  refine WP_seq ?_
  refine WP_region ?_
  refine XL_q rfl (qt_assign rfl) rfl rfl ?_
  refine WL_nil_seq ?_
  refine WP_seq ?_
  refine WP_still ?_
  refine XL_q rfl (qt_move rfl) rfl rfl ?_
  obtain ⟨x1, hx2, h⟩ := bind_some h
  refine QL_call rfl rfl c115 (fun w' hb => (w_cmp_isNaN_int w' G p0 x1 hx2 (H.grow hb).ctx).mono fun e w'' hK => ⟨hK.1, hK.2.bel⟩) (by rfl) ?_
  refine XL_q rfl (qt_move rfl) rfl rfl ?_
  obtain ⟨b3, hg4, h⟩ := bind_some h
  refine XL_join 4 11 (.bool b3) ?_ (fun md hmd hk => ?_)
  rotate_left
  · obtain ⟨K, rfl⟩ := Md.quiet_of hmd
    rcases btf x1 with hc5 | hc5
    · skip
      have hg4 := if_t hc5 hg4
      refine XL_q (w_take rfl hc5) (qt_move rfl) rfl rfl ?_
      obtain ⟨x6, hx7, hg4⟩ := bind_some hg4
      refine QL_call (w_take rfl hc5) rfl c115 (fun w' hb => (w_cmp_isNaN_int w' G p1 x6 hx7 (H.grow hb).ctx).mono fun e w'' hK => ⟨hK.1, hK.2.bel⟩) (by rfl) ?_
      refine XL_q (w_take rfl hc5) (qt_not rfl) rfl rfl ?_
      refine XL_q rfl (qt_pickT rfl hc5 rfl) rfl rfl ?_
      exact hk _ (Cov.same (vb hg4) (Cov.fresh rfl (Cov.fresh rfl (Cov.fresh rfl (Cov.refl)))))
    · skip
      refine XL_skip (w_skip rfl hc5) rfl rfl ?_
      refine XL_skip (w_skip rfl hc5) rfl rfl ?_
      refine XL_skip (w_skip rfl hc5) rfl rfl ?_
      refine XL_q rfl (qt_pickF rfl hc5 rfl) rfl rfl ?_
      exact hk _ (Cov.same (vb (if_f hc5 hg4)) (Cov.fresh rfl (Cov.fresh rfl (Cov.fresh rfl (Cov.refl)))))
  refine XL_q rfl (qt_move rfl) rfl rfl ?_
  refine XL_join 4 16 (.bool (b3 || (decide (p0 < p1)))) ?_ (fun md hmd hk => ?_)
  rotate_left
  · obtain ⟨K, rfl⟩ := Md.quiet_of hmd
    rcases btf b3 with hc8 | hc8
    · skip
      refine XL_skip (w_skip rfl hc8) rfl rfl ?_
      refine XL_skip (w_skip rfl hc8) rfl rfl ?_
      refine XL_skip (w_skip rfl hc8) rfl rfl ?_
      refine XL_q rfl (qt_pickT rfl hc8 rfl) rfl rfl ?_
      exact hk _ (Cov.same (by rw [hc8]; rfl) (Cov.fresh rfl (Cov.fresh rfl (Cov.fresh rfl (Cov.refl)))))
    · skip
      refine XL_q (w_take rfl hc8) (qt_move rfl) rfl rfl ?_
      refine XL_q (w_take rfl hc8) (qt_move rfl) rfl rfl ?_
      refine XL_q (w_take rfl hc8) (qt_lss rfl rfl) rfl rfl ?_
      refine XL_q rfl (qt_pickF rfl hc8 rfl) rfl rfl ?_
      exact hk _ (Cov.same (by rw [hc8]; rfl) (Cov.fresh rfl (Cov.fresh rfl (Cov.fresh rfl (Cov.refl)))))
  refine XL_q rfl (qt_assign rfl) rfl rfl ?_
  refine QL_nil fun a ha w9 hb10 => ?_
  have H11 : Holds (([] : List Res).flatMap Res.own) w w9 [] G := H.grow hb10
  refine nrm_seq (WP.app ?_ ha)
  refine WP_ret fun a ha => ?_
  obtain rfl := Option.some.inj h
  exact ret1 rfl ha rfl ⟨rfl, H11⟩
theorem w_slices_xorshift_Next (w : World) (G : List Res) (bp0 : Nat) (p0_0 : Int) (r : Int × Int) (h : slices_xorshift_NextS p0_0 = some r) (H : Ctx w ([.bx bp0 96 [.int .u64 p0_0]] ++ G)) : Calls Tryd.prog 112 #[.pointer (some ⟨bp0, 0, none⟩)] w fun e w' => e = .returned (.int .u64 r.2) ∧ Holds (([.bx bp0 96 [.int .u64 p0_0]] : List Res).flatMap Res.own) w w' [.bx bp0 96 [.int .u64 r.1]] G := by
  have H : Holds (([.bx bp0 96 [.int .u64 p0_0]] : List Res).flatMap Res.own) w w [.bx bp0 96 [.int .u64 p0_0]] G := Holds.startN H
  refine calls_enter (args := [.pointer (some ⟨bp0, 0, none⟩)]) (n := 33) Tryd.func112 rfl rfl rfl ?_
  unfold slices_xorshift_NextS at h
  refine WP_seq ?_
  refine WP_region ?_
  refine XL_q rfl (qt_assign rfl) rfl rfl ?_
  refine WL_nil_seq ?_
  refine WP_seq ?_
  refine WP_tail 7 (by kernel_rfl) (by kernel_rfl) (fun w1 hb2 => ?_)
  have H3 : Holds (([.bx bp0 96 [.int .u64 p0_0]] : List Res).flatMap Res.own) w w1 [.bx bp0 96 [.int .u64 p0_0]] G := H.grow hb2
  refine XL_q rfl (qt_move rfl) rfl rfl ?_
  refine XL_q rfl (qt_nilCheck rfl) rfl rfl ?_
  have hB4 : Bx w1 bp0 96 [.int .u64 p0_0] := Holds.bx (H3.pull 0)
  refine XL_load_bx u96 rfl hB4 rfl rfl rfl rfl ?_
  refine XL_q rfl (qt_move rfl) rfl rfl ?_
  refine XL_q rfl (qt_nilCheck rfl) rfl rfl ?_
  have hB5 : Bx w1 bp0 96 [.int .u64 p0_0] := Holds.bx (H3.pull 0)
  refine XL_load_bx u96 rfl hB5 rfl rfl rfl rfl ?_
  refine XL_q rfl (qt_shl rfl rfl (by decide)) rfl rfl ?_
  refine SL_nil ?_
  refine XL_q rfl (qt_xor rfl rfl) rfl rfl ?_
  refine XL_q rfl (qt_nilCheck rfl) rfl rfl ?_
  refine WL_store_bx H3 rfl il96 rfl rfl rfl rfl rfl (fun w6 H7 => ?_)
  have H8 : Holds (([.bx bp0 96 [.int .u64 p0_0]] : List Res).flatMap Res.own) w w6 [.bx bp0 96 [.int .u64 (ixor .u64 p0_0 (ishl .u64 p0_0 13))]] G := H7
  refine WL_nil_seq ?_
  refine WP_seq ?_
  refine WP_tail 7 (by kernel_rfl) (by kernel_rfl) (fun w9 hb10 => ?_)
  have H11 : Holds (([.bx bp0 96 [.int .u64 p0_0]] : List Res).flatMap Res.own) w w9 [.bx bp0 96 [.int .u64 (ixor .u64 p0_0 (ishl .u64 p0_0 13))]] G := H8.grow hb10
  refine XL_q rfl (qt_move rfl) rfl rfl ?_
  refine XL_q rfl (qt_nilCheck rfl) rfl rfl ?_
  have hB12 : Bx w9 bp0 96 [.int .u64 (ixor .u64 p0_0 (ishl .u64 p0_0 13))] := Holds.bx (H11.pull 0)
  refine XL_load_bx u96 rfl hB12 rfl rfl rfl rfl ?_
  refine XL_q rfl (qt_move rfl) rfl rfl ?_
  refine XL_q rfl (qt_nilCheck rfl) rfl rfl ?_
  have hB13 : Bx w9 bp0 96 [.int .u64 (ixor .u64 p0_0 (ishl .u64 p0_0 13))] := Holds.bx (H11.pull 0)
  refine XL_load_bx u96 rfl hB13 rfl rfl rfl rfl ?_
  refine XL_q rfl (qt_shr rfl rfl (by decide)) rfl rfl ?_
  refine SL_nil ?_
  refine XL_q rfl (qt_xor rfl rfl) rfl rfl ?_
  refine XL_q rfl (qt_nilCheck rfl) rfl rfl ?_
  refine WL_store_bx H11 rfl il96 rfl rfl rfl rfl rfl (fun w14 H15 => ?_)
  have H16 : Holds (([.bx bp0 96 [.int .u64 p0_0]] : List Res).flatMap Res.own) w w14 [.bx bp0 96 [.int .u64 (ixor .u64 (ixor .u64 p0_0 (ishl .u64 p0_0 13)) (ishr .u64 (ixor .u64 p0_0 (ishl .u64 p0_0 13)) 7))]] G := H15
  refine WL_nil_seq ?_
  refine WP_seq ?_
  refine WP_tail 7 (by kernel_rfl) (by kernel_rfl) (fun w17 hb18 => ?_)
  have H19 : Holds (([.bx bp0 96 [.int .u64 p0_0]] : List Res).flatMap Res.own) w w17 [.bx bp0 96 [.int .u64 (ixor .u64 (ixor .u64 p0_0 (ishl .u64 p0_0 13)) (ishr .u64 (ixor .u64 p0_0 (ishl .u64 p0_0 13)) 7))]] G := H16.grow hb18
  refine XL_q rfl (qt_move rfl) rfl rfl ?_
  refine XL_q rfl (qt_nilCheck rfl) rfl rfl ?_
  have hB20 : Bx w17 bp0 96 [.int .u64 (ixor .u64 (ixor .u64 p0_0 (ishl .u64 p0_0 13)) (ishr .u64 (ixor .u64 p0_0 (ishl .u64 p0_0 13)) 7))] := Holds.bx (H19.pull 0)
  refine XL_load_bx u96 rfl hB20 rfl rfl rfl rfl ?_
  refine XL_q rfl (qt_move rfl) rfl rfl ?_
  refine XL_q rfl (qt_nilCheck rfl) rfl rfl ?_
  have hB21 : Bx w17 bp0 96 [.int .u64 (ixor .u64 (ixor .u64 p0_0 (ishl .u64 p0_0 13)) (ishr .u64 (ixor .u64 p0_0 (ishl .u64 p0_0 13)) 7))] := Holds.bx (H19.pull 0)
  refine XL_load_bx u96 rfl hB21 rfl rfl rfl rfl ?_
  refine XL_q rfl (qt_shl rfl rfl (by decide)) rfl rfl ?_
  refine SL_nil ?_
  obtain ⟨x22, hx23, h⟩ := bind_some h
  refine XL_qe rfl (qt_xor rfl rfl) (vi hx23) rfl rfl ?_
  refine XL_q rfl (qt_nilCheck rfl) rfl rfl ?_
  refine WL_store_bx H19 rfl il96 rfl rfl rfl rfl rfl (fun w24 H25 => ?_)
  have H26 : Holds (([.bx bp0 96 [.int .u64 p0_0]] : List Res).flatMap Res.own) w w24 [.bx bp0 96 [.int .u64 x22]] G := H25
  refine WL_nil_seq ?_
  refine WP_seq ?_
  refine WP_region ?_
  refine XL_q rfl (qt_move rfl) rfl rfl ?_
  refine XL_q rfl (qt_nilCheck rfl) rfl rfl ?_
  have hB27 : Bx w24 bp0 96 [.int .u64 x22] := Holds.bx (H26.pull 0)
  refine XL_load_bx u96 rfl hB27 rfl rfl rfl rfl ?_
  refine XL_q rfl (qt_assign rfl) rfl rfl ?_
  refine WL_nil_seq ?_
  refine WP_ret fun a ha => ?_
  obtain rfl := Option.some.inj h
  exact ret1 rfl ha rfl ⟨rfl, H26⟩
theorem w_slices_order2Ordered_int (w : World) (G : List Res) (vp0 : Value) (p0 : List Int) (hp0 : Has G (.int .i64) vp0 p0) (p1 : Int) (p2 : Int) (bp3 : Nat) (p3_0 : Int) (r : Int × Int × Int) (h : slices_order2Ordered_intS p0 p1 p2 p3_0 = some r) (H : Ctx w ([.bx bp3 3 [.int .i64 p3_0]] ++ G)) : Calls Tryd.prog 120 #[vp0, .int .i64 p1, .int .i64 p2, .pointer (some ⟨bp3, 0, none⟩)] w fun e w' => e = .returned (.tuple #[.int .i64 r.2.1, .int .i64 r.2.2]) ∧ Holds (([.bx bp3 3 [.int .i64 p3_0]] : List Res).flatMap Res.own) w w' [.bx bp3 3 [.int .i64 r.1]] G := by
  have H : Holds (([.bx bp3 3 [.int .i64 p3_0]] : List Res).flatMap Res.own) w w [.bx bp3 3 [.int .i64 p3_0]] G := Holds.startN H
  refine calls_enter (args := [vp0, .int .i64 p1, .int .i64 p2, .pointer (some ⟨bp3, 0, none⟩)]) (n := 28) Tryd.func120 rfl rfl rfl ?_
  unfold slices_order2Ordered_intS at h
  refine WP_seq ?_
  refine WP_region ?_
  refine XL_q rfl (qt_assign rfl) rfl rfl ?_
  refine XL_q rfl (qt_assign rfl) rfl rfl ?_
  refine WL_nil_seq ?_
  refine WP_seq ?_
  refine WP_seq ?_
  refine WP_quiet (by kernel_rfl) (by kernel_rfl) ?_
  refine XL_q rfl (qt_move rfl) rfl rfl ?_
  refine XL_q rfl (qt_move rfl) rfl rfl ?_
  obtain ⟨x1, hx2, h⟩ := bind_some h
  refine XL_indexH H.ctx (hp0.c) hx2 u27 i3 rfl rfl rfl rfl (fun b3 off4 cap5 hv6 => ?_)
  obtain ⟨F7, hat8, hdup9⟩ := H.at (hp0.c) hx2 hv6
  refine XL_load_int (k := .i64) u3 rfl hat8 rfl rfl rfl ?_
  refine XL_q rfl (qt_move rfl) rfl rfl ?_
  refine XL_q rfl (qt_move rfl) rfl rfl ?_
  obtain ⟨x10, hx11, h⟩ := bind_some h
  refine XL_indexH H.ctx (hp0.c) hx11 u27 i3 rfl rfl rfl rfl (fun b12 off13 cap14 hv15 => ?_)
  obtain ⟨F16, hat17, hdup18⟩ := H.at (hp0.c) hx11 hv15
  refine XL_load_int (k := .i64) u3 rfl hat17 rfl rfl rfl ?_
  obtain ⟨x19, hx20, h⟩ := bind_some h
  refine QL_call rfl rfl c103 (fun w' hb => (w_cmp_Less_int w' ([.bx bp3 3 [.int .i64 p3_0]] ++ G) x1 x10 x19 hx20 (H.grow hb).ctx).mono fun e w'' hK => ⟨hK.1, hK.2.bel⟩) (by rfl) ?_
  refine QL_nil fun a ha w21 hb22 => ?_
  have H23 : Holds (([.bx bp3 3 [.int .i64 p3_0]] : List Res).flatMap Res.own) w w21 [.bx bp3 3 [.int .i64 p3_0]] G := H.grow hb22
  refine nrm_seq (WP.app ?_ ha)
  refine WP_cond rfl (fun hc24 => ?_) (fun hc24 => ?_)
  · have h := if_t hc24 h
    refine WP_seq ?_
    refine WP_region ?_
    refine XL_q rfl (qt_move rfl) rfl rfl ?_
    refine XL_q rfl (qt_nilCheck rfl) rfl rfl ?_
    have hB25 : Bx w21 bp3 3 [.int .i64 p3_0] := Holds.bx (H23.pull 0)
    refine XL_load_bx u3 rfl hB25 rfl rfl rfl rfl ?_
    refine XL_q rfl (qt_add rfl rfl) rfl rfl ?_
    refine XL_q rfl (qt_nilCheck rfl) rfl rfl ?_
    refine WL_store_bx H23 rfl il3 rfl rfl rfl rfl rfl (fun w26 H27 => ?_)
    have H28 : Holds (([.bx bp3 3 [.int .i64 p3_0]] : List Res).flatMap Res.own) w w26 [.bx bp3 3 [.int .i64 (IntKind.wrap .i64 (p3_0 + 1))]] G := H27
    refine WL_nil_seq ?_
    refine WP_seq ?_
    refine WP_region ?_
    refine XL_q rfl (qt_move rfl) rfl rfl ?_
    refine XL_q rfl (qt_move rfl) rfl rfl ?_
    refine XL_q rfl (qt_assign rfl) rfl rfl ?_
    refine XL_q rfl (qt_assign rfl) rfl rfl ?_
    refine WL_nil_seq ?_
    refine WP_ret fun a ha => ?_
    obtain rfl := Option.some.inj h
    exact ret_seq (ret2 rfl ha rfl rfl ⟨rfl, H28⟩)
  · have h := if_f hc24 h
    refine WP_skip_seq ?_
    refine WP_seq ?_
    refine WP_region ?_
    refine XL_q rfl (qt_move rfl) rfl rfl ?_
    refine XL_q rfl (qt_move rfl) rfl rfl ?_
    refine XL_q rfl (qt_assign rfl) rfl rfl ?_
    refine XL_q rfl (qt_assign rfl) rfl rfl ?_
    refine WL_nil_seq ?_
    refine WP_ret fun a ha => ?_
    obtain rfl := Option.some.inj h
    exact ret2 rfl ha rfl rfl ⟨rfl, H23⟩
theorem w_slices_medianOrdered_int (w : World) (G : List Res) (vp0 : Value) (p0 : List Int) (hp0 : Has G (.int .i64) vp0 p0) (p1 : Int) (p2 : Int) (p3 : Int) (bp4 : Nat) (p4_0 : Int) (r : Int × Int) (h : slices_medianOrdered_intS p0 p1 p2 p3 p4_0 = some r) (H : Ctx w ([.bx bp4 3 [.int .i64 p4_0]] ++ G)) : Calls Tryd.prog 114 #[vp0, .int .i64 p1, .int .i64 p2, .int .i64 p3, .pointer (some ⟨bp4, 0, none⟩)] w fun e w' => e = .returned (.int .i64 r.2) ∧ Holds (([.bx bp4 3 [.int .i64 p4_0]] : List Res).flatMap Res.own) w w' [.bx bp4 3 [.int .i64 r.1]] G := by
  have H : Holds (([.bx bp4 3 [.int .i64 p4_0]] : List Res).flatMap Res.own) w w [.bx bp4 3 [.int .i64 p4_0]] G := Holds.startN H
  refine calls_enter (args := [vp0, .int .i64 p1, .int .i64 p2, .int .i64 p3, .pointer (some ⟨bp4, 0, none⟩)]) (n := 36) Tryd.func114 rfl rfl rfl ?_
  unfold slices_medianOrdered_intS at h
  refine WP_seq ?_
  refine WP_region ?_
  refine XL_q rfl (qt_assign rfl) rfl rfl ?_
  refine WL_nil_seq ?_
  refine WP_seq ?_
  refine WP_region ?_
  refine XL_q rfl (qt_move rfl) rfl rfl ?_
  refine XL_q rfl (qt_move rfl) rfl rfl ?_
  refine XL_q rfl (qt_move rfl) rfl rfl ?_
  refine XL_q rfl (qt_move rfl) rfl rfl ?_
  obtain ⟨x1, hx2, h⟩ := bind_some h
  refine WL_call rfl rfl c120 (w_slices_order2Ordered_int w G vp0 p0 (hp0) p1 p2 bp4 p4_0 x1 hx2 H.ctx) (by rfl) ?_
  rintro _ w3 ⟨rfl, H4⟩; refine ⟨_, rfl, ?_⟩
  have H5 : Holds (([.bx bp4 3 [.int .i64 p4_0]] : List Res).flatMap Res.own) w w3 [.bx bp4 3 [.int .i64 x1.1]] G := H.calledN (Rs := [_]) H4
  refine XL_q rfl (qt_move rfl) rfl rfl ?_
  refine XL_q rfl (qt_extract rfl rfl) rfl rfl ?_
  refine XL_q rfl (qt_extract rfl rfl) rfl rfl ?_
  refine XL_q rfl (qt_assign rfl) rfl rfl ?_
  refine XL_q rfl (qt_assign rfl) rfl rfl ?_
  refine WL_nil_seq ?_
  refine WP_seq ?_
  refine WP_region ?_
  refine XL_q rfl (qt_move rfl) rfl rfl ?_
  refine XL_q rfl (qt_move rfl) rfl rfl ?_
  refine XL_q rfl (qt_move rfl) rfl rfl ?_
  refine XL_q rfl (qt_move rfl) rfl rfl ?_
  obtain ⟨x6, hx7, h⟩ := bind_some h
  refine WL_call rfl rfl c120 (w_slices_order2Ordered_int w3 G vp0 p0 (hp0) x1.2.2 p3 bp4 x1.1 x6 hx7 H5.ctx) (by rfl) ?_
  rintro _ w8 ⟨rfl, H9⟩; refine ⟨_, rfl, ?_⟩
  have H10 : Holds (([.bx bp4 3 [.int .i64 p4_0]] : List Res).flatMap Res.own) w w8 [.bx bp4 3 [.int .i64 x6.1]] G := H5.calledN (Rs := [_]) H9
  refine XL_q rfl (qt_move rfl) rfl rfl ?_
  refine XL_q rfl (qt_extract rfl rfl) rfl rfl ?_
  refine XL_q rfl (qt_extract rfl rfl) rfl rfl ?_
  refine XL_q rfl (qt_assign rfl) rfl rfl ?_
  refine XL_q rfl (qt_assign rfl) rfl rfl ?_
  refine WL_nil_seq ?_
  refine WP_seq ?_
  refine WP_region ?_
  refine XL_q rfl (qt_move rfl) rfl rfl ?_
  refine XL_q rfl (qt_move rfl) rfl rfl ?_
  refine XL_q rfl (qt_move rfl) rfl rfl ?_
  refine XL_q rfl (qt_move rfl) rfl rfl ?_
  obtain ⟨x11, hx12, h⟩ := bind_some h
  refine WL_call rfl rfl c120 (w_slices_order2Ordered_int w8 G vp0 p0 (hp0) x1.2.1 x6.2.1 bp4 x6.1 x11 hx12 H10.ctx) (by rfl) ?_
  rintro _ w13 ⟨rfl, H14⟩; refine ⟨_, rfl, ?_⟩
  have H15 : Holds (([.bx bp4 3 [.int .i64 p4_0]] : List Res).flatMap Res.own) w w13 [.bx bp4 3 [.int .i64 x11.1]] G := H10.calledN (Rs := [_]) H14
  refine XL_q rfl (qt_move rfl) rfl rfl ?_
  refine XL_q rfl (qt_extract rfl rfl) rfl rfl ?_
  refine XL_q rfl (qt_extract rfl rfl) rfl rfl ?_
  refine XL_q rfl (qt_assign rfl) rfl rfl ?_
  refine XL_q rfl (qt_assign rfl) rfl rfl ?_
  refine WL_nil_seq ?_
  refine WP_seq ?_
  refine WP_region ?_
  refine XL_q rfl (qt_move rfl) rfl rfl ?_
  refine XL_q rfl (qt_assign rfl) rfl rfl ?_
  refine WL_nil_seq ?_
  refine WP_ret fun a ha => ?_
  obtain rfl := Option.some.inj h
  exact ret1 rfl ha rfl ⟨rfl, H15⟩
theorem w_slices_medianAdjacentOrdered_int (w : World) (G : List Res) (vp0 : Value) (p0 : List Int) (hp0 : Has G (.int .i64) vp0 p0) (p1 : Int) (bp2 : Nat) (p2_0 : Int) (r : Int × Int) (h : slices_medianAdjacentOrdered_intS p0 p1 p2_0 = some r) (H : Ctx w ([.bx bp2 3 [.int .i64 p2_0]] ++ G)) : Calls Tryd.prog 113 #[vp0, .int .i64 p1, .pointer (some ⟨bp2, 0, none⟩)] w fun e w' => e = .returned (.int .i64 r.2) ∧ Holds (([.bx bp2 3 [.int .i64 p2_0]] : List Res).flatMap Res.own) w w' [.bx bp2 3 [.int .i64 r.1]] G := by
  have H : Holds (([.bx bp2 3 [.int .i64 p2_0]] : List Res).flatMap Res.own) w w [.bx bp2 3 [.int .i64 p2_0]] G := Holds.startN H
  refine calls_enter (args := [vp0, .int .i64 p1, .pointer (some ⟨bp2, 0, none⟩)]) (n := 15) Tryd.func113 rfl rfl rfl ?_
  unfold slices_medianAdjacentOrdered_intS at h
  refine WP_seq ?_
  refine WP_region ?_
  refine XL_q rfl (qt_assign rfl) rfl rfl ?_
  refine WL_nil_seq ?_
  refine WP_seq ?_
  refine WP_region ?_
  refine XL_q rfl (qt_move rfl) rfl rfl ?_
  refine XL_q rfl (qt_move rfl) rfl rfl ?_
  refine XL_q rfl (qt_sub rfl rfl) rfl rfl ?_
  refine XL_q rfl (qt_move rfl) rfl rfl ?_
  refine XL_q rfl (qt_move rfl) rfl rfl ?_
  refine XL_q rfl (qt_add rfl rfl) rfl rfl ?_
  refine XL_q rfl (qt_move rfl) rfl rfl ?_
  obtain ⟨x1, hx2, h⟩ := bind_some h
  refine WL_call rfl rfl c114 (w_slices_medianOrdered_int w G vp0 p0 (hp0) (IntKind.wrap .i64 (p1 - 1)) p1 (IntKind.wrap .i64 (p1 + 1)) bp2 p2_0 x1 hx2 H.ctx) (by rfl) ?_
  rintro _ w3 ⟨rfl, H4⟩; refine ⟨_, rfl, ?_⟩
  have H5 : Holds (([.bx bp2 3 [.int .i64 p2_0]] : List Res).flatMap Res.own) w w3 [.bx bp2 3 [.int .i64 x1.1]] G := H.calledN (Rs := [_]) H4
  refine XL_q rfl (qt_assign rfl) rfl rfl ?_
  refine WL_nil_seq ?_
  refine WP_ret fun a ha => ?_
  obtain rfl := Option.some.inj h
  exact ret1 rfl ha rfl ⟨rfl, H5⟩
theorem w_slices_choosePivotOrdered_int (w : World) (G : List Res) (vp0 : Value) (p0 : List Int) (hp0 : Has G (.int .i64) vp0 p0) (p1 : Int) (p2 : Int) (r : Int × Int) (h : slices_choosePivotOrdered_intS p0 p1 p2 = some r) (H : Ctx w G) : Calls Tryd.prog 100 #[vp0, .int .i64 p1, .int .i64 p2] w fun e w' => e = .returned (.tuple #[.int .i64 r.1, .int .i64 r.2]) ∧ Holds (([] : List Res).flatMap Res.own) w w' [] G := by
  have H : Holds (([] : List Res).flatMap Res.own) w w [] G := Holds.startN H
  refine calls_enter (args := [vp0, .int .i64 p1, .int .i64 p2]) (n := 57) Tryd.func100 rfl rfl rfl ?_
  unfold slices_choosePivotOrdered_intS at h
  refine WP_seq ?_
  refine WP_region ?_
  refine XL_q rfl (qt_assign rfl) rfl rfl ?_
  refine XL_q rfl (qt_assign rfl) rfl rfl ?_
  refine WL_nil_seq ?_
  refine WP_seq ?_
  refine WP_region ?_
  refine XL_q rfl (qt_move rfl) rfl rfl ?_
  refine XL_q rfl (qt_move rfl) rfl rfl ?_
  refine XL_q rfl (qt_sub rfl rfl) rfl rfl ?_
  refine XL_q rfl (qt_assign rfl) rfl rfl ?_
  refine WL_nil_seq ?_
  refine WP_seq ?_
  refine WP_region ?_
  refine WL_alloc (cs := [.int .i64 0]) H z3 rfl rfl rfl (fun b1 w2 H3 => ?_)
  have H4 : Holds (([] : List Res).flatMap Res.own) w w2 [.bx b1 3 [.int .i64 0]] G := H3
  refine WL_nil_seq ?_
  refine WP_seq ?_
  refine WP_region ?_
  refine XL_q rfl (qt_move rfl) rfl rfl ?_
  refine XL_q rfl (qt_move rfl) rfl rfl ?_
  refine XL_q rfl (qt_quo rfl rfl (by decide)) rfl rfl ?_
  refine XL_q rfl (qt_mul rfl rfl) rfl rfl ?_
  refine XL_q rfl (qt_add rfl rfl) rfl rfl ?_
  refine XL_q rfl (qt_assign rfl) rfl rfl ?_
  refine WL_nil_seq ?_
  refine WP_seq ?_
  refine WP_region ?_
  refine XL_q rfl (qt_move rfl) rfl rfl ?_
  refine XL_q rfl (qt_move rfl) rfl rfl ?_
  refine XL_q rfl (qt_quo rfl rfl (by decide)) rfl rfl ?_
  refine XL_q rfl (qt_mul rfl rfl) rfl rfl ?_
  refine XL_q rfl (qt_add rfl rfl) rfl rfl ?_
  refine XL_q rfl (qt_assign rfl) rfl rfl ?_
  refine WL_nil_seq ?_
  refine WP_seq ?_
  refine WP_region ?_
  refine XL_q rfl (qt_move rfl) rfl rfl ?_
  refine XL_q rfl (qt_move rfl) rfl rfl ?_
  refine XL_q rfl (qt_quo rfl rfl (by decide)) rfl rfl ?_
  refine XL_q rfl (qt_mul rfl rfl) rfl rfl ?_
  refine XL_q rfl (qt_add rfl rfl) rfl rfl ?_
  refine XL_q rfl (qt_assign rfl) rfl rfl ?_
  refine WL_nil_seq ?_
  refine WP_seq ?_
  refine WP_seq ?_
  refine WP_region ?_
  refine XL_q rfl (qt_move rfl) rfl rfl ?_
  refine XL_q rfl (qt_geq rfl rfl) rfl rfl ?_
  refine WL_nil_seq ?_
  obtain ⟨o7, ho8, h⟩ := bind_some h
  obtain ⟨j5, j6⟩ := o7
  refine WP_join (M := fun a w2 => (Fr a 57 [(9, .pointer (some ⟨b1, 0, none⟩)), (11, .int .i64 j5)] ∧ Holds (([] : List Res).flatMap Res.own) w w2 [.bx b1 3 [.int .i64 j6]] G)) ?_ ?_
  · refine WP_cond rfl (fun hc9 => ?_) (fun hc9 => ?_)
    · have ho8 := if_t hc9 ho8
      refine WP_seq ?_
      refine WP_seq ?_
      refine WP_region ?_
      refine XL_q rfl (qt_move rfl) rfl rfl ?_
      refine XL_q rfl (qt_geq rfl rfl) rfl rfl ?_
      refine WL_nil_seq ?_
      obtain ⟨o14, ho15, ho8⟩ := bind_some ho8
      obtain ⟨j10, j11, j12, j13⟩ := o14
      refine WP_join (M := fun a w2 => (Fr a 57 [(0, vp0), (9, .pointer (some ⟨b1, 0, none⟩)), (10, .int .i64 j10), (11, .int .i64 j11), (12, .int .i64 j12)] ∧ Holds (([] : List Res).flatMap Res.own) w w2 [.bx b1 3 [.int .i64 j13]] G)) ?_ ?_
      · refine WP_cond rfl (fun hc16 => ?_) (fun hc16 => ?_)
        · have ho15 := if_t hc16 ho15
          refine WP_seq ?_
          refine WP_region ?_
          refine XL_q rfl (qt_move rfl) rfl rfl ?_
          refine XL_q rfl (qt_move rfl) rfl rfl ?_
          obtain ⟨x17, hx18, ho15⟩ := bind_some ho15
          refine WL_call rfl rfl c113 (w_slices_medianAdjacentOrdered_int w2 G vp0 p0 (hp0) (IntKind.wrap .i64 (p1 + (IntKind.wrap .i64 ((IntKind.wrap .i64 (Int.tdiv (IntKind.wrap .i64 (p2 - p1)) 4)) * 1)))) b1 0 x17 hx18 H4.ctx) (by rfl) ?_
          rintro _ w19 ⟨rfl, H20⟩; refine ⟨_, rfl, ?_⟩
          have H21 : Holds (([] : List Res).flatMap Res.own) w w19 [.bx b1 3 [.int .i64 x17.1]] G := H4.calledN (Rs := [_]) H20
          refine XL_q rfl (qt_assign rfl) rfl rfl ?_
          refine WL_nil_seq ?_
          refine WP_seq ?_
          refine WP_region ?_
          refine XL_q rfl (qt_move rfl) rfl rfl ?_
          refine XL_q rfl (qt_move rfl) rfl rfl ?_
          obtain ⟨x22, hx23, ho15⟩ := bind_some ho15
          refine WL_call rfl rfl c113 (w_slices_medianAdjacentOrdered_int w19 G vp0 p0 (hp0) (IntKind.wrap .i64 (p1 + (IntKind.wrap .i64 ((IntKind.wrap .i64 (Int.tdiv (IntKind.wrap .i64 (p2 - p1)) 4)) * 2)))) b1 x17.1 x22 hx23 H21.ctx) (by rfl) ?_
          rintro _ w24 ⟨rfl, H25⟩; refine ⟨_, rfl, ?_⟩
          have H26 : Holds (([] : List Res).flatMap Res.own) w w24 [.bx b1 3 [.int .i64 x22.1]] G := H21.calledN (Rs := [_]) H25
          refine XL_q rfl (qt_assign rfl) rfl rfl ?_
          refine WL_nil_seq ?_
          refine WP_region ?_
          refine XL_q rfl (qt_move rfl) rfl rfl ?_
          refine XL_q rfl (qt_move rfl) rfl rfl ?_
          obtain ⟨x27, hx28, ho15⟩ := bind_some ho15
          refine WL_call rfl rfl c113 (w_slices_medianAdjacentOrdered_int w24 G vp0 p0 (hp0) (IntKind.wrap .i64 (p1 + (IntKind.wrap .i64 ((IntKind.wrap .i64 (Int.tdiv (IntKind.wrap .i64 (p2 - p1)) 4)) * 3)))) b1 x22.1 x27 hx28 H26.ctx) (by rfl) ?_
          rintro _ w29 ⟨rfl, H30⟩; refine ⟨_, rfl, ?_⟩
          have H31 : Holds (([] : List Res).flatMap Res.own) w w29 [.bx b1 3 [.int .i64 x27.1]] G := H26.calledN (Rs := [_]) H30
          refine XL_q rfl (qt_assign rfl) rfl rfl ?_
          refine WL_nil fun a ha => ?_
          obtain ⟨rfl, rfl, rfl, rfl⟩ := (by simpa only [Option.some.injEq, Prod.mk.injEq] using ho15 : _)
          exact nrm_seq (⟨ha.sub ⟨rfl, rfl, rfl, rfl, rfl, trivial⟩, H31⟩)
        · have ho15 := if_f hc16 ho15
          refine WP_skip fun a ha => ?_
          obtain ⟨rfl, rfl, rfl, rfl⟩ := (by simpa only [Option.some.injEq, Prod.mk.injEq] using ho15 : _)
          exact nrm_seq (⟨ha.sub ⟨rfl, rfl, rfl, rfl, rfl, trivial⟩, H4⟩)
      · intro a w32 hI33
        obtain ⟨ha, H34⟩ := hI33
        refine WP.app ?_ ha
        clear ha
        refine WP_region ?_
        refine XL_q rfl (qt_move rfl) rfl rfl ?_
        refine XL_q rfl (qt_move rfl) rfl rfl ?_
        refine XL_q rfl (qt_move rfl) rfl rfl ?_
        refine XL_q rfl (qt_move rfl) rfl rfl ?_
        obtain ⟨x35, hx36, ho8⟩ := bind_some ho8
        refine WL_call rfl rfl c114 (w_slices_medianOrdered_int w32 G vp0 p0 (hp0) j10 j11 j12 b1 j13 x35 hx36 H34.ctx) (by rfl) ?_
        rintro _ w37 ⟨rfl, H38⟩; refine ⟨_, rfl, ?_⟩
        have H39 : Holds (([] : List Res).flatMap Res.own) w w37 [.bx b1 3 [.int .i64 x35.1]] G := H34.calledN (Rs := [_]) H38
        refine XL_q rfl (qt_assign rfl) rfl rfl ?_
        refine WL_nil fun a ha => ?_
        obtain ⟨rfl, rfl⟩ := Option.some.inj ho8 |> Prod.mk.inj
        exact nrm_seq (⟨ha.sub ⟨rfl, rfl, trivial⟩, H39⟩)
    · have ho8 := if_f hc9 ho8
      refine WP_skip fun a ha => ?_
      obtain ⟨rfl, rfl⟩ := Option.some.inj ho8 |> Prod.mk.inj
      exact nrm_seq (⟨ha.sub ⟨rfl, rfl, trivial⟩, H4⟩)
  · intro a w40 hI41
    obtain ⟨ha, H42⟩ := hI41
    refine WP.app ?_ ha
    clear ha
    refine WP_seq ?_
    refine WP_region ?_
    have hB43 : Bx w40 b1 3 [.int .i64 j6] := Holds.bx (H42.pull 0)
    refine XL_load_bx u3 rfl hB43 rfl rfl rfl rfl ?_
    refine WL_nil_seq ?_
    refine WP_block ?_
    refine WP_seq ?_
    refine WP_region ?_
    refine XL_q rfl (qt_eql rfl rfl) rfl rfl ?_
    refine XL_q rfl (qt_assign rfl) rfl rfl ?_
    refine WL_nil_seq ?_
    refine WP_cond rfl (fun hc44 => ?_) (fun hc44 => ?_)
    · have h := if_t hc44 h
      refine WP_seq ?_
      refine WP_region ?_
      refine XL_q rfl (qt_move rfl) rfl rfl ?_
      refine XL_q rfl (qt_assign rfl) rfl rfl ?_
      refine XL_q rfl (qt_assign rfl) rfl rfl ?_
      refine WL_nil_seq ?_
      refine WP_ret fun a ha => ?_
      obtain rfl := Option.some.inj h
      have H45 : Holds (([] : List Res).flatMap Res.own) w w40 [] G := (H42.cut 0)
      exact ret_block (ret2 rfl ha rfl rfl ⟨rfl, H45⟩)
    · have h := if_f hc44 h
      refine WP_seq ?_
      refine WP_region ?_
      refine XL_q rfl (qt_eql rfl rfl) rfl rfl ?_
      refine XL_q rfl (qt_assign rfl) rfl rfl ?_
      refine WL_nil_seq ?_
      refine WP_cond rfl (fun hc46 => ?_) (fun hc46 => ?_)
      · have h := if_t hc46 h
        refine WP_seq ?_
        refine WP_region ?_
        refine XL_q rfl (qt_move rfl) rfl rfl ?_
        refine XL_q rfl (qt_assign rfl) rfl rfl ?_
        refine XL_q rfl (qt_assign rfl) rfl rfl ?_
        refine WL_nil_seq ?_
        refine WP_ret fun a ha => ?_
        obtain rfl := Option.some.inj h
        have H47 : Holds (([] : List Res).flatMap Res.own) w w40 [] G := (H42.cut 0)
        exact ret_block (ret2 rfl ha rfl rfl ⟨rfl, H47⟩)
      · have h := if_f hc46 h
        refine WP_seq ?_
        refine WP_region ?_
        refine XL_q rfl (qt_move rfl) rfl rfl ?_
        refine XL_q rfl (qt_assign rfl) rfl rfl ?_
        refine XL_q rfl (qt_assign rfl) rfl rfl ?_
        refine WL_nil_seq ?_
        refine WP_ret fun a ha => ?_
        obtain rfl := Option.some.inj h
        have H48 : Holds (([] : List Res).flatMap Res.own) w w40 [] G := (H42.cut 0)
        exact ret_block (ret2 rfl ha rfl rfl ⟨rfl, H48⟩)
theorem w_spec_l20Seated (w : World) (G : List Res) (bp0 : Nat) (vp0_0 : Value) (p0_0 : List Int) (hp0_0 : Has G (.int .u8) vp0_0 p0_0) (p0_1 : Int) (r : Int × Int × (List Int) × (List Int)) (h : spec_l20SeatedS p0_0 p0_1 = some r) (H : Ctx w ([.bx bp0 66 [vp0_0, .int .i64 p0_1]] ++ G)) : Calls Tryd.prog 80 #[.pointer (some ⟨bp0, 0, none⟩)] w fun e w' => ∃ (v1 : Value) (v2 : Value), e = .returned (.tuple #[.int .i64 r.2.1, v1, v2]) ∧ Holds (([.bx bp0 66 [vp0_0, .int .i64 p0_1]] : List Res).flatMap Res.own) w w' [.sl 3 (.int .i64) v1 r.2.2.1, .sl 3 (.int .i64) v2 r.2.2.2, .bx bp0 66 [vp0_0, .int .i64 r.1]] G := by
  have H : Holds (([.bx bp0 66 [vp0_0, .int .i64 p0_1]] : List Res).flatMap Res.own) w w [.bx bp0 66 [vp0_0, .int .i64 p0_1]] G := Holds.startN H
  refine calls_enter (args := [.pointer (some ⟨bp0, 0, none⟩)]) (n := 41) Tryd.func80 rfl rfl rfl ?_
  unfold spec_l20SeatedS at h
  refine WP_seq ?_
  refine WP_region ?_
  refine XL_q rfl (qt_assign rfl) rfl rfl ?_
  refine XL_q rfl (qt_assign rfl) rfl rfl ?_
  refine XL_q rfl (qt_assign rfl) rfl rfl ?_
  refine WL_nil_seq ?_
  refine WP_seq ?_
  refine WP_region ?_
  refine XL_q rfl (qt_move rfl) rfl rfl ?_
  obtain ⟨x1, hx2, h⟩ := bind_some h
  refine WL_call rfl rfl c71 (w_spec_l20Quarrels w G bp0 vp0_0 p0_0 (hp0_0) p0_1 9 x1 hx2 H.ctx) (by rfl) ?_
  rintro _ w3 ⟨v5, rfl, H4⟩; refine ⟨_, rfl, ?_⟩
  have H6 : Holds (([.bx bp0 66 [vp0_0, .int .i64 p0_1]] : List Res).flatMap Res.own) w w3 [.sl 3 (.int .i64) v5 x1.2.2, .bx bp0 66 [vp0_0, .int .i64 x1.1]] G := H.calledN (Rs := [_]) H4
  refine XL_q rfl (qt_move rfl) rfl rfl ?_
  refine XL_q rfl (qt_extract rfl rfl) rfl rfl ?_
  refine XL_q rfl (qt_extract rfl rfl) rfl rfl ?_
  refine XL_q rfl (qt_assign rfl) rfl rfl ?_
  refine XL_q rfl (qt_assign rfl) rfl rfl ?_
  refine WL_nil_seq ?_
  refine WP_seq ?_
  refine WP_region ?_
  refine XL_q rfl (qt_move rfl) rfl rfl ?_
  refine XL_q rfl (qt_move rfl) rfl rfl ?_
  obtain ⟨x7, hx8, h⟩ := bind_some h
  refine WL_call rfl rfl c58 (w_spec_SeatsFirst w3 ([.sl 3 (.int .i64) v5 x1.2.2, .bx bp0 66 [vp0_0, .int .i64 x1.1]] ++ G) x1.2.1 v5 x1.2.2 (Has.hd) x7 hx8 H6.ctx) (by rfl) ?_
  rintro _ w9 ⟨v11, rfl, H10⟩; refine ⟨_, rfl, ?_⟩
  have H12 : Holds (([.bx bp0 66 [vp0_0, .int .i64 p0_1]] : List Res).flatMap Res.own) w w9 [.sl 3 (.int .i64) v11 x7, .sl 3 (.int .i64) v5 x1.2.2, .bx bp0 66 [vp0_0, .int .i64 x1.1]] G := H6.calledN (Rs := []) H10
  refine XL_q rfl (qt_assign rfl) rfl rfl ?_
  refine WL_nil_seq ?_
  refine WP_seq ?_
  refine WP_seq ?_
  refine WP_region ?_
  refine XL_q rfl (qt_assign rfl) rfl rfl ?_
  refine WL_nil_seq ?_
  refine WP_block ?_
  obtain ⟨o16, ho17, h⟩ := bind_some h
  have H20 : Holds (([.bx bp0 66 [vp0_0, .int .i64 p0_1]] : List Res).flatMap Res.own) w w9 [.bx bp0 66 [vp0_0, .int .i64 x1.1], .sl 3 (.int .i64) v5 x1.2.2, .sl 3 (.int .i64) v11 x7] G := ((H12.pull 1).pull 2)
  refine fun a18 ha19 => wp_loop_fix (I := fun s a w2 => match s with | (s13, s14, s15) => ∃ vs13, Fr a 41 [(0, .pointer (some ⟨bp0, 0, none⟩)), (5, .int .i64 x1.2.1), (6, v5), (7, vs13), (8, .int .i64 s14)] ∧ Holds (([.bx bp0 66 [vp0_0, .int .i64 p0_1]] : List Res).flatMap Res.own) w w2 [.bx bp0 66 [vp0_0, .int .i64 s15], .sl 3 (.int .i64) v5 x1.2.2, .sl 3 (.int .i64) vs13 s13] G) (O := fun o e a w2 => match o with | (q0, q1) => e = .exit 0 ∧ ∃ vq0, Fr a 41 [(0, .pointer (some ⟨bp0, 0, none⟩)), (5, .int .i64 x1.2.1), (6, v5), (7, vq0)] ∧ Holds (([.bx bp0 66 [vp0_0, .int .i64 p0_1]] : List Res).flatMap Res.own) w w2 [.bx bp0 66 [vp0_0, .int .i64 q1], .sl 3 (.int .i64) v5 x1.2.2, .sl 3 (.int .i64) vq0 q0] G) ho17 ?_ ?_ ?_
  · exact ⟨v11, ha19.sub ⟨rfl, rfl, rfl, rfl, rfl, trivial⟩, H20⟩
  · clear ha19
    intro s o23 a w21 hs22 hI24
    obtain ⟨s13, s14, s15⟩ := s
    obtain ⟨vs13, ha, H25⟩ := hI24
    refine WP.app ?_ ha
    clear ha
    refine WP_seq ?_
    refine WP_seq ?_
    refine WP_region ?_
    refine XL_q rfl (qt_move rfl) rfl rfl ?_
    refine XL_q rfl (qt_move rfl) rfl rfl ?_
    refine XL_lenH H25.ctx (t := (.int .i64)) (Has.c (Has.c (Has.hd))) u27 rfl rfl rfl ?_
    refine XL_q rfl (qt_lss rfl rfl) rfl rfl ?_
    refine WL_nil_seq ?_
    refine WP_cond rfl (fun hc26 => ?_) (fun hc26 => ?_)
    · have hs22 := if_t hc26 hs22
      refine WP_skip_seq ?_
      refine WP_seq ?_
      refine WP_block ?_
      refine WP_seq ?_
      refine WP_region ?_
      refine XL_q rfl (qt_move rfl) rfl rfl ?_
      obtain ⟨x27, hx28, hs22⟩ := bind_some hs22
      refine WL_call rfl rfl c63 (w_spec_l20Rd__pick w21 ([.sl 3 (.int .i64) v5 x1.2.2, .sl 3 (.int .i64) vs13 s13] ++ G) bp0 vp0_0 p0_0 (hp0_0.c.c) s15 4 x27 hx28 H25.ctx) (by rfl) ?_
      rintro _ w29 ⟨rfl, H30⟩; refine ⟨_, rfl, ?_⟩
      have H31 : Holds (([.bx bp0 66 [vp0_0, .int .i64 p0_1]] : List Res).flatMap Res.own) w w29 [.bx bp0 66 [vp0_0, .int .i64 x27.1], .sl 3 (.int .i64) v5 x1.2.2, .sl 3 (.int .i64) vs13 s13] G := H25.calledN (Rs := [_]) H30
      refine XL_q rfl (qt_eql rfl rfl) rfl rfl ?_
      refine WL_nil_seq ?_
      refine WP_cond rfl (fun hc32 => ?_) (fun hc32 => ?_)
      · have hs22 := if_t hc32 hs22
        refine WP_region ?_
        refine XL_q rfl (qt_move rfl) rfl rfl ?_
        refine XL_q rfl (qt_move rfl) rfl rfl ?_
        refine XL_q rfl (qt_move rfl) rfl rfl ?_
        refine XL_q rfl (qt_move rfl) rfl rfl ?_
        refine XL_lenH H31.ctx (t := (.int .i64)) (Has.c (Has.c (Has.hd))) u27 rfl rfl rfl ?_
        refine XL_q rfl (qt_add rfl rfl) rfl rfl ?_
        obtain ⟨x33, hx34, hs22⟩ := bind_some hs22
        refine WL_call rfl rfl c63 (w_spec_l20Rd__pick w29 ([.sl 3 (.int .i64) v5 x1.2.2, .sl 3 (.int .i64) vs13 s13] ++ G) bp0 vp0_0 p0_0 (hp0_0.c.c) x27.1 (IntKind.wrap .i64 ((List.length s13 : Int) + 1)) x33 hx34 H31.ctx) (by rfl) ?_
        rintro _ w35 ⟨rfl, H36⟩; refine ⟨_, rfl, ?_⟩
        have H37 : Holds (([.bx bp0 66 [vp0_0, .int .i64 p0_1]] : List Res).flatMap Res.own) w w35 [.bx bp0 66 [vp0_0, .int .i64 x33.1], .sl 3 (.int .i64) v5 x1.2.2, .sl 3 (.int .i64) vs13 s13] G := H31.calledN (Rs := [_]) H36
        refine XL_q rfl (qt_move rfl) rfl rfl ?_
        obtain ⟨x38, hx39, hs22⟩ := bind_some hs22
        refine WL_call rfl rfl c63 (w_spec_l20Rd__pick w35 ([.sl 3 (.int .i64) v5 x1.2.2, .sl 3 (.int .i64) vs13 s13] ++ G) bp0 vp0_0 p0_0 (hp0_0.c.c) x33.1 20 x38 hx39 H37.ctx) (by rfl) ?_
        rintro _ w40 ⟨rfl, H41⟩; refine ⟨_, rfl, ?_⟩
        have H42 : Holds (([.bx bp0 66 [vp0_0, .int .i64 p0_1]] : List Res).flatMap Res.own) w w40 [.bx bp0 66 [vp0_0, .int .i64 x38.1], .sl 3 (.int .i64) v5 x1.2.2, .sl 3 (.int .i64) vs13 s13] G := H37.calledN (Rs := [_]) H41
        refine XL_q rfl (qt_quo rfl rfl (by decide)) rfl rfl ?_
        refine XL_q rfl (qt_sub rfl rfl) rfl rfl ?_
        obtain ⟨x43, hx44, hs22⟩ := bind_some hs22
        refine XL_indexH H42.ctx (Has.c (Has.c (Has.hd))) hx44 u27 i3 rfl rfl rfl rfl (fun b45 off46 cap47 hv48 => ?_)
        have H49 : Holds (([.bx bp0 66 [vp0_0, .int .i64 p0_1]] : List Res).flatMap Res.own) w w40 [.sl 3 (.int .i64) vs13 s13, .bx bp0 66 [vp0_0, .int .i64 x38.1], .sl 3 (.int .i64) v5 x1.2.2] G := H42.pull 2
        refine WL_storeH (fo := 0) (cs' := [.int .i64 (IntKind.wrap .i64 (x33.2 - (IntKind.wrap .i64 (Int.tdiv x38.2 19))))]) H49 hx44 hv48 (Upd.whole (Blt.int)) rfl il3 rfl rfl rfl rfl (fun w50 H51 => ?_)
        have H52 : Holds (([.bx bp0 66 [vp0_0, .int .i64 p0_1]] : List Res).flatMap Res.own) w w50 [.sl 3 (.int .i64) vs13 (List.set s13 (Int.toNat s14) (IntKind.wrap .i64 (x33.2 - (IntKind.wrap .i64 (Int.tdiv x38.2 19))))), .bx bp0 66 [vp0_0, .int .i64 x38.1], .sl 3 (.int .i64) v5 x1.2.2] G := H51
        refine WL_nil fun a ha => ?_
        refine nrm_block (nrm_seq (WP.app ?_ ha))
        refine WP_region ?_
        refine XL_q rfl (qt_move rfl) rfl rfl ?_
        refine XL_q rfl (qt_add rfl rfl) rfl rfl ?_
        refine XL_q rfl (qt_assign rfl) rfl rfl ?_
        refine WL_nil fun a ha => ?_
        obtain rfl := Option.some.inj hs22
        have H53 : Holds (([.bx bp0 66 [vp0_0, .int .i64 p0_1]] : List Res).flatMap Res.own) w w50 [.bx bp0 66 [vp0_0, .int .i64 x38.1], .sl 3 (.int .i64) v5 x1.2.2, .sl 3 (.int .i64) vs13 (List.set s13 (Int.toNat s14) (IntKind.wrap .i64 (x33.2 - (IntKind.wrap .i64 (Int.tdiv x38.2 19)))))] G := ((H52.pull 2).pull 2)
        exact ⟨rfl, vs13, ha.sub ⟨rfl, rfl, rfl, rfl, rfl, trivial⟩, H53⟩
      · have hs22 := if_f hc32 hs22
        refine WP_skip fun a ha => ?_
        refine nrm_block (nrm_seq (WP.app ?_ ha))
        refine WP_region ?_
        refine XL_q rfl (qt_move rfl) rfl rfl ?_
        refine XL_q rfl (qt_add rfl rfl) rfl rfl ?_
        refine XL_q rfl (qt_assign rfl) rfl rfl ?_
        refine WL_nil fun a ha => ?_
        obtain rfl := Option.some.inj hs22
        have H54 : Holds (([.bx bp0 66 [vp0_0, .int .i64 p0_1]] : List Res).flatMap Res.own) w w29 [.bx bp0 66 [vp0_0, .int .i64 x27.1], .sl 3 (.int .i64) v5 x1.2.2, .sl 3 (.int .i64) vs13 s13] G := (((H31.pull 2).pull 2).pull 2)
        exact ⟨rfl, vs13, ha.sub ⟨rfl, rfl, rfl, rfl, rfl, trivial⟩, H54⟩
    · have hs22 := if_f hc26 hs22
      refine WP_exit fun a ha => ?_
      obtain rfl := Option.some.inj hs22
      have H55 : Holds (([.bx bp0 66 [vp0_0, .int .i64 p0_1]] : List Res).flatMap Res.own) w w21 [.bx bp0 66 [vp0_0, .int .i64 s15], .sl 3 (.int .i64) v5 x1.2.2, .sl 3 (.int .i64) vs13 s13] G := (((H25.pull 2).pull 2).pull 2)
      exact exit_seq (⟨exit_ne, rfl, vs13, ha.sub ⟨rfl, rfl, rfl, rfl, trivial⟩, H55⟩)
  · intro e a18 w56 hO57
    obtain ⟨p58, p59⟩ := o16
    obtain ⟨rfl, hO61⟩ := hO57
    obtain ⟨vp58, ha, H60⟩ := hO61
    refine exit_block_eq (nrm_seq (WP.app ?_ ha))
    refine WP_seq ?_
    refine WP_region ?_
    refine XL_q rfl (qt_move rfl) rfl rfl ?_
    refine XL_q rfl (qt_move rfl) rfl rfl ?_
    refine XL_q rfl (qt_move rfl) rfl rfl ?_
    refine XL_q rfl (qt_assign rfl) rfl rfl ?_
    refine XL_q rfl (qt_assign rfl) rfl rfl ?_
    refine XL_q rfl (qt_assign rfl) rfl rfl ?_
    refine WL_nil_seq ?_
    refine WP_ret fun a ha => ?_
    obtain rfl := Option.some.inj h
    have H62 : Holds (([.bx bp0 66 [vp0_0, .int .i64 p0_1]] : List Res).flatMap Res.own) w w56 [.sl 3 (.int .i64) v5 x1.2.2, .sl 3 (.int .i64) vp58 p58, .bx bp0 66 [vp0_0, .int .i64 p59]] G := ((H60.pull 2).pull 2)
    exact ret3 rfl ha rfl rfl rfl ⟨v5, vp58, rfl, H62⟩
theorem w_spec_DrawSeatsOk (w : World) (G : List Res) (vp0 : Value) (p0 : List Int) (hp0 : HasRo G (.int .u8) vp0 p0) (r : Int × (List Int) × (List Int)) (h : spec_DrawSeatsOkS p0 = some r) (H : Ctx w G) : Calls Tryd.prog 60 #[vp0] w fun e w' => ∃ (v1 : Value) (v2 : Value), e = .returned (.tuple #[.int .i64 r.1, v1, v2]) ∧ Holds (([] : List Res).flatMap Res.own) w w' [.sl 3 (.int .i64) v1 r.2.1, .sl 3 (.int .i64) v2 r.2.2] G := by
  have H : Holds (([] : List Res).flatMap Res.own) w w [] G := Holds.startN H
  refine calls_enter (args := [vp0]) (n := 11) Tryd.func60 rfl rfl rfl ?_
  unfold spec_DrawSeatsOkS at h
  refine WP_seq ?_
  refine WP_region ?_
  refine XL_q rfl (qt_assign rfl) rfl rfl ?_
  refine XL_q rfl (qt_assign rfl) rfl rfl ?_
  refine XL_q rfl (qt_assign rfl) rfl rfl ?_
  refine WL_nil_seq ?_
  refine WP_seq ?_
  refine WP_region ?_
  refine XL_q rfl (qt_move rfl) rfl rfl ?_
  obtain ⟨x1, hx2, h⟩ := bind_some h
  refine WL_call rfl rfl c62 (w_spec_l20Open w G vp0 p0 (hp0) x1 hx2 H.ctx) (by rfl) ?_
  rintro _ w3 ⟨v5, b6, rfl, H4⟩; refine ⟨_, rfl, ?_⟩
  have H7 : Holds (([] : List Res).flatMap Res.own) w w3 [.ro (.int .u8) v5 x1.1, .bx b6 66 [v5, .int .i64 x1.2]] G := H.calledN (Rs := []) H4
  have H10 : Holds (([] : List Res).flatMap Res.own) w w3 [.bx b6 66 [v5, .int .i64 x1.2], .ro (.int .u8) v5 x1.1] G := H7.pull 1
  obtain ⟨x8, hx9, h⟩ := bind_some h
  refine WL_call rfl rfl c80 (w_spec_l20Seated w3 ([.ro (.int .u8) v5 x1.1] ++ G) b6 v5 x1.1 (HasRo.has (HasRo.hd)) x1.2 x8 hx9 H10.ctx) (by rfl) ?_
  rintro _ w11 ⟨v13, v14, rfl, H12⟩; refine ⟨_, rfl, ?_⟩
  have H15 : Holds (([] : List Res).flatMap Res.own) w w11 [.sl 3 (.int .i64) v13 x8.2.2.1, .sl 3 (.int .i64) v14 x8.2.2.2, .bx b6 66 [v5, .int .i64 x8.1], .ro (.int .u8) v5 x1.1] G := H10.calledN (Rs := [_]) H12
  refine XL_q rfl (qt_extract rfl rfl) rfl rfl ?_
  refine XL_q rfl (qt_extract rfl rfl) rfl rfl ?_
  refine XL_q rfl (qt_extract rfl rfl) rfl rfl ?_
  refine XL_q rfl (qt_assign rfl) rfl rfl ?_
  refine XL_q rfl (qt_assign rfl) rfl rfl ?_
  refine XL_q rfl (qt_assign rfl) rfl rfl ?_
  refine WL_nil_seq ?_
  refine WP_ret fun a ha => ?_
  obtain rfl := Option.some.inj h
  have H16 : Holds (([] : List Res).flatMap Res.own) w w11 [.sl 3 (.int .i64) v13 x8.2.2.1, .sl 3 (.int .i64) v14 x8.2.2.2] G := ((((H15.cut 2).cut 2).pull 1).pull 1)
  exact ret3 rfl ha rfl rfl rfl ⟨v13, v14, rfl, H16⟩
theorem w_spec_SeatsOk (w : World) (G : List Res) (p0 : Int) (vp1 : Value) (p1 : List Int) (hp1 : Has G (.int .i64) vp1 p1) (vp2 : Value) (p2 : List Int) (hp2 : Has G (.int .i64) vp2 p2) (r : Bool) (h : spec_SeatsOkS p0 p1 p2 = some r) (H : Ctx w G) : Calls Tryd.prog 61 #[.int .i64 p0, vp1, vp2] w fun e w' => e = .returned (.bool r) ∧ Holds (([] : List Res).flatMap Res.own) w w' [] G := by
  have H : Holds (([] : List Res).flatMap Res.own) w w [] G := Holds.startN H
  refine calls_enter (args := [.int .i64 p0, vp1, vp2]) (n := 56) Tryd.func61 rfl rfl rfl ?_
  unfold spec_SeatsOkS at h
  refine WP_seq ?_
  refine WP_region ?_
  refine XL_q rfl (qt_assign rfl) rfl rfl ?_
  refine WL_nil_seq ?_
  refine WP_seq ?_
  refine WP_seq ?_
  refine WP_still ?_
  refine XL_q rfl (qt_move rfl) rfl rfl ?_
  refine XL_q rfl (qt_move rfl) rfl rfl ?_
  obtain ⟨x1, hx2, h⟩ := bind_some h
  refine QL_call rfl rfl c27 (fun w' hb => (w_spec_QuarrelsValid w' G p0 vp1 p1 (hp1) x1 hx2 (H.grow hb).ctx).mono fun e w'' hK => ⟨hK.1, hK.2.bel⟩) (by rfl) ?_
  refine XL_q rfl (qt_not rfl) rfl rfl ?_
  refine XL_q rfl (qt_move rfl) rfl rfl ?_
  refine XL_join 5 18 (.bool ((!x1) || ((List.length p2 : Int) != p0))) ?_ (fun md hmd hk => ?_)
  rotate_left
  · obtain ⟨K, rfl⟩ := Md.quiet_of hmd
    rcases btf (!x1) with hc3 | hc3
    · skip
      refine XL_skip (w_skip rfl hc3) rfl rfl ?_
      refine XL_skip (w_skip rfl hc3) rfl rfl ?_
      refine XL_skip (w_skip rfl hc3) rfl rfl ?_
      refine XL_skip (w_skip rfl hc3) rfl rfl ?_
      refine XL_q rfl (qt_pickT rfl hc3 rfl) rfl rfl ?_
      exact hk _ (Cov.same (by rw [hc3]; rfl) (Cov.fresh rfl (Cov.fresh rfl (Cov.fresh rfl (Cov.fresh rfl (Cov.refl))))))
    · skip
      refine XL_q (w_take rfl hc3) (qt_move rfl) rfl rfl ?_
      refine XL_lenH H.ctx (t := (.int .i64)) (hp2) u27 (w_take rfl hc3) rfl rfl ?_
      refine XL_q (w_take rfl hc3) (qt_move rfl) rfl rfl ?_
      refine XL_q (w_take rfl hc3) (qt_neq rfl rfl) rfl rfl ?_
      refine XL_q rfl (qt_pickF rfl hc3 rfl) rfl rfl ?_
      exact hk _ (Cov.same (by rw [hc3]; rfl) (Cov.fresh rfl (Cov.fresh rfl (Cov.fresh rfl (Cov.fresh rfl (Cov.refl))))))
  refine QL_nil fun a ha w4 hb5 => ?_
  have H6 : Holds (([] : List Res).flatMap Res.own) w w4 [] G := H.grow hb5
  refine nrm_seq (WP.app ?_ ha)
  refine WP_cond rfl (fun hc7 => ?_) (fun hc7 => ?_)
  · have h := if_t hc7 h
    refine WP_seq ?_
    refine WP_region ?_
    refine XL_q rfl (qt_assign rfl) rfl rfl ?_
    refine WL_nil_seq ?_
    refine WP_ret fun a ha => ?_
    obtain rfl := Option.some.inj h
    exact ret_seq (ret1 rfl ha rfl ⟨rfl, H6⟩)
  · have h := if_f hc7 h
    refine WP_skip_seq ?_
    refine WP_seq ?_
    refine WP_seq ?_
    refine WP_region ?_
    refine XL_q rfl (qt_assign rfl) rfl rfl ?_
    refine WL_nil_seq ?_
    refine WP_block ?_
    obtain ⟨o9, ho10, h⟩ := bind_some h
    refine fun a11 ha12 => wp_loop_fix (I := fun s a w2 => match s with | s8 => (Fr a 56 [(0, .int .i64 p0), (1, vp1), (2, vp2), (7, .int .i64 s8)] ∧ Holds (([] : List Res).flatMap Res.own) w w2 [] G)) (O := fun o e a w2 => match o with | .inl _ => e = .exit 0 ∧ (Fr a 56 [] ∧ Holds (([] : List Res).flatMap Res.own) w w2 [] G) | .inr q0 => e = .ret ∧ (Fr a 56 [(6, .bool q0)] ∧ Holds (([] : List Res).flatMap Res.own) w w2 [] G)) ho10 ?_ ?_ ?_
    · exact ⟨ha12.sub ⟨rfl, rfl, rfl, rfl, trivial⟩, H6⟩
    · clear ha12
      intro s o15 a w13 hs14 hI16
      obtain ⟨s8, rfl⟩ : ∃ z, z = s := ⟨s, rfl⟩
      obtain ⟨ha, H17⟩ := hI16
      refine WP.app ?_ ha
      clear ha
      refine WP_seq ?_
      refine WP_seq ?_
      refine WP_region ?_
      refine XL_q rfl (qt_move rfl) rfl rfl ?_
      refine XL_q rfl (qt_move rfl) rfl rfl ?_
      refine XL_q rfl (qt_lss rfl rfl) rfl rfl ?_
      refine WL_nil_seq ?_
      refine WP_cond rfl (fun hc18 => ?_) (fun hc18 => ?_)
      · have hs14 := if_t hc18 hs14
        refine WP_skip_seq ?_
        refine WP_seq ?_
        refine WP_block ?_
        refine WP_seq ?_
        refine WP_seq ?_
        refine WP_still ?_
        refine XL_q rfl (qt_move rfl) rfl rfl ?_
        refine XL_q rfl (qt_move rfl) rfl rfl ?_
        obtain ⟨x19, hx20, hs14⟩ := bind_some hs14
        refine XL_indexH H17.ctx (hp2) hx20 u27 i3 rfl rfl rfl rfl (fun b21 off22 cap23 hv24 => ?_)
        obtain ⟨F25, hat26, hdup27⟩ := H17.at (hp2) hx20 hv24
        refine XL_load_int (k := .i64) u3 rfl hat26 rfl rfl rfl ?_
        refine XL_q rfl (qt_move rfl) rfl rfl ?_
        refine XL_q rfl (qt_sub rfl rfl) rfl rfl ?_
        obtain ⟨x28, hx29, hs14⟩ := bind_some hs14
        refine QL_call rfl rfl c70 (fun w' hb => (w_spec_l1In w' G x19 0 (IntKind.wrap .i64 (p0 - 1)) x28 hx29 (H17.grow hb).ctx).mono fun e w'' hK => ⟨hK.1, hK.2.bel⟩) (by rfl) ?_
        refine XL_q rfl (qt_not rfl) rfl rfl ?_
        refine QL_nil fun a ha w30 hb31 => ?_
        have H32 : Holds (([] : List Res).flatMap Res.own) w w30 [] G := H17.grow hb31
        refine nrm_seq (WP.app ?_ ha)
        refine WP_cond rfl (fun hc33 => ?_) (fun hc33 => ?_)
        · have hs14 := if_t hc33 hs14
          refine WP_seq ?_
          refine WP_region ?_
          refine XL_q rfl (qt_assign rfl) rfl rfl ?_
          refine WL_nil_seq ?_
          refine WP_ret fun a ha => ?_
          obtain rfl := Option.some.inj hs14
          exact ret_seq (ret_block (ret_seq (⟨ret_ne, rfl, ha.sub ⟨rfl, trivial⟩, H32⟩)))
        · have hs14 := if_f hc33 hs14
          refine WP_skip_seq ?_
          refine WP_seq ?_
          refine WP_region ?_
          refine XL_q rfl (qt_assign rfl) rfl rfl ?_
          refine WL_nil_seq ?_
          refine WP_block ?_
          obtain ⟨o35, ho36, hs14⟩ := bind_some hs14
          refine fun a37 ha38 => wp_loop_fix (I := fun s a w2 => match s with | s34 => (Fr a 56 [(0, .int .i64 p0), (1, vp1), (2, vp2), (7, .int .i64 s8), (8, .int .i64 s34)] ∧ Holds (([] : List Res).flatMap Res.own) w w2 [] G)) (O := fun o e a w2 => match o with | .inl _ => e = .exit 2 ∧ (Fr a 56 [(0, .int .i64 p0), (1, vp1), (2, vp2), (7, .int .i64 s8)] ∧ Holds (([] : List Res).flatMap Res.own) w w2 [] G) | .inr q0 => e = .ret ∧ (Fr a 56 [(6, .bool q0)] ∧ Holds (([] : List Res).flatMap Res.own) w w2 [] G)) ho36 ?_ ?_ ?_
          · exact ⟨ha38.sub ⟨rfl, rfl, rfl, rfl, rfl, trivial⟩, H32⟩
          · clear ha38
            intro s o41 a w39 hs40 hI42
            obtain ⟨s34, rfl⟩ : ∃ z, z = s := ⟨s, rfl⟩
            obtain ⟨ha, H43⟩ := hI42
            refine WP.app ?_ ha
            clear ha
            refine WP_seq ?_
            refine WP_seq ?_
            refine WP_region ?_
            refine XL_q rfl (qt_move rfl) rfl rfl ?_
            refine XL_q rfl (qt_move rfl) rfl rfl ?_
            refine XL_q rfl (qt_lss rfl rfl) rfl rfl ?_
            refine WL_nil_seq ?_
            refine WP_cond rfl (fun hc44 => ?_) (fun hc44 => ?_)
            · have hs40 := if_t hc44 hs40
              refine WP_skip_seq ?_
              refine WP_seq ?_
              refine WP_block ?_
              refine WP_seq ?_
              refine WP_quiet (by kernel_rfl) (by kernel_rfl) ?_
              refine XL_q rfl (qt_move rfl) rfl rfl ?_
              refine XL_q rfl (qt_move rfl) rfl rfl ?_
              obtain ⟨x45, hx46, hs40⟩ := bind_some hs40
              refine XL_indexH H43.ctx (hp1) hx46 u27 i3 rfl rfl rfl rfl (fun b47 off48 cap49 hv50 => ?_)
              obtain ⟨F51, hat52, hdup53⟩ := H43.at (hp1) hx46 hv50
              refine XL_load_int (k := .i64) u3 rfl hat52 rfl rfl rfl ?_
              refine XL_q rfl (qt_move rfl) rfl rfl ?_
              obtain ⟨x54, hx55, hs40⟩ := bind_some hs40
              refine XL_q rfl (qt_shrO rfl rfl hx55) rfl rfl ?_
              refine XL_q rfl (qt_rem rfl rfl (by decide)) rfl rfl ?_
              refine XL_q rfl (qt_eql rfl rfl) rfl rfl ?_
              refine XL_q rfl (qt_move rfl) rfl rfl ?_
              obtain ⟨b56, hg57, hs40⟩ := bind_some hs40
              refine XL_join 10 55 (.bool b56) ?_ (fun md hmd hk => ?_)
              rotate_left
              · obtain ⟨K, rfl⟩ := Md.quiet_of hmd
                rcases btf ((Int.tmod x54 2) == 1) with hc58 | hc58
                · skip
                  have hg57 := if_t hc58 hg57
                  refine XL_q (w_take rfl hc58) (qt_move rfl) rfl rfl ?_
                  refine XL_q (w_take rfl hc58) (qt_move rfl) rfl rfl ?_
                  obtain ⟨x59, hx60, hg57⟩ := bind_some hg57
                  refine XL_indexH H43.ctx (hp2) hx60 u27 i3 (w_take rfl hc58) rfl rfl rfl (fun b61 off62 cap63 hv64 => ?_)
                  obtain ⟨F65, hat66, hdup67⟩ := H43.at (hp2) hx60 hv64
                  refine XL_load_int (k := .i64) u3 rfl hat66 (w_take rfl hc58) rfl rfl ?_
                  refine XL_q (w_take rfl hc58) (qt_move rfl) rfl rfl ?_
                  refine XL_q (w_take rfl hc58) (qt_move rfl) rfl rfl ?_
                  obtain ⟨x68, hx69, hg57⟩ := bind_some hg57
                  refine XL_indexH H43.ctx (hp2) hx69 u27 i3 (w_take rfl hc58) rfl rfl rfl (fun b70 off71 cap72 hv73 => ?_)
                  obtain ⟨F74, hat75, hdup76⟩ := H43.at (hp2) hx69 hv73
                  refine XL_load_int (k := .i64) u3 rfl hat75 (w_take rfl hc58) rfl rfl ?_
                  refine XL_q (w_take rfl hc58) (qt_eql rfl rfl) rfl rfl ?_
                  refine XL_q rfl (qt_pickT rfl hc58 rfl) rfl rfl ?_
                  exact hk _ (Cov.same (vb hg57) (Cov.fresh rfl (Cov.fresh rfl (Cov.fresh rfl (Cov.fresh rfl (Cov.fresh rfl (Cov.fresh rfl (Cov.fresh rfl (Cov.fresh rfl (Cov.fresh rfl (Cov.refl)))))))))))
                · skip
                  refine XL_skip (w_skip rfl hc58) rfl rfl ?_
                  refine XL_skip (w_skip rfl hc58) rfl rfl ?_
                  refine XL_skip (w_skip rfl hc58) rfl rfl ?_
                  refine XL_skip (w_skip rfl hc58) rfl rfl ?_
                  refine XL_skip (w_skip rfl hc58) rfl rfl ?_
                  refine XL_skip (w_skip rfl hc58) rfl rfl ?_
                  refine XL_skip (w_skip rfl hc58) rfl rfl ?_
                  refine XL_skip (w_skip rfl hc58) rfl rfl ?_
                  refine XL_skip (w_skip rfl hc58) rfl rfl ?_
                  refine XL_q rfl (qt_pickF rfl hc58 rfl) rfl rfl ?_
                  exact hk _ (Cov.same (vb (if_f hc58 hg57)) (Cov.fresh rfl (Cov.fresh rfl (Cov.fresh rfl (Cov.fresh rfl (Cov.fresh rfl (Cov.fresh rfl (Cov.fresh rfl (Cov.fresh rfl (Cov.fresh rfl (Cov.refl)))))))))))
              refine QL_nil fun a ha w77 hb78 => ?_
              have H79 : Holds (([] : List Res).flatMap Res.own) w w77 [] G := H43.grow hb78
              refine nrm_seq (WP.app ?_ ha)
              refine WP_cond rfl (fun hc80 => ?_) (fun hc80 => ?_)
              · have hs40 := if_t hc80 hs40
                refine WP_seq ?_
                refine WP_region ?_
                refine XL_q rfl (qt_assign rfl) rfl rfl ?_
                refine WL_nil_seq ?_
                refine WP_ret fun a ha => ?_
                obtain rfl := Option.some.inj hs40
                exact ret_block (ret_seq (⟨ret_ne, rfl, ha.sub ⟨rfl, trivial⟩, H79⟩))
              · have hs40 := if_f hc80 hs40
                refine WP_skip fun a ha => ?_
                refine nrm_block (nrm_seq (WP.app ?_ ha))
                refine WP_region ?_
                refine XL_q rfl (qt_move rfl) rfl rfl ?_
                refine XL_q rfl (qt_add rfl rfl) rfl rfl ?_
                refine XL_q rfl (qt_assign rfl) rfl rfl ?_
                refine WL_nil fun a ha => ?_
                obtain rfl := Option.some.inj hs40
                exact ⟨rfl, ha.sub ⟨rfl, rfl, rfl, rfl, rfl, trivial⟩, H79⟩
            · have hs40 := if_f hc44 hs40
              refine WP_exit fun a ha => ?_
              obtain rfl := Option.some.inj hs40
              exact exit_seq (⟨exit_ne, rfl, ha.sub ⟨rfl, rfl, rfl, rfl, trivial⟩, H43⟩)
          · intro e a37 w81 hO82
            rcases o35 with o35 | o35
            · skip
              obtain ⟨rfl, hO84⟩ := hO82
              obtain ⟨ha, H83⟩ := hO84
              refine exit_block_eq (nrm_block (nrm_seq (WP.app ?_ ha)))
              refine WP_region ?_
              refine XL_q rfl (qt_move rfl) rfl rfl ?_
              refine XL_q rfl (qt_add rfl rfl) rfl rfl ?_
              refine XL_q rfl (qt_assign rfl) rfl rfl ?_
              refine WL_nil fun a ha => ?_
              obtain rfl := Option.some.inj hs14
              exact ⟨rfl, ha.sub ⟨rfl, rfl, rfl, rfl, trivial⟩, H83⟩
            · skip
              obtain ⟨p85, rfl⟩ : ∃ z, z = o35 := ⟨o35, rfl⟩
              obtain ⟨rfl, hO87⟩ := hO82
              obtain ⟨ha, H86⟩ := hO87
              obtain rfl := Option.some.inj hs14
              exact ret_block (ret_block (ret_seq (⟨ret_ne, rfl, ha.sub ⟨rfl, trivial⟩, H86⟩)))
      · have hs14 := if_f hc18 hs14
        refine WP_exit fun a ha => ?_
        obtain rfl := Option.some.inj hs14
        exact exit_seq (⟨exit_ne, rfl, ha.sub trivial, H17⟩)
    · intro e a11 w88 hO89
      rcases o9 with o9 | o9
      · skip
        obtain ⟨rfl, hO91⟩ := hO89
        obtain ⟨ha, H90⟩ := hO91
        refine exit_block_eq (nrm_seq (WP.app ?_ ha))
        refine WP_seq ?_
        refine WP_region ?_
        refine XL_q rfl (qt_assign rfl) rfl rfl ?_
        refine WL_nil_seq ?_
        refine WP_ret fun a ha => ?_
        obtain rfl := Option.some.inj h
        exact ret1 rfl ha rfl ⟨rfl, H90⟩
      · skip
        obtain ⟨p92, rfl⟩ : ∃ z, z = o9 := ⟨o9, rfl⟩
        obtain ⟨rfl, hO94⟩ := hO89
        obtain ⟨ha, H93⟩ := hO94
        obtain rfl := Option.some.inj h
        exact ret_block (ret_seq (ret1 rfl ha rfl ⟨rfl, H93⟩))
theorem w_spec_DrawSeatsMany (w : World) (G : List Res) (vp0 : Value) (p0 : List Int) (hp0 : HasRo G (.int .u8) vp0 p0) (r : (List Int)) (h : spec_DrawSeatsManyS p0 = some r) (H : Ctx w G) : Calls Tryd.prog 53 #[vp0] w fun e w' => ∃ (v1 : Value), e = .returned (v1) ∧ Holds (([] : List Res).flatMap Res.own) w w' [.sl 3 (.int .i64) v1 r] G := by
  have H : Holds (([] : List Res).flatMap Res.own) w w [] G := Holds.startN H
  refine calls_enter (args := [vp0]) (n := 14) Tryd.func53 rfl rfl rfl ?_
  unfold spec_DrawSeatsManyS at h
  refine WP_seq ?_
  refine WP_region ?_
  refine XL_q rfl (qt_assign rfl) rfl rfl ?_
  refine WL_nil_seq ?_
  refine WP_seq ?_
  refine WP_region ?_
  refine XL_q rfl (qt_move rfl) rfl rfl ?_
  obtain ⟨x1, hx2, h⟩ := bind_some h
  refine WL_call rfl rfl c62 (w_spec_l20Open w G vp0 p0 (hp0) x1 hx2 H.ctx) (by rfl) ?_
  rintro _ w3 ⟨v5, b6, rfl, H4⟩; refine ⟨_, rfl, ?_⟩
  have H7 : Holds (([] : List Res).flatMap Res.own) w w3 [.ro (.int .u8) v5 x1.1, .bx b6 66 [v5, .int .i64 x1.2]] G := H.calledN (Rs := []) H4
  have H10 : Holds (([] : List Res).flatMap Res.own) w w3 [.bx b6 66 [v5, .int .i64 x1.2], .ro (.int .u8) v5 x1.1] G := H7.pull 1
  obtain ⟨x8, hx9, h⟩ := bind_some h
  refine WL_call rfl rfl c80 (w_spec_l20Seated w3 ([.ro (.int .u8) v5 x1.1] ++ G) b6 v5 x1.1 (HasRo.has (HasRo.hd)) x1.2 x8 hx9 H10.ctx) (by rfl) ?_
  rintro _ w11 ⟨v13, v14, rfl, H12⟩; refine ⟨_, rfl, ?_⟩
  have H15 : Holds (([] : List Res).flatMap Res.own) w w11 [.sl 3 (.int .i64) v13 x8.2.2.1, .sl 3 (.int .i64) v14 x8.2.2.2, .bx b6 66 [v5, .int .i64 x8.1], .ro (.int .u8) v5 x1.1] G := H10.calledN (Rs := [_]) H12
  refine XL_q rfl (qt_move rfl) rfl rfl ?_
  refine XL_q rfl (qt_extract rfl rfl) rfl rfl ?_
  refine XL_q rfl (qt_extract rfl rfl) rfl rfl ?_
  refine XL_q rfl (qt_extract rfl rfl) rfl rfl ?_
  refine XL_q rfl (qt_assign rfl) rfl rfl ?_
  refine XL_q rfl (qt_assign rfl) rfl rfl ?_
  refine XL_q rfl (qt_assign rfl) rfl rfl ?_
  refine WL_nil_seq ?_
  refine WP_seq ?_
  refine WP_region ?_
  refine XL_q rfl (qt_move rfl) rfl rfl ?_
  refine XL_q rfl (qt_assign rfl) rfl rfl ?_
  refine WL_nil_seq ?_
  refine WP_ret fun a ha => ?_
  obtain rfl := Option.some.inj h
  have H16 : Holds (([] : List Res).flatMap Res.own) w w11 [.sl 3 (.int .i64) v14 x8.2.2.2] G := (((H15.cut 0).cut 1).cut 1)
  exact ret1 rfl ha rfl ⟨v14, rfl, H16⟩
theorem w_spec_l1Has (w : World) (G : List Res) (vp0 : Value) (p0 : List Int) (hp0 : Has G (.int .i64) vp0 p0) (p1 : Int) (r : Bool) (h : spec_l1HasS p0 p1 = some r) (H : Ctx w G) : Calls Tryd.prog 84 #[vp0, .int .i64 p1] w fun e w' => e = .returned (.bool r) ∧ Holds (([] : List Res).flatMap Res.own) w w' [] G := by
  have H : Holds (([] : List Res).flatMap Res.own) w w [] G := Holds.startN H
  refine calls_enter (args := [vp0, .int .i64 p1]) (n := 18) Tryd.func84 rfl rfl rfl ?_
  unfold spec_l1HasS at h
  refine WP_seq ?_
  refine WP_region ?_
  refine XL_q rfl (qt_assign rfl) rfl rfl ?_
  refine WL_nil_seq ?_
  refine WP_seq ?_
  refine WP_seq ?_
  refine WP_region ?_
  refine XL_q rfl (qt_assign rfl) rfl rfl ?_
  refine WL_nil_seq ?_
  refine WP_block ?_
  obtain ⟨o2, ho3, h⟩ := bind_some h
  refine fun a4 ha5 => wp_loop_fix (I := fun s a w2 => match s with | s1 => (Fr a 18 [(0, vp0), (1, .int .i64 p1), (5, .int .i64 s1)] ∧ Holds (([] : List Res).flatMap Res.own) w w2 [] G)) (O := fun o e a w2 => match o with | .inl _ => e = .exit 0 ∧ (Fr a 18 [] ∧ Holds (([] : List Res).flatMap Res.own) w w2 [] G) | .inr q0 => e = .ret ∧ (Fr a 18 [(4, .bool q0)] ∧ Holds (([] : List Res).flatMap Res.own) w w2 [] G)) ho3 ?_ ?_ ?_
  · exact ⟨ha5.sub ⟨rfl, rfl, rfl, trivial⟩, H⟩
  · clear ha5
    intro s o8 a w6 hs7 hI9
    obtain ⟨s1, rfl⟩ : ∃ z, z = s := ⟨s, rfl⟩
    obtain ⟨ha, H10⟩ := hI9
    refine WP.app ?_ ha
    clear ha
    refine WP_seq ?_
    refine WP_seq ?_
    refine WP_region ?_
    refine XL_q rfl (qt_move rfl) rfl rfl ?_
    refine XL_q rfl (qt_move rfl) rfl rfl ?_
    refine XL_lenH H10.ctx (t := (.int .i64)) (hp0) u27 rfl rfl rfl ?_
    refine XL_q rfl (qt_lss rfl rfl) rfl rfl ?_
    refine WL_nil_seq ?_
    refine WP_cond rfl (fun hc11 => ?_) (fun hc11 => ?_)
    · have hs7 := if_t hc11 hs7
      refine WP_skip_seq ?_
      refine WP_seq ?_
      refine WP_block ?_
      refine WP_seq ?_
      refine WP_region ?_
      refine XL_q rfl (qt_move rfl) rfl rfl ?_
      refine XL_q rfl (qt_move rfl) rfl rfl ?_
      obtain ⟨x12, hx13, hs7⟩ := bind_some hs7
      refine XL_indexH H10.ctx (hp0) hx13 u27 i3 rfl rfl rfl rfl (fun b14 off15 cap16 hv17 => ?_)
      obtain ⟨F18, hat19, hdup20⟩ := H10.at (hp0) hx13 hv17
      refine XL_load_int (k := .i64) u3 rfl hat19 rfl rfl rfl ?_
      refine XL_q rfl (qt_move rfl) rfl rfl ?_
      refine XL_q rfl (qt_eql rfl rfl) rfl rfl ?_
      refine WL_nil_seq ?_
      refine WP_cond rfl (fun hc21 => ?_) (fun hc21 => ?_)
      · have hs7 := if_t hc21 hs7
        refine WP_seq ?_
        refine WP_region ?_
        refine XL_q rfl (qt_assign rfl) rfl rfl ?_
        refine WL_nil_seq ?_
        refine WP_ret fun a ha => ?_
        obtain rfl := Option.some.inj hs7
        exact ret_block (ret_seq (⟨ret_ne, rfl, ha.sub ⟨rfl, trivial⟩, H10⟩))
      · have hs7 := if_f hc21 hs7
        refine WP_skip fun a ha => ?_
        refine nrm_block (nrm_seq (WP.app ?_ ha))
        refine WP_region ?_
        refine XL_q rfl (qt_move rfl) rfl rfl ?_
        refine XL_q rfl (qt_add rfl rfl) rfl rfl ?_
        refine XL_q rfl (qt_assign rfl) rfl rfl ?_
        refine WL_nil fun a ha => ?_
        obtain rfl := Option.some.inj hs7
        exact ⟨rfl, ha.sub ⟨rfl, rfl, rfl, trivial⟩, H10⟩
    · have hs7 := if_f hc11 hs7
      refine WP_exit fun a ha => ?_
      obtain rfl := Option.some.inj hs7
      exact exit_seq (⟨exit_ne, rfl, ha.sub trivial, H10⟩)
  · intro e a4 w22 hO23
    rcases o2 with o2 | o2
    · skip
      obtain ⟨rfl, hO25⟩ := hO23
      obtain ⟨ha, H24⟩ := hO25
      refine exit_block_eq (nrm_seq (WP.app ?_ ha))
      refine WP_seq ?_
      refine WP_region ?_
      refine XL_q rfl (qt_assign rfl) rfl rfl ?_
      refine WL_nil_seq ?_
      refine WP_ret fun a ha => ?_
      obtain rfl := Option.some.inj h
      exact ret1 rfl ha rfl ⟨rfl, H24⟩
    · skip
      obtain ⟨p26, rfl⟩ : ∃ z, z = o2 := ⟨o2, rfl⟩
      obtain ⟨rfl, hO28⟩ := hO23
      obtain ⟨ha, H27⟩ := hO28
      obtain rfl := Option.some.inj h
      exact ret_block (ret_seq (ret1 rfl ha rfl ⟨rfl, H27⟩))
theorem w_spec_SeatsMany (w : World) (G : List Res) (vp0 : Value) (p0 : List Int) (hp0 : Has G (.int .i64) vp0 p0) (r : Int) (h : spec_SeatsManyS p0 = some r) (H : Ctx w G) : Calls Tryd.prog 55 #[vp0] w fun e w' => e = .returned (.int .i64 r) ∧ Holds (([] : List Res).flatMap Res.own) w w' [] G := by
  have H : Holds (([] : List Res).flatMap Res.own) w w [] G := Holds.startN H
  refine calls_enter (args := [vp0]) (n := 23) Tryd.func55 rfl rfl rfl ?_
  unfold spec_SeatsManyS at h
  refine WP_seq ?_
  refine WP_region ?_
  refine XL_q rfl (qt_assign rfl) rfl rfl ?_
  refine WL_nil_seq ?_
  refine WP_seq ?_
  refine WP_region ?_
  refine XL_q rfl (qt_assign rfl) rfl rfl ?_
  refine WL_nil_seq ?_
  refine WP_seq ?_
  refine WP_seq ?_
  refine WP_region ?_
  refine XL_q rfl (qt_assign rfl) rfl rfl ?_
  refine WL_nil_seq ?_
  refine WP_block ?_
  obtain ⟨o3, ho4, h⟩ := bind_some h
  refine fun a5 ha6 => wp_loop_fix (I := fun s a w2 => match s with | (s1, s2) => (Fr a 23 [(0, vp0), (3, .int .i64 s1), (4, .int .i64 s2)] ∧ Holds (([] : List Res).flatMap Res.own) w w2 [] G)) (O := fun o e a w2 => match o with | q0 => e = .exit 0 ∧ (Fr a 23 [(3, .int .i64 q0)] ∧ Holds (([] : List Res).flatMap Res.own) w w2 [] G)) ho4 ?_ ?_ ?_
  · exact ⟨ha6.sub ⟨rfl, rfl, rfl, trivial⟩, H⟩
  · clear ha6
    intro s o9 a w7 hs8 hI10
    obtain ⟨s1, s2⟩ := s
    obtain ⟨ha, H11⟩ := hI10
    refine WP.app ?_ ha
    clear ha
    refine WP_seq ?_
    refine WP_seq ?_
    refine WP_region ?_
    refine XL_q rfl (qt_move rfl) rfl rfl ?_
    refine XL_q rfl (qt_move rfl) rfl rfl ?_
    refine XL_lenH H11.ctx (t := (.int .i64)) (hp0) u27 rfl rfl rfl ?_
    refine XL_q rfl (qt_lss rfl rfl) rfl rfl ?_
    refine WL_nil_seq ?_
    refine WP_cond rfl (fun hc12 => ?_) (fun hc12 => ?_)
    · have hs8 := if_t hc12 hs8
      refine WP_skip_seq ?_
      refine WP_seq ?_
      refine WP_block ?_
      refine WP_seq ?_
      refine WP_quiet (by kernel_rfl) (by kernel_rfl) ?_
      refine XL_q rfl (qt_move rfl) rfl rfl ?_
      refine XL_q rfl (qt_move rfl) rfl rfl ?_
      obtain ⟨x13, hx14, hs8⟩ := bind_some hs8
      refine XL_sliceH H11.ctx (hp0) hx14 u27 i3 rfl ⟨_, rfl⟩ rfl rfl rfl ?_
      refine XL_q rfl (qt_move rfl) rfl rfl ?_
      refine XL_q rfl (qt_move rfl) rfl rfl ?_
      obtain ⟨x15, hx16, hs8⟩ := bind_some hs8
      refine XL_indexH H11.ctx (hp0) hx16 u27 i3 rfl rfl rfl rfl (fun b17 off18 cap19 hv20 => ?_)
      obtain ⟨F21, hat22, hdup23⟩ := H11.at (hp0) hx16 hv20
      refine XL_load_int (k := .i64) u3 rfl hat22 rfl rfl rfl ?_
      obtain ⟨x24, hx25, hs8⟩ := bind_some hs8
      refine QL_call rfl rfl c84 (fun w' hb => (w_spec_l1Has w' G (subV (Ty.size (.int .i64)) vp0 (Int.toNat 0) (Int.toNat s2)) x13 (Has.sub (hp0) hx14) x15 x24 hx25 (H11.grow hb).ctx).mono fun e w'' hK => ⟨hK.1, hK.2.bel⟩) (by rfl) ?_
      refine XL_q rfl (qt_not rfl) rfl rfl ?_
      refine QL_nil fun a ha w26 hb27 => ?_
      have H28 : Holds (([] : List Res).flatMap Res.own) w w26 [] G := H11.grow hb27
      refine nrm_seq (WP.app ?_ ha)
      refine WP_cond rfl (fun hc29 => ?_) (fun hc29 => ?_)
      · have hs8 := if_t hc29 hs8
        refine WP_region ?_
        refine XL_q rfl (qt_move rfl) rfl rfl ?_
        refine XL_q rfl (qt_add rfl rfl) rfl rfl ?_
        refine XL_q rfl (qt_assign rfl) rfl rfl ?_
        refine WL_nil fun a ha => ?_
        refine nrm_block (nrm_seq (WP.app ?_ ha))
        refine WP_region ?_
        refine XL_q rfl (qt_move rfl) rfl rfl ?_
        refine XL_q rfl (qt_add rfl rfl) rfl rfl ?_
        refine XL_q rfl (qt_assign rfl) rfl rfl ?_
        refine WL_nil fun a ha => ?_
        obtain rfl := Option.some.inj hs8
        exact ⟨rfl, ha.sub ⟨rfl, rfl, rfl, trivial⟩, H28⟩
      · have hs8 := if_f hc29 hs8
        refine WP_skip fun a ha => ?_
        refine nrm_block (nrm_seq (WP.app ?_ ha))
        refine WP_region ?_
        refine XL_q rfl (qt_move rfl) rfl rfl ?_
        refine XL_q rfl (qt_add rfl rfl) rfl rfl ?_
        refine XL_q rfl (qt_assign rfl) rfl rfl ?_
        refine WL_nil fun a ha => ?_
        obtain rfl := Option.some.inj hs8
        exact ⟨rfl, ha.sub ⟨rfl, rfl, rfl, trivial⟩, H28⟩
    · have hs8 := if_f hc12 hs8
      refine WP_exit fun a ha => ?_
      obtain rfl := Option.some.inj hs8
      exact exit_seq (⟨exit_ne, rfl, ha.sub ⟨rfl, trivial⟩, H11⟩)
  · intro e a5 w30 hO31
    obtain ⟨p32, rfl⟩ : ∃ z, z = o3 := ⟨o3, rfl⟩
    obtain ⟨rfl, hO34⟩ := hO31
    obtain ⟨ha, H33⟩ := hO34
    refine exit_block_eq (nrm_seq (WP.app ?_ ha))
    refine WP_seq ?_
    refine WP_region ?_
    refine XL_q rfl (qt_move rfl) rfl rfl ?_
    refine XL_q rfl (qt_assign rfl) rfl rfl ?_
    refine WL_nil_seq ?_
    refine WP_ret fun a ha => ?_
    obtain rfl := Option.some.inj h
    exact ret1 rfl ha rfl ⟨rfl, H33⟩
end Go.Proofs.YtidhmbmollkhdaaDoor
