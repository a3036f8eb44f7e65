/- The walks: each Go function computes its shallow function. Printed by a program. -/
import Derived.Test.YtidhmbmollkhdaaDoorWS61
set_option linter.unusedVariables false
set_option maxRecDepth 10000
namespace Go.Proofs.YtidhmbmollkhdaaDoor
open Go Go.RowKit
theorem w_impl_atPeace (w : World) (G : List Res) (vp0 : Value) (p0 : List Int) (hp0 : Has G (.int .i64) vp0 p0) (p1 : Int) (r : Bool) (h : impl_atPeaceS p0 p1 = some r) (H : Ctx w G) : Calls Tryd.prog 75 #[vp0, .int .i64 p1] w fun e w' => e = .returned (.bool r) ∧ Holds (([] : List Res).flatMap Res.own) w w' [] G := by
  have H : Holds (([] : List Res).flatMap Res.own) w w [] G := Holds.startN H
  refine calls_enter (args := [vp0, .int .i64 p1]) (n := 22) Tryd.func75 rfl rfl rfl ?_
  unfold impl_atPeaceS at h
  refine WP_seq ?_
  refine WP_region ?_
  refine XL_q rfl (qt_assign rfl) rfl rfl ?_
  refine WL_nil_seq ?_
  refine WP_seq ?_
  refine WP_seq ?_
  refine WP_region ?_
  refine XL_q rfl (qt_move rfl) rfl rfl ?_
  obtain ⟨x1, hx2, h⟩ := bind_some h
  refine WL_call rfl rfl c72 (w_impl_membersOf w G p1 x1 hx2 H.ctx) (by rfl) ?_
  rintro _ w3 ⟨v5, rfl, H4⟩; refine ⟨_, rfl, ?_⟩
  have H6 : Holds (([] : List Res).flatMap Res.own) w w3 [.sl 3 (.int .i64) v5 x1] G := H.calledN (Rs := []) H4
  refine XL_lenH H6.ctx (t := (.int .i64)) (Has.hd) u27 rfl rfl rfl ?_
  refine XL_q rfl (qt_move rfl) rfl rfl ?_
  refine WL_nil_seq ?_
  refine WP_block ?_
  obtain ⟨o8, ho9, h⟩ := bind_some h
  refine fun a10 ha11 => wp_loop_fix (I := fun s a w2 => match s with | s7 => (Fr a 22 [(0, vp0), (1, .int .i64 p1), (8, v5), (9, .int .i64 (List.length x1 : Int)), (10, .int .i64 s7)] ∧ Holds (([] : List Res).flatMap Res.own) w w2 [.sl 3 (.int .i64) v5 x1] G)) (O := fun o e a w2 => match o with | .inl _ => e = .exit 0 ∧ (Fr a 22 [] ∧ Holds (([] : List Res).flatMap Res.own) w w2 [] G) | .inr q0 => e = .ret ∧ (Fr a 22 [(4, .bool q0)] ∧ Holds (([] : List Res).flatMap Res.own) w w2 [] G)) ho9 ?_ ?_ ?_
  · exact ⟨ha11.sub ⟨rfl, rfl, rfl, rfl, rfl, trivial⟩, H6⟩
  · clear ha11
    intro s o14 a w12 hs13 hI15
    obtain ⟨s7, rfl⟩ : ∃ z, z = s := ⟨s, rfl⟩
    obtain ⟨ha, H16⟩ := hI15
    refine WP.app ?_ ha
    clear ha
    refine WP_seq ?_
    refine WP_region ?_
    refine XL_q rfl (qt_lss rfl rfl) rfl rfl ?_
    refine WL_nil_seq ?_
    refine WP_seq ?_
    refine WP_cond rfl (fun hc17 => ?_) (fun hc17 => ?_)
    · have hs13 := if_t hc17 hs13
      refine WP_skip_seq ?_
      refine WP_seq ?_
      refine WP_block ?_
      refine WP_seq ?_
      refine WP_region ?_
      obtain ⟨x18, hx19, hs13⟩ := bind_some hs13
      refine XL_indexH H16.ctx (Has.hd) hx19 u27 i3 rfl rfl rfl rfl (fun b20 off21 cap22 hv23 => ?_)
      obtain ⟨F24, hat25, hdup26⟩ := H16.at (Has.hd) hx19 hv23
      refine XL_load_int (k := .i64) u3 rfl hat25 rfl rfl rfl ?_
      refine XL_q rfl (qt_assign rfl) rfl rfl ?_
      refine WL_nil_seq ?_
      refine WP_seq ?_
      refine WP_region ?_
      refine XL_q rfl (qt_move rfl) rfl rfl ?_
      refine XL_q rfl (qt_move rfl) rfl rfl ?_
      obtain ⟨x27, hx28, hs13⟩ := bind_some hs13
      refine XL_indexH H16.ctx (hp0.c) hx28 u27 i3 rfl rfl rfl rfl (fun b29 off30 cap31 hv32 => ?_)
      obtain ⟨F33, hat34, hdup35⟩ := H16.at (hp0.c) hx28 hv32
      refine XL_load_int (k := .i64) u3 rfl hat34 rfl rfl rfl ?_
      refine XL_q rfl (qt_move rfl) rfl rfl ?_
      refine XL_q rfl (qt_and rfl rfl) rfl rfl ?_
      refine XL_q rfl (qt_neq rfl rfl) rfl rfl ?_
      refine WL_nil_seq ?_
      refine WP_cond rfl (fun hc36 => ?_) (fun hc36 => ?_)
      · have hs13 := if_t hc36 hs13
        refine WP_seq ?_
        refine WP_region ?_
        refine XL_q rfl (qt_assign rfl) rfl rfl ?_
        refine WL_nil_seq ?_
        refine WP_ret fun a ha => ?_
        obtain rfl := Option.some.inj hs13
        have H37 : Holds (([] : List Res).flatMap Res.own) w w12 [] G := (H16.cut 0)
        exact ret_block (ret_seq (⟨ret_ne, rfl, ha.sub ⟨rfl, trivial⟩, H37⟩))
      · have hs13 := if_f hc36 hs13
        refine WP_skip fun a ha => ?_
        refine nrm_block (nrm_seq (WP.app ?_ ha))
        refine WP_region ?_
        refine XL_q rfl (qt_add rfl rfl) rfl rfl ?_
        refine XL_q rfl (qt_move rfl) rfl rfl ?_
        refine WL_nil fun a ha => ?_
        obtain rfl := Option.some.inj hs13
        exact ⟨rfl, ha.sub ⟨rfl, rfl, rfl, rfl, rfl, trivial⟩, H16⟩
    · have hs13 := if_f hc17 hs13
      refine WP_exit fun a ha => ?_
      obtain rfl := Option.some.inj hs13
      have H38 : Holds (([] : List Res).flatMap Res.own) w w12 [] G := (H16.cut 0)
      exact exit_seq (⟨exit_ne, rfl, ha.sub trivial, H38⟩)
  · intro e a10 w39 hO40
    rcases o8 with o8 | o8
    · skip
      obtain ⟨rfl, hO42⟩ := hO40
      obtain ⟨ha, H41⟩ := hO42
      refine exit_block_eq (nrm_seq (WP.app ?_ ha))
      refine WP_seq ?_
      refine WP_region ?_
      refine XL_q rfl (qt_assign rfl) rfl rfl ?_
      refine WL_nil_seq ?_
      refine WP_ret fun a ha => ?_
      obtain rfl := Option.some.inj h
      exact ret1 rfl ha rfl ⟨rfl, H41⟩
    · skip
      obtain ⟨p43, rfl⟩ : ∃ z, z = o8 := ⟨o8, rfl⟩
      obtain ⟨rfl, hO45⟩ := hO40
      obtain ⟨ha, H44⟩ := hO45
      obtain rfl := Option.some.inj h
      exact ret_block (ret_seq (ret1 rfl ha rfl ⟨rfl, H44⟩))
theorem w_impl_SeatsLeast (w : World) (G : List Res) (p0 : Int) (vp1 : Value) (p1 : List Int) (hp1 : Has G (.int .i64) vp1 p1) (r : Int) (h : impl_SeatsLeastS p0 p1 = some r) (H : Ctx w G) : Calls Tryd.prog 32 #[.int .i64 p0, vp1] w fun e w' => e = .returned (.int .i64 r) ∧ Holds (([] : List Res).flatMap Res.own) w w' [] G := by
  have H : Holds (([] : List Res).flatMap Res.own) w w [] G := Holds.startN H
  refine calls_enter (args := [.int .i64 p0, vp1]) (n := 55) Tryd.func32 rfl rfl rfl ?_
  unfold impl_SeatsLeastS at h
  refine WP_seq ?_
  refine WP_region ?_
  refine XL_q rfl (qt_assign rfl) rfl rfl ?_
  refine WL_nil_seq ?_
  refine WP_seq ?_
  refine WP_seq ?_
  refine WP_still ?_
  refine XL_q rfl (qt_move rfl) rfl rfl ?_
  refine XL_q rfl (qt_move rfl) rfl rfl ?_
  obtain ⟨x1, hx2, h⟩ := bind_some h
  refine QL_call rfl rfl c26 (fun w' hb => (w_impl_QuarrelsValid w' G p0 vp1 p1 (hp1) x1 hx2 (H.grow hb).ctx).mono fun e w'' hK => ⟨hK.1, hK.2.bel⟩) (by rfl) ?_
  refine XL_q rfl (qt_not rfl) rfl rfl ?_
  refine QL_nil fun a ha w3 hb4 => ?_
  have H5 : Holds (([] : List Res).flatMap Res.own) w w3 [] G := H.grow hb4
  refine nrm_seq (WP.app ?_ ha)
  refine WP_cond rfl (fun hc6 => ?_) (fun hc6 => ?_)
  · have h := if_t hc6 h
    refine WP_seq ?_
    refine WP_region ?_
    refine XL_q rfl (qt_assign rfl) rfl rfl ?_
    refine WL_nil_seq ?_
    refine WP_ret fun a ha => ?_
    obtain rfl := Option.some.inj h
    exact ret_seq (ret1 rfl ha rfl ⟨rfl, H5⟩)
  · have h := if_f hc6 h
    refine WP_skip_seq ?_
    refine WP_seq ?_
    refine WP_region ?_
    refine XL_q rfl (qt_move rfl) rfl rfl ?_
    obtain ⟨x7, hx8, h⟩ := bind_some h
    refine XL_q rfl (qt_shlO rfl rfl hx8) rfl rfl ?_
    obtain ⟨x9, hx10, h⟩ := bind_some h
    refine WL_makeH H5 hx10 u27 j3 rfl (fun _ => ⟨rfl, rfl⟩) rfl rfl rfl rfl rfl (fun v11 w12 H13 => ?_)
    have H14 : Holds (([] : List Res).flatMap Res.own) w w12 [.sl 3 (.int .i64) v11 x9] G := H13
    refine XL_q rfl (qt_assign rfl) rfl rfl ?_
    refine WL_nil_seq ?_
    refine WP_seq ?_
    refine WP_seq ?_
    refine WP_region ?_
    refine XL_q rfl (qt_assign rfl) rfl rfl ?_
    refine WL_nil_seq ?_
    refine WP_block ?_
    obtain ⟨o17, ho18, h⟩ := bind_some h
    refine fun a19 ha20 => wp_loop_fix (I := fun s a w2 => match s with | (s15, s16) => ∃ vs15, Fr a 55 [(0, .int .i64 p0), (1, vp1), (5, vs15), (6, .int .i64 s16)] ∧ Holds (([] : List Res).flatMap Res.own) w w2 [.sl 3 (.int .i64) vs15 s15] G) (O := fun o e a w2 => match o with | q0 => e = .exit 0 ∧ ∃ vq0, Fr a 55 [(0, .int .i64 p0), (5, vq0)] ∧ Holds (([] : List Res).flatMap Res.own) w w2 [.sl 3 (.int .i64) vq0 q0] G) ho18 ?_ ?_ ?_
    · exact ⟨v11, ha20.sub ⟨rfl, rfl, rfl, rfl, trivial⟩, H14⟩
    · clear ha20
      intro s o23 a w21 hs22 hI24
      obtain ⟨s15, s16⟩ := s
      obtain ⟨vs15, ha, H25⟩ := hI24
      refine WP.app ?_ ha
      clear ha
      refine WP_seq ?_
      refine WP_seq ?_
      refine WP_region ?_
      refine XL_q rfl (qt_move rfl) rfl rfl ?_
      refine XL_q rfl (qt_move rfl) rfl rfl ?_
      refine XL_lenH H25.ctx (t := (.int .i64)) (Has.hd) u27 rfl rfl rfl ?_
      refine XL_q rfl (qt_lss rfl rfl) rfl rfl ?_
      refine WL_nil_seq ?_
      refine WP_cond rfl (fun hc26 => ?_) (fun hc26 => ?_)
      · have hs22 := if_t hc26 hs22
        refine WP_skip_seq ?_
        refine WP_seq ?_
        refine WP_block ?_
        refine WP_seq ?_
        refine WP_region ?_
        refine XL_q rfl (qt_move rfl) rfl rfl ?_
        refine XL_q rfl (qt_move rfl) rfl rfl ?_
        refine XL_q rfl (qt_move rfl) rfl rfl ?_
        obtain ⟨x27, hx28, hs22⟩ := bind_some hs22
        refine XL_indexH H25.ctx (Has.hd) hx28 u27 i3 rfl rfl rfl rfl (fun b29 off30 cap31 hv32 => ?_)
        refine WL_storeH (fo := 0) (cs' := [.int .i64 p0]) H25 hx28 hv32 (Upd.whole (Blt.int)) rfl il3 rfl rfl rfl rfl (fun w33 H34 => ?_)
        have H35 : Holds (([] : List Res).flatMap Res.own) w w33 [.sl 3 (.int .i64) vs15 (List.set s15 (Int.toNat s16) p0)] G := H34
        refine WL_nil_seq ?_
        refine WP_seq ?_
        refine WP_region ?_
        refine XL_q rfl (qt_move rfl) rfl rfl ?_
        refine XL_q rfl (qt_assign rfl) rfl rfl ?_
        refine WL_nil_seq ?_
        refine WP_block ?_
        obtain ⟨o38, ho39, hs22⟩ := bind_some hs22
        refine fun a40 ha41 => wp_loop_fix (I := fun s a w2 => match s with | (s36, s37) => ∃ vs36, Fr a 55 [(0, .int .i64 p0), (1, vp1), (5, vs36), (6, .int .i64 s16), (7, .int .i64 s37)] ∧ Holds (([] : List Res).flatMap Res.own) w w2 [.sl 3 (.int .i64) vs36 s36] G) (O := fun o e a w2 => match o with | q0 => e = .exit 2 ∧ ∃ vq0, Fr a 55 [(0, .int .i64 p0), (1, vp1), (5, vq0), (6, .int .i64 s16)] ∧ Holds (([] : List Res).flatMap Res.own) w w2 [.sl 3 (.int .i64) vq0 q0] G) ho39 ?_ ?_ ?_
        · exact ⟨vs15, ha41.sub ⟨rfl, rfl, rfl, rfl, rfl, trivial⟩, H35⟩
        · clear ha41
          intro s o44 a w42 hs43 hI45
          obtain ⟨s36, s37⟩ := s
          obtain ⟨vs36, ha, H46⟩ := hI45
          refine WP.app ?_ ha
          clear ha
          refine WP_seq ?_
          refine WP_seq ?_
          refine WP_region ?_
          refine XL_q rfl (qt_move rfl) rfl rfl ?_
          refine XL_q rfl (qt_gtr rfl rfl) rfl rfl ?_
          refine WL_nil_seq ?_
          refine WP_cond rfl (fun hc47 => ?_) (fun hc47 => ?_)
          · have hs43 := if_t hc47 hs43
            refine WP_skip_seq ?_
            refine WP_seq ?_
            refine WP_block ?_
            refine WP_seq ?_
            refine WP_still ?_
            refine XL_q rfl (qt_move rfl) rfl rfl ?_
            refine XL_q rfl (qt_move rfl) rfl rfl ?_
            obtain ⟨x48, hx49, hs43⟩ := bind_some hs43
            refine QL_call rfl rfl c75 (fun w' hb => (w_impl_atPeace w' ([.sl 3 (.int .i64) vs36 s36] ++ G) vp1 p1 (hp1.c) s37 x48 hx49 (H46.grow hb).ctx).mono fun e w'' hK => ⟨hK.1, hK.2.bel⟩) (by rfl) ?_
            refine QL_nil fun a ha w50 hb51 => ?_
            have H52 : Holds (([] : List Res).flatMap Res.own) w w50 [.sl 3 (.int .i64) vs36 s36] G := H46.grow hb51
            refine nrm_seq (WP.app ?_ ha)
            refine WP_cond rfl (fun hc53 => ?_) (fun hc53 => ?_)
            · have hs43 := if_t hc53 hs43
              refine WP_tail 14 (by kernel_rfl) (by kernel_rfl) (fun w54 hb55 => ?_)
              have H56 : Holds (([] : List Res).flatMap Res.own) w w54 [.sl 3 (.int .i64) vs36 s36] G := H52.grow hb55
              refine XL_q rfl (qt_move rfl) rfl rfl ?_
              refine XL_q rfl (qt_move rfl) rfl rfl ?_
              refine XL_q rfl (qt_move rfl) rfl rfl ?_
              refine XL_q rfl (qt_move rfl) rfl rfl ?_
              obtain ⟨x57, hx58, hs43⟩ := bind_some hs43
              refine XL_indexH H56.ctx (Has.hd) hx58 u27 i3 rfl rfl rfl rfl (fun b59 off60 cap61 hv62 => ?_)
              obtain ⟨F63, hat64, hdup65⟩ := H56.at (Has.hd) hx58 hv62
              refine XL_load_int (k := .i64) u3 rfl hat64 rfl rfl rfl ?_
              refine XL_q rfl (qt_move rfl) rfl rfl ?_
              refine XL_q rfl (qt_move rfl) rfl rfl ?_
              refine XL_q rfl (qt_move rfl) rfl rfl ?_
              refine XL_q rfl (qt_andNot rfl rfl) rfl rfl ?_
              obtain ⟨x66, hx67, hs43⟩ := bind_some hs43
              refine XL_indexH H56.ctx (Has.hd) hx67 u27 i3 rfl rfl rfl rfl (fun b68 off69 cap70 hv71 => ?_)
              obtain ⟨F72, hat73, hdup74⟩ := H56.at (Has.hd) hx67 hv71
              refine XL_load_int (k := .i64) u3 rfl hat73 rfl rfl rfl ?_
              refine XL_q rfl (qt_add rfl rfl) rfl rfl ?_
              refine XL_q rfl (qt_min rfl rfl) rfl rfl ?_
              refine SL_nil ?_
              obtain ⟨x75, hx76, hs43⟩ := bind_some hs43
              refine XL_indexH H56.ctx (Has.hd) hx76 u27 i3 rfl rfl rfl rfl (fun b77 off78 cap79 hv80 => ?_)
              refine WL_storeH (fo := 0) (cs' := [.int .i64 (if (IntKind.wrap .i64 (1 + x66)) < x57 then IntKind.wrap .i64 (1 + x66) else x57)]) H56 hx76 hv80 (Upd.whole (Blt.int)) rfl il3 rfl rfl rfl rfl (fun w81 H82 => ?_)
              have H83 : Holds (([] : List Res).flatMap Res.own) w w81 [.sl 3 (.int .i64) vs36 (List.set s36 (Int.toNat s16) (if (IntKind.wrap .i64 (1 + x66)) < x57 then IntKind.wrap .i64 (1 + x66) else x57))] G := H82
              refine WL_nil fun a ha => ?_
              refine nrm_block (nrm_seq (WP.app ?_ ha))
              refine WP_region ?_
              refine XL_q rfl (qt_move rfl) rfl rfl ?_
              refine XL_q rfl (qt_sub rfl rfl) rfl rfl ?_
              refine XL_q rfl (qt_move rfl) rfl rfl ?_
              refine XL_q rfl (qt_and rfl rfl) rfl rfl ?_
              refine XL_q rfl (qt_assign rfl) rfl rfl ?_
              refine WL_nil fun a ha => ?_
              obtain rfl := Option.some.inj hs43
              exact ⟨rfl, vs36, ha.sub ⟨rfl, rfl, rfl, rfl, rfl, trivial⟩, H83⟩
            · have hs43 := if_f hc53 hs43
              refine WP_skip fun a ha => ?_
              refine nrm_block (nrm_seq (WP.app ?_ ha))
              refine WP_region ?_
              refine XL_q rfl (qt_move rfl) rfl rfl ?_
              refine XL_q rfl (qt_sub rfl rfl) rfl rfl ?_
              refine XL_q rfl (qt_move rfl) rfl rfl ?_
              refine XL_q rfl (qt_and rfl rfl) rfl rfl ?_
              refine XL_q rfl (qt_assign rfl) rfl rfl ?_
              refine WL_nil fun a ha => ?_
              obtain rfl := Option.some.inj hs43
              exact ⟨rfl, vs36, ha.sub ⟨rfl, rfl, rfl, rfl, rfl, trivial⟩, H52⟩
          · have hs43 := if_f hc47 hs43
            refine WP_exit fun a ha => ?_
            obtain rfl := Option.some.inj hs43
            exact exit_seq (⟨exit_ne, rfl, vs36, ha.sub ⟨rfl, rfl, rfl, rfl, trivial⟩, H46⟩)
        · intro e a40 w84 hO85
          obtain ⟨p86, rfl⟩ : ∃ z, z = o38 := ⟨o38, rfl⟩
          obtain ⟨rfl, hO88⟩ := hO85
          obtain ⟨vp86, ha, H87⟩ := hO88
          refine exit_block_eq (nrm_block (nrm_seq (WP.app ?_ ha)))
          refine WP_region ?_
          refine XL_q rfl (qt_move rfl) rfl rfl ?_
          refine XL_q rfl (qt_add rfl rfl) rfl rfl ?_
          refine XL_q rfl (qt_assign rfl) rfl rfl ?_
          refine WL_nil fun a ha => ?_
          obtain rfl := Option.some.inj hs22
          exact ⟨rfl, vp86, ha.sub ⟨rfl, rfl, rfl, rfl, trivial⟩, H87⟩
      · have hs22 := if_f hc26 hs22
        refine WP_exit fun a ha => ?_
        obtain rfl := Option.some.inj hs22
        exact exit_seq (⟨exit_ne, rfl, vs15, ha.sub ⟨rfl, rfl, trivial⟩, H25⟩)
    · intro e a19 w89 hO90
      obtain ⟨p91, rfl⟩ : ∃ z, z = o17 := ⟨o17, rfl⟩
      obtain ⟨rfl, hO93⟩ := hO90
      obtain ⟨vp91, ha, H92⟩ := hO93
      refine exit_block_eq (nrm_seq (WP.app ?_ ha))
      refine WP_seq ?_
      refine WP_still ?_
      refine XL_q rfl (qt_move rfl) rfl rfl ?_
      refine XL_q rfl (qt_move rfl) rfl rfl ?_
      obtain ⟨x94, hx95, h⟩ := bind_some h
      refine QL_call rfl rfl c69 (fun w' hb => (w_impl_everybody w' ([.sl 3 (.int .i64) vp91 p91] ++ G) p0 x94 hx95 (H92.grow hb).ctx).mono fun e w'' hK => ⟨hK.1, hK.2.bel⟩) (by rfl) ?_
      obtain ⟨x96, hx97, h⟩ := bind_some h
      refine XL_indexH H92.ctx (Has.hd) hx97 u27 i3 rfl rfl rfl rfl (fun b98 off99 cap100 hv101 => ?_)
      obtain ⟨F102, hat103, hdup104⟩ := H92.at (Has.hd) hx97 hv101
      refine XL_load_int (k := .i64) u3 rfl hat103 rfl rfl rfl ?_
      refine XL_q rfl (qt_assign rfl) rfl rfl ?_
      refine QL_nil fun a ha w105 hb106 => ?_
      have H107 : Holds (([] : List Res).flatMap Res.own) w w105 [.sl 3 (.int .i64) vp91 p91] G := H92.grow hb106
      refine nrm_seq (WP.app ?_ ha)
      refine WP_ret fun a ha => ?_
      obtain rfl := Option.some.inj h
      have H108 : Holds (([] : List Res).flatMap Res.own) w w105 [] G := (H107.cut 0)
      exact ret1 rfl ha rfl ⟨rfl, H108⟩
theorem w_spec_l1Meet (w : World) (G : List Res) (p0 : Int) (p1 : Int) (r : Int) (h : spec_l1MeetS p0 p1 = some r) (H : Ctx w G) : Calls Tryd.prog 76 #[.int .i64 p0, .int .i64 p1] w fun e w' => e = .returned (.int .i64 r) ∧ Holds (([] : List Res).flatMap Res.own) w w' [] G := by
  have H : Holds (([] : List Res).flatMap Res.own) w w [] G := Holds.startN H
  refine calls_enter (args := [.int .i64 p0, .int .i64 p1]) (n := 12) Tryd.func76 rfl rfl rfl ?_
  unfold spec_l1MeetS at h
  refine WP_seq ?_
  refine WP_region ?_
  refine XL_q rfl (qt_assign rfl) rfl rfl ?_
  refine WL_nil_seq ?_
  refine WP_seq ?_
  refine WP_still ?_
  refine XL_q rfl (qt_move rfl) rfl rfl ?_
  refine XL_q rfl (qt_move rfl) rfl rfl ?_
  refine XL_q rfl (qt_add rfl rfl) rfl rfl ?_
  refine XL_q rfl (qt_move rfl) rfl rfl ?_
  refine XL_q rfl (qt_move rfl) rfl rfl ?_
  obtain ⟨x1, hx2, h⟩ := bind_some h
  refine QL_call rfl rfl c79 (fun w' hb => (w_spec_l1Join w' G p0 p1 x1 hx2 (H.grow hb).ctx).mono fun e w'' hK => ⟨hK.1, hK.2.bel⟩) (by rfl) ?_
  refine XL_q rfl (qt_sub rfl rfl) rfl rfl ?_
  refine XL_q rfl (qt_assign rfl) rfl rfl ?_
  refine QL_nil fun a ha w3 hb4 => ?_
  have H5 : Holds (([] : List Res).flatMap Res.own) w w3 [] G := H.grow hb4
  refine nrm_seq (WP.app ?_ ha)
  refine WP_ret fun a ha => ?_
  obtain rfl := Option.some.inj h
  exact ret1 rfl ha rfl ⟨rfl, H5⟩
theorem w_spec_l6Free (w : World) (G : List Res) (vp0 : Value) (p0 : List Int) (hp0 : Has G (.int .i64) vp0 p0) (p1 : Int) (r : Bool) (h : spec_l6FreeS p0 p1 = some r) (H : Ctx w G) : Calls Tryd.prog 77 #[vp0, .int .i64 p1] w fun e w' => e = .returned (.bool r) ∧ Holds (([] : List Res).flatMap Res.own) w w' [] G := by
  have H : Holds (([] : List Res).flatMap Res.own) w w [] G := Holds.startN H
  refine calls_enter (args := [vp0, .int .i64 p1]) (n := 26) Tryd.func77 rfl rfl rfl ?_
  unfold spec_l6FreeS at h
  refine WP_seq ?_
  refine WP_region ?_
  refine XL_q rfl (qt_assign rfl) rfl rfl ?_
  refine WL_nil_seq ?_
  refine WP_seq ?_
  refine WP_seq ?_
  refine WP_region ?_
  refine XL_q rfl (qt_assign rfl) rfl rfl ?_
  refine WL_nil_seq ?_
  refine WP_block ?_
  obtain ⟨o2, ho3, h⟩ := bind_some h
  refine fun a4 ha5 => wp_loop_fix (I := fun s a w2 => match s with | s1 => (Fr a 26 [(0, vp0), (1, .int .i64 p1), (5, .int .i64 s1)] ∧ Holds (([] : List Res).flatMap Res.own) w w2 [] G)) (O := fun o e a w2 => match o with | .inl _ => e = .exit 0 ∧ (Fr a 26 [] ∧ Holds (([] : List Res).flatMap Res.own) w w2 [] G) | .inr q0 => e = .ret ∧ (Fr a 26 [(4, .bool q0)] ∧ Holds (([] : List Res).flatMap Res.own) w w2 [] G)) ho3 ?_ ?_ ?_
  · exact ⟨ha5.sub ⟨rfl, rfl, rfl, trivial⟩, H⟩
  · clear ha5
    intro s o8 a w6 hs7 hI9
    obtain ⟨s1, rfl⟩ : ∃ z, z = s := ⟨s, rfl⟩
    obtain ⟨ha, H10⟩ := hI9
    refine WP.app ?_ ha
    clear ha
    refine WP_seq ?_
    refine WP_seq ?_
    refine WP_region ?_
    refine XL_q rfl (qt_move rfl) rfl rfl ?_
    refine XL_q rfl (qt_move rfl) rfl rfl ?_
    refine XL_lenH H10.ctx (t := (.int .i64)) (hp0) u27 rfl rfl rfl ?_
    refine XL_q rfl (qt_lss rfl rfl) rfl rfl ?_
    refine WL_nil_seq ?_
    refine WP_cond rfl (fun hc11 => ?_) (fun hc11 => ?_)
    · have hs7 := if_t hc11 hs7
      refine WP_skip_seq ?_
      refine WP_seq ?_
      refine WP_block ?_
      refine WP_seq ?_
      refine WP_still ?_
      refine XL_q rfl (qt_move rfl) rfl rfl ?_
      refine XL_q rfl (qt_move rfl) rfl rfl ?_
      obtain ⟨x12, hx13, hs7⟩ := bind_some hs7
      refine XL_q rfl (qt_shrO rfl rfl hx13) rfl rfl ?_
      refine XL_q rfl (qt_rem rfl rfl (by decide)) rfl rfl ?_
      refine XL_q rfl (qt_eql rfl rfl) rfl rfl ?_
      refine XL_q rfl (qt_move rfl) rfl rfl ?_
      obtain ⟨b14, hg15, hs7⟩ := bind_some hs7
      refine XL_join 8 25 (.bool b14) ?_ (fun md hmd hk => ?_)
      rotate_left
      · obtain ⟨K, rfl⟩ := Md.quiet_of hmd
        rcases btf ((Int.tmod x12 2) == 1) with hc16 | hc16
        · skip
          have hg15 := if_t hc16 hg15
          refine XL_q (w_take rfl hc16) (qt_move rfl) rfl rfl ?_
          refine XL_q (w_take rfl hc16) (qt_move rfl) rfl rfl ?_
          obtain ⟨x17, hx18, hg15⟩ := bind_some hg15
          refine XL_indexH H10.ctx (hp0) hx18 u27 i3 (w_take rfl hc16) rfl rfl rfl (fun b19 off20 cap21 hv22 => ?_)
          obtain ⟨F23, hat24, hdup25⟩ := H10.at (hp0) hx18 hv22
          refine XL_load_int (k := .i64) u3 rfl hat24 (w_take rfl hc16) rfl rfl ?_
          refine XL_q (w_take rfl hc16) (qt_move rfl) rfl rfl ?_
          obtain ⟨x26, hx27, hg15⟩ := bind_some hg15
          refine QL_call (w_take rfl hc16) rfl c76 (fun w' hb => (w_spec_l1Meet w' G x17 p1 x26 hx27 (H10.grow hb).ctx).mono fun e w'' hK => ⟨hK.1, hK.2.bel⟩) (by rfl) ?_
          refine XL_q (w_take rfl hc16) (qt_gtr rfl rfl) rfl rfl ?_
          refine XL_q rfl (qt_pickT rfl hc16 rfl) rfl rfl ?_
          exact hk _ (Cov.same (vb hg15) (Cov.fresh rfl (Cov.fresh rfl (Cov.fresh rfl (Cov.fresh rfl (Cov.fresh rfl (Cov.fresh rfl (Cov.fresh rfl (Cov.refl)))))))))
        · skip
          refine XL_skip (w_skip rfl hc16) rfl rfl ?_
          refine XL_skip (w_skip rfl hc16) rfl rfl ?_
          refine XL_skip (w_skip rfl hc16) rfl rfl ?_
          refine XL_skip (w_skip rfl hc16) rfl rfl ?_
          refine XL_skip (w_skip rfl hc16) rfl rfl ?_
          refine XL_skip (w_skip rfl hc16) rfl rfl ?_
          refine XL_skip (w_skip rfl hc16) rfl rfl ?_
          refine XL_q rfl (qt_pickF rfl hc16 rfl) rfl rfl ?_
          exact hk _ (Cov.same (vb (if_f hc16 hg15)) (Cov.fresh rfl (Cov.fresh rfl (Cov.fresh rfl (Cov.fresh rfl (Cov.fresh rfl (Cov.fresh rfl (Cov.fresh rfl (Cov.refl)))))))))
      refine QL_nil fun a ha w28 hb29 => ?_
      have H30 : Holds (([] : List Res).flatMap Res.own) w w28 [] G := H10.grow hb29
      refine nrm_seq (WP.app ?_ ha)
      refine WP_cond rfl (fun hc31 => ?_) (fun hc31 => ?_)
      · have hs7 := if_t hc31 hs7
        refine WP_seq ?_
        refine WP_region ?_
        refine XL_q rfl (qt_assign rfl) rfl rfl ?_
        refine WL_nil_seq ?_
        refine WP_ret fun a ha => ?_
        obtain rfl := Option.some.inj hs7
        exact ret_block (ret_seq (⟨ret_ne, rfl, ha.sub ⟨rfl, trivial⟩, H30⟩))
      · have hs7 := if_f hc31 hs7
        refine WP_skip fun a ha => ?_
        refine nrm_block (nrm_seq (WP.app ?_ ha))
        refine WP_region ?_
        refine XL_q rfl (qt_move rfl) rfl rfl ?_
        refine XL_q rfl (qt_add rfl rfl) rfl rfl ?_
        refine XL_q rfl (qt_assign rfl) rfl rfl ?_
        refine WL_nil fun a ha => ?_
        obtain rfl := Option.some.inj hs7
        exact ⟨rfl, ha.sub ⟨rfl, rfl, rfl, trivial⟩, H30⟩
    · have hs7 := if_f hc11 hs7
      refine WP_exit fun a ha => ?_
      obtain rfl := Option.some.inj hs7
      exact exit_seq (⟨exit_ne, rfl, ha.sub trivial, H10⟩)
  · intro e a4 w32 hO33
    rcases o2 with o2 | o2
    · skip
      obtain ⟨rfl, hO35⟩ := hO33
      obtain ⟨ha, H34⟩ := hO35
      refine exit_block_eq (nrm_seq (WP.app ?_ ha))
      refine WP_seq ?_
      refine WP_region ?_
      refine XL_q rfl (qt_assign rfl) rfl rfl ?_
      refine WL_nil_seq ?_
      refine WP_ret fun a ha => ?_
      obtain rfl := Option.some.inj h
      exact ret1 rfl ha rfl ⟨rfl, H34⟩
    · skip
      obtain ⟨p36, rfl⟩ : ∃ z, z = o2 := ⟨o2, rfl⟩
      obtain ⟨rfl, hO38⟩ := hO33
      obtain ⟨ha, H37⟩ := hO38
      obtain rfl := Option.some.inj h
      exact ret_block (ret_seq (ret1 rfl ha rfl ⟨rfl, H37⟩))
theorem w_spec_SeatsLeast (w : World) (G : List Res) (p0 : Int) (vp1 : Value) (p1 : List Int) (hp1 : Has G (.int .i64) vp1 p1) (r : Int) (h : spec_SeatsLeastS p0 p1 = some r) (H : Ctx w G) : Calls Tryd.prog 33 #[.int .i64 p0, vp1] w fun e w' => e = .returned (.int .i64 r) ∧ Holds (([] : List Res).flatMap Res.own) w w' [] G := by
  have H : Holds (([] : List Res).flatMap Res.own) w w [] G := Holds.startN H
  refine calls_enter (args := [.int .i64 p0, vp1]) (n := 55) Tryd.func33 rfl rfl rfl ?_
  unfold spec_SeatsLeastS at h
  refine WP_seq ?_
  refine WP_region ?_
  refine XL_q rfl (qt_assign rfl) rfl rfl ?_
  refine WL_nil_seq ?_
  refine WP_seq ?_
  refine WP_seq ?_
  refine WP_still ?_
  refine XL_q rfl (qt_move rfl) rfl rfl ?_
  refine XL_q rfl (qt_move rfl) rfl rfl ?_
  obtain ⟨x1, hx2, h⟩ := bind_some h
  refine QL_call rfl rfl c27 (fun w' hb => (w_spec_QuarrelsValid w' G p0 vp1 p1 (hp1) x1 hx2 (H.grow hb).ctx).mono fun e w'' hK => ⟨hK.1, hK.2.bel⟩) (by rfl) ?_
  refine XL_q rfl (qt_not rfl) rfl rfl ?_
  refine QL_nil fun a ha w3 hb4 => ?_
  have H5 : Holds (([] : List Res).flatMap Res.own) w w3 [] G := H.grow hb4
  refine nrm_seq (WP.app ?_ ha)
  refine WP_cond rfl (fun hc6 => ?_) (fun hc6 => ?_)
  · have h := if_t hc6 h
    refine WP_seq ?_
    refine WP_region ?_
    refine XL_q rfl (qt_assign rfl) rfl rfl ?_
    refine WL_nil_seq ?_
    refine WP_ret fun a ha => ?_
    obtain rfl := Option.some.inj h
    exact ret_seq (ret1 rfl ha rfl ⟨rfl, H5⟩)
  · have h := if_f hc6 h
    refine WP_skip_seq ?_
    refine WP_seq ?_
    refine WP_region ?_
    refine WL_buildH (t := (.int .i64)) (args := [.const (.int .i64 0)]) (xs := ([0] : List Int)) H5 (BltL.cons (Blt.int) rfl (BltL.nil)) u27 j3 rfl rfl rfl rfl rfl rfl (fun v7 w8 H9 => ?_)
    have H10 : Holds (([] : List Res).flatMap Res.own) w w8 [.sl 3 (.int .i64) v7 ([0])] G := H9
    refine XL_q rfl (qt_assign rfl) rfl rfl ?_
    refine WL_nil_seq ?_
    refine WP_seq ?_
    refine WP_seq ?_
    refine WP_region ?_
    refine XL_q rfl (qt_assign rfl) rfl rfl ?_
    refine WL_nil_seq ?_
    refine WP_block ?_
    obtain ⟨o13, ho14, h⟩ := bind_some h
    refine fun a15 ha16 => wp_loop_fix (I := fun s a w2 => match s with | (s11, s12) => ∃ vs11, Fr a 55 [(0, .int .i64 p0), (1, vp1), (5, vs11), (6, .int .i64 s12)] ∧ Holds (([] : List Res).flatMap Res.own) w w2 [.sl 3 (.int .i64) vs11 s11] G) (O := fun o e a w2 => match o with | q0 => e = .exit 0 ∧ ∃ vq0, Fr a 55 [(5, vq0)] ∧ Holds (([] : List Res).flatMap Res.own) w w2 [.sl 3 (.int .i64) vq0 q0] G) ho14 ?_ ?_ ?_
    · exact ⟨v7, ha16.sub ⟨rfl, rfl, rfl, rfl, trivial⟩, H10⟩
    · clear ha16
      intro s o19 a w17 hs18 hI20
      obtain ⟨s11, s12⟩ := s
      obtain ⟨vs11, ha, H21⟩ := hI20
      refine WP.app ?_ ha
      clear ha
      refine WP_seq ?_
      refine WP_seq ?_
      refine WP_region ?_
      refine XL_q rfl (qt_move rfl) rfl rfl ?_
      refine XL_q rfl (qt_move rfl) rfl rfl ?_
      obtain ⟨x22, hx23, hs18⟩ := bind_some hs18
      refine XL_q rfl (qt_shlO rfl rfl hx23) rfl rfl ?_
      refine XL_q rfl (qt_lss rfl rfl) rfl rfl ?_
      refine WL_nil_seq ?_
      refine WP_cond rfl (fun hc24 => ?_) (fun hc24 => ?_)
      · have hs18 := if_t hc24 hs18
        refine WP_skip_seq ?_
        refine WP_seq ?_
        refine WP_block ?_
        refine WP_seq ?_
        refine WP_region ?_
        refine XL_q rfl (qt_move rfl) rfl rfl ?_
        refine XL_q rfl (qt_assign rfl) rfl rfl ?_
        refine WL_nil_seq ?_
        refine WP_seq ?_
        refine WP_seq ?_
        refine WP_region ?_
        refine XL_q rfl (qt_assign rfl) rfl rfl ?_
        refine WL_nil_seq ?_
        refine WP_block ?_
        obtain ⟨o27, ho28, hs18⟩ := bind_some hs18
        refine fun a29 ha30 => wp_loop_fix (I := fun s a w2 => match s with | (s25, s26) => (Fr a 55 [(0, .int .i64 p0), (1, vp1), (5, vs11), (6, .int .i64 s12), (7, .int .i64 s25), (8, .int .i64 s26)] ∧ Holds (([] : List Res).flatMap Res.own) w w2 [.sl 3 (.int .i64) vs11 s11] G)) (O := fun o e a w2 => match o with | q0 => e = .exit 2 ∧ (Fr a 55 [(0, .int .i64 p0), (1, vp1), (5, vs11), (6, .int .i64 s12), (7, .int .i64 q0)] ∧ Holds (([] : List Res).flatMap Res.own) w w2 [.sl 3 (.int .i64) vs11 s11] G)) ho28 ?_ ?_ ?_
        · exact ⟨ha30.sub ⟨rfl, rfl, rfl, rfl, rfl, rfl, trivial⟩, H21⟩
        · clear ha30
          intro s o33 a w31 hs32 hI34
          obtain ⟨s25, s26⟩ := s
          obtain ⟨ha, H35⟩ := hI34
          refine WP.app ?_ ha
          clear ha
          refine WP_seq ?_
          refine WP_seq ?_
          refine WP_region ?_
          refine XL_q rfl (qt_move rfl) rfl rfl ?_
          refine XL_q rfl (qt_move rfl) rfl rfl ?_
          refine XL_q rfl (qt_leq rfl rfl) rfl rfl ?_
          refine WL_nil_seq ?_
          refine WP_cond rfl (fun hc36 => ?_) (fun hc36 => ?_)
          · have hs32 := if_t hc36 hs32
            refine WP_skip_seq ?_
            refine WP_seq ?_
            refine WP_block ?_
            refine WP_seq ?_
            refine WP_still ?_
            refine XL_q rfl (qt_move rfl) rfl rfl ?_
            refine XL_q rfl (qt_move rfl) rfl rfl ?_
            obtain ⟨x37, hx38, hs32⟩ := bind_some hs32
            refine QL_call rfl rfl c76 (fun w' hb => (w_spec_l1Meet w' ([.sl 3 (.int .i64) vs11 s11] ++ G) s26 s12 x37 hx38 (H35.grow hb).ctx).mono fun e w'' hK => ⟨hK.1, hK.2.bel⟩) (by rfl) ?_
            refine XL_q rfl (qt_move rfl) rfl rfl ?_
            refine XL_q rfl (qt_eql rfl rfl) rfl rfl ?_
            refine XL_q rfl (qt_move rfl) rfl rfl ?_
            obtain ⟨b39, hg40, hs32⟩ := bind_some hs32
            refine XL_join 4 35 (.bool b39) ?_ (fun md hmd hk => ?_)
            rotate_left
            · obtain ⟨K, rfl⟩ := Md.quiet_of hmd
              rcases btf (x37 == s26) with hc41 | hc41
              · skip
                have hg40 := if_t hc41 hg40
                refine XL_q (w_take rfl hc41) (qt_move rfl) rfl rfl ?_
                refine XL_q (w_take rfl hc41) (qt_move rfl) rfl rfl ?_
                obtain ⟨x42, hx43, hg40⟩ := bind_some hg40
                refine QL_call (w_take rfl hc41) rfl c77 (fun w' hb => (w_spec_l6Free w' ([.sl 3 (.int .i64) vs11 s11] ++ G) vp1 p1 (hp1.c) s26 x42 hx43 (H35.grow hb).ctx).mono fun e w'' hK => ⟨hK.1, hK.2.bel⟩) (by rfl) ?_
                refine XL_q rfl (qt_pickT rfl hc41 rfl) rfl rfl ?_
                exact hk _ (Cov.same (vb hg40) (Cov.fresh rfl (Cov.fresh rfl (Cov.fresh rfl (Cov.refl)))))
              · skip
                refine XL_skip (w_skip rfl hc41) rfl rfl ?_
                refine XL_skip (w_skip rfl hc41) rfl rfl ?_
                refine XL_skip (w_skip rfl hc41) rfl rfl ?_
                refine XL_q rfl (qt_pickF rfl hc41 rfl) rfl rfl ?_
                exact hk _ (Cov.same (vb (if_f hc41 hg40)) (Cov.fresh rfl (Cov.fresh rfl (Cov.fresh rfl (Cov.refl)))))
            refine QL_nil fun a ha w44 hb45 => ?_
            have H46 : Holds (([] : List Res).flatMap Res.own) w w44 [.sl 3 (.int .i64) vs11 s11] G := H35.grow hb45
            refine nrm_seq (WP.app ?_ ha)
            refine WP_cond rfl (fun hc47 => ?_) (fun hc47 => ?_)
            · have hs32 := if_t hc47 hs32
              refine WP_region ?_
              refine XL_q rfl (qt_move rfl) rfl rfl ?_
              refine XL_q rfl (qt_move rfl) rfl rfl ?_
              refine XL_q rfl (qt_move rfl) rfl rfl ?_
              refine XL_q rfl (qt_move rfl) rfl rfl ?_
              refine XL_q rfl (qt_sub rfl rfl) rfl rfl ?_
              obtain ⟨x48, hx49, hs32⟩ := bind_some hs32
              refine XL_indexH H46.ctx (Has.hd) hx49 u27 i3 rfl rfl rfl rfl (fun b50 off51 cap52 hv53 => ?_)
              obtain ⟨F54, hat55, hdup56⟩ := H46.at (Has.hd) hx49 hv53
              refine XL_load_int (k := .i64) u3 rfl hat55 rfl rfl rfl ?_
              refine XL_q rfl (qt_add rfl rfl) rfl rfl ?_
              refine XL_q rfl (qt_min rfl rfl) rfl rfl ?_
              refine XL_q rfl (qt_assign rfl) rfl rfl ?_
              refine WL_nil fun a ha => ?_
              refine nrm_block (nrm_seq (WP.app ?_ ha))
              refine WP_region ?_
              refine XL_q rfl (qt_move rfl) rfl rfl ?_
              refine XL_q rfl (qt_add rfl rfl) rfl rfl ?_
              refine XL_q rfl (qt_assign rfl) rfl rfl ?_
              refine WL_nil fun a ha => ?_
              obtain rfl := Option.some.inj hs32
              exact ⟨rfl, ha.sub ⟨rfl, rfl, rfl, rfl, rfl, rfl, trivial⟩, H46⟩
            · have hs32 := if_f hc47 hs32
              refine WP_skip fun a ha => ?_
              refine nrm_block (nrm_seq (WP.app ?_ ha))
              refine WP_region ?_
              refine XL_q rfl (qt_move rfl) rfl rfl ?_
              refine XL_q rfl (qt_add rfl rfl) rfl rfl ?_
              refine XL_q rfl (qt_assign rfl) rfl rfl ?_
              refine WL_nil fun a ha => ?_
              obtain rfl := Option.some.inj hs32
              exact ⟨rfl, ha.sub ⟨rfl, rfl, rfl, rfl, rfl, rfl, trivial⟩, H46⟩
          · have hs32 := if_f hc36 hs32
            refine WP_exit fun a ha => ?_
            obtain rfl := Option.some.inj hs32
            exact exit_seq (⟨exit_ne, rfl, ha.sub ⟨rfl, rfl, rfl, rfl, rfl, trivial⟩, H35⟩)
        · intro e a29 w57 hO58
          obtain ⟨p59, rfl⟩ : ∃ z, z = o27 := ⟨o27, rfl⟩
          obtain ⟨rfl, hO61⟩ := hO58
          obtain ⟨ha, H60⟩ := hO61
          refine exit_block_eq (nrm_seq (WP.app ?_ ha))
          refine WP_region ?_
          refine XL_q rfl (qt_move rfl) rfl rfl ?_
          refine XL_q rfl (qt_move rfl) rfl rfl ?_
          refine WL_buildH (t := (.int .i64)) (args := [.tmp 46]) (xs := ([p59] : List Int)) H60 (BltL.cons (Blt.int) rfl (BltL.nil)) u27 j3 rfl rfl rfl rfl rfl rfl (fun v62 w63 H64 => ?_)
          have H65 : Holds (([] : List Res).flatMap Res.own) w w63 [.sl 3 (.int .i64) v62 ([p59]), .sl 3 (.int .i64) vs11 s11] G := H64
          have H66 : Holds (([] : List Res).flatMap Res.own) w w63 [.sl 3 (.int .i64) vs11 s11, .sl 3 (.int .i64) v62 ([p59])] G := H65.pull 1
          obtain ⟨x67, hx68, hs18⟩ := bind_some hs18
          refine WL_appendH H66 (Has.c (Has.hd)) hx68 u27 j3 rfl rfl rfl rfl rfl rfl (fun v69 w70 H71 => ?_)
          have H72 : Holds (([] : List Res).flatMap Res.own) w w70 [.sl 3 (.int .i64) v69 x67, .sl 3 (.int .i64) v62 ([p59])] G := H71
          refine XL_q rfl (qt_assign rfl) rfl rfl ?_
          refine WL_nil fun a ha => ?_
          refine nrm_block (nrm_seq (WP.app ?_ ha))
          refine WP_region ?_
          refine XL_q rfl (qt_move rfl) rfl rfl ?_
          refine XL_q rfl (qt_add rfl rfl) rfl rfl ?_
          refine XL_q rfl (qt_assign rfl) rfl rfl ?_
          refine WL_nil fun a ha => ?_
          obtain rfl := Option.some.inj hs18
          have H73 : Holds (([] : List Res).flatMap Res.own) w w70 [.sl 3 (.int .i64) v69 x67] G := (H72.cut 1)
          exact ⟨rfl, v69, ha.sub ⟨rfl, rfl, rfl, rfl, trivial⟩, H73⟩
      · have hs18 := if_f hc24 hs18
        refine WP_exit fun a ha => ?_
        obtain rfl := Option.some.inj hs18
        exact exit_seq (⟨exit_ne, rfl, vs11, ha.sub ⟨rfl, trivial⟩, H21⟩)
    · intro e a15 w74 hO75
      obtain ⟨p76, rfl⟩ : ∃ z, z = o13 := ⟨o13, rfl⟩
      obtain ⟨rfl, hO78⟩ := hO75
      obtain ⟨vp76, ha, H77⟩ := hO78
      refine exit_block_eq (nrm_seq (WP.app ?_ ha))
      refine WP_seq ?_
      refine WP_region ?_
      refine XL_q rfl (qt_move rfl) rfl rfl ?_
      refine XL_q rfl (qt_move rfl) rfl rfl ?_
      refine XL_lenH H77.ctx (t := (.int .i64)) (Has.hd) u27 rfl rfl rfl ?_
      refine XL_q rfl (qt_sub rfl rfl) rfl rfl ?_
      obtain ⟨x79, hx80, h⟩ := bind_some h
      refine XL_indexH H77.ctx (Has.hd) hx80 u27 i3 rfl rfl rfl rfl (fun b81 off82 cap83 hv84 => ?_)
      obtain ⟨F85, hat86, hdup87⟩ := H77.at (Has.hd) hx80 hv84
      refine XL_load_int (k := .i64) u3 rfl hat86 rfl rfl rfl ?_
      refine XL_q rfl (qt_assign rfl) rfl rfl ?_
      refine WL_nil_seq ?_
      refine WP_ret fun a ha => ?_
      obtain rfl := Option.some.inj h
      have H88 : Holds (([] : List Res).flatMap Res.own) w w74 [] G := (H77.cut 0)
      exact ret1 rfl ha rfl ⟨rfl, H88⟩
theorem w_laws_FnSeatsLeast (w : World) (G : List Res) (vp0 : Value) (p0 : List Int) (hp0 : HasRo G (.int .u8) vp0 p0) (r : Bool) (h : laws_FnSeatsLeastS p0 = some r) (H : Ctx w G) : Calls Tryd.prog 7 #[vp0] w fun e w' => e = .returned (.bool r) ∧ Holds (([] : List Res).flatMap Res.own) w w' [] G := by
  have H : Holds (([] : List Res).flatMap Res.own) w w [] G := Holds.startN H
  refine calls_enter (args := [vp0]) (n := 93) Tryd.func7 rfl rfl rfl ?_
  unfold laws_FnSeatsLeastS at h
  refine WP_seq ?_
  refine WP_region ?_
  refine XL_q rfl (qt_assign rfl) rfl rfl ?_
  refine WL_nil_seq ?_
  refine WP_seq ?_
  refine WP_seq ?_
  refine WP_region ?_
  refine XL_q rfl (qt_move rfl) rfl rfl ?_
  refine XL_lenH H.ctx (t := (.int .u8)) (hp0.has) u22 rfl rfl rfl ?_
  refine XL_q rfl (qt_gtr rfl rfl) rfl rfl ?_
  refine WL_nil_seq ?_
  refine WP_cond rfl (fun hc1 => ?_) (fun hc1 => ?_)
  · have h := if_t hc1 h
    refine WP_seq ?_
    refine WP_region ?_
    refine XL_q rfl (qt_assign rfl) rfl rfl ?_
    refine WL_nil_seq ?_
    refine WP_ret fun a ha => ?_
    obtain rfl := Option.some.inj h
    exact ret_seq (ret1 rfl ha rfl ⟨rfl, H⟩)
  · have h := if_f hc1 h
    refine WP_skip_seq ?_
    refine WP_seq ?_
    refine WP_region ?_
    refine XL_q rfl (qt_move rfl) rfl rfl ?_
    obtain ⟨x2, hx3, h⟩ := bind_some h
    refine WL_call rfl rfl c31 (w_spec_DrawSeatsLeast w G vp0 p0 (hp0) x2 hx3 H.ctx) (by rfl) ?_
    rintro _ w4 ⟨v6, rfl, H5⟩; refine ⟨_, rfl, ?_⟩
    have H7 : Holds (([] : List Res).flatMap Res.own) w w4 [.sl 3 (.int .i64) v6 x2.2] G := H.calledN (Rs := []) H5
    refine XL_q rfl (qt_move rfl) rfl rfl ?_
    refine XL_q rfl (qt_extract rfl rfl) rfl rfl ?_
    refine XL_q rfl (qt_extract rfl rfl) rfl rfl ?_
    refine XL_q rfl (qt_assign rfl) rfl rfl ?_
    refine XL_q rfl (qt_assign rfl) rfl rfl ?_
    refine WL_nil_seq ?_
    refine WP_seq ?_
    refine WP_still ?_
    refine XL_q rfl (qt_move rfl) rfl rfl ?_
    refine XL_q rfl (qt_move rfl) rfl rfl ?_
    obtain ⟨x8, hx9, h⟩ := bind_some h
    refine QL_call rfl rfl c32 (fun w' hb => (w_impl_SeatsLeast w' ([.sl 3 (.int .i64) v6 x2.2] ++ G) x2.1 v6 x2.2 (Has.hd) x8 hx9 (H7.grow hb).ctx).mono fun e w'' hK => ⟨hK.1, hK.2.bel⟩) (by rfl) ?_
    refine XL_q rfl (qt_assign rfl) rfl rfl ?_
    refine QL_nil fun a ha w10 hb11 => ?_
    have H12 : Holds (([] : List Res).flatMap Res.own) w w10 [.sl 3 (.int .i64) v6 x2.2] G := H7.grow hb11
    refine nrm_seq (WP.app ?_ ha)
    refine WP_seq ?_
    refine WP_seq ?_
    refine WP_still ?_
    refine XL_q rfl (qt_move rfl) rfl rfl ?_
    refine XL_q rfl (qt_move rfl) rfl rfl ?_
    refine XL_q rfl (qt_move rfl) rfl rfl ?_
    obtain ⟨x13, hx14, h⟩ := bind_some h
    refine QL_call rfl rfl c33 (fun w' hb => (w_spec_SeatsLeast w' ([.sl 3 (.int .i64) v6 x2.2] ++ G) x2.1 v6 x2.2 (Has.hd) x13 hx14 (H12.grow hb).ctx).mono fun e w'' hK => ⟨hK.1, hK.2.bel⟩) (by rfl) ?_
    refine XL_q rfl (qt_neq rfl rfl) rfl rfl ?_
    refine QL_nil fun a ha w15 hb16 => ?_
    have H17 : Holds (([] : List Res).flatMap Res.own) w w15 [.sl 3 (.int .i64) v6 x2.2] G := H12.grow hb16
    refine nrm_seq (WP.app ?_ ha)
    refine WP_cond rfl (fun hc18 => ?_) (fun hc18 => ?_)
    · have h := if_t hc18 h
      refine WP_seq ?_
      refine WP_region ?_
      refine XL_q rfl (qt_assign rfl) rfl rfl ?_
      refine WL_nil_seq ?_
      refine WP_ret fun a ha => ?_
      obtain rfl := Option.some.inj h
      have H19 : Holds (([] : List Res).flatMap Res.own) w w15 [] G := (H17.cut 0)
      exact ret_seq (ret1 rfl ha rfl ⟨rfl, H19⟩)
    · have h := if_f hc18 h
      refine WP_skip_seq ?_
      refine WP_seq ?_
      refine WP_seq ?_
      refine WP_region ?_
      refine XL_q rfl (qt_move rfl) rfl rfl ?_
      refine XL_q rfl (qt_lss rfl rfl) rfl rfl ?_
      refine WL_nil_seq ?_
      refine WP_cond rfl (fun hc20 => ?_) (fun hc20 => ?_)
      · have h := if_t hc20 h
        refine WP_seq ?_
        refine WP_still ?_
        refine XL_q rfl (qt_move rfl) rfl rfl ?_
        refine XL_q rfl (qt_eql rfl rfl) rfl rfl ?_
        refine XL_q rfl (qt_move rfl) rfl rfl ?_
        obtain ⟨b21, hg22, h⟩ := bind_some h
        refine XL_join 2 32 (.bool b21) ?_ (fun md hmd hk => ?_)
        rotate_left
        · obtain ⟨K, rfl⟩ := Md.quiet_of hmd
          rcases btf (x8 == (-1)) with hc23 | hc23
          · skip
            have hg22 := if_t hc23 hg22
            obtain ⟨x24, hx25, hg22⟩ := bind_some hg22
            refine QL_call (w_take rfl hc23) rfl c20 (fun w' hb => (w_laws_alive w' ([.sl 3 (.int .i64) v6 x2.2] ++ G)  x24 hx25 (H17.grow hb).ctx).mono fun e w'' hK => ⟨hK.1, hK.2.bel⟩) (by rfl) ?_
            refine XL_q rfl (qt_pickT rfl hc23 rfl) rfl rfl ?_
            exact hk _ (Cov.same (vb hg22) (Cov.fresh rfl (Cov.refl)))
          · skip
            refine XL_skip (w_skip rfl hc23) rfl rfl ?_
            refine XL_q rfl (qt_pickF rfl hc23 rfl) rfl rfl ?_
            exact hk _ (Cov.same (vb (if_f hc23 hg22)) (Cov.fresh rfl (Cov.refl)))
        refine XL_q rfl (qt_assign rfl) rfl rfl ?_
        refine QL_nil fun a ha w26 hb27 => ?_
        have H28 : Holds (([] : List Res).flatMap Res.own) w w26 [.sl 3 (.int .i64) v6 x2.2] G := H17.grow hb27
        refine nrm_seq (WP.app ?_ ha)
        refine WP_ret fun a ha => ?_
        obtain rfl := Option.some.inj h
        have H29 : Holds (([] : List Res).flatMap Res.own) w w26 [] G := (H28.cut 0)
        exact ret_seq (ret1 rfl ha rfl ⟨rfl, H29⟩)
      · have h := if_f hc20 h
        refine WP_skip_seq ?_
        refine WP_seq ?_
        refine WP_seq ?_
        refine WP_region ?_
        refine XL_q rfl (qt_assign rfl) rfl rfl ?_
        refine WL_nil_seq ?_
        refine WP_block ?_
        obtain ⟨o31, ho32, h⟩ := bind_some h
        refine fun a33 ha34 => wp_loop_fix (I := fun s a w2 => match s with | s30 => (Fr a 93 [(3, .int .i64 x2.1), (4, v6), (5, .int .i64 x8), (6, .int .i64 s30)] ∧ Holds (([] : List Res).flatMap Res.own) w w2 [.sl 3 (.int .i64) v6 x2.2] G)) (O := fun o e a w2 => match o with | .inl _ => e = .exit 0 ∧ (Fr a 93 [(3, .int .i64 x2.1)] ∧ Holds (([] : List Res).flatMap Res.own) w w2 [] G) | .inr q0 => e = .ret ∧ (Fr a 93 [(2, .bool q0)] ∧ Holds (([] : List Res).flatMap Res.own) w w2 [] G)) ho32 ?_ ?_ ?_
        · exact ⟨ha34.sub ⟨rfl, rfl, rfl, rfl, trivial⟩, H17⟩
        · clear ha34
          intro s o37 a w35 hs36 hI38
          obtain ⟨s30, rfl⟩ : ∃ z, z = s := ⟨s, rfl⟩
          obtain ⟨ha, H39⟩ := hI38
          refine WP.app ?_ ha
          clear ha
          refine WP_seq ?_
          refine WP_seq ?_
          refine WP_region ?_
          refine XL_q rfl (qt_move rfl) rfl rfl ?_
          refine XL_q rfl (qt_move rfl) rfl rfl ?_
          refine XL_q rfl (qt_lss rfl rfl) rfl rfl ?_
          refine WL_nil_seq ?_
          refine WP_cond rfl (fun hc40 => ?_) (fun hc40 => ?_)
          · have hs36 := if_t hc40 hs36
            refine WP_skip_seq ?_
            refine WP_seq ?_
            refine WP_block ?_
            refine WP_seq ?_
            refine WP_region ?_
            refine XL_q rfl (qt_assign rfl) rfl rfl ?_
            refine WL_nil_seq ?_
            refine WP_block ?_
            obtain ⟨o42, ho43, hs36⟩ := bind_some hs36
            refine fun a44 ha45 => wp_loop_fix (I := fun s a w2 => match s with | s41 => (Fr a 93 [(3, .int .i64 x2.1), (4, v6), (5, .int .i64 x8), (6, .int .i64 s30), (7, .int .i64 s41)] ∧ Holds (([] : List Res).flatMap Res.own) w w2 [.sl 3 (.int .i64) v6 x2.2] G)) (O := fun o e a w2 => match o with | .inl _ => e = .exit 2 ∧ (Fr a 93 [(3, .int .i64 x2.1), (4, v6), (5, .int .i64 x8), (6, .int .i64 s30)] ∧ Holds (([] : List Res).flatMap Res.own) w w2 [.sl 3 (.int .i64) v6 x2.2] G) | .inr q0 => e = .ret ∧ (Fr a 93 [(2, .bool q0)] ∧ Holds (([] : List Res).flatMap Res.own) w w2 [] G)) ho43 ?_ ?_ ?_
            · exact ⟨ha45.sub ⟨rfl, rfl, rfl, rfl, rfl, trivial⟩, H39⟩
            · clear ha45
              intro s o48 a w46 hs47 hI49
              obtain ⟨s41, rfl⟩ : ∃ z, z = s := ⟨s, rfl⟩
              obtain ⟨ha, H50⟩ := hI49
              refine WP.app ?_ ha
              clear ha
              refine WP_seq ?_
              refine WP_seq ?_
              refine WP_region ?_
              refine XL_q rfl (qt_move rfl) rfl rfl ?_
              refine XL_q rfl (qt_move rfl) rfl rfl ?_
              refine XL_q rfl (qt_lss rfl rfl) rfl rfl ?_
              refine WL_nil_seq ?_
              refine WP_cond rfl (fun hc51 => ?_) (fun hc51 => ?_)
              · have hs47 := if_t hc51 hs47
                refine WP_skip_seq ?_
                refine WP_seq ?_
                refine WP_block ?_
                refine WP_seq ?_
                refine WP_region ?_
                refine XL_q rfl (qt_move rfl) rfl rfl ?_
                refine XL_q rfl (qt_move rfl) rfl rfl ?_
                obtain ⟨x52, hx53, hs47⟩ := bind_some hs47
                refine XL_indexH H50.ctx (Has.hd) hx53 u27 i3 rfl rfl rfl rfl (fun b54 off55 cap56 hv57 => ?_)
                obtain ⟨F58, hat59, hdup60⟩ := H50.at (Has.hd) hx53 hv57
                refine XL_load_int (k := .i64) u3 rfl hat59 rfl rfl rfl ?_
                refine XL_q rfl (qt_move rfl) rfl rfl ?_
                obtain ⟨x61, hx62, hs47⟩ := bind_some hs47
                refine XL_q rfl (qt_shrO rfl rfl hx62) rfl rfl ?_
                refine XL_q rfl (qt_rem rfl rfl (by decide)) rfl rfl ?_
                refine XL_q rfl (qt_eql rfl rfl) rfl rfl ?_
                refine WL_nil_seq ?_
                refine WP_cond rfl (fun hc63 => ?_) (fun hc63 => ?_)
                · have hs47 := if_t hc63 hs47
                  refine WP_seq ?_
                  refine WP_region ?_
                  refine WL_buildH (t := (.int .i64)) (args := []) (xs := ([] : List Int)) H50 (BltL.nil) u27 j3 rfl rfl rfl rfl rfl rfl (fun v64 w65 H66 => ?_)
                  have H67 : Holds (([] : List Res).flatMap Res.own) w w65 [.sl 3 (.int .i64) v64 ([]), .sl 3 (.int .i64) v6 x2.2] G := H66
                  refine XL_q rfl (qt_move rfl) rfl rfl ?_
                  obtain ⟨x68, hx69, hs47⟩ := bind_some hs47
                  refine WL_appendH H67 (Has.c (Has.hd)) hx69 u27 j3 rfl rfl rfl rfl rfl rfl (fun v70 w71 H72 => ?_)
                  have H73 : Holds (([] : List Res).flatMap Res.own) w w71 [.sl 3 (.int .i64) v70 x68, .sl 3 (.int .i64) v6 x2.2] G := H72
                  refine XL_q rfl (qt_assign rfl) rfl rfl ?_
                  refine WL_nil_seq ?_
                  refine WP_seq ?_
                  refine WP_tail 9 (by kernel_rfl) (by kernel_rfl) (fun w74 hb75 => ?_)
                  have H76 : Holds (([] : List Res).flatMap Res.own) w w74 [.sl 3 (.int .i64) v70 x68, .sl 3 (.int .i64) v6 x2.2] G := H73.grow hb75
                  refine XL_q rfl (qt_move rfl) rfl rfl ?_
                  refine XL_q rfl (qt_move rfl) rfl rfl ?_
                  refine XL_q rfl (qt_move rfl) rfl rfl ?_
                  refine XL_q rfl (qt_move rfl) rfl rfl ?_
                  obtain ⟨x77, hx78, hs47⟩ := bind_some hs47
                  refine XL_indexH H76.ctx (Has.hd) hx78 u27 i3 rfl rfl rfl rfl (fun b79 off80 cap81 hv82 => ?_)
                  obtain ⟨F83, hat84, hdup85⟩ := H76.at (Has.hd) hx78 hv82
                  refine XL_load_int (k := .i64) u3 rfl hat84 rfl rfl rfl ?_
                  refine XL_q rfl (qt_move rfl) rfl rfl ?_
                  obtain ⟨x86, hx87, hs47⟩ := bind_some hs47
                  refine XL_q rfl (qt_shlO rfl rfl hx87) rfl rfl ?_
                  refine XL_q rfl (qt_sub rfl rfl) rfl rfl ?_
                  refine SL_nil ?_
                  obtain ⟨x88, hx89, hs47⟩ := bind_some hs47
                  refine XL_indexH H76.ctx (Has.hd) hx89 u27 i3 rfl rfl rfl rfl (fun b90 off91 cap92 hv93 => ?_)
                  refine WL_storeH (fo := 0) (cs' := [.int .i64 (IntKind.wrap .i64 (x77 - x86))]) H76 hx89 hv93 (Upd.whole (Blt.int)) rfl il3 rfl rfl rfl rfl (fun w94 H95 => ?_)
                  have H96 : Holds (([] : List Res).flatMap Res.own) w w94 [.sl 3 (.int .i64) v70 (List.set x68 (Int.toNat s30) (IntKind.wrap .i64 (x77 - x86))), .sl 3 (.int .i64) v6 x2.2] G := H95
                  refine WL_nil_seq ?_
                  refine WP_seq ?_
                  refine WP_tail 9 (by kernel_rfl) (by kernel_rfl) (fun w97 hb98 => ?_)
                  have H99 : Holds (([] : List Res).flatMap Res.own) w w97 [.sl 3 (.int .i64) v70 (List.set x68 (Int.toNat s30) (IntKind.wrap .i64 (x77 - x86))), .sl 3 (.int .i64) v6 x2.2] G := H96.grow hb98
                  refine XL_q rfl (qt_move rfl) rfl rfl ?_
                  refine XL_q rfl (qt_move rfl) rfl rfl ?_
                  refine XL_q rfl (qt_move rfl) rfl rfl ?_
                  refine XL_q rfl (qt_move rfl) rfl rfl ?_
                  obtain ⟨x100, hx101, hs47⟩ := bind_some hs47
                  refine XL_indexH H99.ctx (Has.hd) hx101 u27 i3 rfl rfl rfl rfl (fun b102 off103 cap104 hv105 => ?_)
                  obtain ⟨F106, hat107, hdup108⟩ := H99.at (Has.hd) hx101 hv105
                  refine XL_load_int (k := .i64) u3 rfl hat107 rfl rfl rfl ?_
                  refine XL_q rfl (qt_move rfl) rfl rfl ?_
                  obtain ⟨x109, hx110, hs47⟩ := bind_some hs47
                  refine XL_q rfl (qt_shlO rfl rfl hx110) rfl rfl ?_
                  refine XL_q rfl (qt_sub rfl rfl) rfl rfl ?_
                  refine SL_nil ?_
                  obtain ⟨x111, hx112, hs47⟩ := bind_some hs47
                  refine XL_indexH H99.ctx (Has.hd) hx112 u27 i3 rfl rfl rfl rfl (fun b113 off114 cap115 hv116 => ?_)
                  refine WL_storeH (fo := 0) (cs' := [.int .i64 (IntKind.wrap .i64 (x100 - x109))]) H99 hx112 hv116 (Upd.whole (Blt.int)) rfl il3 rfl rfl rfl rfl (fun w117 H118 => ?_)
                  have H119 : Holds (([] : List Res).flatMap Res.own) w w117 [.sl 3 (.int .i64) v70 (List.set (List.set x68 (Int.toNat s30) (IntKind.wrap .i64 (x77 - x86))) (Int.toNat s41) (IntKind.wrap .i64 (x100 - x109))), .sl 3 (.int .i64) v6 x2.2] G := H118
                  refine WL_nil_seq ?_
                  refine WP_seq ?_
                  refine WP_still ?_
                  refine XL_q rfl (qt_move rfl) rfl rfl ?_
                  refine XL_q rfl (qt_move rfl) rfl rfl ?_
                  obtain ⟨x120, hx121, hs47⟩ := bind_some hs47
                  refine QL_call rfl rfl c32 (fun w' hb => (w_impl_SeatsLeast w' ([.sl 3 (.int .i64) v70 (List.set (List.set x68 (Int.toNat s30) (IntKind.wrap .i64 (x77 - x86))) (Int.toNat s41) (IntKind.wrap .i64 (x100 - x109))), .sl 3 (.int .i64) v6 x2.2] ++ G) x2.1 v70 (List.set (List.set x68 (Int.toNat s30) (IntKind.wrap .i64 (x77 - x86))) (Int.toNat s41) (IntKind.wrap .i64 (x100 - x109))) (Has.hd) x120 hx121 (H119.grow hb).ctx).mono fun e w'' hK => ⟨hK.1, hK.2.bel⟩) (by rfl) ?_
                  refine XL_q rfl (qt_assign rfl) rfl rfl ?_
                  refine QL_nil fun a ha w122 hb123 => ?_
                  have H124 : Holds (([] : List Res).flatMap Res.own) w w122 [.sl 3 (.int .i64) v70 (List.set (List.set x68 (Int.toNat s30) (IntKind.wrap .i64 (x77 - x86))) (Int.toNat s41) (IntKind.wrap .i64 (x100 - x109))), .sl 3 (.int .i64) v6 x2.2] G := H119.grow hb123
                  refine nrm_seq (WP.app ?_ ha)
                  refine WP_seq ?_
                  refine WP_region ?_
                  refine XL_q rfl (qt_move rfl) rfl rfl ?_
                  refine XL_q rfl (qt_move rfl) rfl rfl ?_
                  refine XL_q rfl (qt_neq rfl rfl) rfl rfl ?_
                  refine XL_q rfl (qt_move rfl) rfl rfl ?_
                  refine XL_join 5 85 (.bool ((x120 != x8) && (x120 != (IntKind.wrap .i64 (x8 - 1))))) ?_ (fun md hmd hk => ?_)
                  rotate_left
                  · obtain ⟨Q, rfl⟩ := Md.seq_of hmd
                    rcases btf (x120 != x8) with hc125 | hc125
                    · skip
                      refine XL_q (w_take rfl hc125) (qt_move rfl) rfl rfl ?_
                      refine XL_q (w_take rfl hc125) (qt_move rfl) rfl rfl ?_
                      refine XL_q (w_take rfl hc125) (qt_sub rfl rfl) rfl rfl ?_
                      refine XL_q (w_take rfl hc125) (qt_neq rfl rfl) rfl rfl ?_
                      refine XL_q rfl (qt_pickT rfl hc125 rfl) rfl rfl ?_
                      exact hk _ (Cov.same (by rw [hc125]; rfl) (Cov.fresh rfl (Cov.fresh rfl (Cov.fresh rfl (Cov.fresh rfl (Cov.refl))))))
                    · skip
                      refine XL_skip (w_skip rfl hc125) rfl rfl ?_
                      refine XL_skip (w_skip rfl hc125) rfl rfl ?_
                      refine XL_skip (w_skip rfl hc125) rfl rfl ?_
                      refine XL_skip (w_skip rfl hc125) rfl rfl ?_
                      refine XL_q rfl (qt_pickF rfl hc125 rfl) rfl rfl ?_
                      exact hk _ (Cov.same (by rw [hc125]; rfl) (Cov.fresh rfl (Cov.fresh rfl (Cov.fresh rfl (Cov.fresh rfl (Cov.refl))))))
                  refine WL_nil_seq ?_
                  refine WP_cond rfl (fun hc126 => ?_) (fun hc126 => ?_)
                  · have hs47 := if_t hc126 hs47
                    refine WP_seq ?_
                    refine WP_region ?_
                    refine XL_q rfl (qt_assign rfl) rfl rfl ?_
                    refine WL_nil_seq ?_
                    refine WP_ret fun a ha => ?_
                    obtain rfl := Option.some.inj hs47
                    have H127 : Holds (([] : List Res).flatMap Res.own) w w122 [] G := ((H124.cut 0).cut 0)
                    exact ret_block (ret_seq (⟨ret_ne, rfl, ha.sub ⟨rfl, trivial⟩, H127⟩))
                  · have hs47 := if_f hc126 hs47
                    refine WP_skip fun a ha => ?_
                    refine nrm_block (nrm_seq (WP.app ?_ ha))
                    refine WP_region ?_
                    refine XL_q rfl (qt_move rfl) rfl rfl ?_
                    refine XL_q rfl (qt_add rfl rfl) rfl rfl ?_
                    refine XL_q rfl (qt_assign rfl) rfl rfl ?_
                    refine WL_nil fun a ha => ?_
                    obtain rfl := Option.some.inj hs47
                    have H128 : Holds (([] : List Res).flatMap Res.own) w w122 [.sl 3 (.int .i64) v6 x2.2] G := (H124.cut 0)
                    exact ⟨rfl, ha.sub ⟨rfl, rfl, rfl, rfl, rfl, trivial⟩, H128⟩
                · have hs47 := if_f hc63 hs47
                  refine WP_skip fun a ha => ?_
                  refine nrm_block (nrm_seq (WP.app ?_ ha))
                  refine WP_region ?_
                  refine XL_q rfl (qt_move rfl) rfl rfl ?_
                  refine XL_q rfl (qt_add rfl rfl) rfl rfl ?_
                  refine XL_q rfl (qt_assign rfl) rfl rfl ?_
                  refine WL_nil fun a ha => ?_
                  obtain rfl := Option.some.inj hs47
                  exact ⟨rfl, ha.sub ⟨rfl, rfl, rfl, rfl, rfl, trivial⟩, H50⟩
              · have hs47 := if_f hc51 hs47
                refine WP_exit fun a ha => ?_
                obtain rfl := Option.some.inj hs47
                exact exit_seq (⟨exit_ne, rfl, ha.sub ⟨rfl, rfl, rfl, rfl, trivial⟩, H50⟩)
            · intro e a44 w129 hO130
              rcases o42 with o42 | o42
              · skip
                obtain ⟨rfl, hO132⟩ := hO130
                obtain ⟨ha, H131⟩ := hO132
                refine exit_block_eq (nrm_block (nrm_seq (WP.app ?_ ha)))
                refine WP_region ?_
                refine XL_q rfl (qt_move rfl) rfl rfl ?_
                refine XL_q rfl (qt_add rfl rfl) rfl rfl ?_
                refine XL_q rfl (qt_assign rfl) rfl rfl ?_
                refine WL_nil fun a ha => ?_
                obtain rfl := Option.some.inj hs36
                exact ⟨rfl, ha.sub ⟨rfl, rfl, rfl, rfl, trivial⟩, H131⟩
              · skip
                obtain ⟨p133, rfl⟩ : ∃ z, z = o42 := ⟨o42, rfl⟩
                obtain ⟨rfl, hO135⟩ := hO130
                obtain ⟨ha, H134⟩ := hO135
                obtain rfl := Option.some.inj hs36
                exact ret_block (ret_block (ret_seq (⟨ret_ne, rfl, ha.sub ⟨rfl, trivial⟩, H134⟩)))
          · have hs36 := if_f hc40 hs36
            refine WP_exit fun a ha => ?_
            obtain rfl := Option.some.inj hs36
            have H136 : Holds (([] : List Res).flatMap Res.own) w w35 [] G := (H39.cut 0)
            exact exit_seq (⟨exit_ne, rfl, ha.sub ⟨rfl, trivial⟩, H136⟩)
        · intro e a33 w137 hO138
          rcases o31 with o31 | o31
          · skip
            obtain ⟨rfl, hO140⟩ := hO138
            obtain ⟨ha, H139⟩ := hO140
            refine exit_block_eq (nrm_seq (WP.app ?_ ha))
            refine WP_seq ?_
            refine WP_region ?_
            refine XL_q rfl (qt_move rfl) rfl rfl ?_
            refine XL_q rfl (qt_move rfl) rfl rfl ?_
            obtain ⟨x141, hx142, h⟩ := bind_some h
            refine WL_makeH H139 hx142 u27 j3 rfl (fun _ => ⟨rfl, rfl⟩) rfl rfl rfl rfl rfl (fun v143 w144 H145 => ?_)
            have H146 : Holds (([] : List Res).flatMap Res.own) w w144 [.sl 3 (.int .i64) v143 x141] G := H145
            obtain ⟨x147, hx148, h⟩ := bind_some h
            refine WL_call rfl rfl c32 (w_impl_SeatsLeast w144 ([.sl 3 (.int .i64) v143 x141] ++ G) x2.1 v143 x141 (Has.hd) x147 hx148 H146.ctx) (by rfl) ?_
            rintro _ w149 ⟨rfl, H150⟩; refine ⟨_, rfl, ?_⟩
            have H151 : Holds (([] : List Res).flatMap Res.own) w w149 [.sl 3 (.int .i64) v143 x141] G := H146.calledN (Rs := []) H150
            refine XL_q rfl (qt_move rfl) rfl rfl ?_
            refine XL_q rfl (qt_min rfl rfl) rfl rfl ?_
            refine XL_q rfl (qt_eql rfl rfl) rfl rfl ?_
            refine XL_q rfl (qt_assign rfl) rfl rfl ?_
            refine WL_nil_seq ?_
            refine WP_ret fun a ha => ?_
            obtain rfl := Option.some.inj h
            have H152 : Holds (([] : List Res).flatMap Res.own) w w149 [] G := (H151.cut 0)
            exact ret1 rfl ha rfl ⟨rfl, H152⟩
          · skip
            obtain ⟨p153, rfl⟩ : ∃ z, z = o31 := ⟨o31, rfl⟩
            obtain ⟨rfl, hO155⟩ := hO138
            obtain ⟨ha, H154⟩ := hO155
            obtain rfl := Option.some.inj h
            exact ret_block (ret_seq (ret1 rfl ha rfl ⟨rfl, H154⟩))
theorem w_spec_DrawCliqueMost (w : World) (G : List Res) (vp0 : Value) (p0 : List Int) (hp0 : HasRo G (.int .u8) vp0 p0) (r : Int × (List Int)) (h : spec_DrawCliqueMostS p0 = some r) (H : Ctx w G) : Calls Tryd.prog 34 #[vp0] w fun e w' => ∃ (v1 : Value), e = .returned (.tuple #[.int .i64 r.1, v1]) ∧ Holds (([] : List Res).flatMap Res.own) w w' [.sl 3 (.int .i64) v1 r.2] G := by
  have H : Holds (([] : List Res).flatMap Res.own) w w [] G := Holds.startN H
  refine calls_enter (args := [vp0]) (n := 9) Tryd.func34 rfl rfl rfl ?_
  unfold spec_DrawCliqueMostS at h
  refine WP_seq ?_
  refine WP_region ?_
  refine XL_q rfl (qt_assign rfl) rfl rfl ?_
  refine XL_q rfl (qt_assign rfl) rfl rfl ?_
  refine WL_nil_seq ?_
  refine WP_seq ?_
  refine WP_region ?_
  refine XL_q rfl (qt_move rfl) rfl rfl ?_
  obtain ⟨x1, hx2, h⟩ := bind_some h
  refine WL_call rfl rfl c62 (w_spec_l20Open w G vp0 p0 (hp0) x1 hx2 H.ctx) (by rfl) ?_
  rintro _ w3 ⟨v5, b6, rfl, H4⟩; refine ⟨_, rfl, ?_⟩
  have H7 : Holds (([] : List Res).flatMap Res.own) w w3 [.ro (.int .u8) v5 x1.1, .bx b6 66 [v5, .int .i64 x1.2]] G := H.calledN (Rs := []) H4
  have H10 : Holds (([] : List Res).flatMap Res.own) w w3 [.bx b6 66 [v5, .int .i64 x1.2], .ro (.int .u8) v5 x1.1] G := H7.pull 1
  obtain ⟨x8, hx9, h⟩ := bind_some h
  refine WL_call rfl rfl c71 (w_spec_l20Quarrels w3 ([.ro (.int .u8) v5 x1.1] ++ G) b6 v5 x1.1 (HasRo.has (HasRo.hd)) x1.2 9 x8 hx9 H10.ctx) (by rfl) ?_
  rintro _ w11 ⟨v13, rfl, H12⟩; refine ⟨_, rfl, ?_⟩
  have H14 : Holds (([] : List Res).flatMap Res.own) w w11 [.sl 3 (.int .i64) v13 x8.2.2, .bx b6 66 [v5, .int .i64 x8.1], .ro (.int .u8) v5 x1.1] G := H10.calledN (Rs := [_]) H12
  refine XL_q rfl (qt_extract rfl rfl) rfl rfl ?_
  refine XL_q rfl (qt_extract rfl rfl) rfl rfl ?_
  refine XL_q rfl (qt_assign rfl) rfl rfl ?_
  refine XL_q rfl (qt_assign rfl) rfl rfl ?_
  refine WL_nil_seq ?_
  refine WP_ret fun a ha => ?_
  obtain rfl := Option.some.inj h
  have H15 : Holds (([] : List Res).flatMap Res.own) w w11 [.sl 3 (.int .i64) v13 x8.2.2] G := ((H14.cut 1).cut 1)
  exact ret2 rfl ha rfl rfl ⟨v13, rfl, H15⟩
theorem w_impl_CliqueMost (w : World) (G : List Res) (p0 : Int) (vp1 : Value) (p1 : List Int) (hp1 : Has G (.int .i64) vp1 p1) (r : Int) (h : impl_CliqueMostS p0 p1 = some r) (H : Ctx w G) : Calls Tryd.prog 35 #[.int .i64 p0, vp1] w fun e w' => e = .returned (.int .i64 r) ∧ Holds (([] : List Res).flatMap Res.own) w w' [] G := by
  have H : Holds (([] : List Res).flatMap Res.own) w w [] G := Holds.startN H
  refine calls_enter (args := [.int .i64 p0, vp1]) (n := 46) Tryd.func35 rfl rfl rfl ?_
  unfold impl_CliqueMostS at h
  refine WP_seq ?_
  refine WP_region ?_
  refine XL_q rfl (qt_assign rfl) rfl rfl ?_
  refine WL_nil_seq ?_
  refine WP_seq ?_
  refine WP_seq ?_
  refine WP_still ?_
  refine XL_q rfl (qt_move rfl) rfl rfl ?_
  refine XL_q rfl (qt_move rfl) rfl rfl ?_
  obtain ⟨x1, hx2, h⟩ := bind_some h
  refine QL_call rfl rfl c26 (fun w' hb => (w_impl_QuarrelsValid w' G p0 vp1 p1 (hp1) x1 hx2 (H.grow hb).ctx).mono fun e w'' hK => ⟨hK.1, hK.2.bel⟩) (by rfl) ?_
  refine XL_q rfl (qt_not rfl) rfl rfl ?_
  refine QL_nil fun a ha w3 hb4 => ?_
  have H5 : Holds (([] : List Res).flatMap Res.own) w w3 [] G := H.grow hb4
  refine nrm_seq (WP.app ?_ ha)
  refine WP_cond rfl (fun hc6 => ?_) (fun hc6 => ?_)
  · have h := if_t hc6 h
    refine WP_seq ?_
    refine WP_region ?_
    refine XL_q rfl (qt_assign rfl) rfl rfl ?_
    refine WL_nil_seq ?_
    refine WP_ret fun a ha => ?_
    obtain rfl := Option.some.inj h
    exact ret_seq (ret1 rfl ha rfl ⟨rfl, H5⟩)
  · have h := if_f hc6 h
    refine WP_skip_seq ?_
    refine WP_seq ?_
    refine WP_region ?_
    refine XL_q rfl (qt_assign rfl) rfl rfl ?_
    refine WL_nil_seq ?_
    refine WP_seq ?_
    refine WP_seq ?_
    refine WP_region ?_
    refine XL_q rfl (qt_assign rfl) rfl rfl ?_
    refine WL_nil_seq ?_
    refine WP_block ?_
    obtain ⟨o9, ho10, h⟩ := bind_some h
    refine fun a11 ha12 => wp_loop_fix (I := fun s a w2 => match s with | (s7, s8) => (Fr a 46 [(0, .int .i64 p0), (1, vp1), (5, .int .i64 s7), (6, .int .i64 s8)] ∧ Holds (([] : List Res).flatMap Res.own) w w2 [] G)) (O := fun o e a w2 => match o with | q0 => e = .exit 0 ∧ (Fr a 46 [(5, .int .i64 q0)] ∧ Holds (([] : List Res).flatMap Res.own) w w2 [] G)) ho10 ?_ ?_ ?_
    · exact ⟨ha12.sub ⟨rfl, rfl, rfl, rfl, trivial⟩, H5⟩
    · clear ha12
      intro s o15 a w13 hs14 hI16
      obtain ⟨s7, s8⟩ := s
      obtain ⟨ha, H17⟩ := hI16
      refine WP.app ?_ ha
      clear ha
      refine WP_seq ?_
      refine WP_seq ?_
      refine WP_region ?_
      refine XL_q rfl (qt_move rfl) rfl rfl ?_
      refine XL_q rfl (qt_move rfl) rfl rfl ?_
      obtain ⟨x18, hx19, hs14⟩ := bind_some hs14
      refine XL_q rfl (qt_shlO rfl rfl hx19) rfl rfl ?_
      refine XL_q rfl (qt_lss rfl rfl) rfl rfl ?_
      refine WL_nil_seq ?_
      refine WP_cond rfl (fun hc20 => ?_) (fun hc20 => ?_)
      · have hs14 := if_t hc20 hs14
        refine WP_skip_seq ?_
        refine WP_seq ?_
        refine WP_block ?_
        refine WP_seq ?_
        refine WP_region ?_
        refine XL_q rfl (qt_move rfl) rfl rfl ?_
        obtain ⟨x21, hx22, hs14⟩ := bind_some hs14
        refine WL_call rfl rfl c72 (w_impl_membersOf w13 G s8 x21 hx22 H17.ctx) (by rfl) ?_
        rintro _ w23 ⟨v25, rfl, H24⟩; refine ⟨_, rfl, ?_⟩
        have H26 : Holds (([] : List Res).flatMap Res.own) w w23 [.sl 3 (.int .i64) v25 x21] G := H17.calledN (Rs := []) H24
        refine XL_q rfl (qt_assign rfl) rfl rfl ?_
        refine WL_nil_seq ?_
        refine WP_seq ?_
        refine WP_region ?_
        refine XL_q rfl (qt_assign rfl) rfl rfl ?_
        refine WL_nil_seq ?_
        refine WP_seq ?_
        refine WP_seq ?_
        refine WP_region ?_
        refine XL_q rfl (qt_move rfl) rfl rfl ?_
        refine XL_lenH H26.ctx (t := (.int .i64)) (Has.hd) u27 rfl rfl rfl ?_
        refine XL_q rfl (qt_move rfl) rfl rfl ?_
        refine WL_nil_seq ?_
        refine WP_block ?_
        obtain ⟨o29, ho30, hs14⟩ := bind_some hs14
        refine fun a31 ha32 => wp_loop_fix (I := fun s a w2 => match s with | (s27, s28) => (Fr a 46 [(0, .int .i64 p0), (1, vp1), (5, .int .i64 s7), (6, .int .i64 s8), (7, v25), (8, .bool s27), (23, v25), (24, .int .i64 (List.length x21 : Int)), (25, .int .i64 s28)] ∧ Holds (([] : List Res).flatMap Res.own) w w2 [.sl 3 (.int .i64) v25 x21] G)) (O := fun o e a w2 => match o with | q0 => e = .exit 2 ∧ (Fr a 46 [(0, .int .i64 p0), (1, vp1), (5, .int .i64 s7), (6, .int .i64 s8), (7, v25), (8, .bool q0)] ∧ Holds (([] : List Res).flatMap Res.own) w w2 [.sl 3 (.int .i64) v25 x21] G)) ho30 ?_ ?_ ?_
        · exact ⟨ha32.sub ⟨rfl, rfl, rfl, rfl, rfl, rfl, rfl, rfl, rfl, trivial⟩, H26⟩
        · clear ha32
          intro s o35 a w33 hs34 hI36
          obtain ⟨s27, s28⟩ := s
          obtain ⟨ha, H37⟩ := hI36
          refine WP.app ?_ ha
          clear ha
          refine WP_seq ?_
          refine WP_region ?_
          refine XL_q rfl (qt_lss rfl rfl) rfl rfl ?_
          refine WL_nil_seq ?_
          refine WP_seq ?_
          refine WP_cond rfl (fun hc38 => ?_) (fun hc38 => ?_)
          · have hs34 := if_t hc38 hs34
            refine WP_skip_seq ?_
            refine WP_seq ?_
            refine WP_block ?_
            refine WP_seq ?_
            refine WP_region ?_
            obtain ⟨x39, hx40, hs34⟩ := bind_some hs34
            refine XL_indexH H37.ctx (Has.hd) hx40 u27 i3 rfl rfl rfl rfl (fun b41 off42 cap43 hv44 => ?_)
            obtain ⟨F45, hat46, hdup47⟩ := H37.at (Has.hd) hx40 hv44
            refine XL_load_int (k := .i64) u3 rfl hat46 rfl rfl rfl ?_
            refine XL_q rfl (qt_assign rfl) rfl rfl ?_
            refine WL_nil_seq ?_
            refine WP_seq ?_
            refine WP_quiet (by kernel_rfl) (by kernel_rfl) ?_
            refine XL_q rfl (qt_move rfl) rfl rfl ?_
            refine XL_q rfl (qt_move rfl) rfl rfl ?_
            refine XL_q rfl (qt_move rfl) rfl rfl ?_
            obtain ⟨x48, hx49, hs34⟩ := bind_some hs34
            refine XL_indexH H37.ctx (hp1.c) hx49 u27 i3 rfl rfl rfl rfl (fun b50 off51 cap52 hv53 => ?_)
            obtain ⟨F54, hat55, hdup56⟩ := H37.at (hp1.c) hx49 hv53
            refine XL_load_int (k := .i64) u3 rfl hat55 rfl rfl rfl ?_
            refine XL_q rfl (qt_move rfl) rfl rfl ?_
            obtain ⟨x57, hx58, hs34⟩ := bind_some hs34
            refine XL_q rfl (qt_shlO rfl rfl hx58) rfl rfl ?_
            refine XL_q rfl (qt_or rfl rfl) rfl rfl ?_
            refine XL_q rfl (qt_andNot rfl rfl) rfl rfl ?_
            refine XL_q rfl (qt_neq rfl rfl) rfl rfl ?_
            refine QL_nil fun a ha w59 hb60 => ?_
            have H61 : Holds (([] : List Res).flatMap Res.own) w w59 [.sl 3 (.int .i64) v25 x21] G := H37.grow hb60
            refine nrm_seq (WP.app ?_ ha)
            refine WP_cond rfl (fun hc62 => ?_) (fun hc62 => ?_)
            · have hs34 := if_t hc62 hs34
              refine WP_region ?_
              refine XL_q rfl (qt_assign rfl) rfl rfl ?_
              refine WL_nil fun a ha => ?_
              refine nrm_block (nrm_seq (WP.app ?_ ha))
              refine WP_region ?_
              refine XL_q rfl (qt_add rfl rfl) rfl rfl ?_
              refine XL_q rfl (qt_move rfl) rfl rfl ?_
              refine WL_nil fun a ha => ?_
              obtain rfl := Option.some.inj hs34
              exact ⟨rfl, ha.sub ⟨rfl, rfl, rfl, rfl, rfl, rfl, rfl, rfl, rfl, trivial⟩, H61⟩
            · have hs34 := if_f hc62 hs34
              refine WP_skip fun a ha => ?_
              refine nrm_block (nrm_seq (WP.app ?_ ha))
              refine WP_region ?_
              refine XL_q rfl (qt_add rfl rfl) rfl rfl ?_
              refine XL_q rfl (qt_move rfl) rfl rfl ?_
              refine WL_nil fun a ha => ?_
              obtain rfl := Option.some.inj hs34
              exact ⟨rfl, ha.sub ⟨rfl, rfl, rfl, rfl, rfl, rfl, rfl, rfl, rfl, trivial⟩, H61⟩
          · have hs34 := if_f hc38 hs34
            refine WP_exit fun a ha => ?_
            obtain rfl := Option.some.inj hs34
            exact exit_seq (⟨exit_ne, rfl, ha.sub ⟨rfl, rfl, rfl, rfl, rfl, rfl, trivial⟩, H37⟩)
        · intro e a31 w63 hO64
          obtain ⟨p65, rfl⟩ : ∃ z, z = o29 := ⟨o29, rfl⟩
          obtain ⟨rfl, hO67⟩ := hO64
          obtain ⟨ha, H66⟩ := hO67
          refine exit_block_eq (nrm_seq (WP.app ?_ ha))
          refine WP_seq ?_
          refine WP_region ?_
          refine XL_q rfl (qt_move rfl) rfl rfl ?_
          refine WL_nil_seq ?_
          refine WP_cond rfl (fun hc68 => ?_) (fun hc68 => ?_)
          · have hs14 := if_t hc68 hs14
            refine WP_region ?_
            refine XL_q rfl (qt_move rfl) rfl rfl ?_
            refine XL_q rfl (qt_move rfl) rfl rfl ?_
            refine XL_lenH H66.ctx (t := (.int .i64)) (Has.hd) u27 rfl rfl rfl ?_
            refine XL_q rfl (qt_max rfl rfl) rfl rfl ?_
            refine XL_q rfl (qt_assign rfl) rfl rfl ?_
            refine WL_nil fun a ha => ?_
            refine nrm_block (nrm_seq (WP.app ?_ ha))
            refine WP_region ?_
            refine XL_q rfl (qt_move rfl) rfl rfl ?_
            refine XL_q rfl (qt_add rfl rfl) rfl rfl ?_
            refine XL_q rfl (qt_assign rfl) rfl rfl ?_
            refine WL_nil fun a ha => ?_
            obtain rfl := Option.some.inj hs14
            have H69 : Holds (([] : List Res).flatMap Res.own) w w63 [] G := (H66.cut 0)
            exact ⟨rfl, ha.sub ⟨rfl, rfl, rfl, rfl, trivial⟩, H69⟩
          · have hs14 := if_f hc68 hs14
            refine WP_skip fun a ha => ?_
            refine nrm_block (nrm_seq (WP.app ?_ ha))
            refine WP_region ?_
            refine XL_q rfl (qt_move rfl) rfl rfl ?_
            refine XL_q rfl (qt_add rfl rfl) rfl rfl ?_
            refine XL_q rfl (qt_assign rfl) rfl rfl ?_
            refine WL_nil fun a ha => ?_
            obtain rfl := Option.some.inj hs14
            have H70 : Holds (([] : List Res).flatMap Res.own) w w63 [] G := (H66.cut 0)
            exact ⟨rfl, ha.sub ⟨rfl, rfl, rfl, rfl, trivial⟩, H70⟩
      · have hs14 := if_f hc20 hs14
        refine WP_exit fun a ha => ?_
        obtain rfl := Option.some.inj hs14
        exact exit_seq (⟨exit_ne, rfl, ha.sub ⟨rfl, trivial⟩, H17⟩)
    · intro e a11 w71 hO72
      obtain ⟨p73, rfl⟩ : ∃ z, z = o9 := ⟨o9, rfl⟩
      obtain ⟨rfl, hO75⟩ := hO72
      obtain ⟨ha, H74⟩ := hO75
      refine exit_block_eq (nrm_seq (WP.app ?_ ha))
      refine WP_seq ?_
      refine WP_region ?_
      refine XL_q rfl (qt_move rfl) rfl rfl ?_
      refine XL_q rfl (qt_assign rfl) rfl rfl ?_
      refine WL_nil_seq ?_
      refine WP_ret fun a ha => ?_
      obtain rfl := Option.some.inj h
      exact ret1 rfl ha rfl ⟨rfl, H74⟩
theorem w_spec_CliqueMost (w : World) (G : List Res) (p0 : Int) (vp1 : Value) (p1 : List Int) (hp1 : Has G (.int .i64) vp1 p1) (r : Int) (h : spec_CliqueMostS p0 p1 = some r) (H : Ctx w G) : Calls Tryd.prog 36 #[.int .i64 p0, vp1] w fun e w' => e = .returned (.int .i64 r) ∧ Holds (([] : List Res).flatMap Res.own) w w' [] G := by
  have H : Holds (([] : List Res).flatMap Res.own) w w [] G := Holds.startN H
  refine calls_enter (args := [.int .i64 p0, vp1]) (n := 51) Tryd.func36 rfl rfl rfl ?_
  unfold spec_CliqueMostS at h
  refine WP_seq ?_
  refine WP_region ?_
  refine XL_q rfl (qt_assign rfl) rfl rfl ?_
  refine WL_nil_seq ?_
  refine WP_seq ?_
  refine WP_seq ?_
  refine WP_still ?_
  refine XL_q rfl (qt_move rfl) rfl rfl ?_
  refine XL_q rfl (qt_move rfl) rfl rfl ?_
  obtain ⟨x1, hx2, h⟩ := bind_some h
  refine QL_call rfl rfl c27 (fun w' hb => (w_spec_QuarrelsValid w' G p0 vp1 p1 (hp1) x1 hx2 (H.grow hb).ctx).mono fun e w'' hK => ⟨hK.1, hK.2.bel⟩) (by rfl) ?_
  refine XL_q rfl (qt_not rfl) rfl rfl ?_
  refine QL_nil fun a ha w3 hb4 => ?_
  have H5 : Holds (([] : List Res).flatMap Res.own) w w3 [] G := H.grow hb4
  refine nrm_seq (WP.app ?_ ha)
  refine WP_cond rfl (fun hc6 => ?_) (fun hc6 => ?_)
  · have h := if_t hc6 h
    refine WP_seq ?_
    refine WP_region ?_
    refine XL_q rfl (qt_assign rfl) rfl rfl ?_
    refine WL_nil_seq ?_
    refine WP_ret fun a ha => ?_
    obtain rfl := Option.some.inj h
    exact ret_seq (ret1 rfl ha rfl ⟨rfl, H5⟩)
  · have h := if_f hc6 h
    refine WP_skip_seq ?_
    refine WP_seq ?_
    refine WP_region ?_
    refine XL_q rfl (qt_assign rfl) rfl rfl ?_
    refine WL_nil_seq ?_
    refine WP_seq ?_
    refine WP_seq ?_
    refine WP_region ?_
    refine XL_q rfl (qt_assign rfl) rfl rfl ?_
    refine WL_nil_seq ?_
    refine WP_block ?_
    obtain ⟨o9, ho10, h⟩ := bind_some h
    refine fun a11 ha12 => wp_loop_fix (I := fun s a w2 => match s with | (s7, s8) => (Fr a 51 [(0, .int .i64 p0), (1, vp1), (5, .int .i64 s7), (6, .int .i64 s8)] ∧ Holds (([] : List Res).flatMap Res.own) w w2 [] G)) (O := fun o e a w2 => match o with | q0 => e = .exit 0 ∧ (Fr a 51 [(5, .int .i64 q0)] ∧ Holds (([] : List Res).flatMap Res.own) w w2 [] G)) ho10 ?_ ?_ ?_
    · exact ⟨ha12.sub ⟨rfl, rfl, rfl, rfl, trivial⟩, H5⟩
    · clear ha12
      intro s o15 a w13 hs14 hI16
      obtain ⟨s7, s8⟩ := s
      obtain ⟨ha, H17⟩ := hI16
      refine WP.app ?_ ha
      clear ha
      refine WP_seq ?_
      refine WP_seq ?_
      refine WP_region ?_
      refine XL_q rfl (qt_move rfl) rfl rfl ?_
      refine XL_q rfl (qt_move rfl) rfl rfl ?_
      obtain ⟨x18, hx19, hs14⟩ := bind_some hs14
      refine XL_q rfl (qt_shlO rfl rfl hx19) rfl rfl ?_
      refine XL_q rfl (qt_lss rfl rfl) rfl rfl ?_
      refine WL_nil_seq ?_
      refine WP_cond rfl (fun hc20 => ?_) (fun hc20 => ?_)
      · have hs14 := if_t hc20 hs14
        refine WP_skip_seq ?_
        refine WP_seq ?_
        refine WP_block ?_
        refine WP_seq ?_
        refine WP_region ?_
        refine XL_q rfl (qt_assign rfl) rfl rfl ?_
        refine WL_nil_seq ?_
        refine WP_seq ?_
        refine WP_seq ?_
        refine WP_region ?_
        refine XL_q rfl (qt_assign rfl) rfl rfl ?_
        refine WL_nil_seq ?_
        refine WP_block ?_
        obtain ⟨o23, ho24, hs14⟩ := bind_some hs14
        refine fun a25 ha26 => wp_loop_fix (I := fun s a w2 => match s with | (s21, s22) => (Fr a 51 [(0, .int .i64 p0), (1, vp1), (5, .int .i64 s7), (6, .int .i64 s8), (7, .bool s21), (8, .int .i64 s22)] ∧ Holds (([] : List Res).flatMap Res.own) w w2 [] G)) (O := fun o e a w2 => match o with | q0 => e = .exit 2 ∧ (Fr a 51 [(0, .int .i64 p0), (1, vp1), (5, .int .i64 s7), (6, .int .i64 s8), (7, .bool q0)] ∧ Holds (([] : List Res).flatMap Res.own) w w2 [] G)) ho24 ?_ ?_ ?_
        · exact ⟨ha26.sub ⟨rfl, rfl, rfl, rfl, rfl, rfl, trivial⟩, H17⟩
        · clear ha26
          intro s o29 a w27 hs28 hI30
          obtain ⟨s21, s22⟩ := s
          obtain ⟨ha, H31⟩ := hI30
          refine WP.app ?_ ha
          clear ha
          refine WP_seq ?_
          refine WP_seq ?_
          refine WP_region ?_
          refine XL_q rfl (qt_move rfl) rfl rfl ?_
          refine XL_q rfl (qt_move rfl) rfl rfl ?_
          refine XL_q rfl (qt_lss rfl rfl) rfl rfl ?_
          refine WL_nil_seq ?_
          refine WP_cond rfl (fun hc32 => ?_) (fun hc32 => ?_)
          · have hs28 := if_t hc32 hs28
            refine WP_skip_seq ?_
            refine WP_seq ?_
            refine WP_block ?_
            refine WP_quiet (by kernel_rfl) (by kernel_rfl) ?_
            refine XL_q rfl (qt_move rfl) rfl rfl ?_
            refine XL_q rfl (qt_move rfl) rfl rfl ?_
            obtain ⟨b33, hg34, hs28⟩ := bind_some hs28
            refine XL_join 19 44 (.bool b33) ?_ (fun md hmd hk => ?_)
            rotate_left
            · obtain ⟨K, rfl⟩ := Md.quiet_of hmd
              rcases btf s21 with hc35 | hc35
              · skip
                have hg34 := if_t hc35 hg34
                refine XL_q (w_take rfl hc35) (qt_move rfl) rfl rfl ?_
                refine XL_q (w_take rfl hc35) (qt_move rfl) rfl rfl ?_
                obtain ⟨x36, hx37, hg34⟩ := bind_some hg34
                refine XL_q (w_take rfl hc35) (qt_shrO rfl rfl hx37) rfl rfl ?_
                refine XL_q (w_take rfl hc35) (qt_rem rfl rfl (by decide)) rfl rfl ?_
                refine XL_q (w_take rfl hc35) (qt_eql rfl rfl) rfl rfl ?_
                refine XL_q (w_take rfl hc35) (qt_move rfl) rfl rfl ?_
                obtain ⟨b38, hg39, hg34⟩ := bind_some hg34
                refine XL_join 12 43 (.bool b38) ?_ (fun md hmd hk => ?_)
                rotate_left
                · obtain ⟨K, rfl⟩ := Md.quiet_of hmd
                  rcases btf ((Int.tmod x36 2) == 0) with hc40 | hc40
                  · skip
                    refine XL_skip (w_skip rfl hc40) rfl rfl ?_
                    refine XL_skip (w_skip rfl hc40) rfl rfl ?_
                    refine XL_skip (w_skip rfl hc40) rfl rfl ?_
                    refine XL_skip (w_skip rfl hc40) rfl rfl ?_
                    refine XL_skip (w_skip rfl hc40) rfl rfl ?_
                    refine XL_skip (w_skip rfl hc40) rfl rfl ?_
                    refine XL_skip (w_skip rfl hc40) rfl rfl ?_
                    refine XL_skip (w_skip rfl hc40) rfl rfl ?_
                    refine XL_skip (w_skip rfl hc40) rfl rfl ?_
                    refine XL_skip (w_skip rfl hc40) rfl rfl ?_
                    refine XL_skip (w_skip rfl hc40) rfl rfl ?_
                    refine XL_q (w_take rfl hc35) (qt_pickT rfl hc40 rfl) rfl rfl ?_
                    exact hk _ (Cov.same (vb (if_t hc40 hg39)) (Cov.fresh rfl (Cov.fresh rfl (Cov.fresh rfl (Cov.fresh rfl (Cov.fresh rfl (Cov.fresh rfl (Cov.fresh rfl (Cov.fresh rfl (Cov.fresh rfl (Cov.fresh rfl (Cov.fresh rfl (Cov.refl)))))))))))))
                  · skip
                    have hg39 := if_f hc40 hg39
                    refine XL_q (w_take rfl hc40) (qt_move rfl) rfl rfl ?_
                    refine XL_q (w_take rfl hc40) (qt_move rfl) rfl rfl ?_
                    obtain ⟨x41, hx42, hg39⟩ := bind_some hg39
                    refine XL_indexH H31.ctx (hp1) hx42 u27 i3 (w_take rfl hc40) rfl rfl rfl (fun b43 off44 cap45 hv46 => ?_)
                    obtain ⟨F47, hat48, hdup49⟩ := H31.at (hp1) hx42 hv46
                    refine XL_load_int (k := .i64) u3 rfl hat48 (w_take rfl hc40) rfl rfl ?_
                    refine XL_q (w_take rfl hc40) (qt_move rfl) rfl rfl ?_
                    obtain ⟨x50, hx51, hg39⟩ := bind_some hg39
                    refine QL_call (w_take rfl hc40) rfl c76 (fun w' hb => (w_spec_l1Meet w' G x41 s8 x50 hx51 (H31.grow hb).ctx).mono fun e w'' hK => ⟨hK.1, hK.2.bel⟩) (by rfl) ?_
                    refine XL_q (w_take rfl hc40) (qt_move rfl) rfl rfl ?_
                    refine XL_q (w_take rfl hc40) (qt_move rfl) rfl rfl ?_
                    obtain ⟨x52, hx53, hg39⟩ := bind_some hg39
                    refine XL_q (w_take rfl hc40) (qt_shlO rfl rfl hx53) rfl rfl ?_
                    refine XL_q (w_take rfl hc40) (qt_sub rfl rfl) rfl rfl ?_
                    refine XL_q (w_take rfl hc40) (qt_eql rfl rfl) rfl rfl ?_
                    refine XL_q (w_take rfl hc35) (qt_pickF rfl hc40 rfl) rfl rfl ?_
                    exact hk _ (Cov.same (vb hg39) (Cov.fresh rfl (Cov.fresh rfl (Cov.fresh rfl (Cov.fresh rfl (Cov.fresh rfl (Cov.fresh rfl (Cov.fresh rfl (Cov.fresh rfl (Cov.fresh rfl (Cov.fresh rfl (Cov.fresh rfl (Cov.refl)))))))))))))
                refine XL_q rfl (qt_pickT rfl hc35 rfl) rfl rfl ?_
                exact hk _ (Cov.same (vb hg34) (Cov.fresh rfl (Cov.fresh rfl (Cov.fresh rfl (Cov.fresh rfl (Cov.fresh rfl (Cov.fresh rfl (Cov.fresh rfl (Cov.refl)))))))))
              · skip
                refine XL_skip (w_skip rfl hc35) rfl rfl ?_
                refine XL_skip (w_skip rfl hc35) rfl rfl ?_
                refine XL_skip (w_skip rfl hc35) rfl rfl ?_
                refine XL_skip (w_skip rfl hc35) rfl rfl ?_
                refine XL_skip (w_skip rfl hc35) rfl rfl ?_
                refine XL_skip (w_skip rfl hc35) rfl rfl ?_
                refine XL_skip rfl rfl rfl ?_
                refine XL_skip rfl rfl rfl ?_
                refine XL_skip rfl rfl rfl ?_
                refine XL_skip rfl rfl rfl ?_
                refine XL_skip rfl rfl rfl ?_
                refine XL_skip rfl rfl rfl ?_
                refine XL_skip rfl rfl rfl ?_
                refine XL_skip rfl rfl rfl ?_
                refine XL_skip rfl rfl rfl ?_
                refine XL_skip rfl rfl rfl ?_
                refine XL_skip rfl rfl rfl ?_
                refine XL_skip (w_skip rfl hc35) rfl rfl ?_
                refine XL_q rfl (qt_pickF rfl hc35 rfl) rfl rfl ?_
                exact hk _ (Cov.same (vb (if_f hc35 hg34)) (Cov.fresh rfl (Cov.fresh rfl (Cov.fresh rfl (Cov.fresh rfl (Cov.fresh rfl (Cov.fresh rfl (Cov.fresh rfl (Cov.fresh rfl (Cov.fresh rfl (Cov.fresh rfl (Cov.fresh rfl (Cov.fresh rfl (Cov.fresh rfl (Cov.fresh rfl (Cov.fresh rfl (Cov.fresh rfl (Cov.fresh rfl (Cov.fresh rfl (Cov.refl))))))))))))))))))))
            refine XL_q rfl (qt_assign rfl) rfl rfl ?_
            refine QL_nil fun a ha w54 hb55 => ?_
            have H56 : Holds (([] : List Res).flatMap Res.own) w w54 [] G := H31.grow hb55
            refine nrm_block (nrm_seq (WP.app ?_ ha))
            refine WP_region ?_
            refine XL_q rfl (qt_move rfl) rfl rfl ?_
            refine XL_q rfl (qt_add rfl rfl) rfl rfl ?_
            refine XL_q rfl (qt_assign rfl) rfl rfl ?_
            refine WL_nil fun a ha => ?_
            obtain rfl := Option.some.inj hs28
            exact ⟨rfl, ha.sub ⟨rfl, rfl, rfl, rfl, rfl, rfl, trivial⟩, H56⟩
          · have hs28 := if_f hc32 hs28
            refine WP_exit fun a ha => ?_
            obtain rfl := Option.some.inj hs28
            exact exit_seq (⟨exit_ne, rfl, ha.sub ⟨rfl, rfl, rfl, rfl, rfl, trivial⟩, H31⟩)
        · intro e a25 w57 hO58
          obtain ⟨p59, rfl⟩ : ∃ z, z = o23 := ⟨o23, rfl⟩
          obtain ⟨rfl, hO61⟩ := hO58
          obtain ⟨ha, H60⟩ := hO61
          refine exit_block_eq (nrm_seq (WP.app ?_ ha))
          refine WP_seq ?_
          refine WP_region ?_
          refine XL_q rfl (qt_move rfl) rfl rfl ?_
          refine WL_nil_seq ?_
          refine WP_cond rfl (fun hc62 => ?_) (fun hc62 => ?_)
          · have hs14 := if_t hc62 hs14
            refine WP_still ?_
            refine XL_q rfl (qt_move rfl) rfl rfl ?_
            refine XL_q rfl (qt_move rfl) rfl rfl ?_
            obtain ⟨x63, hx64, hs14⟩ := bind_some hs14
            refine QL_call rfl rfl c65 (fun w' hb => (w_spec_l6Count w' G s8 x63 hx64 (H60.grow hb).ctx).mono fun e w'' hK => ⟨hK.1, hK.2.bel⟩) (by rfl) ?_
            refine XL_q rfl (qt_max rfl rfl) rfl rfl ?_
            refine XL_q rfl (qt_assign rfl) rfl rfl ?_
            refine QL_nil fun a ha w65 hb66 => ?_
            have H67 : Holds (([] : List Res).flatMap Res.own) w w65 [] G := H60.grow hb66
            refine nrm_block (nrm_seq (WP.app ?_ ha))
            refine WP_region ?_
            refine XL_q rfl (qt_move rfl) rfl rfl ?_
            refine XL_q rfl (qt_add rfl rfl) rfl rfl ?_
            refine XL_q rfl (qt_assign rfl) rfl rfl ?_
            refine WL_nil fun a ha => ?_
            obtain rfl := Option.some.inj hs14
            exact ⟨rfl, ha.sub ⟨rfl, rfl, rfl, rfl, trivial⟩, H67⟩
          · have hs14 := if_f hc62 hs14
            refine WP_skip fun a ha => ?_
            refine nrm_block (nrm_seq (WP.app ?_ ha))
            refine WP_region ?_
            refine XL_q rfl (qt_move rfl) rfl rfl ?_
            refine XL_q rfl (qt_add rfl rfl) rfl rfl ?_
            refine XL_q rfl (qt_assign rfl) rfl rfl ?_
            refine WL_nil fun a ha => ?_
            obtain rfl := Option.some.inj hs14
            exact ⟨rfl, ha.sub ⟨rfl, rfl, rfl, rfl, trivial⟩, H60⟩
      · have hs14 := if_f hc20 hs14
        refine WP_exit fun a ha => ?_
        obtain rfl := Option.some.inj hs14
        exact exit_seq (⟨exit_ne, rfl, ha.sub ⟨rfl, trivial⟩, H17⟩)
    · intro e a11 w68 hO69
      obtain ⟨p70, rfl⟩ : ∃ z, z = o9 := ⟨o9, rfl⟩
      obtain ⟨rfl, hO72⟩ := hO69
      obtain ⟨ha, H71⟩ := hO72
      refine exit_block_eq (nrm_seq (WP.app ?_ ha))
      refine WP_seq ?_
      refine WP_region ?_
      refine XL_q rfl (qt_move rfl) rfl rfl ?_
      refine XL_q rfl (qt_assign rfl) rfl rfl ?_
      refine WL_nil_seq ?_
      refine WP_ret fun a ha => ?_
      obtain rfl := Option.some.inj h
      exact ret1 rfl ha rfl ⟨rfl, H71⟩
theorem w_laws_FnCliqueMost (w : World) (G : List Res) (vp0 : Value) (p0 : List Int) (hp0 : HasRo G (.int .u8) vp0 p0) (r : Bool) (h : laws_FnCliqueMostS p0 = some r) (H : Ctx w G) : Calls Tryd.prog 8 #[vp0] w fun e w' => e = .returned (.bool r) ∧ Holds (([] : List Res).flatMap Res.own) w w' [] G := by
  have H : Holds (([] : List Res).flatMap Res.own) w w [] G := Holds.startN H
  refine calls_enter (args := [vp0]) (n := 62) Tryd.func8 rfl rfl rfl ?_
  unfold laws_FnCliqueMostS at h
  refine WP_seq ?_
  refine WP_region ?_
  refine XL_q rfl (qt_assign rfl) rfl rfl ?_
  refine WL_nil_seq ?_
  refine WP_seq ?_
  refine WP_seq ?_
  refine WP_region ?_
  refine XL_q rfl (qt_move rfl) rfl rfl ?_
  refine XL_lenH H.ctx (t := (.int .u8)) (hp0.has) u22 rfl rfl rfl ?_
  refine XL_q rfl (qt_gtr rfl rfl) rfl rfl ?_
  refine WL_nil_seq ?_
  refine WP_cond rfl (fun hc1 => ?_) (fun hc1 => ?_)
  · have h := if_t hc1 h
    refine WP_seq ?_
    refine WP_region ?_
    refine XL_q rfl (qt_assign rfl) rfl rfl ?_
    refine WL_nil_seq ?_
    refine WP_ret fun a ha => ?_
    obtain rfl := Option.some.inj h
    exact ret_seq (ret1 rfl ha rfl ⟨rfl, H⟩)
  · have h := if_f hc1 h
    refine WP_skip_seq ?_
    refine WP_seq ?_
    refine WP_region ?_
    refine XL_q rfl (qt_move rfl) rfl rfl ?_
    obtain ⟨x2, hx3, h⟩ := bind_some h
    refine WL_call rfl rfl c34 (w_spec_DrawCliqueMost w G vp0 p0 (hp0) x2 hx3 H.ctx) (by rfl) ?_
    rintro _ w4 ⟨v6, rfl, H5⟩; refine ⟨_, rfl, ?_⟩
    have H7 : Holds (([] : List Res).flatMap Res.own) w w4 [.sl 3 (.int .i64) v6 x2.2] G := H.calledN (Rs := []) H5
    refine XL_q rfl (qt_move rfl) rfl rfl ?_
    refine XL_q rfl (qt_extract rfl rfl) rfl rfl ?_
    refine XL_q rfl (qt_extract rfl rfl) rfl rfl ?_
    refine XL_q rfl (qt_assign rfl) rfl rfl ?_
    refine XL_q rfl (qt_assign rfl) rfl rfl ?_
    refine WL_nil_seq ?_
    refine WP_seq ?_
    refine WP_still ?_
    refine XL_q rfl (qt_move rfl) rfl rfl ?_
    refine XL_q rfl (qt_move rfl) rfl rfl ?_
    obtain ⟨x8, hx9, h⟩ := bind_some h
    refine QL_call rfl rfl c35 (fun w' hb => (w_impl_CliqueMost w' ([.sl 3 (.int .i64) v6 x2.2] ++ G) x2.1 v6 x2.2 (Has.hd) x8 hx9 (H7.grow hb).ctx).mono fun e w'' hK => ⟨hK.1, hK.2.bel⟩) (by rfl) ?_
    refine XL_q rfl (qt_assign rfl) rfl rfl ?_
    refine QL_nil fun a ha w10 hb11 => ?_
    have H12 : Holds (([] : List Res).flatMap Res.own) w w10 [.sl 3 (.int .i64) v6 x2.2] G := H7.grow hb11
    refine nrm_seq (WP.app ?_ ha)
    refine WP_seq ?_
    refine WP_seq ?_
    refine WP_still ?_
    refine XL_q rfl (qt_move rfl) rfl rfl ?_
    refine XL_q rfl (qt_move rfl) rfl rfl ?_
    refine XL_q rfl (qt_move rfl) rfl rfl ?_
    obtain ⟨x13, hx14, h⟩ := bind_some h
    refine QL_call rfl rfl c36 (fun w' hb => (w_spec_CliqueMost w' ([.sl 3 (.int .i64) v6 x2.2] ++ G) x2.1 v6 x2.2 (Has.hd) x13 hx14 (H12.grow hb).ctx).mono fun e w'' hK => ⟨hK.1, hK.2.bel⟩) (by rfl) ?_
    refine XL_q rfl (qt_neq rfl rfl) rfl rfl ?_
    refine QL_nil fun a ha w15 hb16 => ?_
    have H17 : Holds (([] : List Res).flatMap Res.own) w w15 [.sl 3 (.int .i64) v6 x2.2] G := H12.grow hb16
    refine nrm_seq (WP.app ?_ ha)
    refine WP_cond rfl (fun hc18 => ?_) (fun hc18 => ?_)
    · have h := if_t hc18 h
      refine WP_seq ?_
      refine WP_region ?_
      refine XL_q rfl (qt_assign rfl) rfl rfl ?_
      refine WL_nil_seq ?_
      refine WP_ret fun a ha => ?_
      obtain rfl := Option.some.inj h
      have H19 : Holds (([] : List Res).flatMap Res.own) w w15 [] G := (H17.cut 0)
      exact ret_seq (ret1 rfl ha rfl ⟨rfl, H19⟩)
    · have h := if_f hc18 h
      refine WP_skip_seq ?_
      refine WP_seq ?_
      refine WP_seq ?_
      refine WP_region ?_
      refine XL_q rfl (qt_move rfl) rfl rfl ?_
      refine XL_q rfl (qt_lss rfl rfl) rfl rfl ?_
      refine WL_nil_seq ?_
      refine WP_cond rfl (fun hc20 => ?_) (fun hc20 => ?_)
      · have h := if_t hc20 h
        refine WP_seq ?_
        refine WP_still ?_
        refine XL_q rfl (qt_move rfl) rfl rfl ?_
        refine XL_q rfl (qt_eql rfl rfl) rfl rfl ?_
        refine XL_q rfl (qt_move rfl) rfl rfl ?_
        obtain ⟨b21, hg22, h⟩ := bind_some h
        refine XL_join 2 30 (.bool b21) ?_ (fun md hmd hk => ?_)
        rotate_left
        · obtain ⟨K, rfl⟩ := Md.quiet_of hmd
          rcases btf (x8 == (-1)) with hc23 | hc23
          · skip
            have hg22 := if_t hc23 hg22
            obtain ⟨x24, hx25, hg22⟩ := bind_some hg22
            refine QL_call (w_take rfl hc23) rfl c20 (fun w' hb => (w_laws_alive w' ([.sl 3 (.int .i64) v6 x2.2] ++ G)  x24 hx25 (H17.grow hb).ctx).mono fun e w'' hK => ⟨hK.1, hK.2.bel⟩) (by rfl) ?_
            refine XL_q rfl (qt_pickT rfl hc23 rfl) rfl rfl ?_
            exact hk _ (Cov.same (vb hg22) (Cov.fresh rfl (Cov.refl)))
          · skip
            refine XL_skip (w_skip rfl hc23) rfl rfl ?_
            refine XL_q rfl (qt_pickF rfl hc23 rfl) rfl rfl ?_
            exact hk _ (Cov.same (vb (if_f hc23 hg22)) (Cov.fresh rfl (Cov.refl)))
        refine XL_q rfl (qt_assign rfl) rfl rfl ?_
        refine QL_nil fun a ha w26 hb27 => ?_
        have H28 : Holds (([] : List Res).flatMap Res.own) w w26 [.sl 3 (.int .i64) v6 x2.2] G := H17.grow hb27
        refine nrm_seq (WP.app ?_ ha)
        refine WP_ret fun a ha => ?_
        obtain rfl := Option.some.inj h
        have H29 : Holds (([] : List Res).flatMap Res.own) w w26 [] G := (H28.cut 0)
        exact ret_seq (ret1 rfl ha rfl ⟨rfl, H29⟩)
      · have h := if_f hc20 h
        refine WP_skip_seq ?_
        refine WP_seq ?_
        refine WP_region ?_
        refine XL_q rfl (qt_assign rfl) rfl rfl ?_
        refine WL_nil_seq ?_
        refine WP_seq ?_
        refine WP_seq ?_
        refine WP_region ?_
        refine XL_q rfl (qt_assign rfl) rfl rfl ?_
        refine WL_nil_seq ?_
        refine WP_block ?_
        obtain ⟨o32, ho33, h⟩ := bind_some h
        refine fun a34 ha35 => wp_loop_fix (I := fun s a w2 => match s with | (s30, s31) => (Fr a 62 [(3, .int .i64 x2.1), (4, v6), (5, .int .i64 x8), (6, .bool s30), (7, .int .i64 s31)] ∧ Holds (([] : List Res).flatMap Res.own) w w2 [.sl 3 (.int .i64) v6 x2.2] G)) (O := fun o e a w2 => match o with | q0 => e = .exit 0 ∧ (Fr a 62 [(3, .int .i64 x2.1), (4, v6), (5, .int .i64 x8), (6, .bool q0)] ∧ Holds (([] : List Res).flatMap Res.own) w w2 [.sl 3 (.int .i64) v6 x2.2] G)) ho33 ?_ ?_ ?_
        · exact ⟨ha35.sub ⟨rfl, rfl, rfl, rfl, rfl, trivial⟩, H17⟩
        · clear ha35
          intro s o38 a w36 hs37 hI39
          obtain ⟨s30, s31⟩ := s
          obtain ⟨ha, H40⟩ := hI39
          refine WP.app ?_ ha
          clear ha
          refine WP_seq ?_
          refine WP_seq ?_
          refine WP_region ?_
          refine XL_q rfl (qt_move rfl) rfl rfl ?_
          refine XL_q rfl (qt_move rfl) rfl rfl ?_
          refine XL_q rfl (qt_lss rfl rfl) rfl rfl ?_
          refine WL_nil_seq ?_
          refine WP_cond rfl (fun hc41 => ?_) (fun hc41 => ?_)
          · have hs37 := if_t hc41 hs37
            refine WP_skip_seq ?_
            refine WP_seq ?_
            refine WP_block ?_
            refine WP_region ?_
            refine XL_q rfl (qt_move rfl) rfl rfl ?_
            refine XL_q rfl (qt_move rfl) rfl rfl ?_
            obtain ⟨b42, hg43, hs37⟩ := bind_some hs37
            refine XL_join 6 43 (.bool b42) ?_ (fun md hmd hk => ?_)
            rotate_left
            · obtain ⟨Q, rfl⟩ := Md.seq_of hmd
              rcases btf s30 with hc44 | hc44
              · skip
                refine XL_skip (w_skip rfl hc44) rfl rfl ?_
                refine XL_skip (w_skip rfl hc44) rfl rfl ?_
                refine XL_skip (w_skip rfl hc44) rfl rfl ?_
                refine XL_skip (w_skip rfl hc44) rfl rfl ?_
                refine XL_skip (w_skip rfl hc44) rfl rfl ?_
                refine XL_q rfl (qt_pickT rfl hc44 rfl) rfl rfl ?_
                exact hk _ (Cov.same (vb (if_t hc44 hg43)) (Cov.fresh rfl (Cov.fresh rfl (Cov.fresh rfl (Cov.fresh rfl (Cov.fresh rfl (Cov.refl)))))))
              · skip
                have hg43 := if_f hc44 hg43
                refine XL_q (w_take rfl hc44) (qt_move rfl) rfl rfl ?_
                refine XL_q (w_take rfl hc44) (qt_move rfl) rfl rfl ?_
                obtain ⟨x45, hx46, hg43⟩ := bind_some hg43
                refine XL_indexH H40.ctx (Has.hd) hx46 u27 i3 (w_take rfl hc44) rfl rfl rfl (fun b47 off48 cap49 hv50 => ?_)
                obtain ⟨F51, hat52, hdup53⟩ := H40.at (Has.hd) hx46 hv50
                refine XL_load_int (k := .i64) u3 rfl hat52 (w_take rfl hc44) rfl rfl ?_
                refine XL_q (w_take rfl hc44) (qt_gtr rfl rfl) rfl rfl ?_
                refine XL_q rfl (qt_pickF rfl hc44 rfl) rfl rfl ?_
                exact hk _ (Cov.same (vb hg43) (Cov.fresh rfl (Cov.fresh rfl (Cov.fresh rfl (Cov.fresh rfl (Cov.fresh rfl (Cov.refl)))))))
            refine XL_q rfl (qt_assign rfl) rfl rfl ?_
            refine WL_nil fun a ha => ?_
            refine nrm_block (nrm_seq (WP.app ?_ ha))
            refine WP_region ?_
            refine XL_q rfl (qt_move rfl) rfl rfl ?_
            refine XL_q rfl (qt_add rfl rfl) rfl rfl ?_
            refine XL_q rfl (qt_assign rfl) rfl rfl ?_
            refine WL_nil fun a ha => ?_
            obtain rfl := Option.some.inj hs37
            exact ⟨rfl, ha.sub ⟨rfl, rfl, rfl, rfl, rfl, trivial⟩, H40⟩
          · have hs37 := if_f hc41 hs37
            refine WP_exit fun a ha => ?_
            obtain rfl := Option.some.inj hs37
            exact exit_seq (⟨exit_ne, rfl, ha.sub ⟨rfl, rfl, rfl, rfl, trivial⟩, H40⟩)
        · intro e a34 w54 hO55
          obtain ⟨p56, rfl⟩ : ∃ z, z = o32 := ⟨o32, rfl⟩
          obtain ⟨rfl, hO58⟩ := hO55
          obtain ⟨ha, H57⟩ := hO58
          refine exit_block_eq (nrm_seq (WP.app ?_ ha))
          refine WP_seq ?_
          refine WP_still ?_
          refine XL_q rfl (qt_move rfl) rfl rfl ?_
          refine XL_q rfl (qt_move rfl) rfl rfl ?_
          refine XL_q rfl (qt_move rfl) rfl rfl ?_
          obtain ⟨x59, hx60, h⟩ := bind_some h
          refine QL_call rfl rfl c32 (fun w' hb => (w_impl_SeatsLeast w' ([.sl 3 (.int .i64) v6 x2.2] ++ G) x2.1 v6 x2.2 (Has.hd) x59 hx60 (H57.grow hb).ctx).mono fun e w'' hK => ⟨hK.1, hK.2.bel⟩) (by rfl) ?_
          refine XL_q rfl (qt_leq rfl rfl) rfl rfl ?_
          refine XL_q rfl (qt_move rfl) rfl rfl ?_
          refine XL_join 5 54 (.bool ((decide (x8 ≤ x59)) && ((decide (x8 ≥ 2)) == p56))) ?_ (fun md hmd hk => ?_)
          rotate_left
          · obtain ⟨K, rfl⟩ := Md.quiet_of hmd
            rcases btf (decide (x8 ≤ x59)) with hc61 | hc61
            · skip
              refine XL_q (w_take rfl hc61) (qt_move rfl) rfl rfl ?_
              refine XL_q (w_take rfl hc61) (qt_geq rfl rfl) rfl rfl ?_
              refine XL_q (w_take rfl hc61) (qt_move rfl) rfl rfl ?_
              refine XL_q (w_take rfl hc61) (qt_beql u4 rfl rfl) rfl rfl ?_
              refine XL_q rfl (qt_pickT rfl hc61 rfl) rfl rfl ?_
              exact hk _ (Cov.same (by rw [hc61]; rfl) (Cov.fresh rfl (Cov.fresh rfl (Cov.fresh rfl (Cov.fresh rfl (Cov.refl))))))
            · skip
              refine XL_skip (w_skip rfl hc61) rfl rfl ?_
              refine XL_skip (w_skip rfl hc61) rfl rfl ?_
              refine XL_skip (w_skip rfl hc61) rfl rfl ?_
              refine XL_skip (w_skip rfl hc61) rfl rfl ?_
              refine XL_q rfl (qt_pickF rfl hc61 rfl) rfl rfl ?_
              exact hk _ (Cov.same (by rw [hc61]; rfl) (Cov.fresh rfl (Cov.fresh rfl (Cov.fresh rfl (Cov.fresh rfl (Cov.refl))))))
          refine XL_q rfl (qt_move rfl) rfl rfl ?_
          refine XL_join 6 61 (.bool (((decide (x8 ≤ x59)) && ((decide (x8 ≥ 2)) == p56)) && ((decide (x8 > 0)) == (decide (x2.1 > 0))))) ?_ (fun md hmd hk => ?_)
          rotate_left
          · obtain ⟨K, rfl⟩ := Md.quiet_of hmd
            rcases btf ((decide (x8 ≤ x59)) && ((decide (x8 ≥ 2)) == p56)) with hc62 | hc62
            · skip
              refine XL_q (w_take rfl hc62) (qt_move rfl) rfl rfl ?_
              refine XL_q (w_take rfl hc62) (qt_gtr rfl rfl) rfl rfl ?_
              refine XL_q (w_take rfl hc62) (qt_move rfl) rfl rfl ?_
              refine XL_q (w_take rfl hc62) (qt_gtr rfl rfl) rfl rfl ?_
              refine XL_q (w_take rfl hc62) (qt_beql u4 rfl rfl) rfl rfl ?_
              refine XL_q rfl (qt_pickT rfl hc62 rfl) rfl rfl ?_
              exact hk _ (Cov.same (by rw [hc62]; rfl) (Cov.fresh rfl (Cov.fresh rfl (Cov.fresh rfl (Cov.fresh rfl (Cov.fresh rfl (Cov.refl)))))))
            · skip
              refine XL_skip (w_skip rfl hc62) rfl rfl ?_
              refine XL_skip (w_skip rfl hc62) rfl rfl ?_
              refine XL_skip (w_skip rfl hc62) rfl rfl ?_
              refine XL_skip (w_skip rfl hc62) rfl rfl ?_
              refine XL_skip (w_skip rfl hc62) rfl rfl ?_
              refine XL_q rfl (qt_pickF rfl hc62 rfl) rfl rfl ?_
              exact hk _ (Cov.same (by rw [hc62]; rfl) (Cov.fresh rfl (Cov.fresh rfl (Cov.fresh rfl (Cov.fresh rfl (Cov.fresh rfl (Cov.refl)))))))
          refine XL_q rfl (qt_assign rfl) rfl rfl ?_
          refine QL_nil fun a ha w63 hb64 => ?_
          have H65 : Holds (([] : List Res).flatMap Res.own) w w63 [.sl 3 (.int .i64) v6 x2.2] G := H57.grow hb64
          refine nrm_seq (WP.app ?_ ha)
          refine WP_ret fun a ha => ?_
          obtain rfl := Option.some.inj h
          have H66 : Holds (([] : List Res).flatMap Res.own) w w63 [] G := (H65.cut 0)
          exact ret1 rfl ha rfl ⟨rfl, H66⟩
theorem w_spec_DrawDishesLeast (w : World) (G : List Res) (vp0 : Value) (p0 : List Int) (hp0 : HasRo G (.int .u8) vp0 p0) (r : Int × (List Int)) (h : spec_DrawDishesLeastS p0 = some r) (H : Ctx w G) : Calls Tryd.prog 37 #[vp0] w fun e w' => ∃ (v1 : Value), e = .returned (.tuple #[.int .i64 r.1, v1]) ∧ Holds (([] : List Res).flatMap Res.own) w w' [.sl 3 (.int .i64) v1 r.2] G := by
  have H : Holds (([] : List Res).flatMap Res.own) w w [] G := Holds.startN H
  refine calls_enter (args := [vp0]) (n := 9) Tryd.func37 rfl rfl rfl ?_
  unfold spec_DrawDishesLeastS at h
  refine WP_seq ?_
  refine WP_region ?_
  refine XL_q rfl (qt_assign rfl) rfl rfl ?_
  refine XL_q rfl (qt_assign rfl) rfl rfl ?_
  refine WL_nil_seq ?_
  refine WP_seq ?_
  refine WP_region ?_
  refine XL_q rfl (qt_move rfl) rfl rfl ?_
  obtain ⟨x1, hx2, h⟩ := bind_some h
  refine WL_call rfl rfl c62 (w_spec_l20Open w G vp0 p0 (hp0) x1 hx2 H.ctx) (by rfl) ?_
  rintro _ w3 ⟨v5, b6, rfl, H4⟩; refine ⟨_, rfl, ?_⟩
  have H7 : Holds (([] : List Res).flatMap Res.own) w w3 [.ro (.int .u8) v5 x1.1, .bx b6 66 [v5, .int .i64 x1.2]] G := H.calledN (Rs := []) H4
  have H10 : Holds (([] : List Res).flatMap Res.own) w w3 [.bx b6 66 [v5, .int .i64 x1.2], .ro (.int .u8) v5 x1.1] G := H7.pull 1
  obtain ⟨x8, hx9, h⟩ := bind_some h
  refine WL_call rfl rfl c67 (w_spec_l20Menu w3 ([.ro (.int .u8) v5 x1.1] ++ G) b6 v5 x1.1 (HasRo.has (HasRo.hd)) x1.2 9 x8 hx9 H10.ctx) (by rfl) ?_
  rintro _ w11 ⟨v13, rfl, H12⟩; refine ⟨_, rfl, ?_⟩
  have H14 : Holds (([] : List Res).flatMap Res.own) w w11 [.sl 3 (.int .i64) v13 x8.2.2, .bx b6 66 [v5, .int .i64 x8.1], .ro (.int .u8) v5 x1.1] G := H10.calledN (Rs := [_]) H12
  refine XL_q rfl (qt_extract rfl rfl) rfl rfl ?_
  refine XL_q rfl (qt_extract rfl rfl) rfl rfl ?_
  refine XL_q rfl (qt_assign rfl) rfl rfl ?_
  refine XL_q rfl (qt_assign rfl) rfl rfl ?_
  refine WL_nil_seq ?_
  refine WP_ret fun a ha => ?_
  obtain rfl := Option.some.inj h
  have H15 : Holds (([] : List Res).flatMap Res.own) w w11 [.sl 3 (.int .i64) v13 x8.2.2] G := ((H14.cut 1).cut 1)
  exact ret2 rfl ha rfl rfl ⟨v13, rfl, H15⟩
theorem w_impl_FeedsAll (w : World) (G : List Res) (p0 : Int) (vp1 : Value) (p1 : List Int) (hp1 : Has G (.int .i64) vp1 p1) (p2 : Int) (r : Bool) (h : impl_FeedsAllS p0 p1 p2 = some r) (H : Ctx w G) : Calls Tryd.prog 40 #[.int .i64 p0, vp1, .int .i64 p2] w fun e w' => e = .returned (.bool r) ∧ Holds (([] : List Res).flatMap Res.own) w w' [] G := by
  have H : Holds (([] : List Res).flatMap Res.own) w w [] G := Holds.startN H
  refine calls_enter (args := [.int .i64 p0, vp1, .int .i64 p2]) (n := 19) Tryd.func40 rfl rfl rfl ?_
  unfold impl_FeedsAllS at h
  refine WP_seq ?_
  refine WP_region ?_
  refine XL_q rfl (qt_assign rfl) rfl rfl ?_
  refine WL_nil_seq ?_
  refine WP_seq ?_
  refine WP_still ?_
  refine XL_q rfl (qt_move rfl) rfl rfl ?_
  refine XL_q rfl (qt_move rfl) rfl rfl ?_
  obtain ⟨x1, hx2, h⟩ := bind_some h
  refine QL_call rfl rfl c23 (fun w' hb => (w_impl_MenuValid w' G p0 vp1 p1 (hp1) x1 hx2 (H.grow hb).ctx).mono fun e w'' hK => ⟨hK.1, hK.2.bel⟩) (by rfl) ?_
  refine XL_q rfl (qt_move rfl) rfl rfl ?_
  obtain ⟨b3, hg4, h⟩ := bind_some h
  refine XL_join 8 18 (.bool b3) ?_ (fun md hmd hk => ?_)
  rotate_left
  · obtain ⟨K, rfl⟩ := Md.quiet_of hmd
    rcases btf x1 with hc5 | hc5
    · skip
      have hg4 := if_t hc5 hg4
      refine XL_q (w_take rfl hc5) (qt_move rfl) rfl rfl ?_
      refine XL_q (w_take rfl hc5) (qt_move rfl) rfl rfl ?_
      refine XL_q (w_take rfl hc5) (qt_move rfl) rfl rfl ?_
      obtain ⟨x6, hx7, hg4⟩ := bind_some hg4
      refine QL_call (w_take rfl hc5) rfl c29 (fun w' hb => (w_impl_FedBy w' G p0 vp1 p1 (hp1) p2 x6 hx7 (H.grow hb).ctx).mono fun e w'' hK => ⟨hK.1, hK.2.bel⟩) (by rfl) ?_
      refine XL_q (w_take rfl hc5) (qt_move rfl) rfl rfl ?_
      obtain ⟨x8, hx9, hg4⟩ := bind_some hg4
      refine QL_call (w_take rfl hc5) rfl c69 (fun w' hb => (w_impl_everybody w' G p0 x8 hx9 (H.grow hb).ctx).mono fun e w'' hK => ⟨hK.1, hK.2.bel⟩) (by rfl) ?_
      refine XL_q (w_take rfl hc5) (qt_eql rfl rfl) rfl rfl ?_
      refine XL_q rfl (qt_pickT rfl hc5 rfl) rfl rfl ?_
      exact hk _ (Cov.same (vb hg4) (Cov.fresh rfl (Cov.fresh rfl (Cov.fresh rfl (Cov.fresh rfl (Cov.fresh rfl (Cov.fresh rfl (Cov.fresh rfl (Cov.refl)))))))))
    · skip
      refine XL_skip (w_skip rfl hc5) rfl rfl ?_
      refine XL_skip (w_skip rfl hc5) rfl rfl ?_
      refine XL_skip (w_skip rfl hc5) rfl rfl ?_
      refine XL_skip (w_skip rfl hc5) rfl rfl ?_
      refine XL_skip (w_skip rfl hc5) rfl rfl ?_
      refine XL_skip (w_skip rfl hc5) rfl rfl ?_
      refine XL_skip (w_skip rfl hc5) rfl rfl ?_
      refine XL_q rfl (qt_pickF rfl hc5 rfl) rfl rfl ?_
      exact hk _ (Cov.same (vb (if_f hc5 hg4)) (Cov.fresh rfl (Cov.fresh rfl (Cov.fresh rfl (Cov.fresh rfl (Cov.fresh rfl (Cov.fresh rfl (Cov.fresh rfl (Cov.refl)))))))))
  refine XL_q rfl (qt_assign rfl) rfl rfl ?_
  refine QL_nil fun a ha w10 hb11 => ?_
  have H12 : Holds (([] : List Res).flatMap Res.own) w w10 [] G := H.grow hb11
  refine nrm_seq (WP.app ?_ ha)
  refine WP_ret fun a ha => ?_
  obtain rfl := Option.some.inj h
  exact ret1 rfl ha rfl ⟨rfl, H12⟩
theorem w_impl_DishesLeast (w : World) (G : List Res) (p0 : Int) (vp1 : Value) (p1 : List Int) (hp1 : Has G (.int .i64) vp1 p1) (r : Int) (h : impl_DishesLeastS p0 p1 = some r) (H : Ctx w G) : Calls Tryd.prog 38 #[.int .i64 p0, vp1] w fun e w' => e = .returned (.int .i64 r) ∧ Holds (([] : List Res).flatMap Res.own) w w' [] G := by
  have H : Holds (([] : List Res).flatMap Res.own) w w [] G := Holds.startN H
  refine calls_enter (args := [.int .i64 p0, vp1]) (n := 34) Tryd.func38 rfl rfl rfl ?_
  unfold impl_DishesLeastS at h
  refine WP_seq ?_
  refine WP_region ?_
  refine XL_q rfl (qt_assign rfl) rfl rfl ?_
  refine WL_nil_seq ?_
  refine WP_seq ?_
  refine WP_seq ?_
  refine WP_still ?_
  refine XL_q rfl (qt_move rfl) rfl rfl ?_
  refine XL_q rfl (qt_move rfl) rfl rfl ?_
  obtain ⟨x1, hx2, h⟩ := bind_some h
  refine QL_call rfl rfl c23 (fun w' hb => (w_impl_MenuValid w' G p0 vp1 p1 (hp1) x1 hx2 (H.grow hb).ctx).mono fun e w'' hK => ⟨hK.1, hK.2.bel⟩) (by rfl) ?_
  refine XL_q rfl (qt_not rfl) rfl rfl ?_
  refine QL_nil fun a ha w3 hb4 => ?_
  have H5 : Holds (([] : List Res).flatMap Res.own) w w3 [] G := H.grow hb4
  refine nrm_seq (WP.app ?_ ha)
  refine WP_cond rfl (fun hc6 => ?_) (fun hc6 => ?_)
  · have h := if_t hc6 h
    refine WP_seq ?_
    refine WP_region ?_
    refine XL_q rfl (qt_assign rfl) rfl rfl ?_
    refine WL_nil_seq ?_
    refine WP_ret fun a ha => ?_
    obtain rfl := Option.some.inj h
    exact ret_seq (ret1 rfl ha rfl ⟨rfl, H5⟩)
  · have h := if_f hc6 h
    refine WP_skip_seq ?_
    refine WP_seq ?_
    refine WP_region ?_
    refine XL_q rfl (qt_assign rfl) rfl rfl ?_
    refine WL_nil_seq ?_
    refine WP_seq ?_
    refine WP_seq ?_
    refine WP_region ?_
    refine XL_q rfl (qt_assign rfl) rfl rfl ?_
    refine WL_nil_seq ?_
    refine WP_block ?_
    obtain ⟨o9, ho10, h⟩ := bind_some h
    refine fun a11 ha12 => wp_loop_fix (I := fun s a w2 => match s with | (s7, s8) => (Fr a 34 [(0, .int .i64 p0), (1, vp1), (5, .int .i64 s7), (6, .int .i64 s8)] ∧ Holds (([] : List Res).flatMap Res.own) w w2 [] G)) (O := fun o e a w2 => match o with | q0 => e = .exit 0 ∧ (Fr a 34 [(5, .int .i64 q0)] ∧ Holds (([] : List Res).flatMap Res.own) w w2 [] G)) ho10 ?_ ?_ ?_
    · exact ⟨ha12.sub ⟨rfl, rfl, rfl, rfl, trivial⟩, H5⟩
    · clear ha12
      intro s o15 a w13 hs14 hI16
      obtain ⟨s7, s8⟩ := s
      obtain ⟨ha, H17⟩ := hI16
      refine WP.app ?_ ha
      clear ha
      refine WP_seq ?_
      refine WP_seq ?_
      refine WP_region ?_
      refine XL_q rfl (qt_move rfl) rfl rfl ?_
      refine XL_q rfl (qt_move rfl) rfl rfl ?_
      refine XL_lenH H17.ctx (t := (.int .i64)) (hp1) u27 rfl rfl rfl ?_
      obtain ⟨x18, hx19, hs14⟩ := bind_some hs14
      refine XL_q rfl (qt_shlO rfl rfl hx19) rfl rfl ?_
      refine XL_q rfl (qt_lss rfl rfl) rfl rfl ?_
      refine WL_nil_seq ?_
      refine WP_cond rfl (fun hc20 => ?_) (fun hc20 => ?_)
      · have hs14 := if_t hc20 hs14
        refine WP_skip_seq ?_
        refine WP_seq ?_
        refine WP_block ?_
        refine WP_seq ?_
        refine WP_seq ?_
        refine WP_still ?_
        refine XL_q rfl (qt_move rfl) rfl rfl ?_
        refine XL_q rfl (qt_move rfl) rfl rfl ?_
        refine XL_q rfl (qt_move rfl) rfl rfl ?_
        obtain ⟨x21, hx22, hs14⟩ := bind_some hs14
        refine QL_call rfl rfl c40 (fun w' hb => (w_impl_FeedsAll w' G p0 vp1 p1 (hp1) s8 x21 hx22 (H17.grow hb).ctx).mono fun e w'' hK => ⟨hK.1, hK.2.bel⟩) (by rfl) ?_
        refine XL_q rfl (qt_not rfl) rfl rfl ?_
        refine QL_nil fun a ha w23 hb24 => ?_
        have H25 : Holds (([] : List Res).flatMap Res.own) w w23 [] G := H17.grow hb24
        refine nrm_seq (WP.app ?_ ha)
        refine WP_cond rfl (fun hc26 => ?_) (fun hc26 => ?_)
        · have hs14 := if_t hc26 hs14
          refine WP_exit fun a ha => ?_
          refine exit_seq (exit_block_eq (nrm_seq (WP.app ?_ ha)))
          refine WP_region ?_
          refine XL_q rfl (qt_move rfl) rfl rfl ?_
          refine XL_q rfl (qt_add rfl rfl) rfl rfl ?_
          refine XL_q rfl (qt_assign rfl) rfl rfl ?_
          refine WL_nil fun a ha => ?_
          obtain rfl := Option.some.inj hs14
          exact ⟨rfl, ha.sub ⟨rfl, rfl, rfl, rfl, trivial⟩, H25⟩
        · have hs14 := if_f hc26 hs14
          refine WP_skip_seq ?_
          refine WP_seq ?_
          refine WP_still ?_
          refine XL_q rfl (qt_move rfl) rfl rfl ?_
          refine XL_q rfl (qt_lss rfl rfl) rfl rfl ?_
          refine XL_q rfl (qt_move rfl) rfl rfl ?_
          obtain ⟨b27, hg28, hs14⟩ := bind_some hs14
          refine XL_join 6 31 (.bool b27) ?_ (fun md hmd hk => ?_)
          rotate_left
          · obtain ⟨K, rfl⟩ := Md.quiet_of hmd
            rcases btf (decide (s7 < 0)) with hc29 | hc29
            · skip
              refine XL_skip (w_skip rfl hc29) rfl rfl ?_
              refine XL_skip (w_skip rfl hc29) rfl rfl ?_
              refine XL_skip (w_skip rfl hc29) rfl rfl ?_
              refine XL_skip (w_skip rfl hc29) rfl rfl ?_
              refine XL_skip (w_skip rfl hc29) rfl rfl ?_
              refine XL_q rfl (qt_pickT rfl hc29 rfl) rfl rfl ?_
              exact hk _ (Cov.same (vb (if_t hc29 hg28)) (Cov.fresh rfl (Cov.fresh rfl (Cov.fresh rfl (Cov.fresh rfl (Cov.fresh rfl (Cov.refl)))))))
            · skip
              have hg28 := if_f hc29 hg28
              refine XL_q (w_take rfl hc29) (qt_move rfl) rfl rfl ?_
              obtain ⟨x30, hx31, hg28⟩ := bind_some hg28
              refine QL_call (w_take rfl hc29) rfl c18 (fun w' hb => (w_impl_DishesMany w' G s8 x30 hx31 (H25.grow hb).ctx).mono fun e w'' hK => ⟨hK.1, hK.2.bel⟩) (by rfl) ?_
              refine XL_q (w_take rfl hc29) (qt_move rfl) rfl rfl ?_
              obtain ⟨x32, hx33, hg28⟩ := bind_some hg28
              refine QL_call (w_take rfl hc29) rfl c18 (fun w' hb => (w_impl_DishesMany w' G s7 x32 hx33 (H25.grow hb).ctx).mono fun e w'' hK => ⟨hK.1, hK.2.bel⟩) (by rfl) ?_
              refine XL_q (w_take rfl hc29) (qt_lss rfl rfl) rfl rfl ?_
              refine XL_q rfl (qt_pickF rfl hc29 rfl) rfl rfl ?_
              exact hk _ (Cov.same (vb hg28) (Cov.fresh rfl (Cov.fresh rfl (Cov.fresh rfl (Cov.fresh rfl (Cov.fresh rfl (Cov.refl)))))))
          refine QL_nil fun a ha w34 hb35 => ?_
          have H36 : Holds (([] : List Res).flatMap Res.own) w w34 [] G := H25.grow hb35
          refine nrm_seq (WP.app ?_ ha)
          refine WP_cond rfl (fun hc37 => ?_) (fun hc37 => ?_)
          · have hs14 := if_t hc37 hs14
            refine WP_region ?_
            refine XL_q rfl (qt_move rfl) rfl rfl ?_
            refine XL_q rfl (qt_assign rfl) rfl rfl ?_
            refine WL_nil fun a ha => ?_
            refine nrm_block (nrm_seq (WP.app ?_ ha))
            refine WP_region ?_
            refine XL_q rfl (qt_move rfl) rfl rfl ?_
            refine XL_q rfl (qt_add rfl rfl) rfl rfl ?_
            refine XL_q rfl (qt_assign rfl) rfl rfl ?_
            refine WL_nil fun a ha => ?_
            obtain rfl := Option.some.inj hs14
            exact ⟨rfl, ha.sub ⟨rfl, rfl, rfl, rfl, trivial⟩, H36⟩
          · have hs14 := if_f hc37 hs14
            refine WP_skip fun a ha => ?_
            refine nrm_block (nrm_seq (WP.app ?_ ha))
            refine WP_region ?_
            refine XL_q rfl (qt_move rfl) rfl rfl ?_
            refine XL_q rfl (qt_add rfl rfl) rfl rfl ?_
            refine XL_q rfl (qt_assign rfl) rfl rfl ?_
            refine WL_nil fun a ha => ?_
            obtain rfl := Option.some.inj hs14
            exact ⟨rfl, ha.sub ⟨rfl, rfl, rfl, rfl, trivial⟩, H36⟩
      · have hs14 := if_f hc20 hs14
        refine WP_exit fun a ha => ?_
        obtain rfl := Option.some.inj hs14
        exact exit_seq (⟨exit_ne, rfl, ha.sub ⟨rfl, trivial⟩, H17⟩)
    · intro e a11 w38 hO39
      obtain ⟨p40, rfl⟩ : ∃ z, z = o9 := ⟨o9, rfl⟩
      obtain ⟨rfl, hO42⟩ := hO39
      obtain ⟨ha, H41⟩ := hO42
      refine exit_block_eq (nrm_seq (WP.app ?_ ha))
      refine WP_seq ?_
      refine WP_region ?_
      refine XL_q rfl (qt_move rfl) rfl rfl ?_
      refine XL_q rfl (qt_assign rfl) rfl rfl ?_
      refine WL_nil_seq ?_
      refine WP_ret fun a ha => ?_
      obtain rfl := Option.some.inj h
      exact ret1 rfl ha rfl ⟨rfl, H41⟩
theorem w_spec_FeedsAll (w : World) (G : List Res) (p0 : Int) (vp1 : Value) (p1 : List Int) (hp1 : Has G (.int .i64) vp1 p1) (p2 : Int) (r : Bool) (h : spec_FeedsAllS p0 p1 p2 = some r) (H : Ctx w G) : Calls Tryd.prog 46 #[.int .i64 p0, vp1, .int .i64 p2] w fun e w' => e = .returned (.bool r) ∧ Holds (([] : List Res).flatMap Res.own) w w' [] G := by
  have H : Holds (([] : List Res).flatMap Res.own) w w [] G := Holds.startN H
  refine calls_enter (args := [.int .i64 p0, vp1, .int .i64 p2]) (n := 22) Tryd.func46 rfl rfl rfl ?_
  unfold spec_FeedsAllS at h
  refine WP_seq ?_
  refine WP_region ?_
  refine XL_q rfl (qt_assign rfl) rfl rfl ?_
  refine WL_nil_seq ?_
  refine WP_seq ?_
  refine WP_quiet (by kernel_rfl) (by kernel_rfl) ?_
  refine XL_q rfl (qt_move rfl) rfl rfl ?_
  refine XL_q rfl (qt_move rfl) rfl rfl ?_
  refine XL_q rfl (qt_move rfl) rfl rfl ?_
  obtain ⟨x1, hx2, h⟩ := bind_some h
  refine QL_call rfl rfl c30 (fun w' hb => (w_spec_FedBy w' G p0 vp1 p1 (hp1) p2 x1 hx2 (H.grow hb).ctx).mono fun e w'' hK => ⟨hK.1, hK.2.bel⟩) (by rfl) ?_
  refine XL_q rfl (qt_geq rfl rfl) rfl rfl ?_
  refine XL_q rfl (qt_move rfl) rfl rfl ?_
  obtain ⟨b3, hg4, h⟩ := bind_some h
  refine XL_join 9 21 (.bool b3) ?_ (fun md hmd hk => ?_)
  rotate_left
  · obtain ⟨K, rfl⟩ := Md.quiet_of hmd
    rcases btf (decide (x1 ≥ 0)) with hc5 | hc5
    · skip
      have hg4 := if_t hc5 hg4
      refine XL_q (w_take rfl hc5) (qt_move rfl) rfl rfl ?_
      refine XL_q (w_take rfl hc5) (qt_move rfl) rfl rfl ?_
      refine XL_q (w_take rfl hc5) (qt_move rfl) rfl rfl ?_
      obtain ⟨x6, hx7, hg4⟩ := bind_some hg4
      refine QL_call (w_take rfl hc5) rfl c30 (fun w' hb => (w_spec_FedBy w' G p0 vp1 p1 (hp1) p2 x6 hx7 (H.grow hb).ctx).mono fun e w'' hK => ⟨hK.1, hK.2.bel⟩) (by rfl) ?_
      refine XL_q (w_take rfl hc5) (qt_move rfl) rfl rfl ?_
      obtain ⟨x8, hx9, hg4⟩ := bind_some hg4
      refine XL_q (w_take rfl hc5) (qt_shlO rfl rfl hx9) rfl rfl ?_
      refine XL_q (w_take rfl hc5) (qt_sub rfl rfl) rfl rfl ?_
      refine XL_q (w_take rfl hc5) (qt_eql rfl rfl) rfl rfl ?_
      refine XL_q rfl (qt_pickT rfl hc5 rfl) rfl rfl ?_
      exact hk _ (Cov.same (vb hg4) (Cov.fresh rfl (Cov.fresh rfl (Cov.fresh rfl (Cov.fresh rfl (Cov.fresh rfl (Cov.fresh rfl (Cov.fresh rfl (Cov.fresh rfl (Cov.refl))))))))))
    · skip
      refine XL_skip (w_skip rfl hc5) rfl rfl ?_
      refine XL_skip (w_skip rfl hc5) rfl rfl ?_
      refine XL_skip (w_skip rfl hc5) rfl rfl ?_
      refine XL_skip (w_skip rfl hc5) rfl rfl ?_
      refine XL_skip (w_skip rfl hc5) rfl rfl ?_
      refine XL_skip (w_skip rfl hc5) rfl rfl ?_
      refine XL_skip (w_skip rfl hc5) rfl rfl ?_
      refine XL_skip (w_skip rfl hc5) rfl rfl ?_
      refine XL_q rfl (qt_pickF rfl hc5 rfl) rfl rfl ?_
      exact hk _ (Cov.same (vb (if_f hc5 hg4)) (Cov.fresh rfl (Cov.fresh rfl (Cov.fresh rfl (Cov.fresh rfl (Cov.fresh rfl (Cov.fresh rfl (Cov.fresh rfl (Cov.fresh rfl (Cov.refl))))))))))
  refine XL_q rfl (qt_assign rfl) rfl rfl ?_
  refine QL_nil fun a ha w10 hb11 => ?_
  have H12 : Holds (([] : List Res).flatMap Res.own) w w10 [] G := H.grow hb11
  refine nrm_seq (WP.app ?_ ha)
  refine WP_ret fun a ha => ?_
  obtain rfl := Option.some.inj h
  exact ret1 rfl ha rfl ⟨rfl, H12⟩
theorem w_spec_DishesLeast (w : World) (G : List Res) (p0 : Int) (vp1 : Value) (p1 : List Int) (hp1 : Has G (.int .i64) vp1 p1) (r : Int) (h : spec_DishesLeastS p0 p1 = some r) (H : Ctx w G) : Calls Tryd.prog 39 #[.int .i64 p0, vp1] w fun e w' => e = .returned (.int .i64 r) ∧ Holds (([] : List Res).flatMap Res.own) w w' [] G := by
  have H : Holds (([] : List Res).flatMap Res.own) w w [] G := Holds.startN H
  refine calls_enter (args := [.int .i64 p0, vp1]) (n := 36) Tryd.func39 rfl rfl rfl ?_
  unfold spec_DishesLeastS at h
  refine WP_seq ?_
  refine WP_region ?_
  refine XL_q rfl (qt_assign rfl) rfl rfl ?_
  refine WL_nil_seq ?_
  refine WP_seq ?_
  refine WP_region ?_
  refine XL_q rfl (qt_assign rfl) rfl rfl ?_
  refine WL_nil_seq ?_
  refine WP_seq ?_
  refine WP_seq ?_
  refine WP_region ?_
  refine XL_q rfl (qt_assign rfl) rfl rfl ?_
  refine WL_nil_seq ?_
  refine WP_block ?_
  obtain ⟨o3, ho4, h⟩ := bind_some h
  refine fun a5 ha6 => wp_loop_fix (I := fun s a w2 => match s with | (s1, s2) => (Fr a 36 [(0, .int .i64 p0), (1, vp1), (5, .int .i64 s1), (6, .int .i64 s2)] ∧ Holds (([] : List Res).flatMap Res.own) w w2 [] G)) (O := fun o e a w2 => match o with | q0 => e = .exit 0 ∧ (Fr a 36 [(5, .int .i64 q0)] ∧ Holds (([] : List Res).flatMap Res.own) w w2 [] G)) ho4 ?_ ?_ ?_
  · exact ⟨ha6.sub ⟨rfl, rfl, rfl, rfl, trivial⟩, H⟩
  · clear ha6
    intro s o9 a w7 hs8 hI10
    obtain ⟨s1, s2⟩ := s
    obtain ⟨ha, H11⟩ := hI10
    refine WP.app ?_ ha
    clear ha
    refine WP_seq ?_
    refine WP_seq ?_
    refine WP_still ?_
    refine XL_q rfl (qt_move rfl) rfl rfl ?_
    refine XL_q rfl (qt_move rfl) rfl rfl ?_
    refine XL_lenH H11.ctx (t := (.int .i64)) (hp1) u27 rfl rfl rfl ?_
    obtain ⟨x12, hx13, hs8⟩ := bind_some hs8
    refine XL_q rfl (qt_shlO rfl rfl hx13) rfl rfl ?_
    refine XL_q rfl (qt_lss rfl rfl) rfl rfl ?_
    refine XL_q rfl (qt_move rfl) rfl rfl ?_
    obtain ⟨b14, hg15, hs8⟩ := bind_some hs8
    refine XL_join 4 16 (.bool b14) ?_ (fun md hmd hk => ?_)
    rotate_left
    · obtain ⟨K, rfl⟩ := Md.quiet_of hmd
      rcases btf (decide (s2 < x12)) with hc16 | hc16
      · skip
        have hg15 := if_t hc16 hg15
        refine XL_q (w_take rfl hc16) (qt_move rfl) rfl rfl ?_
        refine XL_q (w_take rfl hc16) (qt_move rfl) rfl rfl ?_
        obtain ⟨x17, hx18, hg15⟩ := bind_some hg15
        refine QL_call (w_take rfl hc16) rfl c24 (fun w' hb => (w_spec_MenuValid w' G p0 vp1 p1 (hp1) x17 hx18 (H11.grow hb).ctx).mono fun e w'' hK => ⟨hK.1, hK.2.bel⟩) (by rfl) ?_
        refine XL_q rfl (qt_pickT rfl hc16 rfl) rfl rfl ?_
        exact hk _ (Cov.same (vb hg15) (Cov.fresh rfl (Cov.fresh rfl (Cov.fresh rfl (Cov.refl)))))
      · skip
        refine XL_skip (w_skip rfl hc16) rfl rfl ?_
        refine XL_skip (w_skip rfl hc16) rfl rfl ?_
        refine XL_skip (w_skip rfl hc16) rfl rfl ?_
        refine XL_q rfl (qt_pickF rfl hc16 rfl) rfl rfl ?_
        exact hk _ (Cov.same (vb (if_f hc16 hg15)) (Cov.fresh rfl (Cov.fresh rfl (Cov.fresh rfl (Cov.refl)))))
    refine QL_nil fun a ha w19 hb20 => ?_
    have H21 : Holds (([] : List Res).flatMap Res.own) w w19 [] G := H11.grow hb20
    refine nrm_seq (WP.app ?_ ha)
    refine WP_cond rfl (fun hc22 => ?_) (fun hc22 => ?_)
    · have hs8 := if_t hc22 hs8
      refine WP_skip_seq ?_
      refine WP_seq ?_
      refine WP_block ?_
      refine WP_seq ?_
      refine WP_still ?_
      refine XL_q rfl (qt_move rfl) rfl rfl ?_
      refine XL_q rfl (qt_move rfl) rfl rfl ?_
      refine XL_q rfl (qt_move rfl) rfl rfl ?_
      obtain ⟨x23, hx24, hs8⟩ := bind_some hs8
      refine QL_call rfl rfl c46 (fun w' hb => (w_spec_FeedsAll w' G p0 vp1 p1 (hp1) s2 x23 hx24 (H21.grow hb).ctx).mono fun e w'' hK => ⟨hK.1, hK.2.bel⟩) (by rfl) ?_
      refine XL_q rfl (qt_move rfl) rfl rfl ?_
      obtain ⟨b25, hg26, hs8⟩ := bind_some hs8
      refine XL_join 10 33 (.bool b25) ?_ (fun md hmd hk => ?_)
      rotate_left
      · obtain ⟨K, rfl⟩ := Md.quiet_of hmd
        rcases btf x23 with hc27 | hc27
        · skip
          have hg26 := if_t hc27 hg26
          refine XL_q (w_take rfl hc27) (qt_move rfl) rfl rfl ?_
          refine XL_q (w_take rfl hc27) (qt_lss rfl rfl) rfl rfl ?_
          refine XL_q (w_take rfl hc27) (qt_move rfl) rfl rfl ?_
          obtain ⟨b28, hg29, hg26⟩ := bind_some hg26
          refine XL_join 6 32 (.bool b28) ?_ (fun md hmd hk => ?_)
          rotate_left
          · obtain ⟨K, rfl⟩ := Md.quiet_of hmd
            rcases btf (decide (s1 < 0)) with hc30 | hc30
            · skip
              refine XL_skip (w_skip rfl hc30) rfl rfl ?_
              refine XL_skip (w_skip rfl hc30) rfl rfl ?_
              refine XL_skip (w_skip rfl hc30) rfl rfl ?_
              refine XL_skip (w_skip rfl hc30) rfl rfl ?_
              refine XL_skip (w_skip rfl hc30) rfl rfl ?_
              refine XL_q (w_take rfl hc27) (qt_pickT rfl hc30 rfl) rfl rfl ?_
              exact hk _ (Cov.same (vb (if_t hc30 hg29)) (Cov.fresh rfl (Cov.fresh rfl (Cov.fresh rfl (Cov.fresh rfl (Cov.fresh rfl (Cov.refl)))))))
            · skip
              have hg29 := if_f hc30 hg29
              refine XL_q (w_take rfl hc30) (qt_move rfl) rfl rfl ?_
              obtain ⟨x31, hx32, hg29⟩ := bind_some hg29
              refine QL_call (w_take rfl hc30) rfl c65 (fun w' hb => (w_spec_l6Count w' G s2 x31 hx32 (H21.grow hb).ctx).mono fun e w'' hK => ⟨hK.1, hK.2.bel⟩) (by rfl) ?_
              refine XL_q (w_take rfl hc30) (qt_move rfl) rfl rfl ?_
              obtain ⟨x33, hx34, hg29⟩ := bind_some hg29
              refine QL_call (w_take rfl hc30) rfl c65 (fun w' hb => (w_spec_l6Count w' G s1 x33 hx34 (H21.grow hb).ctx).mono fun e w'' hK => ⟨hK.1, hK.2.bel⟩) (by rfl) ?_
              refine XL_q (w_take rfl hc30) (qt_lss rfl rfl) rfl rfl ?_
              refine XL_q (w_take rfl hc27) (qt_pickF rfl hc30 rfl) rfl rfl ?_
              exact hk _ (Cov.same (vb hg29) (Cov.fresh rfl (Cov.fresh rfl (Cov.fresh rfl (Cov.fresh rfl (Cov.fresh rfl (Cov.refl)))))))
          refine XL_q rfl (qt_pickT rfl hc27 rfl) rfl rfl ?_
          exact hk _ (Cov.same (vb hg26) (Cov.fresh rfl (Cov.fresh rfl (Cov.fresh rfl (Cov.fresh rfl (Cov.refl))))))
        · skip
          refine XL_skip (w_skip rfl hc27) rfl rfl ?_
          refine XL_skip (w_skip rfl hc27) rfl rfl ?_
          refine XL_skip (w_skip rfl hc27) rfl rfl ?_
          refine XL_skip rfl rfl rfl ?_
          refine XL_skip rfl rfl rfl ?_
          refine XL_skip rfl rfl rfl ?_
          refine XL_skip rfl rfl rfl ?_
          refine XL_skip rfl rfl rfl ?_
          refine XL_skip (w_skip rfl hc27) rfl rfl ?_
          refine XL_q rfl (qt_pickF rfl hc27 rfl) rfl rfl ?_
          exact hk _ (Cov.same (vb (if_f hc27 hg26)) (Cov.fresh rfl (Cov.fresh rfl (Cov.fresh rfl (Cov.fresh rfl (Cov.fresh rfl (Cov.fresh rfl (Cov.fresh rfl (Cov.fresh rfl (Cov.fresh rfl (Cov.refl)))))))))))
      refine QL_nil fun a ha w35 hb36 => ?_
      have H37 : Holds (([] : List Res).flatMap Res.own) w w35 [] G := H21.grow hb36
      refine nrm_seq (WP.app ?_ ha)
      refine WP_cond rfl (fun hc38 => ?_) (fun hc38 => ?_)
      · have hs8 := if_t hc38 hs8
        refine WP_region ?_
        refine XL_q rfl (qt_move rfl) rfl rfl ?_
        refine XL_q rfl (qt_assign rfl) rfl rfl ?_
        refine WL_nil fun a ha => ?_
        refine nrm_block (nrm_seq (WP.app ?_ ha))
        refine WP_region ?_
        refine XL_q rfl (qt_move rfl) rfl rfl ?_
        refine XL_q rfl (qt_add rfl rfl) rfl rfl ?_
        refine XL_q rfl (qt_assign rfl) rfl rfl ?_
        refine WL_nil fun a ha => ?_
        obtain rfl := Option.some.inj hs8
        exact ⟨rfl, ha.sub ⟨rfl, rfl, rfl, rfl, trivial⟩, H37⟩
      · have hs8 := if_f hc38 hs8
        refine WP_skip fun a ha => ?_
        refine nrm_block (nrm_seq (WP.app ?_ ha))
        refine WP_region ?_
        refine XL_q rfl (qt_move rfl) rfl rfl ?_
        refine XL_q rfl (qt_add rfl rfl) rfl rfl ?_
        refine XL_q rfl (qt_assign rfl) rfl rfl ?_
        refine WL_nil fun a ha => ?_
        obtain rfl := Option.some.inj hs8
        exact ⟨rfl, ha.sub ⟨rfl, rfl, rfl, rfl, trivial⟩, H37⟩
    · have hs8 := if_f hc22 hs8
      refine WP_exit fun a ha => ?_
      obtain rfl := Option.some.inj hs8
      exact exit_seq (⟨exit_ne, rfl, ha.sub ⟨rfl, trivial⟩, H21⟩)
  · intro e a5 w39 hO40
    obtain ⟨p41, rfl⟩ : ∃ z, z = o3 := ⟨o3, rfl⟩
    obtain ⟨rfl, hO43⟩ := hO40
    obtain ⟨ha, H42⟩ := hO43
    refine exit_block_eq (nrm_seq (WP.app ?_ ha))
    refine WP_seq ?_
    refine WP_region ?_
    refine XL_q rfl (qt_move rfl) rfl rfl ?_
    refine XL_q rfl (qt_assign rfl) rfl rfl ?_
    refine WL_nil_seq ?_
    refine WP_ret fun a ha => ?_
    obtain rfl := Option.some.inj h
    exact ret1 rfl ha rfl ⟨rfl, H42⟩
theorem w_laws_FnDishesLeast (w : World) (G : List Res) (vp0 : Value) (p0 : List Int) (hp0 : HasRo G (.int .u8) vp0 p0) (r : Bool) (h : laws_FnDishesLeastS p0 = some r) (H : Ctx w G) : Calls Tryd.prog 9 #[vp0] w fun e w' => e = .returned (.bool r) ∧ Holds (([] : List Res).flatMap Res.own) w w' [] G := by
  have H : Holds (([] : List Res).flatMap Res.own) w w [] G := Holds.startN H
  refine calls_enter (args := [vp0]) (n := 70) Tryd.func9 rfl rfl rfl ?_
  unfold laws_FnDishesLeastS at h
  refine WP_seq ?_
  refine WP_region ?_
  refine XL_q rfl (qt_assign rfl) rfl rfl ?_
  refine WL_nil_seq ?_
  refine WP_seq ?_
  refine WP_seq ?_
  refine WP_region ?_
  refine XL_q rfl (qt_move rfl) rfl rfl ?_
  refine XL_lenH H.ctx (t := (.int .u8)) (hp0.has) u22 rfl rfl rfl ?_
  refine XL_q rfl (qt_gtr rfl rfl) rfl rfl ?_
  refine WL_nil_seq ?_
  refine WP_cond rfl (fun hc1 => ?_) (fun hc1 => ?_)
  · have h := if_t hc1 h
    refine WP_seq ?_
    refine WP_region ?_
    refine XL_q rfl (qt_assign rfl) rfl rfl ?_
    refine WL_nil_seq ?_
    refine WP_ret fun a ha => ?_
    obtain rfl := Option.some.inj h
    exact ret_seq (ret1 rfl ha rfl ⟨rfl, H⟩)
  · have h := if_f hc1 h
    refine WP_skip_seq ?_
    refine WP_seq ?_
    refine WP_region ?_
    refine XL_q rfl (qt_move rfl) rfl rfl ?_
    obtain ⟨x2, hx3, h⟩ := bind_some h
    refine WL_call rfl rfl c37 (w_spec_DrawDishesLeast w G vp0 p0 (hp0) x2 hx3 H.ctx) (by rfl) ?_
    rintro _ w4 ⟨v6, rfl, H5⟩; refine ⟨_, rfl, ?_⟩
    have H7 : Holds (([] : List Res).flatMap Res.own) w w4 [.sl 3 (.int .i64) v6 x2.2] G := H.calledN (Rs := []) H5
    refine XL_q rfl (qt_move rfl) rfl rfl ?_
    refine XL_q rfl (qt_extract rfl rfl) rfl rfl ?_
    refine XL_q rfl (qt_extract rfl rfl) rfl rfl ?_
    refine XL_q rfl (qt_assign rfl) rfl rfl ?_
    refine XL_q rfl (qt_assign rfl) rfl rfl ?_
    refine WL_nil_seq ?_
    refine WP_seq ?_
    refine WP_still ?_
    refine XL_q rfl (qt_move rfl) rfl rfl ?_
    refine XL_q rfl (qt_move rfl) rfl rfl ?_
    obtain ⟨x8, hx9, h⟩ := bind_some h
    refine QL_call rfl rfl c38 (fun w' hb => (w_impl_DishesLeast w' ([.sl 3 (.int .i64) v6 x2.2] ++ G) x2.1 v6 x2.2 (Has.hd) x8 hx9 (H7.grow hb).ctx).mono fun e w'' hK => ⟨hK.1, hK.2.bel⟩) (by rfl) ?_
    refine XL_q rfl (qt_assign rfl) rfl rfl ?_
    refine QL_nil fun a ha w10 hb11 => ?_
    have H12 : Holds (([] : List Res).flatMap Res.own) w w10 [.sl 3 (.int .i64) v6 x2.2] G := H7.grow hb11
    refine nrm_seq (WP.app ?_ ha)
    refine WP_seq ?_
    refine WP_seq ?_
    refine WP_still ?_
    refine XL_q rfl (qt_move rfl) rfl rfl ?_
    refine XL_q rfl (qt_move rfl) rfl rfl ?_
    refine XL_q rfl (qt_move rfl) rfl rfl ?_
    obtain ⟨x13, hx14, h⟩ := bind_some h
    refine QL_call rfl rfl c39 (fun w' hb => (w_spec_DishesLeast w' ([.sl 3 (.int .i64) v6 x2.2] ++ G) x2.1 v6 x2.2 (Has.hd) x13 hx14 (H12.grow hb).ctx).mono fun e w'' hK => ⟨hK.1, hK.2.bel⟩) (by rfl) ?_
    refine XL_q rfl (qt_neq rfl rfl) rfl rfl ?_
    refine QL_nil fun a ha w15 hb16 => ?_
    have H17 : Holds (([] : List Res).flatMap Res.own) w w15 [.sl 3 (.int .i64) v6 x2.2] G := H12.grow hb16
    refine nrm_seq (WP.app ?_ ha)
    refine WP_cond rfl (fun hc18 => ?_) (fun hc18 => ?_)
    · have h := if_t hc18 h
      refine WP_seq ?_
      refine WP_region ?_
      refine XL_q rfl (qt_assign rfl) rfl rfl ?_
      refine WL_nil_seq ?_
      refine WP_ret fun a ha => ?_
      obtain rfl := Option.some.inj h
      have H19 : Holds (([] : List Res).flatMap Res.own) w w15 [] G := (H17.cut 0)
      exact ret_seq (ret1 rfl ha rfl ⟨rfl, H19⟩)
    · have h := if_f hc18 h
      refine WP_skip_seq ?_
      refine WP_seq ?_
      refine WP_seq ?_
      refine WP_still ?_
      refine XL_q rfl (qt_move rfl) rfl rfl ?_
      refine XL_q rfl (qt_move rfl) rfl rfl ?_
      obtain ⟨x20, hx21, h⟩ := bind_some h
      refine QL_call rfl rfl c24 (fun w' hb => (w_spec_MenuValid w' ([.sl 3 (.int .i64) v6 x2.2] ++ G) x2.1 v6 x2.2 (Has.hd) x20 hx21 (H17.grow hb).ctx).mono fun e w'' hK => ⟨hK.1, hK.2.bel⟩) (by rfl) ?_
      refine XL_q rfl (qt_not rfl) rfl rfl ?_
      refine QL_nil fun a ha w22 hb23 => ?_
      have H24 : Holds (([] : List Res).flatMap Res.own) w w22 [.sl 3 (.int .i64) v6 x2.2] G := H17.grow hb23
      refine nrm_seq (WP.app ?_ ha)
      refine WP_cond rfl (fun hc25 => ?_) (fun hc25 => ?_)
      · have h := if_t hc25 h
        refine WP_seq ?_
        refine WP_still ?_
        refine XL_q rfl (qt_move rfl) rfl rfl ?_
        refine XL_q rfl (qt_eql rfl rfl) rfl rfl ?_
        refine XL_q rfl (qt_move rfl) rfl rfl ?_
        obtain ⟨b26, hg27, h⟩ := bind_some h
        refine XL_join 2 31 (.bool b26) ?_ (fun md hmd hk => ?_)
        rotate_left
        · obtain ⟨K, rfl⟩ := Md.quiet_of hmd
          rcases btf (x8 == (-1)) with hc28 | hc28
          · skip
            have hg27 := if_t hc28 hg27
            obtain ⟨x29, hx30, hg27⟩ := bind_some hg27
            refine QL_call (w_take rfl hc28) rfl c20 (fun w' hb => (w_laws_alive w' ([.sl 3 (.int .i64) v6 x2.2] ++ G)  x29 hx30 (H24.grow hb).ctx).mono fun e w'' hK => ⟨hK.1, hK.2.bel⟩) (by rfl) ?_
            refine XL_q rfl (qt_pickT rfl hc28 rfl) rfl rfl ?_
            exact hk _ (Cov.same (vb hg27) (Cov.fresh rfl (Cov.refl)))
          · skip
            refine XL_skip (w_skip rfl hc28) rfl rfl ?_
            refine XL_q rfl (qt_pickF rfl hc28 rfl) rfl rfl ?_
            exact hk _ (Cov.same (vb (if_f hc28 hg27)) (Cov.fresh rfl (Cov.refl)))
        refine XL_q rfl (qt_assign rfl) rfl rfl ?_
        refine QL_nil fun a ha w31 hb32 => ?_
        have H33 : Holds (([] : List Res).flatMap Res.own) w w31 [.sl 3 (.int .i64) v6 x2.2] G := H24.grow hb32
        refine nrm_seq (WP.app ?_ ha)
        refine WP_ret fun a ha => ?_
        obtain rfl := Option.some.inj h
        have H34 : Holds (([] : List Res).flatMap Res.own) w w31 [] G := (H33.cut 0)
        exact ret_seq (ret1 rfl ha rfl ⟨rfl, H34⟩)
      · have h := if_f hc25 h
        refine WP_skip_seq ?_
        refine WP_seq ?_
        refine WP_seq ?_
        refine WP_region ?_
        refine XL_q rfl (qt_move rfl) rfl rfl ?_
        refine XL_q rfl (qt_lss rfl rfl) rfl rfl ?_
        refine WL_nil_seq ?_
        refine WP_cond rfl (fun hc35 => ?_) (fun hc35 => ?_)
        · have h := if_t hc35 h
          refine WP_seq ?_
          refine WP_still ?_
          refine XL_q rfl (qt_move rfl) rfl rfl ?_
          refine XL_q rfl (qt_eql rfl rfl) rfl rfl ?_
          refine XL_q rfl (qt_move rfl) rfl rfl ?_
          obtain ⟨b36, hg37, h⟩ := bind_some h
          refine XL_join 9 45 (.bool b36) ?_ (fun md hmd hk => ?_)
          rotate_left
          · obtain ⟨K, rfl⟩ := Md.quiet_of hmd
            rcases btf (x8 == (-1)) with hc38 | hc38
            · skip
              have hg37 := if_t hc38 hg37
              refine XL_q (w_take rfl hc38) (qt_move rfl) rfl rfl ?_
              refine XL_q (w_take rfl hc38) (qt_move rfl) rfl rfl ?_
              refine XL_q (w_take rfl hc38) (qt_move rfl) rfl rfl ?_
              refine XL_lenH H24.ctx (t := (.int .i64)) (Has.hd) u27 (w_take rfl hc38) rfl rfl ?_
              obtain ⟨x39, hx40, hg37⟩ := bind_some hg37
              refine XL_q (w_take rfl hc38) (qt_shlO rfl rfl hx40) rfl rfl ?_
              refine XL_q (w_take rfl hc38) (qt_sub rfl rfl) rfl rfl ?_
              obtain ⟨x41, hx42, hg37⟩ := bind_some hg37
              refine QL_call (w_take rfl hc38) rfl c40 (fun w' hb => (w_impl_FeedsAll w' ([.sl 3 (.int .i64) v6 x2.2] ++ G) x2.1 v6 x2.2 (Has.hd) (IntKind.wrap .i64 (x39 - 1)) x41 hx42 (H24.grow hb).ctx).mono fun e w'' hK => ⟨hK.1, hK.2.bel⟩) (by rfl) ?_
              refine XL_q (w_take rfl hc38) (qt_not rfl) rfl rfl ?_
              refine XL_q rfl (qt_pickT rfl hc38 rfl) rfl rfl ?_
              exact hk _ (Cov.same (vb hg37) (Cov.fresh rfl (Cov.fresh rfl (Cov.fresh rfl (Cov.fresh rfl (Cov.fresh rfl (Cov.fresh rfl (Cov.fresh rfl (Cov.fresh rfl (Cov.refl))))))))))
            · skip
              refine XL_skip (w_skip rfl hc38) rfl rfl ?_
              refine XL_skip (w_skip rfl hc38) rfl rfl ?_
              refine XL_skip (w_skip rfl hc38) rfl rfl ?_
              refine XL_skip (w_skip rfl hc38) rfl rfl ?_
              refine XL_skip (w_skip rfl hc38) rfl rfl ?_
              refine XL_skip (w_skip rfl hc38) rfl rfl ?_
              refine XL_skip (w_skip rfl hc38) rfl rfl ?_
              refine XL_skip (w_skip rfl hc38) rfl rfl ?_
              refine XL_q rfl (qt_pickF rfl hc38 rfl) rfl rfl ?_
              exact hk _ (Cov.same (vb (if_f hc38 hg37)) (Cov.fresh rfl (Cov.fresh rfl (Cov.fresh rfl (Cov.fresh rfl (Cov.fresh rfl (Cov.fresh rfl (Cov.fresh rfl (Cov.fresh rfl (Cov.refl))))))))))
          refine XL_q rfl (qt_assign rfl) rfl rfl ?_
          refine QL_nil fun a ha w43 hb44 => ?_
          have H45 : Holds (([] : List Res).flatMap Res.own) w w43 [.sl 3 (.int .i64) v6 x2.2] G := H24.grow hb44
          refine nrm_seq (WP.app ?_ ha)
          refine WP_ret fun a ha => ?_
          obtain rfl := Option.some.inj h
          have H46 : Holds (([] : List Res).flatMap Res.own) w w43 [] G := (H45.cut 0)
          exact ret_seq (ret1 rfl ha rfl ⟨rfl, H46⟩)
        · have h := if_f hc35 h
          refine WP_skip_seq ?_
          refine WP_seq ?_
          refine WP_seq ?_
          refine WP_region ?_
          refine XL_q rfl (qt_assign rfl) rfl rfl ?_
          refine WL_nil_seq ?_
          refine WP_block ?_
          obtain ⟨o48, ho49, h⟩ := bind_some h
          refine fun a50 ha51 => wp_loop_fix (I := fun s a w2 => match s with | s47 => (Fr a 70 [(3, .int .i64 x2.1), (4, v6), (5, .int .i64 x8), (6, .int .i64 s47)] ∧ Holds (([] : List Res).flatMap Res.own) w w2 [.sl 3 (.int .i64) v6 x2.2] G)) (O := fun o e a w2 => match o with | .inl _ => e = .exit 0 ∧ (Fr a 70 [(3, .int .i64 x2.1), (4, v6), (5, .int .i64 x8)] ∧ Holds (([] : List Res).flatMap Res.own) w w2 [.sl 3 (.int .i64) v6 x2.2] G) | .inr q0 => e = .ret ∧ (Fr a 70 [(2, .bool q0)] ∧ Holds (([] : List Res).flatMap Res.own) w w2 [] G)) ho49 ?_ ?_ ?_
          · exact ⟨ha51.sub ⟨rfl, rfl, rfl, rfl, trivial⟩, H24⟩
          · clear ha51
            intro s o54 a w52 hs53 hI55
            obtain ⟨s47, rfl⟩ : ∃ z, z = s := ⟨s, rfl⟩
            obtain ⟨ha, H56⟩ := hI55
            refine WP.app ?_ ha
            clear ha
            refine WP_seq ?_
            refine WP_seq ?_
            refine WP_region ?_
            refine XL_q rfl (qt_move rfl) rfl rfl ?_
            refine XL_q rfl (qt_move rfl) rfl rfl ?_
            refine XL_lenH H56.ctx (t := (.int .i64)) (Has.hd) u27 rfl rfl rfl ?_
            refine XL_q rfl (qt_lss rfl rfl) rfl rfl ?_
            refine WL_nil_seq ?_
            refine WP_cond rfl (fun hc57 => ?_) (fun hc57 => ?_)
            · have hs53 := if_t hc57 hs53
              refine WP_skip_seq ?_
              refine WP_seq ?_
              refine WP_block ?_
              refine WP_seq ?_
              refine WP_still ?_
              refine XL_q rfl (qt_move rfl) rfl rfl ?_
              refine XL_q rfl (qt_move rfl) rfl rfl ?_
              obtain ⟨x58, hx59, hs53⟩ := bind_some hs53
              refine XL_q rfl (qt_shrO rfl rfl hx59) rfl rfl ?_
              refine XL_q rfl (qt_rem rfl rfl (by decide)) rfl rfl ?_
              refine XL_q rfl (qt_eql rfl rfl) rfl rfl ?_
              refine XL_q rfl (qt_move rfl) rfl rfl ?_
              obtain ⟨b60, hg61, hs53⟩ := bind_some hs53
              refine XL_join 8 65 (.bool b60) ?_ (fun md hmd hk => ?_)
              rotate_left
              · obtain ⟨K, rfl⟩ := Md.quiet_of hmd
                rcases btf ((Int.tmod x58 2) == 1) with hc62 | hc62
                · skip
                  have hg61 := if_t hc62 hg61
                  refine XL_q (w_take rfl hc62) (qt_move rfl) rfl rfl ?_
                  refine XL_q (w_take rfl hc62) (qt_move rfl) rfl rfl ?_
                  refine XL_q (w_take rfl hc62) (qt_move rfl) rfl rfl ?_
                  refine XL_q (w_take rfl hc62) (qt_move rfl) rfl rfl ?_
                  obtain ⟨x63, hx64, hg61⟩ := bind_some hg61
                  refine XL_q (w_take rfl hc62) (qt_shlO rfl rfl hx64) rfl rfl ?_
                  refine XL_q (w_take rfl hc62) (qt_sub rfl rfl) rfl rfl ?_
                  obtain ⟨x65, hx66, hg61⟩ := bind_some hg61
                  refine QL_call (w_take rfl hc62) rfl c40 (fun w' hb => (w_impl_FeedsAll w' ([.sl 3 (.int .i64) v6 x2.2] ++ G) x2.1 v6 x2.2 (Has.hd) (IntKind.wrap .i64 (x8 - x63)) x65 hx66 (H56.grow hb).ctx).mono fun e w'' hK => ⟨hK.1, hK.2.bel⟩) (by rfl) ?_
                  refine XL_q rfl (qt_pickT rfl hc62 rfl) rfl rfl ?_
                  exact hk _ (Cov.same (vb hg61) (Cov.fresh rfl (Cov.fresh rfl (Cov.fresh rfl (Cov.fresh rfl (Cov.fresh rfl (Cov.fresh rfl (Cov.fresh rfl (Cov.refl)))))))))
                · skip
                  refine XL_skip (w_skip rfl hc62) rfl rfl ?_
                  refine XL_skip (w_skip rfl hc62) rfl rfl ?_
                  refine XL_skip (w_skip rfl hc62) rfl rfl ?_
                  refine XL_skip (w_skip rfl hc62) rfl rfl ?_
                  refine XL_skip (w_skip rfl hc62) rfl rfl ?_
                  refine XL_skip (w_skip rfl hc62) rfl rfl ?_
                  refine XL_skip (w_skip rfl hc62) rfl rfl ?_
                  refine XL_q rfl (qt_pickF rfl hc62 rfl) rfl rfl ?_
                  exact hk _ (Cov.same (vb (if_f hc62 hg61)) (Cov.fresh rfl (Cov.fresh rfl (Cov.fresh rfl (Cov.fresh rfl (Cov.fresh rfl (Cov.fresh rfl (Cov.fresh rfl (Cov.refl)))))))))
              refine QL_nil fun a ha w67 hb68 => ?_
              have H69 : Holds (([] : List Res).flatMap Res.own) w w67 [.sl 3 (.int .i64) v6 x2.2] G := H56.grow hb68
              refine nrm_seq (WP.app ?_ ha)
              refine WP_cond rfl (fun hc70 => ?_) (fun hc70 => ?_)
              · have hs53 := if_t hc70 hs53
                refine WP_seq ?_
                refine WP_region ?_
                refine XL_q rfl (qt_assign rfl) rfl rfl ?_
                refine WL_nil_seq ?_
                refine WP_ret fun a ha => ?_
                obtain rfl := Option.some.inj hs53
                have H71 : Holds (([] : List Res).flatMap Res.own) w w67 [] G := (H69.cut 0)
                exact ret_block (ret_seq (⟨ret_ne, rfl, ha.sub ⟨rfl, trivial⟩, H71⟩))
              · have hs53 := if_f hc70 hs53
                refine WP_skip fun a ha => ?_
                refine nrm_block (nrm_seq (WP.app ?_ ha))
                refine WP_region ?_
                refine XL_q rfl (qt_move rfl) rfl rfl ?_
                refine XL_q rfl (qt_add rfl rfl) rfl rfl ?_
                refine XL_q rfl (qt_assign rfl) rfl rfl ?_
                refine WL_nil fun a ha => ?_
                obtain rfl := Option.some.inj hs53
                exact ⟨rfl, ha.sub ⟨rfl, rfl, rfl, rfl, trivial⟩, H69⟩
            · have hs53 := if_f hc57 hs53
              refine WP_exit fun a ha => ?_
              obtain rfl := Option.some.inj hs53
              exact exit_seq (⟨exit_ne, rfl, ha.sub ⟨rfl, rfl, rfl, trivial⟩, H56⟩)
          · intro e a50 w72 hO73
            rcases o48 with o48 | o48
            · skip
              obtain ⟨rfl, hO75⟩ := hO73
              obtain ⟨ha, H74⟩ := hO75
              refine exit_block_eq (nrm_seq (WP.app ?_ ha))
              refine WP_seq ?_
              refine WP_still ?_
              refine XL_q rfl (qt_move rfl) rfl rfl ?_
              refine XL_q rfl (qt_move rfl) rfl rfl ?_
              refine XL_q rfl (qt_move rfl) rfl rfl ?_
              obtain ⟨x76, hx77, h⟩ := bind_some h
              refine QL_call rfl rfl c40 (fun w' hb => (w_impl_FeedsAll w' ([.sl 3 (.int .i64) v6 x2.2] ++ G) x2.1 v6 x2.2 (Has.hd) x8 x76 hx77 (H74.grow hb).ctx).mono fun e w'' hK => ⟨hK.1, hK.2.bel⟩) (by rfl) ?_
              refine XL_q rfl (qt_assign rfl) rfl rfl ?_
              refine QL_nil fun a ha w78 hb79 => ?_
              have H80 : Holds (([] : List Res).flatMap Res.own) w w78 [.sl 3 (.int .i64) v6 x2.2] G := H74.grow hb79
              refine nrm_seq (WP.app ?_ ha)
              refine WP_ret fun a ha => ?_
              obtain rfl := Option.some.inj h
              have H81 : Holds (([] : List Res).flatMap Res.own) w w78 [] G := (H80.cut 0)
              exact ret1 rfl ha rfl ⟨rfl, H81⟩
            · skip
              obtain ⟨p82, rfl⟩ : ∃ z, z = o48 := ⟨o48, rfl⟩
              obtain ⟨rfl, hO84⟩ := hO73
              obtain ⟨ha, H83⟩ := hO84
              obtain rfl := Option.some.inj h
              exact ret_block (ret_seq (ret1 rfl ha rfl ⟨rfl, H83⟩))
theorem w_spec_DrawApartValid (w : World) (G : List Res) (vp0 : Value) (p0 : List Int) (hp0 : HasRo G (.int .u8) vp0 p0) (r : Int × (List Int) × (List Int)) (h : spec_DrawApartValidS p0 = some r) (H : Ctx w G) : Calls Tryd.prog 41 #[vp0] w fun e w' => ∃ (v1 : Value) (v2 : Value), e = .returned (.tuple #[.int .i64 r.1, v1, v2]) ∧ Holds (([] : List Res).flatMap Res.own) w w' [.sl 3 (.int .i64) v1 r.2.1, .sl 3 (.int .i64) v2 r.2.2] G := by
  have H : Holds (([] : List Res).flatMap Res.own) w w [] G := Holds.startN H
  refine calls_enter (args := [vp0]) (n := 44) Tryd.func41 rfl rfl rfl ?_
  unfold spec_DrawApartValidS at h
  refine WP_seq ?_
  refine WP_region ?_
  refine XL_q rfl (qt_assign rfl) rfl rfl ?_
  refine XL_q rfl (qt_assign rfl) rfl rfl ?_
  refine XL_q rfl (qt_assign rfl) rfl rfl ?_
  refine WL_nil_seq ?_
  refine WP_seq ?_
  refine WP_region ?_
  refine XL_q rfl (qt_move rfl) rfl rfl ?_
  obtain ⟨x1, hx2, h⟩ := bind_some h
  refine WL_call rfl rfl c62 (w_spec_l20Open w G vp0 p0 (hp0) x1 hx2 H.ctx) (by rfl) ?_
  rintro _ w3 ⟨v5, b6, rfl, H4⟩; refine ⟨_, rfl, ?_⟩
  have H7 : Holds (([] : List Res).flatMap Res.own) w w3 [.ro (.int .u8) v5 x1.1, .bx b6 66 [v5, .int .i64 x1.2]] G := H.calledN (Rs := []) H4
  refine XL_q rfl (qt_assign rfl) rfl rfl ?_
  refine WL_nil_seq ?_
  refine WP_seq ?_
  refine WP_region ?_
  refine XL_q rfl (qt_move rfl) rfl rfl ?_
  have H10 : Holds (([] : List Res).flatMap Res.own) w w3 [.bx b6 66 [v5, .int .i64 x1.2], .ro (.int .u8) v5 x1.1] G := H7.pull 1
  obtain ⟨x8, hx9, h⟩ := bind_some h
  refine WL_call rfl rfl c67 (w_spec_l20Menu w3 ([.ro (.int .u8) v5 x1.1] ++ G) b6 v5 x1.1 (HasRo.has (HasRo.hd)) x1.2 9 x8 hx9 H10.ctx) (by rfl) ?_
  rintro _ w11 ⟨v13, rfl, H12⟩; refine ⟨_, rfl, ?_⟩
  have H14 : Holds (([] : List Res).flatMap Res.own) w w11 [.sl 3 (.int .i64) v13 x8.2.2, .bx b6 66 [v5, .int .i64 x8.1], .ro (.int .u8) v5 x1.1] G := H10.calledN (Rs := [_]) H12
  refine XL_q rfl (qt_move rfl) rfl rfl ?_
  refine XL_q rfl (qt_extract rfl rfl) rfl rfl ?_
  refine XL_q rfl (qt_extract rfl rfl) rfl rfl ?_
  refine XL_q rfl (qt_assign rfl) rfl rfl ?_
  refine XL_q rfl (qt_assign rfl) rfl rfl ?_
  refine WL_nil_seq ?_
  refine WP_seq ?_
  refine WP_region ?_
  refine WL_buildH (t := (.int .i64)) (args := []) (xs := ([] : List Int)) H14 (BltL.nil) u27 j3 rfl rfl rfl rfl rfl rfl (fun v15 w16 H17 => ?_)
  have H18 : Holds (([] : List Res).flatMap Res.own) w w16 [.sl 3 (.int .i64) v15 ([]), .sl 3 (.int .i64) v13 x8.2.2, .bx b6 66 [v5, .int .i64 x8.1], .ro (.int .u8) v5 x1.1] G := H17
  refine XL_q rfl (qt_assign rfl) rfl rfl ?_
  refine WL_nil_seq ?_
  refine WP_seq ?_
  refine WP_seq ?_
  refine WP_region ?_
  refine XL_q rfl (qt_assign rfl) rfl rfl ?_
  refine WL_nil_seq ?_
  refine WP_block ?_
  obtain ⟨o22, ho23, h⟩ := bind_some h
  have H26 : Holds (([] : List Res).flatMap Res.own) w w16 [.bx b6 66 [v5, .int .i64 x8.1], .ro (.int .u8) v5 x1.1, .sl 3 (.int .i64) v13 x8.2.2, .sl 3 (.int .i64) v15 ([])] G := (((H18.pull 1).pull 3).pull 3)
  refine fun a24 ha25 => wp_loop_fix (I := fun s a w2 => match s with | (s19, s20, s21) => ∃ vs19, Fr a 44 [(5, .pointer (some ⟨b6, 0, none⟩)), (6, .int .i64 x8.2.1), (7, v13), (8, vs19), (9, .int .i64 s20)] ∧ Holds (([] : List Res).flatMap Res.own) w w2 [.bx b6 66 [v5, .int .i64 s21], .ro (.int .u8) v5 x1.1, .sl 3 (.int .i64) v13 x8.2.2, .sl 3 (.int .i64) vs19 s19] G) (O := fun o e a w2 => match o with | (q0, q1) => e = .exit 0 ∧ ∃ vq0, Fr a 44 [(5, .pointer (some ⟨b6, 0, none⟩)), (6, .int .i64 x8.2.1), (7, v13), (8, vq0)] ∧ Holds (([] : List Res).flatMap Res.own) w w2 [.bx b6 66 [v5, .int .i64 q1], .ro (.int .u8) v5 x1.1, .sl 3 (.int .i64) v13 x8.2.2, .sl 3 (.int .i64) vq0 q0] G) ho23 ?_ ?_ ?_
  · exact ⟨v15, ha25.sub ⟨rfl, rfl, rfl, rfl, rfl, trivial⟩, H26⟩
  · clear ha25
    intro s o29 a w27 hs28 hI30
    obtain ⟨s19, s20, s21⟩ := s
    obtain ⟨vs19, ha, H31⟩ := hI30
    refine WP.app ?_ ha
    clear ha
    refine WP_seq ?_
    refine WP_seq ?_
    refine WP_region ?_
    refine XL_q rfl (qt_move rfl) rfl rfl ?_
    refine XL_q rfl (qt_move rfl) rfl rfl ?_
    refine XL_q rfl (qt_lss rfl rfl) rfl rfl ?_
    refine XL_q rfl (qt_move rfl) rfl rfl ?_
    refine XL_join 3 24 (.bool ((decide (s20 < x8.2.1)) && (decide (s20 < 7)))) ?_ (fun md hmd hk => ?_)
    rotate_left
    · obtain ⟨Q, rfl⟩ := Md.seq_of hmd
      rcases btf (decide (s20 < x8.2.1)) with hc32 | hc32
      · skip
        refine XL_q (w_take rfl hc32) (qt_move rfl) rfl rfl ?_
        refine XL_q (w_take rfl hc32) (qt_lss rfl rfl) rfl rfl ?_
        refine XL_q rfl (qt_pickT rfl hc32 rfl) rfl rfl ?_
        exact hk _ (Cov.same (by rw [hc32]; rfl) (Cov.fresh rfl (Cov.fresh rfl (Cov.refl))))
      · skip
        refine XL_skip (w_skip rfl hc32) rfl rfl ?_
        refine XL_skip (w_skip rfl hc32) rfl rfl ?_
        refine XL_q rfl (qt_pickF rfl hc32 rfl) rfl rfl ?_
        exact hk _ (Cov.same (by rw [hc32]; rfl) (Cov.fresh rfl (Cov.fresh rfl (Cov.refl))))
    refine WL_nil_seq ?_
    refine WP_cond rfl (fun hc33 => ?_) (fun hc33 => ?_)
    · have hs28 := if_t hc33 hs28
      refine WP_skip_seq ?_
      refine WP_seq ?_
      refine WP_block ?_
      refine WP_seq ?_
      refine WP_region ?_
      refine XL_q rfl (qt_move rfl) rfl rfl ?_
      obtain ⟨x34, hx35, hs28⟩ := bind_some hs28
      refine WL_call rfl rfl c63 (w_spec_l20Rd__pick w27 ([.ro (.int .u8) v5 x1.1, .sl 3 (.int .i64) v13 x8.2.2, .sl 3 (.int .i64) vs19 s19] ++ G) b6 v5 x1.1 (HasRo.has (HasRo.hd)) s21 3 x34 hx35 H31.ctx) (by rfl) ?_
      rintro _ w36 ⟨rfl, H37⟩; refine ⟨_, rfl, ?_⟩
      have H38 : Holds (([] : List Res).flatMap Res.own) w w36 [.bx b6 66 [v5, .int .i64 x34.1], .ro (.int .u8) v5 x1.1, .sl 3 (.int .i64) v13 x8.2.2, .sl 3 (.int .i64) vs19 s19] G := H31.calledN (Rs := [_]) H37
      refine XL_q rfl (qt_eql rfl rfl) rfl rfl ?_
      refine WL_nil_seq ?_
      refine WP_cond rfl (fun hc39 => ?_) (fun hc39 => ?_)
      · have hs28 := if_t hc39 hs28
        refine WP_region ?_
        refine XL_q rfl (qt_move rfl) rfl rfl ?_
        refine XL_q rfl (qt_move rfl) rfl rfl ?_
        refine WL_buildH (t := (.int .i64)) (args := [.tmp 31]) (xs := ([s20] : List Int)) H38 (BltL.cons (Blt.int) rfl (BltL.nil)) u27 j3 rfl rfl rfl rfl rfl rfl (fun v40 w41 H42 => ?_)
        have H43 : Holds (([] : List Res).flatMap Res.own) w w41 [.sl 3 (.int .i64) v40 ([s20]), .bx b6 66 [v5, .int .i64 x34.1], .ro (.int .u8) v5 x1.1, .sl 3 (.int .i64) v13 x8.2.2, .sl 3 (.int .i64) vs19 s19] G := H42
        have H44 : Holds (([] : List Res).flatMap Res.own) w w41 [.sl 3 (.int .i64) vs19 s19, .sl 3 (.int .i64) v40 ([s20]), .bx b6 66 [v5, .int .i64 x34.1], .ro (.int .u8) v5 x1.1, .sl 3 (.int .i64) v13 x8.2.2] G := H43.pull 4
        obtain ⟨x45, hx46, hs28⟩ := bind_some hs28
        refine WL_appendH H44 (Has.c (Has.hd)) hx46 u27 j3 rfl rfl rfl rfl rfl rfl (fun v47 w48 H49 => ?_)
        have H50 : Holds (([] : List Res).flatMap Res.own) w w48 [.sl 3 (.int .i64) v47 x45, .sl 3 (.int .i64) v40 ([s20]), .bx b6 66 [v5, .int .i64 x34.1], .ro (.int .u8) v5 x1.1, .sl 3 (.int .i64) v13 x8.2.2] G := H49
        refine XL_q rfl (qt_assign rfl) rfl rfl ?_
        refine WL_nil fun a ha => ?_
        refine nrm_block (nrm_seq (WP.app ?_ ha))
        refine WP_region ?_
        refine XL_q rfl (qt_move rfl) rfl rfl ?_
        refine XL_q rfl (qt_add rfl rfl) rfl rfl ?_
        refine XL_q rfl (qt_assign rfl) rfl rfl ?_
        refine WL_nil fun a ha => ?_
        obtain rfl := Option.some.inj hs28
        have H51 : Holds (([] : List Res).flatMap Res.own) w w48 [.bx b6 66 [v5, .int .i64 x34.1], .ro (.int .u8) v5 x1.1, .sl 3 (.int .i64) v13 x8.2.2, .sl 3 (.int .i64) v47 x45] G := ((((H50.cut 1).pull 3).pull 3).pull 3)
        exact ⟨rfl, v47, ha.sub ⟨rfl, rfl, rfl, rfl, rfl, trivial⟩, H51⟩
      · have hs28 := if_f hc39 hs28
        refine WP_skip fun a ha => ?_
        refine nrm_block (nrm_seq (WP.app ?_ ha))
        refine WP_region ?_
        refine XL_q rfl (qt_move rfl) rfl rfl ?_
        refine XL_q rfl (qt_add rfl rfl) rfl rfl ?_
        refine XL_q rfl (qt_assign rfl) rfl rfl ?_
        refine WL_nil fun a ha => ?_
        obtain rfl := Option.some.inj hs28
        have H52 : Holds (([] : List Res).flatMap Res.own) w w36 [.bx b6 66 [v5, .int .i64 x34.1], .ro (.int .u8) v5 x1.1, .sl 3 (.int .i64) v13 x8.2.2, .sl 3 (.int .i64) vs19 s19] G := ((((H38.pull 3).pull 3).pull 3).pull 3)
        exact ⟨rfl, vs19, ha.sub ⟨rfl, rfl, rfl, rfl, rfl, trivial⟩, H52⟩
    · have hs28 := if_f hc33 hs28
      refine WP_exit fun a ha => ?_
      obtain rfl := Option.some.inj hs28
      have H53 : Holds (([] : List Res).flatMap Res.own) w w27 [.bx b6 66 [v5, .int .i64 s21], .ro (.int .u8) v5 x1.1, .sl 3 (.int .i64) v13 x8.2.2, .sl 3 (.int .i64) vs19 s19] G := ((((H31.pull 3).pull 3).pull 3).pull 3)
      exact exit_seq (⟨exit_ne, rfl, vs19, ha.sub ⟨rfl, rfl, rfl, rfl, trivial⟩, H53⟩)
  · intro e a24 w54 hO55
    obtain ⟨p56, p57⟩ := o22
    obtain ⟨rfl, hO59⟩ := hO55
    obtain ⟨vp56, ha, H58⟩ := hO59
    refine exit_block_eq (nrm_seq (WP.app ?_ ha))
    refine WP_seq ?_
    refine WP_seq ?_
    refine WP_region ?_
    refine XL_q rfl (qt_move rfl) rfl rfl ?_
    obtain ⟨x60, hx61, h⟩ := bind_some h
    refine WL_call rfl rfl c78 (w_spec_l20Rd__odd w54 ([.ro (.int .u8) v5 x1.1, .sl 3 (.int .i64) v13 x8.2.2, .sl 3 (.int .i64) vp56 p56] ++ G) b6 v5 x1.1 (HasRo.has (HasRo.hd)) p57 14 x60 hx61 H58.ctx) (by rfl) ?_
    rintro _ w62 ⟨rfl, H63⟩; refine ⟨_, rfl, ?_⟩
    have H64 : Holds (([] : List Res).flatMap Res.own) w w62 [.bx b6 66 [v5, .int .i64 x60.1], .ro (.int .u8) v5 x1.1, .sl 3 (.int .i64) v13 x8.2.2, .sl 3 (.int .i64) vp56 p56] G := H58.calledN (Rs := [_]) H63
    refine WL_nil_seq ?_
    obtain ⟨o66, ho67, h⟩ := bind_some h
    obtain ⟨j65, rfl⟩ : ∃ z, z = o66 := ⟨o66, rfl⟩
    refine WP_join (M := fun a w2 => ∃ vj65, Fr a 44 [(6, .int .i64 x8.2.1), (7, v13), (8, vj65)] ∧ Holds (([] : List Res).flatMap Res.own) w w2 [.sl 3 (.int .i64) v13 x8.2.2, .sl 3 (.int .i64) vj65 j65] G) ?_ ?_
    · refine WP_cond rfl (fun hc68 => ?_) (fun hc68 => ?_)
      · have ho67 := if_t hc68 ho67
        refine WP_region ?_
        refine XL_q rfl (qt_move rfl) rfl rfl ?_
        refine XL_q rfl (qt_move rfl) rfl rfl ?_
        obtain ⟨x69, hx70, ho67⟩ := bind_some ho67
        refine WL_call rfl rfl c63 (w_spec_l20Rd__pick w62 ([.ro (.int .u8) v5 x1.1, .sl 3 (.int .i64) v13 x8.2.2, .sl 3 (.int .i64) vp56 p56] ++ G) b6 v5 x1.1 (HasRo.has (HasRo.hd)) x60.1 8 x69 hx70 H64.ctx) (by rfl) ?_
        rintro _ w71 ⟨rfl, H72⟩; refine ⟨_, rfl, ?_⟩
        have H73 : Holds (([] : List Res).flatMap Res.own) w w71 [.bx b6 66 [v5, .int .i64 x69.1], .ro (.int .u8) v5 x1.1, .sl 3 (.int .i64) v13 x8.2.2, .sl 3 (.int .i64) vp56 p56] G := H64.calledN (Rs := [_]) H72
        refine WL_buildH (t := (.int .i64)) (args := [.tmp 38]) (xs := ([x69.2] : List Int)) H73 (BltL.cons (Blt.int) rfl (BltL.nil)) u27 j3 rfl rfl rfl rfl rfl rfl (fun v74 w75 H76 => ?_)
        have H77 : Holds (([] : List Res).flatMap Res.own) w w75 [.sl 3 (.int .i64) v74 ([x69.2]), .bx b6 66 [v5, .int .i64 x69.1], .ro (.int .u8) v5 x1.1, .sl 3 (.int .i64) v13 x8.2.2, .sl 3 (.int .i64) vp56 p56] G := H76
        have H78 : Holds (([] : List Res).flatMap Res.own) w w75 [.sl 3 (.int .i64) vp56 p56, .sl 3 (.int .i64) v74 ([x69.2]), .bx b6 66 [v5, .int .i64 x69.1], .ro (.int .u8) v5 x1.1, .sl 3 (.int .i64) v13 x8.2.2] G := H77.pull 4
        obtain ⟨x79, hx80, ho67⟩ := bind_some ho67
        refine WL_appendH H78 (Has.c (Has.hd)) hx80 u27 j3 rfl rfl rfl rfl rfl rfl (fun v81 w82 H83 => ?_)
        have H84 : Holds (([] : List Res).flatMap Res.own) w w82 [.sl 3 (.int .i64) v81 x79, .sl 3 (.int .i64) v74 ([x69.2]), .bx b6 66 [v5, .int .i64 x69.1], .ro (.int .u8) v5 x1.1, .sl 3 (.int .i64) v13 x8.2.2] G := H83
        refine XL_q rfl (qt_assign rfl) rfl rfl ?_
        refine WL_nil fun a ha => ?_
        obtain rfl := Option.some.inj ho67
        have H85 : Holds (([] : List Res).flatMap Res.own) w w82 [.sl 3 (.int .i64) v13 x8.2.2, .sl 3 (.int .i64) v81 x79] G := ((((H84.cut 1).cut 1).cut 1).pull 1)
        exact nrm_seq (⟨v81, ha.sub ⟨rfl, rfl, rfl, trivial⟩, H85⟩)
      · have ho67 := if_f hc68 ho67
        refine WP_skip fun a ha => ?_
        obtain rfl := Option.some.inj ho67
        have H86 : Holds (([] : List Res).flatMap Res.own) w w62 [.sl 3 (.int .i64) v13 x8.2.2, .sl 3 (.int .i64) vp56 p56] G := ((((H64.cut 0).cut 0).pull 1).pull 1)
        exact nrm_seq (⟨vp56, ha.sub ⟨rfl, rfl, rfl, trivial⟩, H86⟩)
    · intro a w87 hI88
      obtain ⟨vj65, ha, H89⟩ := hI88
      refine WP.app ?_ ha
      clear ha
      refine WP_seq ?_
      refine WP_region ?_
      refine XL_q rfl (qt_move rfl) rfl rfl ?_
      refine XL_q rfl (qt_move rfl) rfl rfl ?_
      refine XL_q rfl (qt_move rfl) rfl rfl ?_
      refine XL_q rfl (qt_assign rfl) rfl rfl ?_
      refine XL_q rfl (qt_assign rfl) rfl rfl ?_
      refine XL_q rfl (qt_assign rfl) rfl rfl ?_
      refine WL_nil_seq ?_
      refine WP_ret fun a ha => ?_
      obtain rfl := Option.some.inj h
      have H90 : Holds (([] : List Res).flatMap Res.own) w w87 [.sl 3 (.int .i64) v13 x8.2.2, .sl 3 (.int .i64) vj65 j65] G := ((H89.pull 1).pull 1)
      exact ret3 rfl ha rfl rfl rfl ⟨v13, vj65, rfl, H90⟩
theorem w_impl_ApartValid (w : World) (G : List Res) (p0 : Int) (vp1 : Value) (p1 : List Int) (hp1 : Has G (.int .i64) vp1 p1) (vp2 : Value) (p2 : List Int) (hp2 : Has G (.int .i64) vp2 p2) (r : Bool) (h : impl_ApartValidS p0 p1 p2 = some r) (H : Ctx w G) : Calls Tryd.prog 42 #[.int .i64 p0, vp1, vp2] w fun e w' => e = .returned (.bool r) ∧ Holds (([] : List Res).flatMap Res.own) w w' [] G := by
  have H : Holds (([] : List Res).flatMap Res.own) w w [] G := Holds.startN H
  refine calls_enter (args := [.int .i64 p0, vp1, vp2]) (n := 50) Tryd.func42 rfl rfl rfl ?_
  unfold impl_ApartValidS at h
  refine WP_seq ?_
  refine WP_region ?_
  refine XL_q rfl (qt_assign rfl) rfl rfl ?_
  refine WL_nil_seq ?_
  refine WP_seq ?_
  refine WP_seq ?_
  refine WP_still ?_
  refine XL_q rfl (qt_move rfl) rfl rfl ?_
  refine XL_q rfl (qt_move rfl) rfl rfl ?_
  obtain ⟨x1, hx2, h⟩ := bind_some h
  refine QL_call rfl rfl c23 (fun w' hb => (w_impl_MenuValid w' G p0 vp1 p1 (hp1) x1 hx2 (H.grow hb).ctx).mono fun e w'' hK => ⟨hK.1, hK.2.bel⟩) (by rfl) ?_
  refine XL_q rfl (qt_not rfl) rfl rfl ?_
  refine QL_nil fun a ha w3 hb4 => ?_
  have H5 : Holds (([] : List Res).flatMap Res.own) w w3 [] G := H.grow hb4
  refine nrm_seq (WP.app ?_ ha)
  refine WP_cond rfl (fun hc6 => ?_) (fun hc6 => ?_)
  · have h := if_t hc6 h
    refine WP_seq ?_
    refine WP_region ?_
    refine XL_q rfl (qt_assign rfl) rfl rfl ?_
    refine WL_nil_seq ?_
    refine WP_ret fun a ha => ?_
    obtain rfl := Option.some.inj h
    exact ret_seq (ret1 rfl ha rfl ⟨rfl, H5⟩)
  · have h := if_f hc6 h
    refine WP_skip_seq ?_
    refine WP_seq ?_
    refine WP_region ?_
    refine XL_q rfl (qt_assign rfl) rfl rfl ?_
    refine XL_q rfl (qt_assign rfl) rfl rfl ?_
    refine WL_nil_seq ?_
    refine WP_seq ?_
    refine WP_seq ?_
    refine WP_region ?_
    refine XL_q rfl (qt_move rfl) rfl rfl ?_
    refine XL_lenH H5.ctx (t := (.int .i64)) (hp2) u27 rfl rfl rfl ?_
    refine XL_q rfl (qt_move rfl) rfl rfl ?_
    refine WL_nil_seq ?_
    refine WP_block ?_
    obtain ⟨o10, ho11, h⟩ := bind_some h
    refine fun a12 ha13 => wp_loop_fix (I := fun s a w2 => match s with | (s7, s8, s9) => (Fr a 50 [(0, .int .i64 p0), (1, vp1), (7, .int .i64 s7), (8, .int .i64 s8), (17, vp2), (18, .int .i64 (List.length p2 : Int)), (19, .int .i64 s9)] ∧ Holds (([] : List Res).flatMap Res.own) w w2 [] G)) (O := fun o e a w2 => match o with | .inl q0 => e = .exit 0 ∧ (Fr a 50 [(1, vp1), (8, .int .i64 q0)] ∧ Holds (([] : List Res).flatMap Res.own) w w2 [] G) | .inr q0 => e = .ret ∧ (Fr a 50 [(6, .bool q0)] ∧ Holds (([] : List Res).flatMap Res.own) w w2 [] G)) ho11 ?_ ?_ ?_
    · exact ⟨ha13.sub ⟨rfl, rfl, rfl, rfl, rfl, rfl, rfl, trivial⟩, H5⟩
    · clear ha13
      intro s o16 a w14 hs15 hI17
      obtain ⟨s7, s8, s9⟩ := s
      obtain ⟨ha, H18⟩ := hI17
      refine WP.app ?_ ha
      clear ha
      refine WP_seq ?_
      refine WP_region ?_
      refine XL_q rfl (qt_lss rfl rfl) rfl rfl ?_
      refine WL_nil_seq ?_
      refine WP_seq ?_
      refine WP_cond rfl (fun hc19 => ?_) (fun hc19 => ?_)
      · have hs15 := if_t hc19 hs15
        refine WP_skip_seq ?_
        refine WP_seq ?_
        refine WP_block ?_
        refine WP_seq ?_
        refine WP_region ?_
        obtain ⟨x20, hx21, hs15⟩ := bind_some hs15
        refine XL_indexH H18.ctx (hp2) hx21 u27 i3 rfl rfl rfl rfl (fun b22 off23 cap24 hv25 => ?_)
        obtain ⟨F26, hat27, hdup28⟩ := H18.at (hp2) hx21 hv25
        refine XL_load_int (k := .i64) u3 rfl hat27 rfl rfl rfl ?_
        refine XL_q rfl (qt_assign rfl) rfl rfl ?_
        refine WL_nil_seq ?_
        refine WP_seq ?_
        refine WP_seq ?_
        refine WP_region ?_
        refine XL_q rfl (qt_move rfl) rfl rfl ?_
        refine XL_q rfl (qt_move rfl) rfl rfl ?_
        refine XL_q rfl (qt_leq rfl rfl) rfl rfl ?_
        refine XL_q rfl (qt_move rfl) rfl rfl ?_
        refine XL_join 4 30 (.bool ((decide (x20 ≤ s7)) || (decide (x20 ≥ p0)))) ?_ (fun md hmd hk => ?_)
        rotate_left
        · obtain ⟨Q, rfl⟩ := Md.seq_of hmd
          rcases btf (decide (x20 ≤ s7)) with hc29 | hc29
          · skip
            refine XL_skip (w_skip rfl hc29) rfl rfl ?_
            refine XL_skip (w_skip rfl hc29) rfl rfl ?_
            refine XL_skip (w_skip rfl hc29) rfl rfl ?_
            refine XL_q rfl (qt_pickT rfl hc29 rfl) rfl rfl ?_
            exact hk _ (Cov.same (by rw [hc29]; rfl) (Cov.fresh rfl (Cov.fresh rfl (Cov.fresh rfl (Cov.refl)))))
          · skip
            refine XL_q (w_take rfl hc29) (qt_move rfl) rfl rfl ?_
            refine XL_q (w_take rfl hc29) (qt_move rfl) rfl rfl ?_
            refine XL_q (w_take rfl hc29) (qt_geq rfl rfl) rfl rfl ?_
            refine XL_q rfl (qt_pickF rfl hc29 rfl) rfl rfl ?_
            exact hk _ (Cov.same (by rw [hc29]; rfl) (Cov.fresh rfl (Cov.fresh rfl (Cov.fresh rfl (Cov.refl)))))
        refine WL_nil_seq ?_
        refine WP_cond rfl (fun hc30 => ?_) (fun hc30 => ?_)
        · have hs15 := if_t hc30 hs15
          refine WP_seq ?_
          refine WP_region ?_
          refine XL_q rfl (qt_assign rfl) rfl rfl ?_
          refine WL_nil_seq ?_
          refine WP_ret fun a ha => ?_
          obtain rfl := Option.some.inj hs15
          exact ret_seq (ret_block (ret_seq (⟨ret_ne, rfl, ha.sub ⟨rfl, trivial⟩, H18⟩)))
        · have hs15 := if_f hc30 hs15
          refine WP_skip_seq ?_
          refine WP_seq ?_
          refine WP_region ?_
          refine XL_q rfl (qt_move rfl) rfl rfl ?_
          refine XL_q rfl (qt_assign rfl) rfl rfl ?_
          refine WL_nil_seq ?_
          refine WP_region ?_
          refine XL_q rfl (qt_move rfl) rfl rfl ?_
          refine XL_q rfl (qt_move rfl) rfl rfl ?_
          obtain ⟨x31, hx32, hs15⟩ := bind_some hs15
          refine XL_q rfl (qt_shlO rfl rfl hx32) rfl rfl ?_
          refine XL_q rfl (qt_or rfl rfl) rfl rfl ?_
          refine XL_q rfl (qt_assign rfl) rfl rfl ?_
          refine WL_nil fun a ha => ?_
          refine nrm_block (nrm_seq (WP.app ?_ ha))
          refine WP_region ?_
          refine XL_q rfl (qt_add rfl rfl) rfl rfl ?_
          refine XL_q rfl (qt_move rfl) rfl rfl ?_
          refine WL_nil fun a ha => ?_
          obtain rfl := Option.some.inj hs15
          exact ⟨rfl, ha.sub ⟨rfl, rfl, rfl, rfl, rfl, rfl, rfl, trivial⟩, H18⟩
      · have hs15 := if_f hc19 hs15
        refine WP_exit fun a ha => ?_
        obtain rfl := Option.some.inj hs15
        exact exit_seq (⟨exit_ne, rfl, ha.sub ⟨rfl, rfl, trivial⟩, H18⟩)
    · intro e a12 w33 hO34
      rcases o10 with o10 | o10
      · skip
        obtain ⟨p35, rfl⟩ : ∃ z, z = o10 := ⟨o10, rfl⟩
        obtain ⟨rfl, hO37⟩ := hO34
        obtain ⟨ha, H36⟩ := hO37
        refine exit_block_eq (nrm_seq (WP.app ?_ ha))
        refine WP_seq ?_
        refine WP_seq ?_
        refine WP_region ?_
        refine XL_q rfl (qt_move rfl) rfl rfl ?_
        refine XL_lenH H36.ctx (t := (.int .i64)) (hp1) u27 rfl rfl rfl ?_
        refine XL_q rfl (qt_move rfl) rfl rfl ?_
        refine WL_nil_seq ?_
        refine WP_block ?_
        obtain ⟨o39, ho40, h⟩ := bind_some h
        refine fun a41 ha42 => wp_loop_fix (I := fun s a w2 => match s with | s38 => (Fr a 50 [(8, .int .i64 p35), (37, vp1), (38, .int .i64 (List.length p1 : Int)), (39, .int .i64 s38)] ∧ Holds (([] : List Res).flatMap Res.own) w w2 [] G)) (O := fun o e a w2 => match o with | .inl _ => e = .exit 2 ∧ (Fr a 50 [] ∧ Holds (([] : List Res).flatMap Res.own) w w2 [] G) | .inr q0 => e = .ret ∧ (Fr a 50 [(6, .bool q0)] ∧ Holds (([] : List Res).flatMap Res.own) w w2 [] G)) ho40 ?_ ?_ ?_
        · exact ⟨ha42.sub ⟨rfl, rfl, rfl, rfl, trivial⟩, H36⟩
        · clear ha42
          intro s o45 a w43 hs44 hI46
          obtain ⟨s38, rfl⟩ : ∃ z, z = s := ⟨s, rfl⟩
          obtain ⟨ha, H47⟩ := hI46
          refine WP.app ?_ ha
          clear ha
          refine WP_seq ?_
          refine WP_region ?_
          refine XL_q rfl (qt_lss rfl rfl) rfl rfl ?_
          refine WL_nil_seq ?_
          refine WP_seq ?_
          refine WP_cond rfl (fun hc48 => ?_) (fun hc48 => ?_)
          · have hs44 := if_t hc48 hs44
            refine WP_skip_seq ?_
            refine WP_seq ?_
            refine WP_block ?_
            refine WP_seq ?_
            refine WP_region ?_
            obtain ⟨x49, hx50, hs44⟩ := bind_some hs44
            refine XL_indexH H47.ctx (hp1) hx50 u27 i3 rfl rfl rfl rfl (fun b51 off52 cap53 hv54 => ?_)
            obtain ⟨F55, hat56, hdup57⟩ := H47.at (hp1) hx50 hv54
            refine XL_load_int (k := .i64) u3 rfl hat56 rfl rfl rfl ?_
            refine XL_q rfl (qt_assign rfl) rfl rfl ?_
            refine WL_nil_seq ?_
            refine WP_seq ?_
            refine WP_still ?_
            refine XL_q rfl (qt_move rfl) rfl rfl ?_
            refine XL_q rfl (qt_move rfl) rfl rfl ?_
            refine XL_q rfl (qt_and rfl rfl) rfl rfl ?_
            refine XL_q rfl (qt_int u46 rfl u3) rfl rfl ?_
            obtain ⟨x58, hx59, hs44⟩ := bind_some hs44
            refine QL_call rfl rfl c64 (fun w' hb => (w_bits_OnesCount w' G (IntKind.wrap .u64 (iand .i64 x49 p35)) x58 hx59 (H47.grow hb).ctx).mono fun e w'' hK => ⟨hK.1, hK.2.bel⟩) (by rfl) ?_
            refine XL_q rfl (qt_gtr rfl rfl) rfl rfl ?_
            refine QL_nil fun a ha w60 hb61 => ?_
            have H62 : Holds (([] : List Res).flatMap Res.own) w w60 [] G := H47.grow hb61
            refine nrm_seq (WP.app ?_ ha)
            refine WP_cond rfl (fun hc63 => ?_) (fun hc63 => ?_)
            · have hs44 := if_t hc63 hs44
              refine WP_seq ?_
              refine WP_region ?_
              refine XL_q rfl (qt_assign rfl) rfl rfl ?_
              refine WL_nil_seq ?_
              refine WP_ret fun a ha => ?_
              obtain rfl := Option.some.inj hs44
              exact ret_block (ret_seq (⟨ret_ne, rfl, ha.sub ⟨rfl, trivial⟩, H62⟩))
            · have hs44 := if_f hc63 hs44
              refine WP_skip fun a ha => ?_
              refine nrm_block (nrm_seq (WP.app ?_ ha))
              refine WP_region ?_
              refine XL_q rfl (qt_add rfl rfl) rfl rfl ?_
              refine XL_q rfl (qt_move rfl) rfl rfl ?_
              refine WL_nil fun a ha => ?_
              obtain rfl := Option.some.inj hs44
              exact ⟨rfl, ha.sub ⟨rfl, rfl, rfl, rfl, trivial⟩, H62⟩
          · have hs44 := if_f hc48 hs44
            refine WP_exit fun a ha => ?_
            obtain rfl := Option.some.inj hs44
            exact exit_seq (⟨exit_ne, rfl, ha.sub trivial, H47⟩)
        · intro e a41 w64 hO65
          rcases o39 with o39 | o39
          · skip
            obtain ⟨rfl, hO67⟩ := hO65
            obtain ⟨ha, H66⟩ := hO67
            refine exit_block_eq (nrm_seq (WP.app ?_ ha))
            refine WP_seq ?_
            refine WP_region ?_
            refine XL_q rfl (qt_assign rfl) rfl rfl ?_
            refine WL_nil_seq ?_
            refine WP_ret fun a ha => ?_
            obtain rfl := Option.some.inj h
            exact ret1 rfl ha rfl ⟨rfl, H66⟩
          · skip
            obtain ⟨p68, rfl⟩ : ∃ z, z = o39 := ⟨o39, rfl⟩
            obtain ⟨rfl, hO70⟩ := hO65
            obtain ⟨ha, H69⟩ := hO70
            obtain rfl := Option.some.inj h
            exact ret_block (ret_seq (ret1 rfl ha rfl ⟨rfl, H69⟩))
      · skip
        obtain ⟨p71, rfl⟩ : ∃ z, z = o10 := ⟨o10, rfl⟩
        obtain ⟨rfl, hO73⟩ := hO34
        obtain ⟨ha, H72⟩ := hO73
        obtain rfl := Option.some.inj h
        exact ret_block (ret_seq (ret1 rfl ha rfl ⟨rfl, H72⟩))
theorem w_spec_ApartValid (w : World) (G : List Res) (p0 : Int) (vp1 : Value) (p1 : List Int) (hp1 : Has G (.int .i64) vp1 p1) (vp2 : Value) (p2 : List Int) (hp2 : Has G (.int .i64) vp2 p2) (r : Bool) (h : spec_ApartValidS p0 p1 p2 = some r) (H : Ctx w G) : Calls Tryd.prog 43 #[.int .i64 p0, vp1, vp2] w fun e w' => e = .returned (.bool r) ∧ Holds (([] : List Res).flatMap Res.own) w w' [] G := by
  have H : Holds (([] : List Res).flatMap Res.own) w w [] G := Holds.startN H
  refine calls_enter (args := [.int .i64 p0, vp1, vp2]) (n := 79) Tryd.func43 rfl rfl rfl ?_
  unfold spec_ApartValidS at h
  refine WP_seq ?_
  refine WP_region ?_
  refine XL_q rfl (qt_assign rfl) rfl rfl ?_
  refine WL_nil_seq ?_
  refine WP_seq ?_
  refine WP_seq ?_
  refine WP_still ?_
  refine XL_q rfl (qt_move rfl) rfl rfl ?_
  refine XL_q rfl (qt_move rfl) rfl rfl ?_
  obtain ⟨x1, hx2, h⟩ := bind_some h
  refine QL_call rfl rfl c24 (fun w' hb => (w_spec_MenuValid w' G p0 vp1 p1 (hp1) x1 hx2 (H.grow hb).ctx).mono fun e w'' hK => ⟨hK.1, hK.2.bel⟩) (by rfl) ?_
  refine XL_q rfl (qt_not rfl) rfl rfl ?_
  refine QL_nil fun a ha w3 hb4 => ?_
  have H5 : Holds (([] : List Res).flatMap Res.own) w w3 [] G := H.grow hb4
  refine nrm_seq (WP.app ?_ ha)
  refine WP_cond rfl (fun hc6 => ?_) (fun hc6 => ?_)
  · have h := if_t hc6 h
    refine WP_seq ?_
    refine WP_region ?_
    refine XL_q rfl (qt_assign rfl) rfl rfl ?_
    refine WL_nil_seq ?_
    refine WP_ret fun a ha => ?_
    obtain rfl := Option.some.inj h
    exact ret_seq (ret1 rfl ha rfl ⟨rfl, H5⟩)
  · have h := if_f hc6 h
    refine WP_skip_seq ?_
    refine WP_seq ?_
    refine WP_seq ?_
    refine WP_region ?_
    refine XL_q rfl (qt_assign rfl) rfl rfl ?_
    refine WL_nil_seq ?_
    refine WP_block ?_
    obtain ⟨o8, ho9, h⟩ := bind_some h
    refine fun a10 ha11 => wp_loop_fix (I := fun s a w2 => match s with | s7 => (Fr a 79 [(0, .int .i64 p0), (1, vp1), (2, vp2), (7, .int .i64 s7)] ∧ Holds (([] : List Res).flatMap Res.own) w w2 [] G)) (O := fun o e a w2 => match o with | .inl _ => e = .exit 0 ∧ (Fr a 79 [] ∧ Holds (([] : List Res).flatMap Res.own) w w2 [] G) | .inr q0 => e = .ret ∧ (Fr a 79 [(6, .bool q0)] ∧ Holds (([] : List Res).flatMap Res.own) w w2 [] G)) ho9 ?_ ?_ ?_
    · exact ⟨ha11.sub ⟨rfl, rfl, rfl, rfl, trivial⟩, H5⟩
    · clear ha11
      intro s o14 a w12 hs13 hI15
      obtain ⟨s7, rfl⟩ : ∃ z, z = s := ⟨s, rfl⟩
      obtain ⟨ha, H16⟩ := hI15
      refine WP.app ?_ ha
      clear ha
      refine WP_seq ?_
      refine WP_seq ?_
      refine WP_region ?_
      refine XL_q rfl (qt_move rfl) rfl rfl ?_
      refine XL_q rfl (qt_move rfl) rfl rfl ?_
      refine XL_lenH H16.ctx (t := (.int .i64)) (hp2) u27 rfl rfl rfl ?_
      refine XL_q rfl (qt_lss rfl rfl) rfl rfl ?_
      refine WL_nil_seq ?_
      refine WP_cond rfl (fun hc17 => ?_) (fun hc17 => ?_)
      · have hs13 := if_t hc17 hs13
        refine WP_skip_seq ?_
        refine WP_seq ?_
        refine WP_block ?_
        refine WP_seq ?_
        refine WP_seq ?_
        refine WP_quiet (by kernel_rfl) (by kernel_rfl) ?_
        refine XL_q rfl (qt_move rfl) rfl rfl ?_
        refine XL_q rfl (qt_move rfl) rfl rfl ?_
        obtain ⟨x18, hx19, hs13⟩ := bind_some hs13
        refine XL_indexH H16.ctx (hp2) hx19 u27 i3 rfl rfl rfl rfl (fun b20 off21 cap22 hv23 => ?_)
        obtain ⟨F24, hat25, hdup26⟩ := H16.at (hp2) hx19 hv23
        refine XL_load_int (k := .i64) u3 rfl hat25 rfl rfl rfl ?_
        refine XL_q rfl (qt_move rfl) rfl rfl ?_
        refine XL_q rfl (qt_sub rfl rfl) rfl rfl ?_
        obtain ⟨x27, hx28, hs13⟩ := bind_some hs13
        refine QL_call rfl rfl c70 (fun w' hb => (w_spec_l1In w' G x18 0 (IntKind.wrap .i64 (p0 - 1)) x27 hx28 (H16.grow hb).ctx).mono fun e w'' hK => ⟨hK.1, hK.2.bel⟩) (by rfl) ?_
        refine XL_q rfl (qt_not rfl) rfl rfl ?_
        refine XL_q rfl (qt_move rfl) rfl rfl ?_
        obtain ⟨b29, hg30, hs13⟩ := bind_some hs13
        refine XL_join 15 43 (.bool b29) ?_ (fun md hmd hk => ?_)
        rotate_left
        · obtain ⟨K, rfl⟩ := Md.quiet_of hmd
          rcases btf (!x27) with hc31 | hc31
          · skip
            refine XL_skip (w_skip rfl hc31) rfl rfl ?_
            refine XL_skip (w_skip rfl hc31) rfl rfl ?_
            refine XL_skip (w_skip rfl hc31) rfl rfl ?_
            refine XL_skip rfl rfl rfl ?_
            refine XL_skip rfl rfl rfl ?_
            refine XL_skip rfl rfl rfl ?_
            refine XL_skip rfl rfl rfl ?_
            refine XL_skip rfl rfl rfl ?_
            refine XL_skip rfl rfl rfl ?_
            refine XL_skip rfl rfl rfl ?_
            refine XL_skip rfl rfl rfl ?_
            refine XL_skip rfl rfl rfl ?_
            refine XL_skip rfl rfl rfl ?_
            refine XL_skip (w_skip rfl hc31) rfl rfl ?_
            refine XL_q rfl (qt_pickT rfl hc31 rfl) rfl rfl ?_
            exact hk _ (Cov.same (vb (if_t hc31 hg30)) (Cov.fresh rfl (Cov.fresh rfl (Cov.fresh rfl (Cov.fresh rfl (Cov.fresh rfl (Cov.fresh rfl (Cov.fresh rfl (Cov.fresh rfl (Cov.fresh rfl (Cov.fresh rfl (Cov.fresh rfl (Cov.fresh rfl (Cov.fresh rfl (Cov.fresh rfl (Cov.refl))))))))))))))))
          · skip
            have hg30 := if_f hc31 hg30
            refine XL_q (w_take rfl hc31) (qt_move rfl) rfl rfl ?_
            refine XL_q (w_take rfl hc31) (qt_gtr rfl rfl) rfl rfl ?_
            refine XL_q (w_take rfl hc31) (qt_move rfl) rfl rfl ?_
            obtain ⟨b32, hg33, hg30⟩ := bind_some hg30
            refine XL_join 11 42 (.bool b32) ?_ (fun md hmd hk => ?_)
            rotate_left
            · obtain ⟨K, rfl⟩ := Md.quiet_of hmd
              rcases btf (decide (s7 > 0)) with hc34 | hc34
              · skip
                have hg33 := if_t hc34 hg33
                refine XL_q (w_take rfl hc34) (qt_move rfl) rfl rfl ?_
                refine XL_q (w_take rfl hc34) (qt_move rfl) rfl rfl ?_
                refine XL_q (w_take rfl hc34) (qt_sub rfl rfl) rfl rfl ?_
                obtain ⟨x35, hx36, hg33⟩ := bind_some hg33
                refine XL_indexH H16.ctx (hp2) hx36 u27 i3 (w_take rfl hc34) rfl rfl rfl (fun b37 off38 cap39 hv40 => ?_)
                obtain ⟨F41, hat42, hdup43⟩ := H16.at (hp2) hx36 hv40
                refine XL_load_int (k := .i64) u3 rfl hat42 (w_take rfl hc34) rfl rfl ?_
                refine XL_q (w_take rfl hc34) (qt_move rfl) rfl rfl ?_
                refine XL_q (w_take rfl hc34) (qt_move rfl) rfl rfl ?_
                obtain ⟨x44, hx45, hg33⟩ := bind_some hg33
                refine XL_indexH H16.ctx (hp2) hx45 u27 i3 (w_take rfl hc34) rfl rfl rfl (fun b46 off47 cap48 hv49 => ?_)
                obtain ⟨F50, hat51, hdup52⟩ := H16.at (hp2) hx45 hv49
                refine XL_load_int (k := .i64) u3 rfl hat51 (w_take rfl hc34) rfl rfl ?_
                refine XL_q (w_take rfl hc34) (qt_geq rfl rfl) rfl rfl ?_
                refine XL_q (w_take rfl hc31) (qt_pickT rfl hc34 rfl) rfl rfl ?_
                exact hk _ (Cov.same (vb hg33) (Cov.fresh rfl (Cov.fresh rfl (Cov.fresh rfl (Cov.fresh rfl (Cov.fresh rfl (Cov.fresh rfl (Cov.fresh rfl (Cov.fresh rfl (Cov.fresh rfl (Cov.fresh rfl (Cov.refl))))))))))))
              · skip
                refine XL_skip (w_skip rfl hc34) rfl rfl ?_
                refine XL_skip (w_skip rfl hc34) rfl rfl ?_
                refine XL_skip (w_skip rfl hc34) rfl rfl ?_
                refine XL_skip (w_skip rfl hc34) rfl rfl ?_
                refine XL_skip (w_skip rfl hc34) rfl rfl ?_
                refine XL_skip (w_skip rfl hc34) rfl rfl ?_
                refine XL_skip (w_skip rfl hc34) rfl rfl ?_
                refine XL_skip (w_skip rfl hc34) rfl rfl ?_
                refine XL_skip (w_skip rfl hc34) rfl rfl ?_
                refine XL_skip (w_skip rfl hc34) rfl rfl ?_
                refine XL_q (w_take rfl hc31) (qt_pickF rfl hc34 rfl) rfl rfl ?_
                exact hk _ (Cov.same (vb (if_f hc34 hg33)) (Cov.fresh rfl (Cov.fresh rfl (Cov.fresh rfl (Cov.fresh rfl (Cov.fresh rfl (Cov.fresh rfl (Cov.fresh rfl (Cov.fresh rfl (Cov.fresh rfl (Cov.fresh rfl (Cov.refl))))))))))))
            refine XL_q rfl (qt_pickF rfl hc31 rfl) rfl rfl ?_
            exact hk _ (Cov.same (vb hg30) (Cov.fresh rfl (Cov.fresh rfl (Cov.fresh rfl (Cov.fresh rfl (Cov.refl))))))
        refine QL_nil fun a ha w53 hb54 => ?_
        have H55 : Holds (([] : List Res).flatMap Res.own) w w53 [] G := H16.grow hb54
        refine nrm_seq (WP.app ?_ ha)
        refine WP_cond rfl (fun hc56 => ?_) (fun hc56 => ?_)
        · have hs13 := if_t hc56 hs13
          refine WP_seq ?_
          refine WP_region ?_
          refine XL_q rfl (qt_assign rfl) rfl rfl ?_
          refine WL_nil_seq ?_
          refine WP_ret fun a ha => ?_
          obtain rfl := Option.some.inj hs13
          exact ret_seq (ret_block (ret_seq (⟨ret_ne, rfl, ha.sub ⟨rfl, trivial⟩, H55⟩)))
        · have hs13 := if_f hc56 hs13
          refine WP_skip_seq ?_
          refine WP_seq ?_
          refine WP_region ?_
          refine XL_q rfl (qt_assign rfl) rfl rfl ?_
          refine WL_nil_seq ?_
          refine WP_block ?_
          obtain ⟨o58, ho59, hs13⟩ := bind_some hs13
          refine fun a60 ha61 => wp_loop_fix (I := fun s a w2 => match s with | s57 => (Fr a 79 [(0, .int .i64 p0), (1, vp1), (2, vp2), (7, .int .i64 s7), (8, .int .i64 s57)] ∧ Holds (([] : List Res).flatMap Res.own) w w2 [] G)) (O := fun o e a w2 => match o with | .inl _ => e = .exit 2 ∧ (Fr a 79 [(0, .int .i64 p0), (1, vp1), (2, vp2), (7, .int .i64 s7)] ∧ Holds (([] : List Res).flatMap Res.own) w w2 [] G) | .inr q0 => e = .ret ∧ (Fr a 79 [(6, .bool q0)] ∧ Holds (([] : List Res).flatMap Res.own) w w2 [] G)) ho59 ?_ ?_ ?_
          · exact ⟨ha61.sub ⟨rfl, rfl, rfl, rfl, rfl, trivial⟩, H55⟩
          · clear ha61
            intro s o64 a w62 hs63 hI65
            obtain ⟨s57, rfl⟩ : ∃ z, z = s := ⟨s, rfl⟩
            obtain ⟨ha, H66⟩ := hI65
            refine WP.app ?_ ha
            clear ha
            refine WP_seq ?_
            refine WP_seq ?_
            refine WP_region ?_
            refine XL_q rfl (qt_move rfl) rfl rfl ?_
            refine XL_q rfl (qt_move rfl) rfl rfl ?_
            refine XL_q rfl (qt_lss rfl rfl) rfl rfl ?_
            refine WL_nil_seq ?_
            refine WP_cond rfl (fun hc67 => ?_) (fun hc67 => ?_)
            · have hs63 := if_t hc67 hs63
              refine WP_skip_seq ?_
              refine WP_seq ?_
              refine WP_block ?_
              refine WP_seq ?_
              refine WP_region ?_
              refine XL_q rfl (qt_assign rfl) rfl rfl ?_
              refine WL_nil_seq ?_
              refine WP_block ?_
              obtain ⟨o69, ho70, hs63⟩ := bind_some hs63
              refine fun a71 ha72 => wp_loop_fix (I := fun s a w2 => match s with | s68 => (Fr a 79 [(0, .int .i64 p0), (1, vp1), (2, vp2), (7, .int .i64 s7), (8, .int .i64 s57), (9, .int .i64 s68)] ∧ Holds (([] : List Res).flatMap Res.own) w w2 [] G)) (O := fun o e a w2 => match o with | .inl _ => e = .exit 4 ∧ (Fr a 79 [(0, .int .i64 p0), (1, vp1), (2, vp2), (7, .int .i64 s7), (8, .int .i64 s57)] ∧ Holds (([] : List Res).flatMap Res.own) w w2 [] G) | .inr q0 => e = .ret ∧ (Fr a 79 [(6, .bool q0)] ∧ Holds (([] : List Res).flatMap Res.own) w w2 [] G)) ho70 ?_ ?_ ?_
              · exact ⟨ha72.sub ⟨rfl, rfl, rfl, rfl, rfl, rfl, trivial⟩, H66⟩
              · clear ha72
                intro s o75 a w73 hs74 hI76
                obtain ⟨s68, rfl⟩ : ∃ z, z = s := ⟨s, rfl⟩
                obtain ⟨ha, H77⟩ := hI76
                refine WP.app ?_ ha
                clear ha
                refine WP_seq ?_
                refine WP_seq ?_
                refine WP_region ?_
                refine XL_q rfl (qt_move rfl) rfl rfl ?_
                refine XL_q rfl (qt_move rfl) rfl rfl ?_
                refine XL_lenH H77.ctx (t := (.int .i64)) (hp1) u27 rfl rfl rfl ?_
                refine XL_q rfl (qt_lss rfl rfl) rfl rfl ?_
                refine WL_nil_seq ?_
                refine WP_cond rfl (fun hc78 => ?_) (fun hc78 => ?_)
                · have hs74 := if_t hc78 hs74
                  refine WP_skip_seq ?_
                  refine WP_seq ?_
                  refine WP_block ?_
                  refine WP_seq ?_
                  refine WP_quiet (by kernel_rfl) (by kernel_rfl) ?_
                  refine XL_q rfl (qt_move rfl) rfl rfl ?_
                  refine XL_q rfl (qt_move rfl) rfl rfl ?_
                  obtain ⟨x79, hx80, hs74⟩ := bind_some hs74
                  refine XL_indexH H77.ctx (hp1) hx80 u27 i3 rfl rfl rfl rfl (fun b81 off82 cap83 hv84 => ?_)
                  obtain ⟨F85, hat86, hdup87⟩ := H77.at (hp1) hx80 hv84
                  refine XL_load_int (k := .i64) u3 rfl hat86 rfl rfl rfl ?_
                  refine XL_q rfl (qt_move rfl) rfl rfl ?_
                  refine XL_q rfl (qt_move rfl) rfl rfl ?_
                  obtain ⟨x88, hx89, hs74⟩ := bind_some hs74
                  refine XL_indexH H77.ctx (hp2) hx89 u27 i3 rfl rfl rfl rfl (fun b90 off91 cap92 hv93 => ?_)
                  obtain ⟨F94, hat95, hdup96⟩ := H77.at (hp2) hx89 hv93
                  refine XL_load_int (k := .i64) u3 rfl hat95 rfl rfl rfl ?_
                  obtain ⟨x97, hx98, hs74⟩ := bind_some hs74
                  refine XL_q rfl (qt_shrO rfl rfl hx98) rfl rfl ?_
                  refine XL_q rfl (qt_rem rfl rfl (by decide)) rfl rfl ?_
                  refine XL_q rfl (qt_eql rfl rfl) rfl rfl ?_
                  refine XL_q rfl (qt_move rfl) rfl rfl ?_
                  obtain ⟨b99, hg100, hs74⟩ := bind_some hs74
                  refine XL_join 12 78 (.bool b99) ?_ (fun md hmd hk => ?_)
                  rotate_left
                  · obtain ⟨K, rfl⟩ := Md.quiet_of hmd
                    rcases btf ((Int.tmod x97 2) == 1) with hc101 | hc101
                    · skip
                      have hg100 := if_t hc101 hg100
                      refine XL_q (w_take rfl hc101) (qt_move rfl) rfl rfl ?_
                      refine XL_q (w_take rfl hc101) (qt_move rfl) rfl rfl ?_
                      obtain ⟨x102, hx103, hg100⟩ := bind_some hg100
                      refine XL_indexH H77.ctx (hp1) hx103 u27 i3 (w_take rfl hc101) rfl rfl rfl (fun b104 off105 cap106 hv107 => ?_)
                      obtain ⟨F108, hat109, hdup110⟩ := H77.at (hp1) hx103 hv107
                      refine XL_load_int (k := .i64) u3 rfl hat109 (w_take rfl hc101) rfl rfl ?_
                      refine XL_q (w_take rfl hc101) (qt_move rfl) rfl rfl ?_
                      refine XL_q (w_take rfl hc101) (qt_move rfl) rfl rfl ?_
                      obtain ⟨x111, hx112, hg100⟩ := bind_some hg100
                      refine XL_indexH H77.ctx (hp2) hx112 u27 i3 (w_take rfl hc101) rfl rfl rfl (fun b113 off114 cap115 hv116 => ?_)
                      obtain ⟨F117, hat118, hdup119⟩ := H77.at (hp2) hx112 hv116
                      refine XL_load_int (k := .i64) u3 rfl hat118 (w_take rfl hc101) rfl rfl ?_
                      obtain ⟨x120, hx121, hg100⟩ := bind_some hg100
                      refine XL_q (w_take rfl hc101) (qt_shrO rfl rfl hx121) rfl rfl ?_
                      refine XL_q (w_take rfl hc101) (qt_rem rfl rfl (by decide)) rfl rfl ?_
                      refine XL_q (w_take rfl hc101) (qt_eql rfl rfl) rfl rfl ?_
                      refine XL_q rfl (qt_pickT rfl hc101 rfl) rfl rfl ?_
                      exact hk _ (Cov.same (vb hg100) (Cov.fresh rfl (Cov.fresh rfl (Cov.fresh rfl (Cov.fresh rfl (Cov.fresh rfl (Cov.fresh rfl (Cov.fresh rfl (Cov.fresh rfl (Cov.fresh rfl (Cov.fresh rfl (Cov.fresh rfl (Cov.refl)))))))))))))
                    · skip
                      refine XL_skip (w_skip rfl hc101) rfl rfl ?_
                      refine XL_skip (w_skip rfl hc101) rfl rfl ?_
                      refine XL_skip (w_skip rfl hc101) rfl rfl ?_
                      refine XL_skip (w_skip rfl hc101) rfl rfl ?_
                      refine XL_skip (w_skip rfl hc101) rfl rfl ?_
                      refine XL_skip (w_skip rfl hc101) rfl rfl ?_
                      refine XL_skip (w_skip rfl hc101) rfl rfl ?_
                      refine XL_skip (w_skip rfl hc101) rfl rfl ?_
                      refine XL_skip (w_skip rfl hc101) rfl rfl ?_
                      refine XL_skip (w_skip rfl hc101) rfl rfl ?_
                      refine XL_skip (w_skip rfl hc101) rfl rfl ?_
                      refine XL_q rfl (qt_pickF rfl hc101 rfl) rfl rfl ?_
                      exact hk _ (Cov.same (vb (if_f hc101 hg100)) (Cov.fresh rfl (Cov.fresh rfl (Cov.fresh rfl (Cov.fresh rfl (Cov.fresh rfl (Cov.fresh rfl (Cov.fresh rfl (Cov.fresh rfl (Cov.fresh rfl (Cov.fresh rfl (Cov.fresh rfl (Cov.refl)))))))))))))
                  refine QL_nil fun a ha w122 hb123 => ?_
                  have H124 : Holds (([] : List Res).flatMap Res.own) w w122 [] G := H77.grow hb123
                  refine nrm_seq (WP.app ?_ ha)
                  refine WP_cond rfl (fun hc125 => ?_) (fun hc125 => ?_)
                  · have hs74 := if_t hc125 hs74
                    refine WP_seq ?_
                    refine WP_region ?_
                    refine XL_q rfl (qt_assign rfl) rfl rfl ?_
                    refine WL_nil_seq ?_
                    refine WP_ret fun a ha => ?_
                    obtain rfl := Option.some.inj hs74
                    exact ret_block (ret_seq (⟨ret_ne, rfl, ha.sub ⟨rfl, trivial⟩, H124⟩))
                  · have hs74 := if_f hc125 hs74
                    refine WP_skip fun a ha => ?_
                    refine nrm_block (nrm_seq (WP.app ?_ ha))
                    refine WP_region ?_
                    refine XL_q rfl (qt_move rfl) rfl rfl ?_
                    refine XL_q rfl (qt_add rfl rfl) rfl rfl ?_
                    refine XL_q rfl (qt_assign rfl) rfl rfl ?_
                    refine WL_nil fun a ha => ?_
                    obtain rfl := Option.some.inj hs74
                    exact ⟨rfl, ha.sub ⟨rfl, rfl, rfl, rfl, rfl, rfl, trivial⟩, H124⟩
                · have hs74 := if_f hc78 hs74
                  refine WP_exit fun a ha => ?_
                  obtain rfl := Option.some.inj hs74
                  exact exit_seq (⟨exit_ne, rfl, ha.sub ⟨rfl, rfl, rfl, rfl, rfl, trivial⟩, H77⟩)
              · intro e a71 w126 hO127
                rcases o69 with o69 | o69
                · skip
                  obtain ⟨rfl, hO129⟩ := hO127
                  obtain ⟨ha, H128⟩ := hO129
                  refine exit_block_eq (nrm_block (nrm_seq (WP.app ?_ ha)))
                  refine WP_region ?_
                  refine XL_q rfl (qt_move rfl) rfl rfl ?_
                  refine XL_q rfl (qt_add rfl rfl) rfl rfl ?_
                  refine XL_q rfl (qt_assign rfl) rfl rfl ?_
                  refine WL_nil fun a ha => ?_
                  obtain rfl := Option.some.inj hs63
                  exact ⟨rfl, ha.sub ⟨rfl, rfl, rfl, rfl, rfl, trivial⟩, H128⟩
                · skip
                  obtain ⟨p130, rfl⟩ : ∃ z, z = o69 := ⟨o69, rfl⟩
                  obtain ⟨rfl, hO132⟩ := hO127
                  obtain ⟨ha, H131⟩ := hO132
                  obtain rfl := Option.some.inj hs63
                  exact ret_block (ret_block (ret_seq (⟨ret_ne, rfl, ha.sub ⟨rfl, trivial⟩, H131⟩)))
            · have hs63 := if_f hc67 hs63
              refine WP_exit fun a ha => ?_
              obtain rfl := Option.some.inj hs63
              exact exit_seq (⟨exit_ne, rfl, ha.sub ⟨rfl, rfl, rfl, rfl, trivial⟩, H66⟩)
          · intro e a60 w133 hO134
            rcases o58 with o58 | o58
            · skip
              obtain ⟨rfl, hO136⟩ := hO134
              obtain ⟨ha, H135⟩ := hO136
              refine exit_block_eq (nrm_block (nrm_seq (WP.app ?_ ha)))
              refine WP_region ?_
              refine XL_q rfl (qt_move rfl) rfl rfl ?_
              refine XL_q rfl (qt_add rfl rfl) rfl rfl ?_
              refine XL_q rfl (qt_assign rfl) rfl rfl ?_
              refine WL_nil fun a ha => ?_
              obtain rfl := Option.some.inj hs13
              exact ⟨rfl, ha.sub ⟨rfl, rfl, rfl, rfl, trivial⟩, H135⟩
            · skip
              obtain ⟨p137, rfl⟩ : ∃ z, z = o58 := ⟨o58, rfl⟩
              obtain ⟨rfl, hO139⟩ := hO134
              obtain ⟨ha, H138⟩ := hO139
              obtain rfl := Option.some.inj hs13
              exact ret_block (ret_block (ret_seq (⟨ret_ne, rfl, ha.sub ⟨rfl, trivial⟩, H138⟩)))
      · have hs13 := if_f hc17 hs13
        refine WP_exit fun a ha => ?_
        obtain rfl := Option.some.inj hs13
        exact exit_seq (⟨exit_ne, rfl, ha.sub trivial, H16⟩)
    · intro e a10 w140 hO141
      rcases o8 with o8 | o8
      · skip
        obtain ⟨rfl, hO143⟩ := hO141
        obtain ⟨ha, H142⟩ := hO143
        refine exit_block_eq (nrm_seq (WP.app ?_ ha))
        refine WP_seq ?_
        refine WP_region ?_
        refine XL_q rfl (qt_assign rfl) rfl rfl ?_
        refine WL_nil_seq ?_
        refine WP_ret fun a ha => ?_
        obtain rfl := Option.some.inj h
        exact ret1 rfl ha rfl ⟨rfl, H142⟩
      · skip
        obtain ⟨p144, rfl⟩ : ∃ z, z = o8 := ⟨o8, rfl⟩
        obtain ⟨rfl, hO146⟩ := hO141
        obtain ⟨ha, H145⟩ := hO146
        obtain rfl := Option.some.inj h
        exact ret_block (ret_seq (ret1 rfl ha rfl ⟨rfl, H145⟩))
theorem w_impl_ApartMost (w : World) (G : List Res) (p0 : Int) (vp1 : Value) (p1 : List Int) (hp1 : Has G (.int .i64) vp1 p1) (r : Int) (h : impl_ApartMostS p0 p1 = some r) (H : Ctx w G) : Calls Tryd.prog 44 #[.int .i64 p0, vp1] w fun e w' => e = .returned (.int .i64 r) ∧ Holds (([] : List Res).flatMap Res.own) w w' [] G := by
  have H : Holds (([] : List Res).flatMap Res.own) w w [] G := Holds.startN H
  refine calls_enter (args := [.int .i64 p0, vp1]) (n := 29) Tryd.func44 rfl rfl rfl ?_
  unfold impl_ApartMostS at h
  refine WP_seq ?_
  refine WP_region ?_
  refine XL_q rfl (qt_assign rfl) rfl rfl ?_
  refine WL_nil_seq ?_
  refine WP_seq ?_
  refine WP_seq ?_
  refine WP_still ?_
  refine XL_q rfl (qt_move rfl) rfl rfl ?_
  refine XL_q rfl (qt_move rfl) rfl rfl ?_
  obtain ⟨x1, hx2, h⟩ := bind_some h
  refine QL_call rfl rfl c23 (fun w' hb => (w_impl_MenuValid w' G p0 vp1 p1 (hp1) x1 hx2 (H.grow hb).ctx).mono fun e w'' hK => ⟨hK.1, hK.2.bel⟩) (by rfl) ?_
  refine XL_q rfl (qt_not rfl) rfl rfl ?_
  refine QL_nil fun a ha w3 hb4 => ?_
  have H5 : Holds (([] : List Res).flatMap Res.own) w w3 [] G := H.grow hb4
  refine nrm_seq (WP.app ?_ ha)
  refine WP_cond rfl (fun hc6 => ?_) (fun hc6 => ?_)
  · have h := if_t hc6 h
    refine WP_seq ?_
    refine WP_region ?_
    refine XL_q rfl (qt_assign rfl) rfl rfl ?_
    refine WL_nil_seq ?_
    refine WP_ret fun a ha => ?_
    obtain rfl := Option.some.inj h
    exact ret_seq (ret1 rfl ha rfl ⟨rfl, H5⟩)
  · have h := if_f hc6 h
    refine WP_skip_seq ?_
    refine WP_seq ?_
    refine WP_region ?_
    refine XL_q rfl (qt_assign rfl) rfl rfl ?_
    refine WL_nil_seq ?_
    refine WP_seq ?_
    refine WP_seq ?_
    refine WP_region ?_
    refine XL_q rfl (qt_assign rfl) rfl rfl ?_
    refine WL_nil_seq ?_
    refine WP_block ?_
    obtain ⟨o9, ho10, h⟩ := bind_some h
    refine fun a11 ha12 => wp_loop_fix (I := fun s a w2 => match s with | (s7, s8) => (Fr a 29 [(0, .int .i64 p0), (1, vp1), (5, .int .i64 s7), (6, .int .i64 s8)] ∧ Holds (([] : List Res).flatMap Res.own) w w2 [] G)) (O := fun o e a w2 => match o with | q0 => e = .exit 0 ∧ (Fr a 29 [(5, .int .i64 q0)] ∧ Holds (([] : List Res).flatMap Res.own) w w2 [] G)) ho10 ?_ ?_ ?_
    · exact ⟨ha12.sub ⟨rfl, rfl, rfl, rfl, trivial⟩, H5⟩
    · clear ha12
      intro s o15 a w13 hs14 hI16
      obtain ⟨s7, s8⟩ := s
      obtain ⟨ha, H17⟩ := hI16
      refine WP.app ?_ ha
      clear ha
      refine WP_seq ?_
      refine WP_seq ?_
      refine WP_region ?_
      refine XL_q rfl (qt_move rfl) rfl rfl ?_
      refine XL_q rfl (qt_move rfl) rfl rfl ?_
      obtain ⟨x18, hx19, hs14⟩ := bind_some hs14
      refine XL_q rfl (qt_shlO rfl rfl hx19) rfl rfl ?_
      refine XL_q rfl (qt_lss rfl rfl) rfl rfl ?_
      refine WL_nil_seq ?_
      refine WP_cond rfl (fun hc20 => ?_) (fun hc20 => ?_)
      · have hs14 := if_t hc20 hs14
        refine WP_skip_seq ?_
        refine WP_seq ?_
        refine WP_block ?_
        refine WP_seq ?_
        refine WP_region ?_
        refine XL_q rfl (qt_move rfl) rfl rfl ?_
        obtain ⟨x21, hx22, hs14⟩ := bind_some hs14
        refine WL_call rfl rfl c72 (w_impl_membersOf w13 G s8 x21 hx22 H17.ctx) (by rfl) ?_
        rintro _ w23 ⟨v25, rfl, H24⟩; refine ⟨_, rfl, ?_⟩
        have H26 : Holds (([] : List Res).flatMap Res.own) w w23 [.sl 3 (.int .i64) v25 x21] G := H17.calledN (Rs := []) H24
        refine XL_q rfl (qt_assign rfl) rfl rfl ?_
        refine WL_nil_seq ?_
        refine WP_seq ?_
        refine WP_still ?_
        refine XL_q rfl (qt_move rfl) rfl rfl ?_
        refine XL_q rfl (qt_move rfl) rfl rfl ?_
        refine XL_q rfl (qt_move rfl) rfl rfl ?_
        obtain ⟨x27, hx28, hs14⟩ := bind_some hs14
        refine QL_call rfl rfl c42 (fun w' hb => (w_impl_ApartValid w' ([.sl 3 (.int .i64) v25 x21] ++ G) p0 vp1 p1 (hp1.c) v25 x21 (Has.hd) x27 hx28 (H26.grow hb).ctx).mono fun e w'' hK => ⟨hK.1, hK.2.bel⟩) (by rfl) ?_
        refine QL_nil fun a ha w29 hb30 => ?_
        have H31 : Holds (([] : List Res).flatMap Res.own) w w29 [.sl 3 (.int .i64) v25 x21] G := H26.grow hb30
        refine nrm_seq (WP.app ?_ ha)
        refine WP_cond rfl (fun hc32 => ?_) (fun hc32 => ?_)
        · have hs14 := if_t hc32 hs14
          refine WP_region ?_
          refine XL_q rfl (qt_move rfl) rfl rfl ?_
          refine XL_q rfl (qt_move rfl) rfl rfl ?_
          refine XL_lenH H31.ctx (t := (.int .i64)) (Has.hd) u27 rfl rfl rfl ?_
          refine XL_q rfl (qt_max rfl rfl) rfl rfl ?_
          refine XL_q rfl (qt_assign rfl) rfl rfl ?_
          refine WL_nil fun a ha => ?_
          refine nrm_block (nrm_seq (WP.app ?_ ha))
          refine WP_region ?_
          refine XL_q rfl (qt_move rfl) rfl rfl ?_
          refine XL_q rfl (qt_add rfl rfl) rfl rfl ?_
          refine XL_q rfl (qt_assign rfl) rfl rfl ?_
          refine WL_nil fun a ha => ?_
          obtain rfl := Option.some.inj hs14
          have H33 : Holds (([] : List Res).flatMap Res.own) w w29 [] G := (H31.cut 0)
          exact ⟨rfl, ha.sub ⟨rfl, rfl, rfl, rfl, trivial⟩, H33⟩
        · have hs14 := if_f hc32 hs14
          refine WP_skip fun a ha => ?_
          refine nrm_block (nrm_seq (WP.app ?_ ha))
          refine WP_region ?_
          refine XL_q rfl (qt_move rfl) rfl rfl ?_
          refine XL_q rfl (qt_add rfl rfl) rfl rfl ?_
          refine XL_q rfl (qt_assign rfl) rfl rfl ?_
          refine WL_nil fun a ha => ?_
          obtain rfl := Option.some.inj hs14
          have H34 : Holds (([] : List Res).flatMap Res.own) w w29 [] G := (H31.cut 0)
          exact ⟨rfl, ha.sub ⟨rfl, rfl, rfl, rfl, trivial⟩, H34⟩
      · have hs14 := if_f hc20 hs14
        refine WP_exit fun a ha => ?_
        obtain rfl := Option.some.inj hs14
        exact exit_seq (⟨exit_ne, rfl, ha.sub ⟨rfl, trivial⟩, H17⟩)
    · intro e a11 w35 hO36
      obtain ⟨p37, rfl⟩ : ∃ z, z = o9 := ⟨o9, rfl⟩
      obtain ⟨rfl, hO39⟩ := hO36
      obtain ⟨ha, H38⟩ := hO39
      refine exit_block_eq (nrm_seq (WP.app ?_ ha))
      refine WP_seq ?_
      refine WP_region ?_
      refine XL_q rfl (qt_move rfl) rfl rfl ?_
      refine XL_q rfl (qt_assign rfl) rfl rfl ?_
      refine WL_nil_seq ?_
      refine WP_ret fun a ha => ?_
      obtain rfl := Option.some.inj h
      exact ret1 rfl ha rfl ⟨rfl, H38⟩
theorem w_laws_FnApartValid (w : World) (G : List Res) (vp0 : Value) (p0 : List Int) (hp0 : HasRo G (.int .u8) vp0 p0) (r : Bool) (h : laws_FnApartValidS p0 = some r) (H : Ctx w G) : Calls Tryd.prog 10 #[vp0] w fun e w' => e = .returned (.bool r) ∧ Holds (([] : List Res).flatMap Res.own) w w' [] G := by
  have H : Holds (([] : List Res).flatMap Res.own) w w [] G := Holds.startN H
  refine calls_enter (args := [vp0]) (n := 76) Tryd.func10 rfl rfl rfl ?_
  unfold laws_FnApartValidS at h
  refine WP_seq ?_
  refine WP_region ?_
  refine XL_q rfl (qt_assign rfl) rfl rfl ?_
  refine WL_nil_seq ?_
  refine WP_seq ?_
  refine WP_seq ?_
  refine WP_region ?_
  refine XL_q rfl (qt_move rfl) rfl rfl ?_
  refine XL_lenH H.ctx (t := (.int .u8)) (hp0.has) u22 rfl rfl rfl ?_
  refine XL_q rfl (qt_gtr rfl rfl) rfl rfl ?_
  refine WL_nil_seq ?_
  refine WP_cond rfl (fun hc1 => ?_) (fun hc1 => ?_)
  · have h := if_t hc1 h
    refine WP_seq ?_
    refine WP_region ?_
    refine XL_q rfl (qt_assign rfl) rfl rfl ?_
    refine WL_nil_seq ?_
    refine WP_ret fun a ha => ?_
    obtain rfl := Option.some.inj h
    exact ret_seq (ret1 rfl ha rfl ⟨rfl, H⟩)
  · have h := if_f hc1 h
    refine WP_skip_seq ?_
    refine WP_seq ?_
    refine WP_region ?_
    refine XL_q rfl (qt_move rfl) rfl rfl ?_
    obtain ⟨x2, hx3, h⟩ := bind_some h
    refine WL_call rfl rfl c41 (w_spec_DrawApartValid w G vp0 p0 (hp0) x2 hx3 H.ctx) (by rfl) ?_
    rintro _ w4 ⟨v6, v7, rfl, H5⟩; refine ⟨_, rfl, ?_⟩
    have H8 : Holds (([] : List Res).flatMap Res.own) w w4 [.sl 3 (.int .i64) v6 x2.2.1, .sl 3 (.int .i64) v7 x2.2.2] G := H.calledN (Rs := []) H5
    refine XL_q rfl (qt_move rfl) rfl rfl ?_
    refine XL_q rfl (qt_extract rfl rfl) rfl rfl ?_
    refine XL_q rfl (qt_extract rfl rfl) rfl rfl ?_
    refine XL_q rfl (qt_extract rfl rfl) rfl rfl ?_
    refine XL_q rfl (qt_assign rfl) rfl rfl ?_
    refine XL_q rfl (qt_assign rfl) rfl rfl ?_
    refine XL_q rfl (qt_assign rfl) rfl rfl ?_
    refine WL_nil_seq ?_
    refine WP_seq ?_
    refine WP_still ?_
    refine XL_q rfl (qt_move rfl) rfl rfl ?_
    refine XL_q rfl (qt_move rfl) rfl rfl ?_
    refine XL_q rfl (qt_move rfl) rfl rfl ?_
    obtain ⟨x9, hx10, h⟩ := bind_some h
    refine QL_call rfl rfl c42 (fun w' hb => (w_impl_ApartValid w' ([.sl 3 (.int .i64) v6 x2.2.1, .sl 3 (.int .i64) v7 x2.2.2] ++ G) x2.1 v6 x2.2.1 (Has.hd) v7 x2.2.2 (Has.c (Has.hd)) x9 hx10 (H8.grow hb).ctx).mono fun e w'' hK => ⟨hK.1, hK.2.bel⟩) (by rfl) ?_
    refine XL_q rfl (qt_assign rfl) rfl rfl ?_
    refine QL_nil fun a ha w11 hb12 => ?_
    have H13 : Holds (([] : List Res).flatMap Res.own) w w11 [.sl 3 (.int .i64) v6 x2.2.1, .sl 3 (.int .i64) v7 x2.2.2] G := H8.grow hb12
    refine nrm_seq (WP.app ?_ ha)
    refine WP_seq ?_
    refine WP_seq ?_
    refine WP_still ?_
    refine XL_q rfl (qt_move rfl) rfl rfl ?_
    refine XL_q rfl (qt_move rfl) rfl rfl ?_
    refine XL_q rfl (qt_move rfl) rfl rfl ?_
    refine XL_q rfl (qt_move rfl) rfl rfl ?_
    obtain ⟨x14, hx15, h⟩ := bind_some h
    refine QL_call rfl rfl c43 (fun w' hb => (w_spec_ApartValid w' ([.sl 3 (.int .i64) v6 x2.2.1, .sl 3 (.int .i64) v7 x2.2.2] ++ G) x2.1 v6 x2.2.1 (Has.hd) v7 x2.2.2 (Has.c (Has.hd)) x14 hx15 (H13.grow hb).ctx).mono fun e w'' hK => ⟨hK.1, hK.2.bel⟩) (by rfl) ?_
    refine XL_q rfl (qt_bneq u4 rfl rfl) rfl rfl ?_
    refine QL_nil fun a ha w16 hb17 => ?_
    have H18 : Holds (([] : List Res).flatMap Res.own) w w16 [.sl 3 (.int .i64) v6 x2.2.1, .sl 3 (.int .i64) v7 x2.2.2] G := H13.grow hb17
    refine nrm_seq (WP.app ?_ ha)
    refine WP_cond rfl (fun hc19 => ?_) (fun hc19 => ?_)
    · have h := if_t hc19 h
      refine WP_seq ?_
      refine WP_region ?_
      refine XL_q rfl (qt_assign rfl) rfl rfl ?_
      refine WL_nil_seq ?_
      refine WP_ret fun a ha => ?_
      obtain rfl := Option.some.inj h
      have H20 : Holds (([] : List Res).flatMap Res.own) w w16 [] G := ((H18.cut 0).cut 0)
      exact ret_seq (ret1 rfl ha rfl ⟨rfl, H20⟩)
    · have h := if_f hc19 h
      refine WP_skip_seq ?_
      refine WP_seq ?_
      refine WP_seq ?_
      refine WP_region ?_
      refine XL_q rfl (qt_move rfl) rfl rfl ?_
      refine XL_q rfl (qt_not rfl) rfl rfl ?_
      refine XL_q rfl (qt_move rfl) rfl rfl ?_
      refine XL_join 4 35 (.bool ((!x9) || ((List.length x2.2.2 : Int) == 0))) ?_ (fun md hmd hk => ?_)
      rotate_left
      · obtain ⟨Q, rfl⟩ := Md.seq_of hmd
        rcases btf (!x9) with hc21 | hc21
        · skip
          refine XL_skip (w_skip rfl hc21) rfl rfl ?_
          refine XL_skip (w_skip rfl hc21) rfl rfl ?_
          refine XL_skip (w_skip rfl hc21) rfl rfl ?_
          refine XL_q rfl (qt_pickT rfl hc21 rfl) rfl rfl ?_
          exact hk _ (Cov.same (by rw [hc21]; rfl) (Cov.fresh rfl (Cov.fresh rfl (Cov.fresh rfl (Cov.refl)))))
        · skip
          refine XL_q (w_take rfl hc21) (qt_move rfl) rfl rfl ?_
          refine XL_lenH H18.ctx (t := (.int .i64)) (Has.c (Has.hd)) u27 (w_take rfl hc21) rfl rfl ?_
          refine XL_q (w_take rfl hc21) (qt_eql rfl rfl) rfl rfl ?_
          refine XL_q rfl (qt_pickF rfl hc21 rfl) rfl rfl ?_
          exact hk _ (Cov.same (by rw [hc21]; rfl) (Cov.fresh rfl (Cov.fresh rfl (Cov.fresh rfl (Cov.refl)))))
      refine WL_nil_seq ?_
      refine WP_cond rfl (fun hc22 => ?_) (fun hc22 => ?_)
      · have h := if_t hc22 h
        refine WP_seq ?_
        refine WP_still ?_
        obtain ⟨x23, hx24, h⟩ := bind_some h
        refine QL_call rfl rfl c20 (fun w' hb => (w_laws_alive w' ([.sl 3 (.int .i64) v6 x2.2.1, .sl 3 (.int .i64) v7 x2.2.2] ++ G)  x23 hx24 (H18.grow hb).ctx).mono fun e w'' hK => ⟨hK.1, hK.2.bel⟩) (by rfl) ?_
        refine XL_q rfl (qt_assign rfl) rfl rfl ?_
        refine QL_nil fun a ha w25 hb26 => ?_
        have H27 : Holds (([] : List Res).flatMap Res.own) w w25 [.sl 3 (.int .i64) v6 x2.2.1, .sl 3 (.int .i64) v7 x2.2.2] G := H18.grow hb26
        refine nrm_seq (WP.app ?_ ha)
        refine WP_ret fun a ha => ?_
        obtain rfl := Option.some.inj h
        have H28 : Holds (([] : List Res).flatMap Res.own) w w25 [] G := ((H27.cut 0).cut 0)
        exact ret_seq (ret1 rfl ha rfl ⟨rfl, H28⟩)
      · have h := if_f hc22 h
        refine WP_skip_seq ?_
        refine WP_seq ?_
        refine WP_seq ?_
        refine WP_region ?_
        refine XL_q rfl (qt_assign rfl) rfl rfl ?_
        refine WL_nil_seq ?_
        refine WP_block ?_
        obtain ⟨o30, ho31, h⟩ := bind_some h
        have H34 : Holds (([] : List Res).flatMap Res.own) w w16 [.sl 3 (.int .i64) v6 x2.2.1, .sl 3 (.int .i64) v7 x2.2.2] G := ((H18.pull 1).pull 1)
        refine fun a32 ha33 => wp_loop_fix (I := fun s a w2 => match s with | s29 => (Fr a 76 [(3, .int .i64 x2.1), (4, v6), (5, v7), (7, .int .i64 s29)] ∧ Holds (([] : List Res).flatMap Res.own) w w2 [.sl 3 (.int .i64) v6 x2.2.1, .sl 3 (.int .i64) v7 x2.2.2] G)) (O := fun o e a w2 => match o with | .inl _ => e = .exit 0 ∧ (Fr a 76 [(3, .int .i64 x2.1), (4, v6), (5, v7)] ∧ Holds (([] : List Res).flatMap Res.own) w w2 [.sl 3 (.int .i64) v6 x2.2.1, .sl 3 (.int .i64) v7 x2.2.2] G) | .inr q0 => e = .ret ∧ (Fr a 76 [(2, .bool q0)] ∧ Holds (([] : List Res).flatMap Res.own) w w2 [] G)) ho31 ?_ ?_ ?_
        · exact ⟨ha33.sub ⟨rfl, rfl, rfl, rfl, trivial⟩, H34⟩
        · clear ha33
          intro s o37 a w35 hs36 hI38
          obtain ⟨s29, rfl⟩ : ∃ z, z = s := ⟨s, rfl⟩
          obtain ⟨ha, H39⟩ := hI38
          refine WP.app ?_ ha
          clear ha
          refine WP_seq ?_
          refine WP_seq ?_
          refine WP_region ?_
          refine XL_q rfl (qt_move rfl) rfl rfl ?_
          refine XL_q rfl (qt_move rfl) rfl rfl ?_
          refine XL_lenH H39.ctx (t := (.int .i64)) (Has.hd) u27 rfl rfl rfl ?_
          refine XL_q rfl (qt_lss rfl rfl) rfl rfl ?_
          refine WL_nil_seq ?_
          refine WP_cond rfl (fun hc40 => ?_) (fun hc40 => ?_)
          · have hs36 := if_t hc40 hs36
            refine WP_skip_seq ?_
            refine WP_seq ?_
            refine WP_block ?_
            refine WP_seq ?_
            refine WP_region ?_
            refine XL_q rfl (qt_assign rfl) rfl rfl ?_
            refine WL_nil_seq ?_
            refine WP_seq ?_
            refine WP_seq ?_
            refine WP_region ?_
            refine XL_q rfl (qt_assign rfl) rfl rfl ?_
            refine WL_nil_seq ?_
            refine WP_block ?_
            obtain ⟨o43, ho44, hs36⟩ := bind_some hs36
            have H47 : Holds (([] : List Res).flatMap Res.own) w w35 [.sl 3 (.int .i64) v6 x2.2.1, .sl 3 (.int .i64) v7 x2.2.2] G := ((H39.pull 1).pull 1)
            refine fun a45 ha46 => wp_loop_fix (I := fun s a w2 => match s with | (s41, s42) => (Fr a 76 [(3, .int .i64 x2.1), (4, v6), (5, v7), (7, .int .i64 s29), (8, .int .i64 s41), (9, .int .i64 s42)] ∧ Holds (([] : List Res).flatMap Res.own) w w2 [.sl 3 (.int .i64) v6 x2.2.1, .sl 3 (.int .i64) v7 x2.2.2] G)) (O := fun o e a w2 => match o with | q0 => e = .exit 2 ∧ (Fr a 76 [(3, .int .i64 x2.1), (4, v6), (5, v7), (7, .int .i64 s29), (8, .int .i64 q0)] ∧ Holds (([] : List Res).flatMap Res.own) w w2 [.sl 3 (.int .i64) v6 x2.2.1, .sl 3 (.int .i64) v7 x2.2.2] G)) ho44 ?_ ?_ ?_
            · exact ⟨ha46.sub ⟨rfl, rfl, rfl, rfl, rfl, rfl, trivial⟩, H47⟩
            · clear ha46
              intro s o50 a w48 hs49 hI51
              obtain ⟨s41, s42⟩ := s
              obtain ⟨ha, H52⟩ := hI51
              refine WP.app ?_ ha
              clear ha
              refine WP_seq ?_
              refine WP_seq ?_
              refine WP_region ?_
              refine XL_q rfl (qt_move rfl) rfl rfl ?_
              refine XL_q rfl (qt_move rfl) rfl rfl ?_
              refine XL_lenH H52.ctx (t := (.int .i64)) (Has.c (Has.hd)) u27 rfl rfl rfl ?_
              refine XL_q rfl (qt_lss rfl rfl) rfl rfl ?_
              refine WL_nil_seq ?_
              refine WP_cond rfl (fun hc53 => ?_) (fun hc53 => ?_)
              · have hs49 := if_t hc53 hs49
                refine WP_skip_seq ?_
                refine WP_seq ?_
                refine WP_block ?_
                refine WP_quiet (by kernel_rfl) (by kernel_rfl) ?_
                refine XL_q rfl (qt_move rfl) rfl rfl ?_
                refine XL_q rfl (qt_move rfl) rfl rfl ?_
                refine XL_q rfl (qt_move rfl) rfl rfl ?_
                obtain ⟨x54, hx55, hs49⟩ := bind_some hs49
                refine XL_indexH H52.ctx (Has.hd) hx55 u27 i3 rfl rfl rfl rfl (fun b56 off57 cap58 hv59 => ?_)
                obtain ⟨F60, hat61, hdup62⟩ := H52.at (Has.hd) hx55 hv59
                refine XL_load_int (k := .i64) u3 rfl hat61 rfl rfl rfl ?_
                refine XL_q rfl (qt_move rfl) rfl rfl ?_
                refine XL_q rfl (qt_move rfl) rfl rfl ?_
                obtain ⟨x63, hx64, hs49⟩ := bind_some hs49
                refine XL_indexH H52.ctx (Has.c (Has.hd)) hx64 u27 i3 rfl rfl rfl rfl (fun b65 off66 cap67 hv68 => ?_)
                obtain ⟨F69, hat70, hdup71⟩ := H52.at (Has.c (Has.hd)) hx64 hv68
                refine XL_load_int (k := .i64) u3 rfl hat70 rfl rfl rfl ?_
                obtain ⟨x72, hx73, hs49⟩ := bind_some hs49
                refine XL_q rfl (qt_shrO rfl rfl hx73) rfl rfl ?_
                refine XL_q rfl (qt_rem rfl rfl (by decide)) rfl rfl ?_
                refine XL_q rfl (qt_add rfl rfl) rfl rfl ?_
                refine XL_q rfl (qt_assign rfl) rfl rfl ?_
                refine QL_nil fun a ha w74 hb75 => ?_
                have H76 : Holds (([] : List Res).flatMap Res.own) w w74 [.sl 3 (.int .i64) v6 x2.2.1, .sl 3 (.int .i64) v7 x2.2.2] G := H52.grow hb75
                refine nrm_block (nrm_seq (WP.app ?_ ha))
                refine WP_region ?_
                refine XL_q rfl (qt_move rfl) rfl rfl ?_
                refine XL_q rfl (qt_add rfl rfl) rfl rfl ?_
                refine XL_q rfl (qt_assign rfl) rfl rfl ?_
                refine WL_nil fun a ha => ?_
                obtain rfl := Option.some.inj hs49
                have H77 : Holds (([] : List Res).flatMap Res.own) w w74 [.sl 3 (.int .i64) v6 x2.2.1, .sl 3 (.int .i64) v7 x2.2.2] G := ((H76.pull 1).pull 1)
                exact ⟨rfl, ha.sub ⟨rfl, rfl, rfl, rfl, rfl, rfl, trivial⟩, H77⟩
              · have hs49 := if_f hc53 hs49
                refine WP_exit fun a ha => ?_
                obtain rfl := Option.some.inj hs49
                have H78 : Holds (([] : List Res).flatMap Res.own) w w48 [.sl 3 (.int .i64) v6 x2.2.1, .sl 3 (.int .i64) v7 x2.2.2] G := ((H52.pull 1).pull 1)
                exact exit_seq (⟨exit_ne, rfl, ha.sub ⟨rfl, rfl, rfl, rfl, rfl, trivial⟩, H78⟩)
            · intro e a45 w79 hO80
              obtain ⟨p81, rfl⟩ : ∃ z, z = o43 := ⟨o43, rfl⟩
              obtain ⟨rfl, hO83⟩ := hO80
              obtain ⟨ha, H82⟩ := hO83
              refine exit_block_eq (nrm_seq (WP.app ?_ ha))
              refine WP_seq ?_
              refine WP_region ?_
              refine XL_q rfl (qt_move rfl) rfl rfl ?_
              refine XL_q rfl (qt_gtr rfl rfl) rfl rfl ?_
              refine WL_nil_seq ?_
              refine WP_cond rfl (fun hc84 => ?_) (fun hc84 => ?_)
              · have hs36 := if_t hc84 hs36
                refine WP_seq ?_
                refine WP_region ?_
                refine XL_q rfl (qt_assign rfl) rfl rfl ?_
                refine WL_nil_seq ?_
                refine WP_ret fun a ha => ?_
                obtain rfl := Option.some.inj hs36
                have H85 : Holds (([] : List Res).flatMap Res.own) w w79 [] G := ((H82.cut 0).cut 0)
                exact ret_block (ret_seq (⟨ret_ne, rfl, ha.sub ⟨rfl, trivial⟩, H85⟩))
              · have hs36 := if_f hc84 hs36
                refine WP_skip fun a ha => ?_
                refine nrm_block (nrm_seq (WP.app ?_ ha))
                refine WP_region ?_
                refine XL_q rfl (qt_move rfl) rfl rfl ?_
                refine XL_q rfl (qt_add rfl rfl) rfl rfl ?_
                refine XL_q rfl (qt_assign rfl) rfl rfl ?_
                refine WL_nil fun a ha => ?_
                obtain rfl := Option.some.inj hs36
                have H86 : Holds (([] : List Res).flatMap Res.own) w w79 [.sl 3 (.int .i64) v6 x2.2.1, .sl 3 (.int .i64) v7 x2.2.2] G := ((H82.pull 1).pull 1)
                exact ⟨rfl, ha.sub ⟨rfl, rfl, rfl, rfl, trivial⟩, H86⟩
          · have hs36 := if_f hc40 hs36
            refine WP_exit fun a ha => ?_
            obtain rfl := Option.some.inj hs36
            have H87 : Holds (([] : List Res).flatMap Res.own) w w35 [.sl 3 (.int .i64) v6 x2.2.1, .sl 3 (.int .i64) v7 x2.2.2] G := ((H39.pull 1).pull 1)
            exact exit_seq (⟨exit_ne, rfl, ha.sub ⟨rfl, rfl, rfl, trivial⟩, H87⟩)
        · intro e a32 w88 hO89
          rcases o30 with o30 | o30
          · skip
            obtain ⟨rfl, hO91⟩ := hO89
            obtain ⟨ha, H90⟩ := hO91
            refine exit_block_eq (nrm_seq (WP.app ?_ ha))
            refine WP_seq ?_
            refine WP_still ?_
            refine XL_q rfl (qt_move rfl) rfl rfl ?_
            refine XL_q rfl (qt_move rfl) rfl rfl ?_
            refine XL_q rfl (qt_move rfl) rfl rfl ?_
            obtain ⟨x92, hx93, h⟩ := bind_some h
            refine XL_sliceH H90.ctx (Has.c (Has.hd)) hx93 u27 i3 ⟨_, rfl⟩ rfl rfl rfl rfl ?_
            obtain ⟨x94, hx95, h⟩ := bind_some h
            refine QL_call rfl rfl c42 (fun w' hb => (w_impl_ApartValid w' ([.sl 3 (.int .i64) v6 x2.2.1, .sl 3 (.int .i64) v7 x2.2.2] ++ G) x2.1 v6 x2.2.1 (Has.hd) (subV (Ty.size (.int .i64)) v7 (Int.toNat 1) (Int.toNat (List.length x2.2.2 : Int))) x92 (Has.sub (Has.c (Has.hd)) hx93) x94 hx95 (H90.grow hb).ctx).mono fun e w'' hK => ⟨hK.1, hK.2.bel⟩) (by rfl) ?_
            refine XL_q rfl (qt_move rfl) rfl rfl ?_
            obtain ⟨b96, hg97, h⟩ := bind_some h
            refine XL_join 7 75 (.bool b96) ?_ (fun md hmd hk => ?_)
            rotate_left
            · obtain ⟨K, rfl⟩ := Md.quiet_of hmd
              rcases btf x94 with hc98 | hc98
              · skip
                have hg97 := if_t hc98 hg97
                refine XL_q (w_take rfl hc98) (qt_move rfl) rfl rfl ?_
                refine XL_lenH H90.ctx (t := (.int .i64)) (Has.c (Has.hd)) u27 (w_take rfl hc98) rfl rfl ?_
                refine XL_q (w_take rfl hc98) (qt_move rfl) rfl rfl ?_
                refine XL_q (w_take rfl hc98) (qt_move rfl) rfl rfl ?_
                obtain ⟨x99, hx100, hg97⟩ := bind_some hg97
                refine QL_call (w_take rfl hc98) rfl c44 (fun w' hb => (w_impl_ApartMost w' ([.sl 3 (.int .i64) v6 x2.2.1, .sl 3 (.int .i64) v7 x2.2.2] ++ G) x2.1 v6 x2.2.1 (Has.hd) x99 hx100 (H90.grow hb).ctx).mono fun e w'' hK => ⟨hK.1, hK.2.bel⟩) (by rfl) ?_
                refine XL_q (w_take rfl hc98) (qt_leq rfl rfl) rfl rfl ?_
                refine XL_q rfl (qt_pickT rfl hc98 rfl) rfl rfl ?_
                exact hk _ (Cov.same (vb hg97) (Cov.fresh rfl (Cov.fresh rfl (Cov.fresh rfl (Cov.fresh rfl (Cov.fresh rfl (Cov.fresh rfl (Cov.refl))))))))
              · skip
                refine XL_skip (w_skip rfl hc98) rfl rfl ?_
                refine XL_skip (w_skip rfl hc98) rfl rfl ?_
                refine XL_skip (w_skip rfl hc98) rfl rfl ?_
                refine XL_skip (w_skip rfl hc98) rfl rfl ?_
                refine XL_skip (w_skip rfl hc98) rfl rfl ?_
                refine XL_skip (w_skip rfl hc98) rfl rfl ?_
                refine XL_q rfl (qt_pickF rfl hc98 rfl) rfl rfl ?_
                exact hk _ (Cov.same (vb (if_f hc98 hg97)) (Cov.fresh rfl (Cov.fresh rfl (Cov.fresh rfl (Cov.fresh rfl (Cov.fresh rfl (Cov.fresh rfl (Cov.refl))))))))
            refine XL_q rfl (qt_assign rfl) rfl rfl ?_
            refine QL_nil fun a ha w101 hb102 => ?_
            have H103 : Holds (([] : List Res).flatMap Res.own) w w101 [.sl 3 (.int .i64) v6 x2.2.1, .sl 3 (.int .i64) v7 x2.2.2] G := H90.grow hb102
            refine nrm_seq (WP.app ?_ ha)
            refine WP_ret fun a ha => ?_
            obtain rfl := Option.some.inj h
            have H104 : Holds (([] : List Res).flatMap Res.own) w w101 [] G := ((H103.cut 0).cut 0)
            exact ret1 rfl ha rfl ⟨rfl, H104⟩
          · skip
            obtain ⟨p105, rfl⟩ : ∃ z, z = o30 := ⟨o30, rfl⟩
            obtain ⟨rfl, hO107⟩ := hO89
            obtain ⟨ha, H106⟩ := hO107
            obtain rfl := Option.some.inj h
            exact ret_block (ret_seq (ret1 rfl ha rfl ⟨rfl, H106⟩))
theorem w_spec_DrawFeedsAll (w : World) (G : List Res) (vp0 : Value) (p0 : List Int) (hp0 : HasRo G (.int .u8) vp0 p0) (r : Int × (List Int) × Int) (h : spec_DrawFeedsAllS p0 = some r) (H : Ctx w G) : Calls Tryd.prog 45 #[vp0] w fun e w' => ∃ (v1 : Value), e = .returned (.tuple #[.int .i64 r.1, v1, .int .i64 r.2.2]) ∧ Holds (([] : List Res).flatMap Res.own) w w' [.sl 3 (.int .i64) v1 r.2.1] G := by
  have H : Holds (([] : List Res).flatMap Res.own) w w [] G := Holds.startN H
  refine calls_enter (args := [vp0]) (n := 30) Tryd.func45 rfl rfl rfl ?_
  unfold spec_DrawFeedsAllS at h
  refine WP_seq ?_
  refine WP_region ?_
  refine XL_q rfl (qt_assign rfl) rfl rfl ?_
  refine XL_q rfl (qt_assign rfl) rfl rfl ?_
  refine XL_q rfl (qt_assign rfl) rfl rfl ?_
  refine WL_nil_seq ?_
  refine WP_seq ?_
  refine WP_region ?_
  refine XL_q rfl (qt_move rfl) rfl rfl ?_
  obtain ⟨x1, hx2, h⟩ := bind_some h
  refine WL_call rfl rfl c62 (w_spec_l20Open w G vp0 p0 (hp0) x1 hx2 H.ctx) (by rfl) ?_
  rintro _ w3 ⟨v5, b6, rfl, H4⟩; refine ⟨_, rfl, ?_⟩
  have H7 : Holds (([] : List Res).flatMap Res.own) w w3 [.ro (.int .u8) v5 x1.1, .bx b6 66 [v5, .int .i64 x1.2]] G := H.calledN (Rs := []) H4
  refine XL_q rfl (qt_assign rfl) rfl rfl ?_
  refine WL_nil_seq ?_
  refine WP_seq ?_
  refine WP_region ?_
  refine XL_q rfl (qt_move rfl) rfl rfl ?_
  have H10 : Holds (([] : List Res).flatMap Res.own) w w3 [.bx b6 66 [v5, .int .i64 x1.2], .ro (.int .u8) v5 x1.1] G := H7.pull 1
  obtain ⟨x8, hx9, h⟩ := bind_some h
  refine WL_call rfl rfl c73 (w_spec_l20Chosen w3 ([.ro (.int .u8) v5 x1.1] ++ G) b6 v5 x1.1 (HasRo.has (HasRo.hd)) x1.2 x8 hx9 H10.ctx) (by rfl) ?_
  rintro _ w11 ⟨v13, rfl, H12⟩; refine ⟨_, rfl, ?_⟩
  have H14 : Holds (([] : List Res).flatMap Res.own) w w11 [.sl 3 (.int .i64) v13 x8.2.2.1, .bx b6 66 [v5, .int .i64 x8.1], .ro (.int .u8) v5 x1.1] G := H10.calledN (Rs := [_]) H12
  refine XL_q rfl (qt_move rfl) rfl rfl ?_
  refine XL_q rfl (qt_extract rfl rfl) rfl rfl ?_
  refine XL_q rfl (qt_extract rfl rfl) rfl rfl ?_
  refine XL_q rfl (qt_extract rfl rfl) rfl rfl ?_
  refine XL_q rfl (qt_assign rfl) rfl rfl ?_
  refine XL_q rfl (qt_assign rfl) rfl rfl ?_
  refine XL_q rfl (qt_assign rfl) rfl rfl ?_
  refine WL_nil_seq ?_
  refine WP_seq ?_
  refine WP_seq ?_
  refine WP_region ?_
  refine XL_q rfl (qt_move rfl) rfl rfl ?_
  have H17 : Holds (([] : List Res).flatMap Res.own) w w11 [.bx b6 66 [v5, .int .i64 x8.1], .sl 3 (.int .i64) v13 x8.2.2.1, .ro (.int .u8) v5 x1.1] G := H14.pull 1
  obtain ⟨x15, hx16, h⟩ := bind_some h
  refine WL_call rfl rfl c63 (w_spec_l20Rd__pick w11 ([.sl 3 (.int .i64) v13 x8.2.2.1, .ro (.int .u8) v5 x1.1] ++ G) b6 v5 x1.1 (HasRo.has (HasRo.c (HasRo.hd))) x8.1 2 x15 hx16 H17.ctx) (by rfl) ?_
  rintro _ w18 ⟨rfl, H19⟩; refine ⟨_, rfl, ?_⟩
  have H20 : Holds (([] : List Res).flatMap Res.own) w w18 [.bx b6 66 [v5, .int .i64 x15.1], .sl 3 (.int .i64) v13 x8.2.2.1, .ro (.int .u8) v5 x1.1] G := H17.calledN (Rs := [_]) H19
  refine XL_q rfl (qt_eql rfl rfl) rfl rfl ?_
  refine WL_nil_seq ?_
  refine WP_cond rfl (fun hc21 => ?_) (fun hc21 => ?_)
  · have h := if_t hc21 h
    refine WP_seq ?_
    refine WP_quiet (by kernel_rfl) (by kernel_rfl) ?_
    refine XL_q rfl (qt_move rfl) rfl rfl ?_
    refine XL_q rfl (qt_move rfl) rfl rfl ?_
    refine XL_q rfl (qt_move rfl) rfl rfl ?_
    refine XL_lenH H20.ctx (t := (.int .i64)) (Has.c (Has.hd)) u27 rfl rfl rfl ?_
    refine XL_q rfl (qt_min rfl rfl) rfl rfl ?_
    obtain ⟨x22, hx23, h⟩ := bind_some h
    refine XL_q rfl (qt_shlO rfl rfl hx23) rfl rfl ?_
    refine XL_q rfl (qt_sub rfl rfl) rfl rfl ?_
    refine XL_q rfl (qt_assign rfl) rfl rfl ?_
    refine XL_q rfl (qt_assign rfl) rfl rfl ?_
    refine XL_q rfl (qt_assign rfl) rfl rfl ?_
    refine QL_nil fun a ha w24 hb25 => ?_
    have H26 : Holds (([] : List Res).flatMap Res.own) w w24 [.bx b6 66 [v5, .int .i64 x15.1], .sl 3 (.int .i64) v13 x8.2.2.1, .ro (.int .u8) v5 x1.1] G := H20.grow hb25
    refine nrm_seq (WP.app ?_ ha)
    refine WP_ret fun a ha => ?_
    obtain rfl := Option.some.inj h
    have H27 : Holds (([] : List Res).flatMap Res.own) w w24 [.sl 3 (.int .i64) v13 x8.2.2.1] G := ((H26.cut 0).cut 1)
    exact ret_seq (ret3 rfl ha rfl rfl rfl ⟨v13, rfl, H27⟩)
  · have h := if_f hc21 h
    refine WP_skip_seq ?_
    refine WP_seq ?_
    refine WP_region ?_
    refine XL_q rfl (qt_move rfl) rfl rfl ?_
    refine XL_q rfl (qt_move rfl) rfl rfl ?_
    refine XL_q rfl (qt_move rfl) rfl rfl ?_
    refine XL_q rfl (qt_assign rfl) rfl rfl ?_
    refine XL_q rfl (qt_assign rfl) rfl rfl ?_
    refine XL_q rfl (qt_assign rfl) rfl rfl ?_
    refine WL_nil_seq ?_
    refine WP_ret fun a ha => ?_
    obtain rfl := Option.some.inj h
    have H28 : Holds (([] : List Res).flatMap Res.own) w w18 [.sl 3 (.int .i64) v13 x8.2.2.1] G := ((H20.cut 0).cut 1)
    exact ret3 rfl ha rfl rfl rfl ⟨v13, rfl, H28⟩
theorem w_laws_FnFeedsAll (w : World) (G : List Res) (vp0 : Value) (p0 : List Int) (hp0 : HasRo G (.int .u8) vp0 p0) (r : Bool) (h : laws_FnFeedsAllS p0 = some r) (H : Ctx w G) : Calls Tryd.prog 11 #[vp0] w fun e w' => e = .returned (.bool r) ∧ Holds (([] : List Res).flatMap Res.own) w w' [] G := by
  have H : Holds (([] : List Res).flatMap Res.own) w w [] G := Holds.startN H
  refine calls_enter (args := [vp0]) (n := 59) Tryd.func11 rfl rfl rfl ?_
  unfold laws_FnFeedsAllS at h
  refine WP_seq ?_
  refine WP_region ?_
  refine XL_q rfl (qt_assign rfl) rfl rfl ?_
  refine WL_nil_seq ?_
  refine WP_seq ?_
  refine WP_seq ?_
  refine WP_region ?_
  refine XL_q rfl (qt_move rfl) rfl rfl ?_
  refine XL_lenH H.ctx (t := (.int .u8)) (hp0.has) u22 rfl rfl rfl ?_
  refine XL_q rfl (qt_gtr rfl rfl) rfl rfl ?_
  refine WL_nil_seq ?_
  refine WP_cond rfl (fun hc1 => ?_) (fun hc1 => ?_)
  · have h := if_t hc1 h
    refine WP_seq ?_
    refine WP_region ?_
    refine XL_q rfl (qt_assign rfl) rfl rfl ?_
    refine WL_nil_seq ?_
    refine WP_ret fun a ha => ?_
    obtain rfl := Option.some.inj h
    exact ret_seq (ret1 rfl ha rfl ⟨rfl, H⟩)
  · have h := if_f hc1 h
    refine WP_skip_seq ?_
    refine WP_seq ?_
    refine WP_region ?_
    refine XL_q rfl (qt_move rfl) rfl rfl ?_
    obtain ⟨x2, hx3, h⟩ := bind_some h
    refine WL_call rfl rfl c45 (w_spec_DrawFeedsAll w G vp0 p0 (hp0) x2 hx3 H.ctx) (by rfl) ?_
    rintro _ w4 ⟨v6, rfl, H5⟩; refine ⟨_, rfl, ?_⟩
    have H7 : Holds (([] : List Res).flatMap Res.own) w w4 [.sl 3 (.int .i64) v6 x2.2.1] G := H.calledN (Rs := []) H5
    refine XL_q rfl (qt_move rfl) rfl rfl ?_
    refine XL_q rfl (qt_extract rfl rfl) rfl rfl ?_
    refine XL_q rfl (qt_extract rfl rfl) rfl rfl ?_
    refine XL_q rfl (qt_extract rfl rfl) rfl rfl ?_
    refine XL_q rfl (qt_assign rfl) rfl rfl ?_
    refine XL_q rfl (qt_assign rfl) rfl rfl ?_
    refine XL_q rfl (qt_assign rfl) rfl rfl ?_
    refine WL_nil_seq ?_
    refine WP_seq ?_
    refine WP_still ?_
    refine XL_q rfl (qt_move rfl) rfl rfl ?_
    refine XL_q rfl (qt_move rfl) rfl rfl ?_
    refine XL_q rfl (qt_move rfl) rfl rfl ?_
    obtain ⟨x8, hx9, h⟩ := bind_some h
    refine QL_call rfl rfl c40 (fun w' hb => (w_impl_FeedsAll w' ([.sl 3 (.int .i64) v6 x2.2.1] ++ G) x2.1 v6 x2.2.1 (Has.hd) x2.2.2 x8 hx9 (H7.grow hb).ctx).mono fun e w'' hK => ⟨hK.1, hK.2.bel⟩) (by rfl) ?_
    refine XL_q rfl (qt_assign rfl) rfl rfl ?_
    refine QL_nil fun a ha w10 hb11 => ?_
    have H12 : Holds (([] : List Res).flatMap Res.own) w w10 [.sl 3 (.int .i64) v6 x2.2.1] G := H7.grow hb11
    refine nrm_seq (WP.app ?_ ha)
    refine WP_seq ?_
    refine WP_seq ?_
    refine WP_still ?_
    refine XL_q rfl (qt_move rfl) rfl rfl ?_
    refine XL_q rfl (qt_move rfl) rfl rfl ?_
    refine XL_q rfl (qt_move rfl) rfl rfl ?_
    refine XL_q rfl (qt_move rfl) rfl rfl ?_
    obtain ⟨x13, hx14, h⟩ := bind_some h
    refine QL_call rfl rfl c46 (fun w' hb => (w_spec_FeedsAll w' ([.sl 3 (.int .i64) v6 x2.2.1] ++ G) x2.1 v6 x2.2.1 (Has.hd) x2.2.2 x13 hx14 (H12.grow hb).ctx).mono fun e w'' hK => ⟨hK.1, hK.2.bel⟩) (by rfl) ?_
    refine XL_q rfl (qt_bneq u4 rfl rfl) rfl rfl ?_
    refine QL_nil fun a ha w15 hb16 => ?_
    have H17 : Holds (([] : List Res).flatMap Res.own) w w15 [.sl 3 (.int .i64) v6 x2.2.1] G := H12.grow hb16
    refine nrm_seq (WP.app ?_ ha)
    refine WP_cond rfl (fun hc18 => ?_) (fun hc18 => ?_)
    · have h := if_t hc18 h
      refine WP_seq ?_
      refine WP_region ?_
      refine XL_q rfl (qt_assign rfl) rfl rfl ?_
      refine WL_nil_seq ?_
      refine WP_ret fun a ha => ?_
      obtain rfl := Option.some.inj h
      have H19 : Holds (([] : List Res).flatMap Res.own) w w15 [] G := (H17.cut 0)
      exact ret_seq (ret1 rfl ha rfl ⟨rfl, H19⟩)
    · have h := if_f hc18 h
      refine WP_skip_seq ?_
      refine WP_seq ?_
      refine WP_seq ?_
      refine WP_region ?_
      refine XL_q rfl (qt_move rfl) rfl rfl ?_
      refine XL_q rfl (qt_not rfl) rfl rfl ?_
      refine WL_nil_seq ?_
      refine WP_cond rfl (fun hc20 => ?_) (fun hc20 => ?_)
      · have h := if_t hc20 h
        refine WP_seq ?_
        refine WP_still ?_
        obtain ⟨x21, hx22, h⟩ := bind_some h
        refine QL_call rfl rfl c20 (fun w' hb => (w_laws_alive w' ([.sl 3 (.int .i64) v6 x2.2.1] ++ G)  x21 hx22 (H17.grow hb).ctx).mono fun e w'' hK => ⟨hK.1, hK.2.bel⟩) (by rfl) ?_
        refine XL_q rfl (qt_assign rfl) rfl rfl ?_
        refine QL_nil fun a ha w23 hb24 => ?_
        have H25 : Holds (([] : List Res).flatMap Res.own) w w23 [.sl 3 (.int .i64) v6 x2.2.1] G := H17.grow hb24
        refine nrm_seq (WP.app ?_ ha)
        refine WP_ret fun a ha => ?_
        obtain rfl := Option.some.inj h
        have H26 : Holds (([] : List Res).flatMap Res.own) w w23 [] G := (H25.cut 0)
        exact ret_seq (ret1 rfl ha rfl ⟨rfl, H26⟩)
      · have h := if_f hc20 h
        refine WP_skip_seq ?_
        refine WP_seq ?_
        refine WP_still ?_
        refine XL_q rfl (qt_move rfl) rfl rfl ?_
        refine XL_q rfl (qt_move rfl) rfl rfl ?_
        obtain ⟨x27, hx28, h⟩ := bind_some h
        refine QL_call rfl rfl c38 (fun w' hb => (w_impl_DishesLeast w' ([.sl 3 (.int .i64) v6 x2.2.1] ++ G) x2.1 v6 x2.2.1 (Has.hd) x27 hx28 (H17.grow hb).ctx).mono fun e w'' hK => ⟨hK.1, hK.2.bel⟩) (by rfl) ?_
        refine XL_q rfl (qt_assign rfl) rfl rfl ?_
        refine QL_nil fun a ha w29 hb30 => ?_
        have H31 : Holds (([] : List Res).flatMap Res.own) w w29 [.sl 3 (.int .i64) v6 x2.2.1] G := H17.grow hb30
        refine nrm_seq (WP.app ?_ ha)
        refine WP_seq ?_
        refine WP_still ?_
        refine XL_q rfl (qt_move rfl) rfl rfl ?_
        refine XL_q rfl (qt_geq rfl rfl) rfl rfl ?_
        refine XL_q rfl (qt_move rfl) rfl rfl ?_
        obtain ⟨b32, hg33, h⟩ := bind_some h
        refine XL_join 6 41 (.bool b32) ?_ (fun md hmd hk => ?_)
        rotate_left
        · obtain ⟨K, rfl⟩ := Md.quiet_of hmd
          rcases btf (decide (x27 ≥ 0)) with hc34 | hc34
          · skip
            have hg33 := if_t hc34 hg33
            refine XL_q (w_take rfl hc34) (qt_move rfl) rfl rfl ?_
            obtain ⟨x35, hx36, hg33⟩ := bind_some hg33
            refine QL_call (w_take rfl hc34) rfl c21 (fun w' hb => (w_laws_bitsOf w' ([.sl 3 (.int .i64) v6 x2.2.1] ++ G) x27 x35 hx36 (H31.grow hb).ctx).mono fun e w'' hK => ⟨hK.1, hK.2.bel⟩) (by rfl) ?_
            refine XL_q (w_take rfl hc34) (qt_move rfl) rfl rfl ?_
            obtain ⟨x37, hx38, hg33⟩ := bind_some hg33
            refine QL_call (w_take rfl hc34) rfl c21 (fun w' hb => (w_laws_bitsOf w' ([.sl 3 (.int .i64) v6 x2.2.1] ++ G) x2.2.2 x37 hx38 (H31.grow hb).ctx).mono fun e w'' hK => ⟨hK.1, hK.2.bel⟩) (by rfl) ?_
            refine XL_q (w_take rfl hc34) (qt_leq rfl rfl) rfl rfl ?_
            refine XL_q rfl (qt_pickT rfl hc34 rfl) rfl rfl ?_
            exact hk _ (Cov.same (vb hg33) (Cov.fresh rfl (Cov.fresh rfl (Cov.fresh rfl (Cov.fresh rfl (Cov.fresh rfl (Cov.refl)))))))
          · skip
            refine XL_skip (w_skip rfl hc34) rfl rfl ?_
            refine XL_skip (w_skip rfl hc34) rfl rfl ?_
            refine XL_skip (w_skip rfl hc34) rfl rfl ?_
            refine XL_skip (w_skip rfl hc34) rfl rfl ?_
            refine XL_skip (w_skip rfl hc34) rfl rfl ?_
            refine XL_q rfl (qt_pickF rfl hc34 rfl) rfl rfl ?_
            exact hk _ (Cov.same (vb (if_f hc34 hg33)) (Cov.fresh rfl (Cov.fresh rfl (Cov.fresh rfl (Cov.fresh rfl (Cov.fresh rfl (Cov.refl)))))))
        refine XL_q rfl (qt_move rfl) rfl rfl ?_
        obtain ⟨b39, hg40, h⟩ := bind_some h
        refine XL_join 7 49 (.bool b39) ?_ (fun md hmd hk => ?_)
        rotate_left
        · obtain ⟨K, rfl⟩ := Md.quiet_of hmd
          rcases btf b32 with hc41 | hc41
          · skip
            have hg40 := if_t hc41 hg40
            refine XL_q (w_take rfl hc41) (qt_move rfl) rfl rfl ?_
            refine XL_q (w_take rfl hc41) (qt_move rfl) rfl rfl ?_
            obtain ⟨x42, hx43, hg40⟩ := bind_some hg40
            refine QL_call (w_take rfl hc41) rfl c44 (fun w' hb => (w_impl_ApartMost w' ([.sl 3 (.int .i64) v6 x2.2.1] ++ G) x2.1 v6 x2.2.1 (Has.hd) x42 hx43 (H31.grow hb).ctx).mono fun e w'' hK => ⟨hK.1, hK.2.bel⟩) (by rfl) ?_
            refine XL_q (w_take rfl hc41) (qt_move rfl) rfl rfl ?_
            obtain ⟨x44, hx45, hg40⟩ := bind_some hg40
            refine QL_call (w_take rfl hc41) rfl c21 (fun w' hb => (w_laws_bitsOf w' ([.sl 3 (.int .i64) v6 x2.2.1] ++ G) x2.2.2 x44 hx45 (H31.grow hb).ctx).mono fun e w'' hK => ⟨hK.1, hK.2.bel⟩) (by rfl) ?_
            refine XL_q (w_take rfl hc41) (qt_leq rfl rfl) rfl rfl ?_
            refine XL_q rfl (qt_pickT rfl hc41 rfl) rfl rfl ?_
            exact hk _ (Cov.same (vb hg40) (Cov.fresh rfl (Cov.fresh rfl (Cov.fresh rfl (Cov.fresh rfl (Cov.fresh rfl (Cov.fresh rfl (Cov.refl))))))))
          · skip
            refine XL_skip (w_skip rfl hc41) rfl rfl ?_
            refine XL_skip (w_skip rfl hc41) rfl rfl ?_
            refine XL_skip (w_skip rfl hc41) rfl rfl ?_
            refine XL_skip (w_skip rfl hc41) rfl rfl ?_
            refine XL_skip (w_skip rfl hc41) rfl rfl ?_
            refine XL_skip (w_skip rfl hc41) rfl rfl ?_
            refine XL_q rfl (qt_pickF rfl hc41 rfl) rfl rfl ?_
            exact hk _ (Cov.same (vb (if_f hc41 hg40)) (Cov.fresh rfl (Cov.fresh rfl (Cov.fresh rfl (Cov.fresh rfl (Cov.fresh rfl (Cov.fresh rfl (Cov.refl))))))))
        refine XL_q rfl (qt_move rfl) rfl rfl ?_
        obtain ⟨b46, hg47, h⟩ := bind_some h
        refine XL_join 8 58 (.bool b46) ?_ (fun md hmd hk => ?_)
        rotate_left
        · obtain ⟨K, rfl⟩ := Md.quiet_of hmd
          rcases btf b39 with hc48 | hc48
          · skip
            have hg47 := if_t hc48 hg47
            refine XL_q (w_take rfl hc48) (qt_move rfl) rfl rfl ?_
            refine XL_q (w_take rfl hc48) (qt_move rfl) rfl rfl ?_
            refine XL_q (w_take rfl hc48) (qt_move rfl) rfl rfl ?_
            refine XL_lenH H31.ctx (t := (.int .i64)) (Has.hd) u27 (w_take rfl hc48) rfl rfl ?_
            obtain ⟨x49, hx50, hg47⟩ := bind_some hg47
            refine XL_q (w_take rfl hc48) (qt_shlO rfl rfl hx50) rfl rfl ?_
            refine XL_q (w_take rfl hc48) (qt_sub rfl rfl) rfl rfl ?_
            obtain ⟨x51, hx52, hg47⟩ := bind_some hg47
            refine QL_call (w_take rfl hc48) rfl c40 (fun w' hb => (w_impl_FeedsAll w' ([.sl 3 (.int .i64) v6 x2.2.1] ++ G) x2.1 v6 x2.2.1 (Has.hd) (IntKind.wrap .i64 (x49 - 1)) x51 hx52 (H31.grow hb).ctx).mono fun e w'' hK => ⟨hK.1, hK.2.bel⟩) (by rfl) ?_
            refine XL_q rfl (qt_pickT rfl hc48 rfl) rfl rfl ?_
            exact hk _ (Cov.same (vb hg47) (Cov.fresh rfl (Cov.fresh rfl (Cov.fresh rfl (Cov.fresh rfl (Cov.fresh rfl (Cov.fresh rfl (Cov.fresh rfl (Cov.refl)))))))))
          · skip
            refine XL_skip (w_skip rfl hc48) rfl rfl ?_
            refine XL_skip (w_skip rfl hc48) rfl rfl ?_
            refine XL_skip (w_skip rfl hc48) rfl rfl ?_
            refine XL_skip (w_skip rfl hc48) rfl rfl ?_
            refine XL_skip (w_skip rfl hc48) rfl rfl ?_
            refine XL_skip (w_skip rfl hc48) rfl rfl ?_
            refine XL_skip (w_skip rfl hc48) rfl rfl ?_
            refine XL_q rfl (qt_pickF rfl hc48 rfl) rfl rfl ?_
            exact hk _ (Cov.same (vb (if_f hc48 hg47)) (Cov.fresh rfl (Cov.fresh rfl (Cov.fresh rfl (Cov.fresh rfl (Cov.fresh rfl (Cov.fresh rfl (Cov.fresh rfl (Cov.refl)))))))))
        refine XL_q rfl (qt_assign rfl) rfl rfl ?_
        refine QL_nil fun a ha w53 hb54 => ?_
        have H55 : Holds (([] : List Res).flatMap Res.own) w w53 [.sl 3 (.int .i64) v6 x2.2.1] G := H31.grow hb54
        refine nrm_seq (WP.app ?_ ha)
        refine WP_ret fun a ha => ?_
        obtain rfl := Option.some.inj h
        have H56 : Holds (([] : List Res).flatMap Res.own) w w53 [] G := (H55.cut 0)
        exact ret1 rfl ha rfl ⟨rfl, H56⟩
theorem w_spec_DrawDishesGreedy (w : World) (G : List Res) (vp0 : Value) (p0 : List Int) (hp0 : HasRo G (.int .u8) vp0 p0) (r : Int × (List Int)) (h : spec_DrawDishesGreedyS p0 = some r) (H : Ctx w G) : Calls Tryd.prog 47 #[vp0] w fun e w' => ∃ (v1 : Value), e = .returned (.tuple #[.int .i64 r.1, v1]) ∧ Holds (([] : List Res).flatMap Res.own) w w' [.sl 3 (.int .i64) v1 r.2] G := by
  have H : Holds (([] : List Res).flatMap Res.own) w w [] G := Holds.startN H
  refine calls_enter (args := [vp0]) (n := 9) Tryd.func47 rfl rfl rfl ?_
  unfold spec_DrawDishesGreedyS at h
  refine WP_seq ?_
  refine WP_region ?_
  refine XL_q rfl (qt_assign rfl) rfl rfl ?_
  refine XL_q rfl (qt_assign rfl) rfl rfl ?_
  refine WL_nil_seq ?_
  refine WP_seq ?_
  refine WP_region ?_
  refine XL_q rfl (qt_move rfl) rfl rfl ?_
  obtain ⟨x1, hx2, h⟩ := bind_some h
  refine WL_call rfl rfl c62 (w_spec_l20Open w G vp0 p0 (hp0) x1 hx2 H.ctx) (by rfl) ?_
  rintro _ w3 ⟨v5, b6, rfl, H4⟩; refine ⟨_, rfl, ?_⟩
  have H7 : Holds (([] : List Res).flatMap Res.own) w w3 [.ro (.int .u8) v5 x1.1, .bx b6 66 [v5, .int .i64 x1.2]] G := H.calledN (Rs := []) H4
  have H10 : Holds (([] : List Res).flatMap Res.own) w w3 [.bx b6 66 [v5, .int .i64 x1.2], .ro (.int .u8) v5 x1.1] G := H7.pull 1
  obtain ⟨x8, hx9, h⟩ := bind_some h
  refine WL_call rfl rfl c67 (w_spec_l20Menu w3 ([.ro (.int .u8) v5 x1.1] ++ G) b6 v5 x1.1 (HasRo.has (HasRo.hd)) x1.2 9 x8 hx9 H10.ctx) (by rfl) ?_
  rintro _ w11 ⟨v13, rfl, H12⟩; refine ⟨_, rfl, ?_⟩
  have H14 : Holds (([] : List Res).flatMap Res.own) w w11 [.sl 3 (.int .i64) v13 x8.2.2, .bx b6 66 [v5, .int .i64 x8.1], .ro (.int .u8) v5 x1.1] G := H10.calledN (Rs := [_]) H12
  refine XL_q rfl (qt_extract rfl rfl) rfl rfl ?_
  refine XL_q rfl (qt_extract rfl rfl) rfl rfl ?_
  refine XL_q rfl (qt_assign rfl) rfl rfl ?_
  refine XL_q rfl (qt_assign rfl) rfl rfl ?_
  refine WL_nil_seq ?_
  refine WP_ret fun a ha => ?_
  obtain rfl := Option.some.inj h
  have H15 : Holds (([] : List Res).flatMap Res.own) w w11 [.sl 3 (.int .i64) v13 x8.2.2] G := ((H14.cut 1).cut 1)
  exact ret2 rfl ha rfl rfl ⟨v13, rfl, H15⟩
end Go.Proofs.YtidhmbmollkhdaaDoor
