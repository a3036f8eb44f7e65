/- The walks: each Go function computes its shallow function. Printed by a program. -/
import Derived.Test.YtidhmbmollkhdaaDoorShS6b
set_option linter.unusedVariables false
set_option maxRecDepth 10000
namespace Go.Proofs.YtidhmbmollkhdaaDoor
open Go Go.RowKit
theorem c53 : Callable Tryd.prog 53 := ⟨Tryd.f53, Tryd.func53, by kernel_rfl, by kernel_rfl⟩
theorem c54 : Callable Tryd.prog 54 := ⟨Tryd.f54, Tryd.func54, by kernel_rfl, by kernel_rfl⟩
theorem c55 : Callable Tryd.prog 55 := ⟨Tryd.f55, Tryd.func55, by kernel_rfl, by kernel_rfl⟩
theorem c56 : Callable Tryd.prog 56 := ⟨Tryd.f56, Tryd.func56, by kernel_rfl, by kernel_rfl⟩
theorem c57 : Callable Tryd.prog 57 := ⟨Tryd.f57, Tryd.func57, by kernel_rfl, by kernel_rfl⟩
theorem c59 : Callable Tryd.prog 59 := ⟨Tryd.f59, Tryd.func59, by kernel_rfl, by kernel_rfl⟩
theorem c60 : Callable Tryd.prog 60 := ⟨Tryd.f60, Tryd.func60, by kernel_rfl, by kernel_rfl⟩
theorem c61 : Callable Tryd.prog 61 := ⟨Tryd.f61, Tryd.func61, by kernel_rfl, by kernel_rfl⟩
theorem w_laws_FnSeatsFirst (w : World) (G : List Res) (vp0 : Value) (p0 : List Int) (hp0 : HasRo G (.int .u8) vp0 p0) (r : Bool) (h : laws_FnSeatsFirstS p0 = some r) (H : Ctx w G) : Calls Tryd.prog 15 #[vp0] w fun e w' => e = .returned (.bool r) ∧ Holds (([] : List Res).flatMap Res.own) w w' [] G := by
  have H : Holds (([] : List Res).flatMap Res.own) w w [] G := Holds.startN H
  refine calls_enter (args := [vp0]) (n := 58) Tryd.func15 rfl rfl rfl ?_
  unfold laws_FnSeatsFirstS at h
  refine WP_seq ?_
  refine WP_region ?_
  refine XL_q rfl (qt_assign rfl) rfl rfl ?_
  refine WL_nil_seq ?_
  refine WP_seq ?_
  refine WP_seq ?_
  refine WP_region ?_
  refine XL_q rfl (qt_move rfl) rfl rfl ?_
  refine XL_lenH H.ctx (t := (.int .u8)) (hp0.has) u22 rfl rfl rfl ?_
  refine XL_q rfl (qt_gtr rfl rfl) rfl rfl ?_
  refine WL_nil_seq ?_
  refine WP_cond rfl (fun hc1 => ?_) (fun hc1 => ?_)
  · have h := if_t hc1 h
    refine WP_seq ?_
    refine WP_region ?_
    refine XL_q rfl (qt_assign rfl) rfl rfl ?_
    refine WL_nil_seq ?_
    refine WP_ret fun a ha => ?_
    obtain rfl := Option.some.inj h
    exact ret_seq (ret1 rfl ha rfl ⟨rfl, H⟩)
  · have h := if_f hc1 h
    refine WP_skip_seq ?_
    refine WP_seq ?_
    refine WP_region ?_
    refine XL_q rfl (qt_move rfl) rfl rfl ?_
    obtain ⟨x2, hx3, h⟩ := bind_some h
    refine WL_call rfl rfl c56 (w_spec_DrawSeatsFirst w G vp0 p0 (hp0) x2 hx3 H.ctx) (by rfl) ?_
    rintro _ w4 ⟨v6, rfl, H5⟩; refine ⟨_, rfl, ?_⟩
    have H7 : Holds (([] : List Res).flatMap Res.own) w w4 [.sl 3 (.int .i64) v6 x2.2] G := H.calledN (Rs := []) H5
    refine XL_q rfl (qt_move rfl) rfl rfl ?_
    refine XL_q rfl (qt_extract rfl rfl) rfl rfl ?_
    refine XL_q rfl (qt_extract rfl rfl) rfl rfl ?_
    refine XL_q rfl (qt_assign rfl) rfl rfl ?_
    refine XL_q rfl (qt_assign rfl) rfl rfl ?_
    refine WL_nil_seq ?_
    refine WP_seq ?_
    refine WP_region ?_
    refine XL_q rfl (qt_move rfl) rfl rfl ?_
    refine XL_q rfl (qt_move rfl) rfl rfl ?_
    obtain ⟨x8, hx9, h⟩ := bind_some h
    refine WL_call rfl rfl c57 (w_impl_SeatsFirst w4 ([.sl 3 (.int .i64) v6 x2.2] ++ G) x2.1 v6 x2.2 (Has.hd) x8 hx9 H7.ctx) (by rfl) ?_
    rintro _ w10 ⟨v12, rfl, H11⟩; refine ⟨_, rfl, ?_⟩
    have H13 : Holds (([] : List Res).flatMap Res.own) w w10 [.sl 3 (.int .i64) v12 x8, .sl 3 (.int .i64) v6 x2.2] G := H7.calledN (Rs := []) H11
    refine XL_q rfl (qt_assign rfl) rfl rfl ?_
    refine WL_nil_seq ?_
    refine WP_seq ?_
    refine WP_seq ?_
    refine WP_region ?_
    refine XL_q rfl (qt_move rfl) rfl rfl ?_
    refine XL_q rfl (qt_move rfl) rfl rfl ?_
    refine XL_q rfl (qt_move rfl) rfl rfl ?_
    obtain ⟨x14, hx15, h⟩ := bind_some h
    refine WL_call rfl rfl c58 (w_spec_SeatsFirst w10 ([.sl 3 (.int .i64) v12 x8, .sl 3 (.int .i64) v6 x2.2] ++ G) x2.1 v6 x2.2 (Has.c (Has.hd)) x14 hx15 H13.ctx) (by rfl) ?_
    rintro _ w16 ⟨v18, rfl, H17⟩; refine ⟨_, rfl, ?_⟩
    have H19 : Holds (([] : List Res).flatMap Res.own) w w16 [.sl 3 (.int .i64) v18 x14, .sl 3 (.int .i64) v12 x8, .sl 3 (.int .i64) v6 x2.2] G := H13.calledN (Rs := []) H17
    obtain ⟨x20, hx21, h⟩ := bind_some h
    refine WL_call rfl rfl c49 (w_laws_sameInts w16 ([.sl 3 (.int .i64) v18 x14, .sl 3 (.int .i64) v12 x8, .sl 3 (.int .i64) v6 x2.2] ++ G) v12 x8 (Has.c (Has.hd)) v18 x14 (Has.hd) x20 hx21 H19.ctx) (by rfl) ?_
    rintro _ w22 ⟨rfl, H23⟩; refine ⟨_, rfl, ?_⟩
    have H24 : Holds (([] : List Res).flatMap Res.own) w w22 [.sl 3 (.int .i64) v18 x14, .sl 3 (.int .i64) v12 x8, .sl 3 (.int .i64) v6 x2.2] G := H19.calledN (Rs := []) H23
    refine XL_q rfl (qt_not rfl) rfl rfl ?_
    refine WL_nil_seq ?_
    refine WP_cond rfl (fun hc25 => ?_) (fun hc25 => ?_)
    · have h := if_t hc25 h
      refine WP_seq ?_
      refine WP_region ?_
      refine XL_q rfl (qt_assign rfl) rfl rfl ?_
      refine WL_nil_seq ?_
      refine WP_ret fun a ha => ?_
      obtain rfl := Option.some.inj h
      have H26 : Holds (([] : List Res).flatMap Res.own) w w22 [] G := (((H24.cut 0).cut 0).cut 0)
      exact ret_seq (ret1 rfl ha rfl ⟨rfl, H26⟩)
    · have h := if_f hc25 h
      refine WP_skip_seq ?_
      refine WP_seq ?_
      refine WP_seq ?_
      refine WP_still ?_
      refine XL_q rfl (qt_move rfl) rfl rfl ?_
      refine XL_q rfl (qt_move rfl) rfl rfl ?_
      obtain ⟨x27, hx28, h⟩ := bind_some h
      refine QL_call rfl rfl c27 (fun w' hb => (w_spec_QuarrelsValid w' ([.sl 3 (.int .i64) v18 x14, .sl 3 (.int .i64) v12 x8, .sl 3 (.int .i64) v6 x2.2] ++ G) x2.1 v6 x2.2 (Has.c (Has.c (Has.hd))) x27 hx28 (H24.grow hb).ctx).mono fun e w'' hK => ⟨hK.1, hK.2.bel⟩) (by rfl) ?_
      refine XL_q rfl (qt_not rfl) rfl rfl ?_
      refine QL_nil fun a ha w29 hb30 => ?_
      have H31 : Holds (([] : List Res).flatMap Res.own) w w29 [.sl 3 (.int .i64) v18 x14, .sl 3 (.int .i64) v12 x8, .sl 3 (.int .i64) v6 x2.2] G := H24.grow hb30
      refine nrm_seq (WP.app ?_ ha)
      refine WP_cond rfl (fun hc32 => ?_) (fun hc32 => ?_)
      · have h := if_t hc32 h
        refine WP_seq ?_
        refine WP_still ?_
        refine XL_q rfl (qt_move rfl) rfl rfl ?_
        refine XL_lenH H31.ctx (t := (.int .i64)) (Has.c (Has.hd)) u27 rfl rfl rfl ?_
        refine XL_q rfl (qt_eql rfl rfl) rfl rfl ?_
        refine XL_q rfl (qt_move rfl) rfl rfl ?_
        obtain ⟨b33, hg34, h⟩ := bind_some h
        refine XL_join 2 34 (.bool b33) ?_ (fun md hmd hk => ?_)
        rotate_left
        · obtain ⟨K, rfl⟩ := Md.quiet_of hmd
          rcases btf ((List.length x8 : Int) == 0) with hc35 | hc35
          · skip
            have hg34 := if_t hc35 hg34
            obtain ⟨x36, hx37, hg34⟩ := bind_some hg34
            refine QL_call (w_take rfl hc35) rfl c20 (fun w' hb => (w_laws_alive w' ([.sl 3 (.int .i64) v18 x14, .sl 3 (.int .i64) v12 x8, .sl 3 (.int .i64) v6 x2.2] ++ G)  x36 hx37 (H31.grow hb).ctx).mono fun e w'' hK => ⟨hK.1, hK.2.bel⟩) (by rfl) ?_
            refine XL_q rfl (qt_pickT rfl hc35 rfl) rfl rfl ?_
            exact hk _ (Cov.same (vb hg34) (Cov.fresh rfl (Cov.refl)))
          · skip
            refine XL_skip (w_skip rfl hc35) rfl rfl ?_
            refine XL_q rfl (qt_pickF rfl hc35 rfl) rfl rfl ?_
            exact hk _ (Cov.same (vb (if_f hc35 hg34)) (Cov.fresh rfl (Cov.refl)))
        refine XL_q rfl (qt_assign rfl) rfl rfl ?_
        refine QL_nil fun a ha w38 hb39 => ?_
        have H40 : Holds (([] : List Res).flatMap Res.own) w w38 [.sl 3 (.int .i64) v18 x14, .sl 3 (.int .i64) v12 x8, .sl 3 (.int .i64) v6 x2.2] G := H31.grow hb39
        refine nrm_seq (WP.app ?_ ha)
        refine WP_ret fun a ha => ?_
        obtain rfl := Option.some.inj h
        have H41 : Holds (([] : List Res).flatMap Res.own) w w38 [] G := (((H40.cut 0).cut 0).cut 0)
        exact ret_seq (ret1 rfl ha rfl ⟨rfl, H41⟩)
      · have h := if_f hc32 h
        refine WP_skip_seq ?_
        refine WP_seq ?_
        refine WP_region ?_
        refine XL_q rfl (qt_assign rfl) rfl rfl ?_
        refine WL_nil_seq ?_
        refine WP_seq ?_
        refine WP_seq ?_
        refine WP_region ?_
        refine XL_q rfl (qt_assign rfl) rfl rfl ?_
        refine WL_nil_seq ?_
        refine WP_block ?_
        obtain ⟨o44, ho45, h⟩ := bind_some h
        have H48 : Holds (([] : List Res).flatMap Res.own) w w29 [.sl 3 (.int .i64) v6 x2.2, .sl 3 (.int .i64) v12 x8] G := ((H31.cut 0).pull 1)
        refine fun a46 ha47 => wp_loop_fix (I := fun s a w2 => match s with | (s42, s43) => (Fr a 58 [(3, .int .i64 x2.1), (4, v6), (5, v12), (6, .int .i64 s42), (7, .int .i64 s43)] ∧ Holds (([] : List Res).flatMap Res.own) w w2 [.sl 3 (.int .i64) v6 x2.2, .sl 3 (.int .i64) v12 x8] G)) (O := fun o e a w2 => match o with | q0 => e = .exit 0 ∧ (Fr a 58 [(3, .int .i64 x2.1), (4, v6), (5, v12), (6, .int .i64 q0)] ∧ Holds (([] : List Res).flatMap Res.own) w w2 [.sl 3 (.int .i64) v6 x2.2, .sl 3 (.int .i64) v12 x8] G)) ho45 ?_ ?_ ?_
        · exact ⟨ha47.sub ⟨rfl, rfl, rfl, rfl, rfl, trivial⟩, H48⟩
        · clear ha47
          intro s o51 a w49 hs50 hI52
          obtain ⟨s42, s43⟩ := s
          obtain ⟨ha, H53⟩ := hI52
          refine WP.app ?_ ha
          clear ha
          refine WP_seq ?_
          refine WP_seq ?_
          refine WP_region ?_
          refine XL_q rfl (qt_move rfl) rfl rfl ?_
          refine XL_q rfl (qt_move rfl) rfl rfl ?_
          refine XL_q rfl (qt_lss rfl rfl) rfl rfl ?_
          refine WL_nil_seq ?_
          refine WP_cond rfl (fun hc54 => ?_) (fun hc54 => ?_)
          · have hs50 := if_t hc54 hs50
            refine WP_skip_seq ?_
            refine WP_seq ?_
            refine WP_block ?_
            refine WP_still ?_
            refine XL_q rfl (qt_move rfl) rfl rfl ?_
            refine XL_q rfl (qt_move rfl) rfl rfl ?_
            refine XL_q rfl (qt_move rfl) rfl rfl ?_
            obtain ⟨x55, hx56, hs50⟩ := bind_some hs50
            refine XL_indexH H53.ctx (Has.hd) hx56 u27 i3 rfl rfl rfl rfl (fun b57 off58 cap59 hv60 => ?_)
            obtain ⟨F61, hat62, hdup63⟩ := H53.at (Has.hd) hx56 hv60
            refine XL_load_int (k := .i64) u3 rfl hat62 rfl rfl rfl ?_
            obtain ⟨x64, hx65, hs50⟩ := bind_some hs50
            refine QL_call rfl rfl c21 (fun w' hb => (w_laws_bitsOf w' ([.sl 3 (.int .i64) v6 x2.2, .sl 3 (.int .i64) v12 x8] ++ G) x55 x64 hx65 (H53.grow hb).ctx).mono fun e w'' hK => ⟨hK.1, hK.2.bel⟩) (by rfl) ?_
            refine XL_q rfl (qt_max rfl rfl) rfl rfl ?_
            refine XL_q rfl (qt_assign rfl) rfl rfl ?_
            refine QL_nil fun a ha w66 hb67 => ?_
            have H68 : Holds (([] : List Res).flatMap Res.own) w w66 [.sl 3 (.int .i64) v6 x2.2, .sl 3 (.int .i64) v12 x8] G := H53.grow hb67
            refine nrm_block (nrm_seq (WP.app ?_ ha))
            refine WP_region ?_
            refine XL_q rfl (qt_move rfl) rfl rfl ?_
            refine XL_q rfl (qt_add rfl rfl) rfl rfl ?_
            refine XL_q rfl (qt_assign rfl) rfl rfl ?_
            refine WL_nil fun a ha => ?_
            obtain rfl := Option.some.inj hs50
            have H69 : Holds (([] : List Res).flatMap Res.own) w w66 [.sl 3 (.int .i64) v6 x2.2, .sl 3 (.int .i64) v12 x8] G := ((H68.pull 1).pull 1)
            exact ⟨rfl, ha.sub ⟨rfl, rfl, rfl, rfl, rfl, trivial⟩, H69⟩
          · have hs50 := if_f hc54 hs50
            refine WP_exit fun a ha => ?_
            obtain rfl := Option.some.inj hs50
            have H70 : Holds (([] : List Res).flatMap Res.own) w w49 [.sl 3 (.int .i64) v6 x2.2, .sl 3 (.int .i64) v12 x8] G := ((H53.pull 1).pull 1)
            exact exit_seq (⟨exit_ne, rfl, ha.sub ⟨rfl, rfl, rfl, rfl, trivial⟩, H70⟩)
        · intro e a46 w71 hO72
          obtain ⟨p73, rfl⟩ : ∃ z, z = o44 := ⟨o44, rfl⟩
          obtain ⟨rfl, hO75⟩ := hO72
          obtain ⟨ha, H74⟩ := hO75
          refine exit_block_eq (nrm_seq (WP.app ?_ ha))
          refine WP_seq ?_
          refine WP_still ?_
          refine XL_q rfl (qt_move rfl) rfl rfl ?_
          refine XL_q rfl (qt_move rfl) rfl rfl ?_
          refine XL_q rfl (qt_move rfl) rfl rfl ?_
          obtain ⟨x76, hx77, h⟩ := bind_some h
          refine QL_call rfl rfl c59 (fun w' hb => (w_impl_SeatsOk w' ([.sl 3 (.int .i64) v6 x2.2, .sl 3 (.int .i64) v12 x8] ++ G) x2.1 v6 x2.2 (Has.hd) v12 x8 (Has.c (Has.hd)) x76 hx77 (H74.grow hb).ctx).mono fun e w'' hK => ⟨hK.1, hK.2.bel⟩) (by rfl) ?_
          refine XL_q rfl (qt_move rfl) rfl rfl ?_
          obtain ⟨b78, hg79, h⟩ := bind_some h
          refine XL_join 6 57 (.bool b78) ?_ (fun md hmd hk => ?_)
          rotate_left
          · obtain ⟨K, rfl⟩ := Md.quiet_of hmd
            rcases btf x76 with hc80 | hc80
            · skip
              have hg79 := if_t hc80 hg79
              refine XL_q (w_take rfl hc80) (qt_move rfl) rfl rfl ?_
              obtain ⟨x81, hx82, hg79⟩ := bind_some hg79
              refine QL_call (w_take rfl hc80) rfl c54 (fun w' hb => (w_impl_SeatsMany w' ([.sl 3 (.int .i64) v6 x2.2, .sl 3 (.int .i64) v12 x8] ++ G) v12 x8 (Has.c (Has.hd)) x81 hx82 (H74.grow hb).ctx).mono fun e w'' hK => ⟨hK.1, hK.2.bel⟩) (by rfl) ?_
              refine XL_q (w_take rfl hc80) (qt_move rfl) rfl rfl ?_
              refine XL_q (w_take rfl hc80) (qt_add rfl rfl) rfl rfl ?_
              refine XL_q (w_take rfl hc80) (qt_leq rfl rfl) rfl rfl ?_
              refine XL_q rfl (qt_pickT rfl hc80 rfl) rfl rfl ?_
              exact hk _ (Cov.same (vb hg79) (Cov.fresh rfl (Cov.fresh rfl (Cov.fresh rfl (Cov.fresh rfl (Cov.fresh rfl (Cov.refl)))))))
            · skip
              refine XL_skip (w_skip rfl hc80) rfl rfl ?_
              refine XL_skip (w_skip rfl hc80) rfl rfl ?_
              refine XL_skip (w_skip rfl hc80) rfl rfl ?_
              refine XL_skip (w_skip rfl hc80) rfl rfl ?_
              refine XL_skip (w_skip rfl hc80) rfl rfl ?_
              refine XL_q rfl (qt_pickF rfl hc80 rfl) rfl rfl ?_
              exact hk _ (Cov.same (vb (if_f hc80 hg79)) (Cov.fresh rfl (Cov.fresh rfl (Cov.fresh rfl (Cov.fresh rfl (Cov.fresh rfl (Cov.refl)))))))
          refine XL_q rfl (qt_assign rfl) rfl rfl ?_
          refine QL_nil fun a ha w83 hb84 => ?_
          have H85 : Holds (([] : List Res).flatMap Res.own) w w83 [.sl 3 (.int .i64) v6 x2.2, .sl 3 (.int .i64) v12 x8] G := H74.grow hb84
          refine nrm_seq (WP.app ?_ ha)
          refine WP_ret fun a ha => ?_
          obtain rfl := Option.some.inj h
          have H86 : Holds (([] : List Res).flatMap Res.own) w w83 [] G := ((H85.cut 0).cut 0)
          exact ret1 rfl ha rfl ⟨rfl, H86⟩
theorem w_laws_FnSeatsOk (w : World) (G : List Res) (vp0 : Value) (p0 : List Int) (hp0 : HasRo G (.int .u8) vp0 p0) (r : Bool) (h : laws_FnSeatsOkS p0 = some r) (H : Ctx w G) : Calls Tryd.prog 16 #[vp0] w fun e w' => e = .returned (.bool r) ∧ Holds (([] : List Res).flatMap Res.own) w w' [] G := by
  have H : Holds (([] : List Res).flatMap Res.own) w w [] G := Holds.startN H
  refine calls_enter (args := [vp0]) (n := 44) Tryd.func16 rfl rfl rfl ?_
  unfold laws_FnSeatsOkS at h
  refine WP_seq ?_
  refine WP_region ?_
  refine XL_q rfl (qt_assign rfl) rfl rfl ?_
  refine WL_nil_seq ?_
  refine WP_seq ?_
  refine WP_seq ?_
  refine WP_region ?_
  refine XL_q rfl (qt_move rfl) rfl rfl ?_
  refine XL_lenH H.ctx (t := (.int .u8)) (hp0.has) u22 rfl rfl rfl ?_
  refine XL_q rfl (qt_gtr rfl rfl) rfl rfl ?_
  refine WL_nil_seq ?_
  refine WP_cond rfl (fun hc1 => ?_) (fun hc1 => ?_)
  · have h := if_t hc1 h
    refine WP_seq ?_
    refine WP_region ?_
    refine XL_q rfl (qt_assign rfl) rfl rfl ?_
    refine WL_nil_seq ?_
    refine WP_ret fun a ha => ?_
    obtain rfl := Option.some.inj h
    exact ret_seq (ret1 rfl ha rfl ⟨rfl, H⟩)
  · have h := if_f hc1 h
    refine WP_skip_seq ?_
    refine WP_seq ?_
    refine WP_region ?_
    refine XL_q rfl (qt_move rfl) rfl rfl ?_
    obtain ⟨x2, hx3, h⟩ := bind_some h
    refine WL_call rfl rfl c60 (w_spec_DrawSeatsOk w G vp0 p0 (hp0) x2 hx3 H.ctx) (by rfl) ?_
    rintro _ w4 ⟨v6, v7, rfl, H5⟩; refine ⟨_, rfl, ?_⟩
    have H8 : Holds (([] : List Res).flatMap Res.own) w w4 [.sl 3 (.int .i64) v6 x2.2.1, .sl 3 (.int .i64) v7 x2.2.2] G := H.calledN (Rs := []) H5
    refine XL_q rfl (qt_move rfl) rfl rfl ?_
    refine XL_q rfl (qt_extract rfl rfl) rfl rfl ?_
    refine XL_q rfl (qt_extract rfl rfl) rfl rfl ?_
    refine XL_q rfl (qt_extract rfl rfl) rfl rfl ?_
    refine XL_q rfl (qt_assign rfl) rfl rfl ?_
    refine XL_q rfl (qt_assign rfl) rfl rfl ?_
    refine XL_q rfl (qt_assign rfl) rfl rfl ?_
    refine WL_nil_seq ?_
    refine WP_seq ?_
    refine WP_still ?_
    refine XL_q rfl (qt_move rfl) rfl rfl ?_
    refine XL_q rfl (qt_move rfl) rfl rfl ?_
    refine XL_q rfl (qt_move rfl) rfl rfl ?_
    obtain ⟨x9, hx10, h⟩ := bind_some h
    refine QL_call rfl rfl c59 (fun w' hb => (w_impl_SeatsOk w' ([.sl 3 (.int .i64) v6 x2.2.1, .sl 3 (.int .i64) v7 x2.2.2] ++ G) x2.1 v6 x2.2.1 (Has.hd) v7 x2.2.2 (Has.c (Has.hd)) x9 hx10 (H8.grow hb).ctx).mono fun e w'' hK => ⟨hK.1, hK.2.bel⟩) (by rfl) ?_
    refine XL_q rfl (qt_assign rfl) rfl rfl ?_
    refine QL_nil fun a ha w11 hb12 => ?_
    have H13 : Holds (([] : List Res).flatMap Res.own) w w11 [.sl 3 (.int .i64) v6 x2.2.1, .sl 3 (.int .i64) v7 x2.2.2] G := H8.grow hb12
    refine nrm_seq (WP.app ?_ ha)
    refine WP_seq ?_
    refine WP_seq ?_
    refine WP_still ?_
    refine XL_q rfl (qt_move rfl) rfl rfl ?_
    refine XL_q rfl (qt_move rfl) rfl rfl ?_
    refine XL_q rfl (qt_move rfl) rfl rfl ?_
    refine XL_q rfl (qt_move rfl) rfl rfl ?_
    obtain ⟨x14, hx15, h⟩ := bind_some h
    refine QL_call rfl rfl c61 (fun w' hb => (w_spec_SeatsOk w' ([.sl 3 (.int .i64) v6 x2.2.1, .sl 3 (.int .i64) v7 x2.2.2] ++ G) x2.1 v6 x2.2.1 (Has.hd) v7 x2.2.2 (Has.c (Has.hd)) x14 hx15 (H13.grow hb).ctx).mono fun e w'' hK => ⟨hK.1, hK.2.bel⟩) (by rfl) ?_
    refine XL_q rfl (qt_bneq u4 rfl rfl) rfl rfl ?_
    refine QL_nil fun a ha w16 hb17 => ?_
    have H18 : Holds (([] : List Res).flatMap Res.own) w w16 [.sl 3 (.int .i64) v6 x2.2.1, .sl 3 (.int .i64) v7 x2.2.2] G := H13.grow hb17
    refine nrm_seq (WP.app ?_ ha)
    refine WP_cond rfl (fun hc19 => ?_) (fun hc19 => ?_)
    · have h := if_t hc19 h
      refine WP_seq ?_
      refine WP_region ?_
      refine XL_q rfl (qt_assign rfl) rfl rfl ?_
      refine WL_nil_seq ?_
      refine WP_ret fun a ha => ?_
      obtain rfl := Option.some.inj h
      have H20 : Holds (([] : List Res).flatMap Res.own) w w16 [] G := ((H18.cut 0).cut 0)
      exact ret_seq (ret1 rfl ha rfl ⟨rfl, H20⟩)
    · have h := if_f hc19 h
      refine WP_skip_seq ?_
      refine WP_seq ?_
      refine WP_seq ?_
      refine WP_region ?_
      refine XL_q rfl (qt_move rfl) rfl rfl ?_
      refine XL_q rfl (qt_not rfl) rfl rfl ?_
      refine WL_nil_seq ?_
      refine WP_cond rfl (fun hc21 => ?_) (fun hc21 => ?_)
      · have h := if_t hc21 h
        refine WP_seq ?_
        refine WP_still ?_
        obtain ⟨x22, hx23, h⟩ := bind_some h
        refine QL_call rfl rfl c20 (fun w' hb => (w_laws_alive w' ([.sl 3 (.int .i64) v6 x2.2.1, .sl 3 (.int .i64) v7 x2.2.2] ++ G)  x22 hx23 (H18.grow hb).ctx).mono fun e w'' hK => ⟨hK.1, hK.2.bel⟩) (by rfl) ?_
        refine XL_q rfl (qt_assign rfl) rfl rfl ?_
        refine QL_nil fun a ha w24 hb25 => ?_
        have H26 : Holds (([] : List Res).flatMap Res.own) w w24 [.sl 3 (.int .i64) v6 x2.2.1, .sl 3 (.int .i64) v7 x2.2.2] G := H18.grow hb25
        refine nrm_seq (WP.app ?_ ha)
        refine WP_ret fun a ha => ?_
        obtain rfl := Option.some.inj h
        have H27 : Holds (([] : List Res).flatMap Res.own) w w24 [] G := ((H26.cut 0).cut 0)
        exact ret_seq (ret1 rfl ha rfl ⟨rfl, H27⟩)
      · have h := if_f hc21 h
        refine WP_skip_seq ?_
        refine WP_seq ?_
        refine WP_still ?_
        refine XL_q rfl (qt_move rfl) rfl rfl ?_
        obtain ⟨x28, hx29, h⟩ := bind_some h
        refine QL_call rfl rfl c54 (fun w' hb => (w_impl_SeatsMany w' ([.sl 3 (.int .i64) v6 x2.2.1, .sl 3 (.int .i64) v7 x2.2.2] ++ G) v7 x2.2.2 (Has.c (Has.hd)) x28 hx29 (H18.grow hb).ctx).mono fun e w'' hK => ⟨hK.1, hK.2.bel⟩) (by rfl) ?_
        refine XL_q rfl (qt_assign rfl) rfl rfl ?_
        refine QL_nil fun a ha w30 hb31 => ?_
        have H32 : Holds (([] : List Res).flatMap Res.own) w w30 [.sl 3 (.int .i64) v6 x2.2.1, .sl 3 (.int .i64) v7 x2.2.2] G := H18.grow hb31
        refine nrm_seq (WP.app ?_ ha)
        refine WP_seq ?_
        refine WP_still ?_
        refine XL_q rfl (qt_move rfl) rfl rfl ?_
        refine XL_q rfl (qt_move rfl) rfl rfl ?_
        obtain ⟨x33, hx34, h⟩ := bind_some h
        refine QL_call rfl rfl c32 (fun w' hb => (w_impl_SeatsLeast w' ([.sl 3 (.int .i64) v6 x2.2.1, .sl 3 (.int .i64) v7 x2.2.2] ++ G) x2.1 v6 x2.2.1 (Has.hd) x33 hx34 (H32.grow hb).ctx).mono fun e w'' hK => ⟨hK.1, hK.2.bel⟩) (by rfl) ?_
        refine XL_q rfl (qt_move rfl) rfl rfl ?_
        refine XL_q rfl (qt_leq rfl rfl) rfl rfl ?_
        refine XL_q rfl (qt_move rfl) rfl rfl ?_
        obtain ⟨b35, hg36, h⟩ := bind_some h
        refine XL_join 6 43 (.bool b35) ?_ (fun md hmd hk => ?_)
        rotate_left
        · obtain ⟨K, rfl⟩ := Md.quiet_of hmd
          rcases btf (decide (x33 ≤ x28)) with hc37 | hc37
          · skip
            have hg36 := if_t hc37 hg36
            refine XL_q (w_take rfl hc37) (qt_move rfl) rfl rfl ?_
            refine XL_q (w_take rfl hc37) (qt_move rfl) rfl rfl ?_
            obtain ⟨x38, hx39, hg36⟩ := bind_some hg36
            refine QL_call (w_take rfl hc37) rfl c35 (fun w' hb => (w_impl_CliqueMost w' ([.sl 3 (.int .i64) v6 x2.2.1, .sl 3 (.int .i64) v7 x2.2.2] ++ G) x2.1 v6 x2.2.1 (Has.hd) x38 hx39 (H32.grow hb).ctx).mono fun e w'' hK => ⟨hK.1, hK.2.bel⟩) (by rfl) ?_
            refine XL_q (w_take rfl hc37) (qt_move rfl) rfl rfl ?_
            refine XL_q (w_take rfl hc37) (qt_leq rfl rfl) rfl rfl ?_
            refine XL_q rfl (qt_pickT rfl hc37 rfl) rfl rfl ?_
            exact hk _ (Cov.same (vb hg36) (Cov.fresh rfl (Cov.fresh rfl (Cov.fresh rfl (Cov.fresh rfl (Cov.fresh rfl (Cov.refl)))))))
          · skip
            refine XL_skip (w_skip rfl hc37) rfl rfl ?_
            refine XL_skip (w_skip rfl hc37) rfl rfl ?_
            refine XL_skip (w_skip rfl hc37) rfl rfl ?_
            refine XL_skip (w_skip rfl hc37) rfl rfl ?_
            refine XL_skip (w_skip rfl hc37) rfl rfl ?_
            refine XL_q rfl (qt_pickF rfl hc37 rfl) rfl rfl ?_
            exact hk _ (Cov.same (vb (if_f hc37 hg36)) (Cov.fresh rfl (Cov.fresh rfl (Cov.fresh rfl (Cov.fresh rfl (Cov.fresh rfl (Cov.refl)))))))
        refine XL_q rfl (qt_assign rfl) rfl rfl ?_
        refine QL_nil fun a ha w40 hb41 => ?_
        have H42 : Holds (([] : List Res).flatMap Res.own) w w40 [.sl 3 (.int .i64) v6 x2.2.1, .sl 3 (.int .i64) v7 x2.2.2] G := H32.grow hb41
        refine nrm_seq (WP.app ?_ ha)
        refine WP_ret fun a ha => ?_
        obtain rfl := Option.some.inj h
        have H43 : Holds (([] : List Res).flatMap Res.own) w w40 [] G := ((H42.cut 0).cut 0)
        exact ret1 rfl ha rfl ⟨rfl, H43⟩
end Go.Proofs.YtidhmbmollkhdaaDoor
