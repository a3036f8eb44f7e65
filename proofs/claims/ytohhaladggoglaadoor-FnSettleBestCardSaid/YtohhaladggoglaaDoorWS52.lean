/- The walks: each Go function computes its shallow function. Printed by a program. -/
import Derived.Test.YtohhaladggoglaaDoorWS51
set_option linter.unusedVariables false
set_option maxRecDepth 10000
namespace Go.Proofs.YtohhaladggoglaaDoor
open Go Go.RowKit
theorem w_laws_FnGroupsMost (w : World) (G : List Res) (vp0 : Value) (p0 : List Int) (hp0 : HasRo G (.int .u8) vp0 p0) (r : Bool) (h : laws_FnGroupsMostS p0 = some r) (H : Ctx w G) : Calls Tryd.prog 5 #[vp0] w fun e w' => e = .returned (.bool r) ∧ Holds (([] : List Res).flatMap Res.own) w w' [] G := by
  have H : Holds (([] : List Res).flatMap Res.own) w w [] G := Holds.startN H
  refine calls_enter (args := [vp0]) (n := 66) Tryd.func5 rfl rfl rfl ?_
  unfold laws_FnGroupsMostS at h
  refine WP_seq ?_
  refine WP_region ?_
  refine XL_q rfl (qt_assign rfl) rfl rfl ?_
  refine WL_nil_seq ?_
  refine WP_seq ?_
  refine WP_seq ?_
  refine WP_region ?_
  refine XL_q rfl (qt_move rfl) rfl rfl ?_
  refine XL_lenH H.ctx (t := (.int .u8)) (hp0.has) u22 rfl rfl rfl ?_
  refine XL_q rfl (qt_gtr rfl rfl) rfl rfl ?_
  refine WL_nil_seq ?_
  refine WP_cond rfl (fun hc1 => ?_) (fun hc1 => ?_)
  · have h := if_t hc1 h
    refine WP_seq ?_
    refine WP_region ?_
    refine XL_q rfl (qt_assign rfl) rfl rfl ?_
    refine WL_nil_seq ?_
    refine WP_ret fun a ha => ?_
    obtain rfl := Option.some.inj h
    exact ret_seq (ret1 rfl ha rfl ⟨rfl, H⟩)
  · have h := if_f hc1 h
    refine WP_skip_seq ?_
    refine WP_seq ?_
    refine WP_region ?_
    refine XL_q rfl (qt_move rfl) rfl rfl ?_
    obtain ⟨x2, hx3, h⟩ := bind_some h
    refine WL_call rfl rfl c19 (w_spec_DrawGroupsMost w G vp0 p0 (hp0) x2 hx3 H.ctx) (by rfl) ?_
    rintro _ w4 ⟨v6, rfl, H5⟩; refine ⟨_, rfl, ?_⟩
    have H7 : Holds (([] : List Res).flatMap Res.own) w w4 [.sl 3 (.int .i64) v6 x2] G := H.calledN (Rs := []) H5
    refine XL_q rfl (qt_assign rfl) rfl rfl ?_
    refine WL_nil_seq ?_
    refine WP_seq ?_
    refine WP_still ?_
    refine XL_q rfl (qt_move rfl) rfl rfl ?_
    obtain ⟨x8, hx9, h⟩ := bind_some h
    refine QL_call rfl rfl c20 (fun w' hb => (w_impl_GroupsMost w' ([.sl 3 (.int .i64) v6 x2] ++ G) v6 x2 (Has.hd) x8 hx9 (H7.grow hb).ctx).mono fun e w'' hK => ⟨hK.1, hK.2.bel⟩) (by rfl) ?_
    refine XL_q rfl (qt_assign rfl) rfl rfl ?_
    refine QL_nil fun a ha w10 hb11 => ?_
    have H12 : Holds (([] : List Res).flatMap Res.own) w w10 [.sl 3 (.int .i64) v6 x2] G := H7.grow hb11
    refine nrm_seq (WP.app ?_ ha)
    refine WP_seq ?_
    refine WP_seq ?_
    refine WP_still ?_
    refine XL_q rfl (qt_move rfl) rfl rfl ?_
    refine XL_q rfl (qt_move rfl) rfl rfl ?_
    obtain ⟨x13, hx14, h⟩ := bind_some h
    refine QL_call rfl rfl c21 (fun w' hb => (w_spec_GroupsMost w' ([.sl 3 (.int .i64) v6 x2] ++ G) v6 x2 (Has.hd) x13 hx14 (H12.grow hb).ctx).mono fun e w'' hK => ⟨hK.1, hK.2.bel⟩) (by rfl) ?_
    refine XL_q rfl (qt_neq rfl rfl) rfl rfl ?_
    refine QL_nil fun a ha w15 hb16 => ?_
    have H17 : Holds (([] : List Res).flatMap Res.own) w w15 [.sl 3 (.int .i64) v6 x2] G := H12.grow hb16
    refine nrm_seq (WP.app ?_ ha)
    refine WP_cond rfl (fun hc18 => ?_) (fun hc18 => ?_)
    · have h := if_t hc18 h
      refine WP_seq ?_
      refine WP_region ?_
      refine XL_q rfl (qt_assign rfl) rfl rfl ?_
      refine WL_nil_seq ?_
      refine WP_ret fun a ha => ?_
      obtain rfl := Option.some.inj h
      have H19 : Holds (([] : List Res).flatMap Res.own) w w15 [] G := (H17.cut 0)
      exact ret_seq (ret1 rfl ha rfl ⟨rfl, H19⟩)
    · have h := if_f hc18 h
      refine WP_skip_seq ?_
      refine WP_seq ?_
      refine WP_seq ?_
      refine WP_region ?_
      refine XL_q rfl (qt_move rfl) rfl rfl ?_
      refine XL_q rfl (qt_lss rfl rfl) rfl rfl ?_
      refine WL_nil_seq ?_
      refine WP_cond rfl (fun hc20 => ?_) (fun hc20 => ?_)
      · have h := if_t hc20 h
        refine WP_seq ?_
        refine WP_still ?_
        refine XL_q rfl (qt_move rfl) rfl rfl ?_
        refine XL_q rfl (qt_eql rfl rfl) rfl rfl ?_
        refine XL_q rfl (qt_move rfl) rfl rfl ?_
        obtain ⟨b21, hg22, h⟩ := bind_some h
        refine XL_join 2 25 (.bool b21) ?_ (fun md hmd hk => ?_)
        rotate_left
        · obtain ⟨K, rfl⟩ := Md.quiet_of hmd
          rcases btf (x8 == (-1)) with hc23 | hc23
          · skip
            have hg22 := if_t hc23 hg22
            obtain ⟨x24, hx25, hg22⟩ := bind_some hg22
            refine QL_call (w_take rfl hc23) rfl c15 (fun w' hb => (w_laws_alive w' ([.sl 3 (.int .i64) v6 x2] ++ G)  x24 hx25 (H17.grow hb).ctx).mono fun e w'' hK => ⟨hK.1, hK.2.bel⟩) (by rfl) ?_
            refine XL_q rfl (qt_pickT rfl hc23 rfl) rfl rfl ?_
            exact hk _ (Cov.same (vb hg22) (Cov.fresh rfl (Cov.refl)))
          · skip
            refine XL_skip (w_skip rfl hc23) rfl rfl ?_
            refine XL_q rfl (qt_pickF rfl hc23 rfl) rfl rfl ?_
            exact hk _ (Cov.same (vb (if_f hc23 hg22)) (Cov.fresh rfl (Cov.refl)))
        refine XL_q rfl (qt_assign rfl) rfl rfl ?_
        refine QL_nil fun a ha w26 hb27 => ?_
        have H28 : Holds (([] : List Res).flatMap Res.own) w w26 [.sl 3 (.int .i64) v6 x2] G := H17.grow hb27
        refine nrm_seq (WP.app ?_ ha)
        refine WP_ret fun a ha => ?_
        obtain rfl := Option.some.inj h
        have H29 : Holds (([] : List Res).flatMap Res.own) w w26 [] G := (H28.cut 0)
        exact ret_seq (ret1 rfl ha rfl ⟨rfl, H29⟩)
      · have h := if_f hc20 h
        refine WP_skip_seq ?_
        refine WP_seq ?_
        refine WP_region ?_
        refine XL_q rfl (qt_assign rfl) rfl rfl ?_
        refine WL_nil_seq ?_
        refine WP_seq ?_
        refine WP_seq ?_
        refine WP_region ?_
        refine XL_q rfl (qt_assign rfl) rfl rfl ?_
        refine WL_nil_seq ?_
        refine WP_block ?_
        obtain ⟨o32, ho33, h⟩ := bind_some h
        refine fun a34 ha35 => wp_loop_fix (I := fun s a w2 => match s with | (s30, s31) => (Fr a 66 [(3, v6), (4, .int .i64 x8), (5, .int .i64 s30), (6, .int .i64 s31)] ∧ Holds (([] : List Res).flatMap Res.own) w w2 [.sl 3 (.int .i64) v6 x2] G)) (O := fun o e a w2 => match o with | q0 => e = .exit 0 ∧ (Fr a 66 [(3, v6), (4, .int .i64 x8), (5, .int .i64 q0)] ∧ Holds (([] : List Res).flatMap Res.own) w w2 [.sl 3 (.int .i64) v6 x2] G)) ho33 ?_ ?_ ?_
        · exact ⟨ha35.sub ⟨rfl, rfl, rfl, rfl, trivial⟩, H17⟩
        · clear ha35
          intro s o38 a w36 hs37 hI39
          obtain ⟨s30, s31⟩ := s
          obtain ⟨ha, H40⟩ := hI39
          refine WP.app ?_ ha
          clear ha
          refine WP_seq ?_
          refine WP_seq ?_
          refine WP_region ?_
          refine XL_q rfl (qt_move rfl) rfl rfl ?_
          refine XL_q rfl (qt_move rfl) rfl rfl ?_
          refine XL_lenH H40.ctx (t := (.int .i64)) (Has.hd) u23 rfl rfl rfl ?_
          refine XL_q rfl (qt_lss rfl rfl) rfl rfl ?_
          refine WL_nil_seq ?_
          refine WP_cond rfl (fun hc41 => ?_) (fun hc41 => ?_)
          · have hs37 := if_t hc41 hs37
            refine WP_skip_seq ?_
            refine WP_seq ?_
            refine WP_block ?_
            refine WP_seq ?_
            refine WP_region ?_
            refine XL_q rfl (qt_move rfl) rfl rfl ?_
            refine XL_q rfl (qt_move rfl) rfl rfl ?_
            obtain ⟨x42, hx43, hs37⟩ := bind_some hs37
            refine XL_indexH H40.ctx (Has.hd) hx43 u23 i3 rfl rfl rfl rfl (fun b44 off45 cap46 hv47 => ?_)
            obtain ⟨F48, hat49, hdup50⟩ := H40.at (Has.hd) hx43 hv47
            refine XL_load_int (k := .i64) u3 rfl hat49 rfl rfl rfl ?_
            refine XL_q rfl (qt_neq rfl rfl) rfl rfl ?_
            refine WL_nil_seq ?_
            refine WP_cond rfl (fun hc51 => ?_) (fun hc51 => ?_)
            · have hs37 := if_t hc51 hs37
              refine WP_region ?_
              refine XL_q rfl (qt_move rfl) rfl rfl ?_
              refine XL_q rfl (qt_add rfl rfl) rfl rfl ?_
              refine XL_q rfl (qt_assign rfl) rfl rfl ?_
              refine WL_nil fun a ha => ?_
              refine nrm_block (nrm_seq (WP.app ?_ ha))
              refine WP_region ?_
              refine XL_q rfl (qt_move rfl) rfl rfl ?_
              refine XL_q rfl (qt_add rfl rfl) rfl rfl ?_
              refine XL_q rfl (qt_assign rfl) rfl rfl ?_
              refine WL_nil fun a ha => ?_
              obtain rfl := Option.some.inj hs37
              exact ⟨rfl, ha.sub ⟨rfl, rfl, rfl, rfl, trivial⟩, H40⟩
            · have hs37 := if_f hc51 hs37
              refine WP_skip fun a ha => ?_
              refine nrm_block (nrm_seq (WP.app ?_ ha))
              refine WP_region ?_
              refine XL_q rfl (qt_move rfl) rfl rfl ?_
              refine XL_q rfl (qt_add rfl rfl) rfl rfl ?_
              refine XL_q rfl (qt_assign rfl) rfl rfl ?_
              refine WL_nil fun a ha => ?_
              obtain rfl := Option.some.inj hs37
              exact ⟨rfl, ha.sub ⟨rfl, rfl, rfl, rfl, trivial⟩, H40⟩
          · have hs37 := if_f hc41 hs37
            refine WP_exit fun a ha => ?_
            obtain rfl := Option.some.inj hs37
            exact exit_seq (⟨exit_ne, rfl, ha.sub ⟨rfl, rfl, rfl, trivial⟩, H40⟩)
        · intro e a34 w52 hO53
          obtain ⟨p54, rfl⟩ : ∃ z, z = o32 := ⟨o32, rfl⟩
          obtain ⟨rfl, hO56⟩ := hO53
          obtain ⟨ha, H55⟩ := hO56
          refine exit_block_eq (nrm_seq (WP.app ?_ ha))
          refine WP_seq ?_
          refine WP_region ?_
          refine WL_buildH (t := (.int .i64)) (args := []) (xs := ([] : List Int)) H55 (BltL.nil) u23 j3 rfl rfl rfl rfl rfl rfl (fun v57 w58 H59 => ?_)
          have H60 : Holds (([] : List Res).flatMap Res.own) w w58 [.sl 3 (.int .i64) v57 ([]), .sl 3 (.int .i64) v6 x2] G := H59
          refine XL_q rfl (qt_move rfl) rfl rfl ?_
          obtain ⟨x61, hx62, h⟩ := bind_some h
          refine WL_appendH H60 (Has.c (Has.hd)) hx62 u23 j3 rfl rfl rfl rfl rfl rfl (fun v63 w64 H65 => ?_)
          have H66 : Holds (([] : List Res).flatMap Res.own) w w64 [.sl 3 (.int .i64) v63 x61, .sl 3 (.int .i64) v6 x2] G := H65
          refine WL_buildH (t := (.int .i64)) (args := [.const (.int .i64 5), .const (.int .i64 (-5))]) (xs := ([5, (-5)] : List Int)) H66 (BltL.cons (Blt.int) rfl (BltL.cons (Blt.int) rfl (BltL.nil))) u23 j3 rfl rfl rfl rfl rfl rfl (fun v67 w68 H69 => ?_)
          have H70 : Holds (([] : List Res).flatMap Res.own) w w68 [.sl 3 (.int .i64) v67 ([5, (-5)]), .sl 3 (.int .i64) v63 x61, .sl 3 (.int .i64) v6 x2] G := H69
          have H71 : Holds (([] : List Res).flatMap Res.own) w w68 [.sl 3 (.int .i64) v63 x61, .sl 3 (.int .i64) v67 ([5, (-5)]), .sl 3 (.int .i64) v6 x2] G := H70.pull 1
          obtain ⟨x72, hx73, h⟩ := bind_some h
          refine WL_appendH H71 (Has.c (Has.hd)) hx73 u23 j3 rfl rfl rfl rfl rfl rfl (fun v74 w75 H76 => ?_)
          have H77 : Holds (([] : List Res).flatMap Res.own) w w75 [.sl 3 (.int .i64) v74 x72, .sl 3 (.int .i64) v67 ([5, (-5)]), .sl 3 (.int .i64) v6 x2] G := H76
          obtain ⟨x78, hx79, h⟩ := bind_some h
          refine WL_call rfl rfl c20 (w_impl_GroupsMost w75 ([.sl 3 (.int .i64) v74 x72, .sl 3 (.int .i64) v67 ([5, (-5)]), .sl 3 (.int .i64) v6 x2] ++ G) v74 x72 (Has.hd) x78 hx79 H77.ctx) (by rfl) ?_
          rintro _ w80 ⟨rfl, H81⟩; refine ⟨_, rfl, ?_⟩
          have H82 : Holds (([] : List Res).flatMap Res.own) w w80 [.sl 3 (.int .i64) v74 x72, .sl 3 (.int .i64) v67 ([5, (-5)]), .sl 3 (.int .i64) v6 x2] G := H77.calledN (Rs := []) H81
          refine XL_q rfl (qt_assign rfl) rfl rfl ?_
          refine WL_nil_seq ?_
          refine WP_seq ?_
          refine WP_region ?_
          refine XL_q rfl (qt_move rfl) rfl rfl ?_
          refine XL_q rfl (qt_mul rfl rfl) rfl rfl ?_
          refine XL_q rfl (qt_move rfl) rfl rfl ?_
          refine XL_q rfl (qt_leq rfl rfl) rfl rfl ?_
          refine XL_q rfl (qt_move rfl) rfl rfl ?_
          refine XL_join 6 55 (.bool ((decide ((IntKind.wrap .i64 (2 * x8)) ≤ p54)) && ((decide (x8 > 0)) == (decide (p54 > 0))))) ?_ (fun md hmd hk => ?_)
          rotate_left
          · obtain ⟨Q, rfl⟩ := Md.seq_of hmd
            rcases btf (decide ((IntKind.wrap .i64 (2 * x8)) ≤ p54)) with hc83 | hc83
            · skip
              refine XL_q (w_take rfl hc83) (qt_move rfl) rfl rfl ?_
              refine XL_q (w_take rfl hc83) (qt_gtr rfl rfl) rfl rfl ?_
              refine XL_q (w_take rfl hc83) (qt_move rfl) rfl rfl ?_
              refine XL_q (w_take rfl hc83) (qt_gtr rfl rfl) rfl rfl ?_
              refine XL_q (w_take rfl hc83) (qt_beql u4 rfl rfl) rfl rfl ?_
              refine XL_q rfl (qt_pickT rfl hc83 rfl) rfl rfl ?_
              exact hk _ (Cov.same (by rw [hc83]; rfl) (Cov.fresh rfl (Cov.fresh rfl (Cov.fresh rfl (Cov.fresh rfl (Cov.fresh rfl (Cov.refl)))))))
            · skip
              refine XL_skip (w_skip rfl hc83) rfl rfl ?_
              refine XL_skip (w_skip rfl hc83) rfl rfl ?_
              refine XL_skip (w_skip rfl hc83) rfl rfl ?_
              refine XL_skip (w_skip rfl hc83) rfl rfl ?_
              refine XL_skip (w_skip rfl hc83) rfl rfl ?_
              refine XL_q rfl (qt_pickF rfl hc83 rfl) rfl rfl ?_
              exact hk _ (Cov.same (by rw [hc83]; rfl) (Cov.fresh rfl (Cov.fresh rfl (Cov.fresh rfl (Cov.fresh rfl (Cov.fresh rfl (Cov.refl)))))))
          refine XL_q rfl (qt_move rfl) rfl rfl ?_
          refine XL_join 9 65 (.bool (((decide ((IntKind.wrap .i64 (2 * x8)) ≤ p54)) && ((decide (x8 > 0)) == (decide (p54 > 0)))) && ((decide (x78 < 0)) || (decide (x78 ≥ (IntKind.wrap .i64 (x8 + 1))))))) ?_ (fun md hmd hk => ?_)
          rotate_left
          · obtain ⟨Q, rfl⟩ := Md.seq_of hmd
            rcases btf ((decide ((IntKind.wrap .i64 (2 * x8)) ≤ p54)) && ((decide (x8 > 0)) == (decide (p54 > 0)))) with hc84 | hc84
            · skip
              refine XL_q (w_take rfl hc84) (qt_move rfl) rfl rfl ?_
              refine XL_q (w_take rfl hc84) (qt_lss rfl rfl) rfl rfl ?_
              refine XL_q (w_take rfl hc84) (qt_move rfl) rfl rfl ?_
              refine XL_join 5 64 (.bool ((decide (x78 < 0)) || (decide (x78 ≥ (IntKind.wrap .i64 (x8 + 1)))))) ?_ (fun md hmd hk => ?_)
              rotate_left
              · obtain ⟨Q, rfl⟩ := Md.seq_of hmd
                rcases btf (decide (x78 < 0)) with hc85 | hc85
                · skip
                  refine XL_skip (w_skip rfl hc85) rfl rfl ?_
                  refine XL_skip (w_skip rfl hc85) rfl rfl ?_
                  refine XL_skip (w_skip rfl hc85) rfl rfl ?_
                  refine XL_skip (w_skip rfl hc85) rfl rfl ?_
                  refine XL_q (w_take rfl hc84) (qt_pickT rfl hc85 rfl) rfl rfl ?_
                  exact hk _ (Cov.same (by rw [hc85]; rfl) (Cov.fresh rfl (Cov.fresh rfl (Cov.fresh rfl (Cov.fresh rfl (Cov.refl))))))
                · skip
                  refine XL_q (w_take rfl hc85) (qt_move rfl) rfl rfl ?_
                  refine XL_q (w_take rfl hc85) (qt_move rfl) rfl rfl ?_
                  refine XL_q (w_take rfl hc85) (qt_add rfl rfl) rfl rfl ?_
                  refine XL_q (w_take rfl hc85) (qt_geq rfl rfl) rfl rfl ?_
                  refine XL_q (w_take rfl hc84) (qt_pickF rfl hc85 rfl) rfl rfl ?_
                  exact hk _ (Cov.same (by rw [hc85]; rfl) (Cov.fresh rfl (Cov.fresh rfl (Cov.fresh rfl (Cov.fresh rfl (Cov.refl))))))
              refine XL_q rfl (qt_pickT rfl hc84 rfl) rfl rfl ?_
              exact hk _ (Cov.same (by rw [hc84]; rfl) (Cov.fresh rfl (Cov.fresh rfl (Cov.fresh rfl (Cov.fresh rfl (Cov.refl))))))
            · skip
              refine XL_skip (w_skip rfl hc84) rfl rfl ?_
              refine XL_skip (w_skip rfl hc84) rfl rfl ?_
              refine XL_skip (w_skip rfl hc84) rfl rfl ?_
              refine XL_skip rfl rfl rfl ?_
              refine XL_skip rfl rfl rfl ?_
              refine XL_skip rfl rfl rfl ?_
              refine XL_skip rfl rfl rfl ?_
              refine XL_skip (w_skip rfl hc84) rfl rfl ?_
              refine XL_q rfl (qt_pickF rfl hc84 rfl) rfl rfl ?_
              exact hk _ (Cov.same (by rw [hc84]; rfl) (Cov.fresh rfl (Cov.fresh rfl (Cov.fresh rfl (Cov.fresh rfl (Cov.fresh rfl (Cov.fresh rfl (Cov.fresh rfl (Cov.fresh rfl (Cov.refl))))))))))
          refine XL_q rfl (qt_assign rfl) rfl rfl ?_
          refine WL_nil_seq ?_
          refine WP_ret fun a ha => ?_
          obtain rfl := Option.some.inj h
          have H86 : Holds (([] : List Res).flatMap Res.own) w w80 [] G := (((H82.cut 0).cut 0).cut 0)
          exact ret1 rfl ha rfl ⟨rfl, H86⟩
theorem w_spec_DrawSettleFast (w : World) (G : List Res) (vp0 : Value) (p0 : List Int) (hp0 : HasRo G (.int .u8) vp0 p0) (r : (List Int)) (h : spec_DrawSettleFastS p0 = some r) (H : Ctx w G) : Calls Tryd.prog 22 #[vp0] w fun e w' => ∃ (v1 : Value), e = .returned (v1) ∧ Holds (([] : List Res).flatMap Res.own) w w' [.sl 3 (.int .i64) v1 r] G := by
  have H : Holds (([] : List Res).flatMap Res.own) w w [] G := Holds.startN H
  refine calls_enter (args := [vp0]) (n := 6) Tryd.func22 rfl rfl rfl ?_
  unfold spec_DrawSettleFastS at h
  refine WP_seq ?_
  refine WP_region ?_
  refine XL_q rfl (qt_assign rfl) rfl rfl ?_
  refine WL_nil_seq ?_
  refine WP_seq ?_
  refine WP_region ?_
  refine XL_q rfl (qt_move rfl) rfl rfl ?_
  obtain ⟨x1, hx2, h⟩ := bind_some h
  refine WL_call rfl rfl c44 (w_spec_l20Open w G vp0 p0 (hp0) x1 hx2 H.ctx) (by rfl) ?_
  rintro _ w3 ⟨v5, b6, rfl, H4⟩; refine ⟨_, rfl, ?_⟩
  have H7 : Holds (([] : List Res).flatMap Res.own) w w3 [.ro (.int .u8) v5 x1.1, .bx b6 69 [v5, .int .i64 x1.2]] G := H.calledN (Rs := []) H4
  have H10 : Holds (([] : List Res).flatMap Res.own) w w3 [.bx b6 69 [v5, .int .i64 x1.2], .ro (.int .u8) v5 x1.1] G := H7.pull 1
  obtain ⟨x8, hx9, h⟩ := bind_some h
  refine WL_call rfl rfl c43 (w_spec_l20Owed w3 ([.ro (.int .u8) v5 x1.1] ++ G) b6 v5 x1.1 (HasRo.has (HasRo.hd)) x1.2 9 x8 hx9 H10.ctx) (by rfl) ?_
  rintro _ w11 ⟨v13, rfl, H12⟩; refine ⟨_, rfl, ?_⟩
  have H14 : Holds (([] : List Res).flatMap Res.own) w w11 [.sl 3 (.int .i64) v13 x8.2, .bx b6 69 [v5, .int .i64 x8.1], .ro (.int .u8) v5 x1.1] G := H10.calledN (Rs := [_]) H12
  refine XL_q rfl (qt_assign rfl) rfl rfl ?_
  refine WL_nil_seq ?_
  refine WP_ret fun a ha => ?_
  obtain rfl := Option.some.inj h
  have H15 : Holds (([] : List Res).flatMap Res.own) w w11 [.sl 3 (.int .i64) v13 x8.2] G := ((H14.cut 1).cut 1)
  exact ret1 rfl ha rfl ⟨v13, rfl, H15⟩
theorem w_impl_copyInts (w : World) (G : List Res) (vp0 : Value) (p0 : List Int) (hp0 : Has G (.int .i64) vp0 p0) (r : (List Int)) (h : impl_copyIntsS p0 = some r) (H : Ctx w G) : Calls Tryd.prog 54 #[vp0] w fun e w' => ∃ (v1 : Value), e = .returned (v1) ∧ Holds (([] : List Res).flatMap Res.own) w w' [.sl 3 (.int .i64) v1 r] G := by
  have H : Holds (([] : List Res).flatMap Res.own) w w [] G := Holds.startN H
  refine calls_enter (args := [vp0]) (n := 14) Tryd.func54 rfl rfl rfl ?_
  unfold impl_copyIntsS at h
  refine WP_seq ?_
  refine WP_region ?_
  refine XL_q rfl (qt_assign rfl) rfl rfl ?_
  refine WL_nil_seq ?_
  refine WP_seq ?_
  refine WP_seq ?_
  refine WP_region ?_
  refine XL_q rfl (qt_move rfl) rfl rfl ?_
  refine XL_lenH H.ctx (t := (.int .i64)) (hp0) u23 rfl rfl rfl ?_
  refine XL_q rfl (qt_eql rfl rfl) rfl rfl ?_
  refine WL_nil_seq ?_
  refine WP_cond rfl (fun hc1 => ?_) (fun hc1 => ?_)
  · have h := if_t hc1 h
    refine WP_seq ?_
    refine WP_region ?_
    refine XL_q rfl (qt_assign rfl) rfl rfl ?_
    refine WL_nil_seq ?_
    refine WP_ret fun a ha => ?_
    obtain rfl := Option.some.inj h
    have H2 : Holds (([] : List Res).flatMap Res.own) w w [.sl 3 (.int .i64) (.slice none 0 0) ([])] G := H.nilSl
    exact ret_seq (ret1 rfl ha rfl ⟨(.slice none 0 0), rfl, H2⟩)
  · have h := if_f hc1 h
    refine WP_skip_seq ?_
    refine WP_seq ?_
    refine WP_region ?_
    refine XL_q rfl (qt_move rfl) rfl rfl ?_
    refine XL_lenH H.ctx (t := (.int .i64)) (hp0) u23 rfl rfl rfl ?_
    obtain ⟨x3, hx4, h⟩ := bind_some h
    refine WL_makeH H hx4 u23 j3 rfl (fun _ => ⟨rfl, rfl⟩) rfl rfl rfl rfl rfl (fun v5 w6 H7 => ?_)
    have H8 : Holds (([] : List Res).flatMap Res.own) w w6 [.sl 3 (.int .i64) v5 x3] G := H7
    refine XL_q rfl (qt_assign rfl) rfl rfl ?_
    refine WL_nil_seq ?_
    refine WP_seq ?_
    refine WP_region ?_
    refine XL_q rfl (qt_move rfl) rfl rfl ?_
    refine XL_q rfl (qt_move rfl) rfl rfl ?_
    refine WL_copyH rfl H8 (hp0.c) rfl u23 i3 rfl rfl rfl rfl (fun w9 H10 => ?_)
    have H11 : Holds (([] : List Res).flatMap Res.own) w w9 [.sl 3 (.int .i64) v5 (List.take (List.length x3) p0 ++ List.drop (List.length p0) x3)] G := H10
    refine WL_nil_seq ?_
    refine WP_seq ?_
    refine WP_region ?_
    refine XL_q rfl (qt_move rfl) rfl rfl ?_
    refine XL_q rfl (qt_assign rfl) rfl rfl ?_
    refine WL_nil_seq ?_
    refine WP_ret fun a ha => ?_
    obtain rfl := Option.some.inj h
    exact ret1 rfl ha rfl ⟨v5, rfl, H11⟩
theorem w_impl_SettleFast (w : World) (G : List Res) (vp0 : Value) (p0 : List Int) (hp0 : Has G (.int .i64) vp0 p0) (r : (List (Int × Int × Int))) (h : impl_SettleFastS p0 = some r) (H : Ctx w G) : Calls Tryd.prog 23 #[vp0] w fun e w' => ∃ (v1 : Value), e = .returned (v1) ∧ Holds (([] : List Res).flatMap Res.own) w w' [.sl 40 (.pair (.int .i64) (.pair (.int .i64) (.int .i64))) v1 r] G := by
  have H : Holds (([] : List Res).flatMap Res.own) w w [] G := Holds.startN H
  refine calls_enter (args := [vp0]) (n := 79) Tryd.func23 rfl rfl rfl ?_
  unfold impl_SettleFastS at h
  refine WP_seq ?_
  refine WP_region ?_
  refine XL_q rfl (qt_assign rfl) rfl rfl ?_
  refine WL_nil_seq ?_
  refine WP_seq ?_
  refine WP_seq ?_
  refine WP_still ?_
  refine XL_q rfl (qt_move rfl) rfl rfl ?_
  obtain ⟨x1, hx2, h⟩ := bind_some h
  refine QL_call rfl rfl c13 (fun w' hb => (w_impl_OwedValid w' G vp0 p0 (hp0) x1 hx2 (H.grow hb).ctx).mono fun e w'' hK => ⟨hK.1, hK.2.bel⟩) (by rfl) ?_
  refine XL_q rfl (qt_not rfl) rfl rfl ?_
  refine XL_q rfl (qt_move rfl) rfl rfl ?_
  refine XL_join 4 17 (.bool ((!x1) || ((List.length p0 : Int) == 0))) ?_ (fun md hmd hk => ?_)
  rotate_left
  · obtain ⟨K, rfl⟩ := Md.quiet_of hmd
    rcases btf (!x1) with hc3 | hc3
    · skip
      refine XL_skip (w_skip rfl hc3) rfl rfl ?_
      refine XL_skip (w_skip rfl hc3) rfl rfl ?_
      refine XL_skip (w_skip rfl hc3) rfl rfl ?_
      refine XL_q rfl (qt_pickT rfl hc3 rfl) rfl rfl ?_
      exact hk _ (Cov.same (by rw [hc3]; rfl) (Cov.fresh rfl (Cov.fresh rfl (Cov.fresh rfl (Cov.refl)))))
    · skip
      refine XL_q (w_take rfl hc3) (qt_move rfl) rfl rfl ?_
      refine XL_lenH H.ctx (t := (.int .i64)) (hp0) u23 (w_take rfl hc3) rfl rfl ?_
      refine XL_q (w_take rfl hc3) (qt_eql rfl rfl) rfl rfl ?_
      refine XL_q rfl (qt_pickF rfl hc3 rfl) rfl rfl ?_
      exact hk _ (Cov.same (by rw [hc3]; rfl) (Cov.fresh rfl (Cov.fresh rfl (Cov.fresh rfl (Cov.refl)))))
  refine QL_nil fun a ha w4 hb5 => ?_
  have H6 : Holds (([] : List Res).flatMap Res.own) w w4 [] G := H.grow hb5
  refine nrm_seq (WP.app ?_ ha)
  refine WP_cond rfl (fun hc7 => ?_) (fun hc7 => ?_)
  · have h := if_t hc7 h
    refine WP_seq ?_
    refine WP_region ?_
    refine XL_q rfl (qt_assign rfl) rfl rfl ?_
    refine WL_nil_seq ?_
    refine WP_ret fun a ha => ?_
    obtain rfl := Option.some.inj h
    have H8 : Holds (([] : List Res).flatMap Res.own) w w4 [.sl 40 (.pair (.int .i64) (.pair (.int .i64) (.int .i64))) (.slice none 0 0) ([])] G := H6.nilSl
    exact ret_seq (ret1 rfl ha rfl ⟨(.slice none 0 0), rfl, H8⟩)
  · have h := if_f hc7 h
    refine WP_skip_seq ?_
    refine WP_seq ?_
    refine WP_region ?_
    refine XL_q rfl (qt_move rfl) rfl rfl ?_
    obtain ⟨x9, hx10, h⟩ := bind_some h
    refine WL_call rfl rfl c54 (w_impl_copyInts w4 G vp0 p0 (hp0) x9 hx10 H6.ctx) (by rfl) ?_
    rintro _ w11 ⟨v13, rfl, H12⟩; refine ⟨_, rfl, ?_⟩
    have H14 : Holds (([] : List Res).flatMap Res.own) w w11 [.sl 3 (.int .i64) v13 x9] G := H6.calledN (Rs := []) H12
    refine XL_q rfl (qt_assign rfl) rfl rfl ?_
    refine WL_nil_seq ?_
    refine WP_seq ?_
    refine WP_region ?_
    refine XL_q rfl (qt_assign rfl) rfl rfl ?_
    refine WL_nil_seq ?_
    refine WP_block ?_
    have H17 : Holds (([] : List Res).flatMap Res.own) w w11 [.sl 40 (.pair (.int .i64) (.pair (.int .i64) (.int .i64))) (.slice none 0 0) ([]), .sl 3 (.int .i64) v13 x9] G := H14.nilSl
    obtain ⟨o18, ho19, h⟩ := bind_some h
    have H22 : Holds (([] : List Res).flatMap Res.own) w w11 [.sl 3 (.int .i64) v13 x9, .sl 40 (.pair (.int .i64) (.pair (.int .i64) (.int .i64))) (.slice none 0 0) ([])] G := (H17.pull 1)
    refine fun a20 ha21 => wp_loop_fix (I := fun s a w2 => match s with | (s15, s16) => ∃ vs15, Fr a 79 [(3, v13), (4, vs15)] ∧ Holds (([] : List Res).flatMap Res.own) w w2 [.sl 3 (.int .i64) v13 s16, .sl 40 (.pair (.int .i64) (.pair (.int .i64) (.int .i64))) vs15 s15] G) (O := fun o e a w2 => match o with | (q0, q1) => e = .ret ∧ ∃ vq0, Fr a 79 [(2, vq0)] ∧ Holds (([] : List Res).flatMap Res.own) w w2 [.sl 40 (.pair (.int .i64) (.pair (.int .i64) (.int .i64))) vq0 q0] G) ho19 ?_ ?_ ?_
    · exact ⟨(.slice none 0 0), ha21.sub ⟨rfl, rfl, trivial⟩, H22⟩
    · clear ha21
      intro s o25 a w23 hs24 hI26
      obtain ⟨s15, s16⟩ := s
      obtain ⟨vs15, ha, H27⟩ := hI26
      refine WP.app ?_ ha
      clear ha
      refine WP_block ?_
      refine WP_seq ?_
      refine WP_region ?_
      refine XL_q rfl (qt_assign rfl) rfl rfl ?_
      refine XL_q rfl (qt_assign rfl) rfl rfl ?_
      refine WL_nil_seq ?_
      refine WP_seq ?_
      refine WP_seq ?_
      refine WP_region ?_
      refine XL_q rfl (qt_move rfl) rfl rfl ?_
      refine XL_lenH H27.ctx (t := (.int .i64)) (Has.hd) u23 rfl rfl rfl ?_
      refine XL_q rfl (qt_move rfl) rfl rfl ?_
      refine WL_nil_seq ?_
      refine WP_block ?_
      obtain ⟨o31, ho32, hs24⟩ := bind_some hs24
      have H35 : Holds (([] : List Res).flatMap Res.own) w w23 [.sl 3 (.int .i64) v13 s16, .sl 40 (.pair (.int .i64) (.pair (.int .i64) (.int .i64))) vs15 s15] G := ((H27.pull 1).pull 1)
      refine fun a33 ha34 => wp_loop_fix (I := fun s a w2 => match s with | (s28, s29, s30) => (Fr a 79 [(3, v13), (4, vs15), (5, .int .i64 s28), (6, .int .i64 s29), (20, v13), (21, .int .i64 (List.length s16 : Int)), (22, .int .i64 s30)] ∧ Holds (([] : List Res).flatMap Res.own) w w2 [.sl 3 (.int .i64) v13 s16, .sl 40 (.pair (.int .i64) (.pair (.int .i64) (.int .i64))) vs15 s15] G)) (O := fun o e a w2 => match o with | (q0, q1) => e = .exit 2 ∧ (Fr a 79 [(3, v13), (4, vs15), (5, .int .i64 q0), (6, .int .i64 q1)] ∧ Holds (([] : List Res).flatMap Res.own) w w2 [.sl 3 (.int .i64) v13 s16, .sl 40 (.pair (.int .i64) (.pair (.int .i64) (.int .i64))) vs15 s15] G)) ho32 ?_ ?_ ?_
      · exact ⟨ha34.sub ⟨rfl, rfl, rfl, rfl, rfl, rfl, rfl, trivial⟩, H35⟩
      · clear ha34
        intro s o38 a w36 hs37 hI39
        obtain ⟨s28, s29, s30⟩ := s
        obtain ⟨ha, H40⟩ := hI39
        refine WP.app ?_ ha
        clear ha
        refine WP_seq ?_
        refine WP_region ?_
        refine XL_q rfl (qt_lss rfl rfl) rfl rfl ?_
        refine WL_nil_seq ?_
        refine WP_seq ?_
        refine WP_cond rfl (fun hc41 => ?_) (fun hc41 => ?_)
        · have hs37 := if_t hc41 hs37
          refine WP_skip_seq ?_
          refine WP_seq ?_
          refine WP_block ?_
          refine WP_seq ?_
          refine WP_region ?_
          refine XL_q rfl (qt_move rfl) rfl rfl ?_
          obtain ⟨x42, hx43, hs37⟩ := bind_some hs37
          refine XL_indexH H40.ctx (Has.hd) hx43 u23 i3 rfl rfl rfl rfl (fun b44 off45 cap46 hv47 => ?_)
          obtain ⟨F48, hat49, hdup50⟩ := H40.at (Has.hd) hx43 hv47
          refine XL_load_int (k := .i64) u3 rfl hat49 rfl rfl rfl ?_
          refine XL_q rfl (qt_assign rfl) rfl rfl ?_
          refine XL_q rfl (qt_assign rfl) rfl rfl ?_
          refine WL_nil_seq ?_
          refine WP_seq ?_
          refine WP_seq ?_
          refine WP_region ?_
          refine XL_q rfl (qt_move rfl) rfl rfl ?_
          refine XL_q rfl (qt_move rfl) rfl rfl ?_
          refine XL_q rfl (qt_move rfl) rfl rfl ?_
          obtain ⟨x51, hx52, hs37⟩ := bind_some hs37
          refine XL_indexH H40.ctx (Has.hd) hx52 u23 i3 rfl rfl rfl rfl (fun b53 off54 cap55 hv56 => ?_)
          obtain ⟨F57, hat58, hdup59⟩ := H40.at (Has.hd) hx52 hv56
          refine XL_load_int (k := .i64) u3 rfl hat58 rfl rfl rfl ?_
          refine XL_q rfl (qt_lss rfl rfl) rfl rfl ?_
          refine WL_nil_seq ?_
          obtain ⟨o61, ho62, hs37⟩ := bind_some hs37
          obtain ⟨j60, rfl⟩ : ∃ z, z = o61 := ⟨o61, rfl⟩
          refine WP_join (M := fun a w2 => (Fr a 79 [(3, v13), (4, vs15), (5, .int .i64 j60), (6, .int .i64 s29), (7, .int .i64 s30), (8, .int .i64 x42), (20, v13), (21, .int .i64 (List.length s16 : Int)), (22, .int .i64 s30)] ∧ Holds (([] : List Res).flatMap Res.own) w w2 [.sl 3 (.int .i64) v13 s16, .sl 40 (.pair (.int .i64) (.pair (.int .i64) (.int .i64))) vs15 s15] G)) ?_ ?_
          · refine WP_cond rfl (fun hc63 => ?_) (fun hc63 => ?_)
            · have ho62 := if_t hc63 ho62
              refine WP_region ?_
              refine XL_q rfl (qt_move rfl) rfl rfl ?_
              refine XL_q rfl (qt_assign rfl) rfl rfl ?_
              refine WL_nil fun a ha => ?_
              obtain rfl := Option.some.inj ho62
              have H64 : Holds (([] : List Res).flatMap Res.own) w w36 [.sl 3 (.int .i64) v13 s16, .sl 40 (.pair (.int .i64) (.pair (.int .i64) (.int .i64))) vs15 s15] G := ((H40.pull 1).pull 1)
              exact nrm_seq (⟨ha.sub ⟨rfl, rfl, rfl, rfl, rfl, rfl, rfl, rfl, rfl, trivial⟩, H64⟩)
            · have ho62 := if_f hc63 ho62
              refine WP_skip fun a ha => ?_
              obtain rfl := Option.some.inj ho62
              have H65 : Holds (([] : List Res).flatMap Res.own) w w36 [.sl 3 (.int .i64) v13 s16, .sl 40 (.pair (.int .i64) (.pair (.int .i64) (.int .i64))) vs15 s15] G := ((H40.pull 1).pull 1)
              exact nrm_seq (⟨ha.sub ⟨rfl, rfl, rfl, rfl, rfl, rfl, rfl, rfl, rfl, trivial⟩, H65⟩)
          · intro a w66 hI67
            obtain ⟨ha, H68⟩ := hI67
            refine WP.app ?_ ha
            clear ha
            refine WP_seq ?_
            refine WP_region ?_
            refine XL_q rfl (qt_move rfl) rfl rfl ?_
            refine XL_q rfl (qt_move rfl) rfl rfl ?_
            refine XL_q rfl (qt_move rfl) rfl rfl ?_
            obtain ⟨x69, hx70, hs37⟩ := bind_some hs37
            refine XL_indexH H68.ctx (Has.hd) hx70 u23 i3 rfl rfl rfl rfl (fun b71 off72 cap73 hv74 => ?_)
            obtain ⟨F75, hat76, hdup77⟩ := H68.at (Has.hd) hx70 hv74
            refine XL_load_int (k := .i64) u3 rfl hat76 rfl rfl rfl ?_
            refine XL_q rfl (qt_gtr rfl rfl) rfl rfl ?_
            refine WL_nil_seq ?_
            refine WP_cond rfl (fun hc78 => ?_) (fun hc78 => ?_)
            · have hs37 := if_t hc78 hs37
              refine WP_region ?_
              refine XL_q rfl (qt_move rfl) rfl rfl ?_
              refine XL_q rfl (qt_assign rfl) rfl rfl ?_
              refine WL_nil fun a ha => ?_
              refine nrm_block (nrm_seq (WP.app ?_ ha))
              refine WP_region ?_
              refine XL_q rfl (qt_add rfl rfl) rfl rfl ?_
              refine XL_q rfl (qt_move rfl) rfl rfl ?_
              refine WL_nil fun a ha => ?_
              obtain rfl := Option.some.inj hs37
              have H79 : Holds (([] : List Res).flatMap Res.own) w w66 [.sl 3 (.int .i64) v13 s16, .sl 40 (.pair (.int .i64) (.pair (.int .i64) (.int .i64))) vs15 s15] G := ((H68.pull 1).pull 1)
              exact ⟨rfl, ha.sub ⟨rfl, rfl, rfl, rfl, rfl, rfl, rfl, trivial⟩, H79⟩
            · have hs37 := if_f hc78 hs37
              refine WP_skip fun a ha => ?_
              refine nrm_block (nrm_seq (WP.app ?_ ha))
              refine WP_region ?_
              refine XL_q rfl (qt_add rfl rfl) rfl rfl ?_
              refine XL_q rfl (qt_move rfl) rfl rfl ?_
              refine WL_nil fun a ha => ?_
              obtain rfl := Option.some.inj hs37
              have H80 : Holds (([] : List Res).flatMap Res.own) w w66 [.sl 3 (.int .i64) v13 s16, .sl 40 (.pair (.int .i64) (.pair (.int .i64) (.int .i64))) vs15 s15] G := ((H68.pull 1).pull 1)
              exact ⟨rfl, ha.sub ⟨rfl, rfl, rfl, rfl, rfl, rfl, rfl, trivial⟩, H80⟩
        · have hs37 := if_f hc41 hs37
          refine WP_exit fun a ha => ?_
          obtain rfl := Option.some.inj hs37
          have H81 : Holds (([] : List Res).flatMap Res.own) w w36 [.sl 3 (.int .i64) v13 s16, .sl 40 (.pair (.int .i64) (.pair (.int .i64) (.int .i64))) vs15 s15] G := ((H40.pull 1).pull 1)
          exact exit_seq (⟨exit_ne, rfl, ha.sub ⟨rfl, rfl, rfl, rfl, trivial⟩, H81⟩)
      · intro e a33 w82 hO83
        obtain ⟨p84, p85⟩ := o31
        obtain ⟨rfl, hO87⟩ := hO83
        obtain ⟨ha, H86⟩ := hO87
        refine exit_block_eq (nrm_seq (WP.app ?_ ha))
        refine WP_seq ?_
        refine WP_seq ?_
        refine WP_region ?_
        refine XL_q rfl (qt_move rfl) rfl rfl ?_
        refine XL_q rfl (qt_move rfl) rfl rfl ?_
        obtain ⟨x88, hx89, hs24⟩ := bind_some hs24
        refine XL_indexH H86.ctx (Has.hd) hx89 u23 i3 rfl rfl rfl rfl (fun b90 off91 cap92 hv93 => ?_)
        obtain ⟨F94, hat95, hdup96⟩ := H86.at (Has.hd) hx89 hv93
        refine XL_load_int (k := .i64) u3 rfl hat95 rfl rfl rfl ?_
        refine XL_q rfl (qt_geq rfl rfl) rfl rfl ?_
        refine WL_nil_seq ?_
        refine WP_cond rfl (fun hc97 => ?_) (fun hc97 => ?_)
        · have hs24 := if_t hc97 hs24
          refine WP_seq ?_
          refine WP_region ?_
          refine XL_q rfl (qt_move rfl) rfl rfl ?_
          refine XL_q rfl (qt_assign rfl) rfl rfl ?_
          refine WL_nil_seq ?_
          refine WP_ret fun a ha => ?_
          obtain rfl := Option.some.inj hs24
          have H98 : Holds (([] : List Res).flatMap Res.own) w w82 [.sl 40 (.pair (.int .i64) (.pair (.int .i64) (.int .i64))) vs15 s15] G := (H86.cut 0)
          exact ret_seq (ret_block (⟨ret_ne, rfl, vs15, ha.sub ⟨rfl, trivial⟩, H98⟩))
        · have hs24 := if_f hc97 hs24
          refine WP_skip_seq ?_
          refine WP_seq ?_
          refine WP_quiet (by kernel_rfl) (by kernel_rfl) ?_
          refine XL_q rfl (qt_move rfl) rfl rfl ?_
          refine XL_q rfl (qt_move rfl) rfl rfl ?_
          obtain ⟨x99, hx100, hs24⟩ := bind_some hs24
          refine XL_indexH H86.ctx (Has.hd) hx100 u23 i3 rfl rfl rfl rfl (fun b101 off102 cap103 hv104 => ?_)
          obtain ⟨F105, hat106, hdup107⟩ := H86.at (Has.hd) hx100 hv104
          refine XL_load_int (k := .i64) u3 rfl hat106 rfl rfl rfl ?_
          refine XL_q rfl (qt_neg rfl) rfl rfl ?_
          refine XL_q rfl (qt_move rfl) rfl rfl ?_
          refine XL_q rfl (qt_move rfl) rfl rfl ?_
          obtain ⟨x108, hx109, hs24⟩ := bind_some hs24
          refine XL_indexH H86.ctx (Has.hd) hx109 u23 i3 rfl rfl rfl rfl (fun b110 off111 cap112 hv113 => ?_)
          obtain ⟨F114, hat115, hdup116⟩ := H86.at (Has.hd) hx109 hv113
          refine XL_load_int (k := .i64) u3 rfl hat115 rfl rfl rfl ?_
          refine XL_q rfl (qt_min rfl rfl) rfl rfl ?_
          refine XL_q rfl (qt_assign rfl) rfl rfl ?_
          refine QL_nil fun a ha w117 hb118 => ?_
          have H119 : Holds (([] : List Res).flatMap Res.own) w w117 [.sl 3 (.int .i64) v13 s16, .sl 40 (.pair (.int .i64) (.pair (.int .i64) (.int .i64))) vs15 s15] G := H86.grow hb118
          refine nrm_seq (WP.app ?_ ha)
          refine WP_seq ?_
          refine WP_region ?_
          refine XL_q rfl (qt_move rfl) rfl rfl ?_
          refine XL_q rfl (qt_move rfl) rfl rfl ?_
          obtain ⟨x120, hx121, hs24⟩ := bind_some hs24
          refine XL_indexH H119.ctx (Has.hd) hx121 u23 i3 rfl rfl rfl rfl (fun b122 off123 cap124 hv125 => ?_)
          obtain ⟨F126, hat127, hdup128⟩ := H119.at (Has.hd) hx121 hv125
          refine XL_load_int (k := .i64) u3 rfl hat127 rfl rfl rfl ?_
          refine XL_q rfl (qt_move rfl) rfl rfl ?_
          refine XL_q rfl (qt_add rfl rfl) rfl rfl ?_
          obtain ⟨x129, hx130, hs24⟩ := bind_some hs24
          refine XL_indexH H119.ctx (Has.hd) hx130 u23 i3 rfl rfl rfl rfl (fun b131 off132 cap133 hv134 => ?_)
          refine WL_storeH (fo := 0) (cs' := [.int .i64 (IntKind.wrap .i64 (x120 + (if x108 < (IntKind.wrap .i64 (-x99)) then x108 else IntKind.wrap .i64 (-x99))))]) H119 hx130 hv134 (Upd.whole (Blt.int)) rfl il3 rfl rfl rfl rfl (fun w135 H136 => ?_)
          have H137 : Holds (([] : List Res).flatMap Res.own) w w135 [.sl 3 (.int .i64) v13 (List.set s16 (Int.toNat p84) (IntKind.wrap .i64 (x120 + (if x108 < (IntKind.wrap .i64 (-x99)) then x108 else IntKind.wrap .i64 (-x99))))), .sl 40 (.pair (.int .i64) (.pair (.int .i64) (.int .i64))) vs15 s15] G := H136
          refine WL_nil_seq ?_
          refine WP_seq ?_
          refine WP_region ?_
          refine XL_q rfl (qt_move rfl) rfl rfl ?_
          refine XL_q rfl (qt_move rfl) rfl rfl ?_
          obtain ⟨x138, hx139, hs24⟩ := bind_some hs24
          refine XL_indexH H137.ctx (Has.hd) hx139 u23 i3 rfl rfl rfl rfl (fun b140 off141 cap142 hv143 => ?_)
          obtain ⟨F144, hat145, hdup146⟩ := H137.at (Has.hd) hx139 hv143
          refine XL_load_int (k := .i64) u3 rfl hat145 rfl rfl rfl ?_
          refine XL_q rfl (qt_move rfl) rfl rfl ?_
          refine XL_q rfl (qt_sub rfl rfl) rfl rfl ?_
          obtain ⟨x147, hx148, hs24⟩ := bind_some hs24
          refine XL_indexH H137.ctx (Has.hd) hx148 u23 i3 rfl rfl rfl rfl (fun b149 off150 cap151 hv152 => ?_)
          refine WL_storeH (fo := 0) (cs' := [.int .i64 (IntKind.wrap .i64 (x138 - (if x108 < (IntKind.wrap .i64 (-x99)) then x108 else IntKind.wrap .i64 (-x99))))]) H137 hx148 hv152 (Upd.whole (Blt.int)) rfl il3 rfl rfl rfl rfl (fun w153 H154 => ?_)
          have H155 : Holds (([] : List Res).flatMap Res.own) w w153 [.sl 3 (.int .i64) v13 (List.set (List.set s16 (Int.toNat p84) (IntKind.wrap .i64 (x120 + (if x108 < (IntKind.wrap .i64 (-x99)) then x108 else IntKind.wrap .i64 (-x99))))) (Int.toNat p85) (IntKind.wrap .i64 (x138 - (if x108 < (IntKind.wrap .i64 (-x99)) then x108 else IntKind.wrap .i64 (-x99))))), .sl 40 (.pair (.int .i64) (.pair (.int .i64) (.int .i64))) vs15 s15] G := H154
          refine WL_nil_seq ?_
          refine WP_region ?_
          refine XL_q rfl (qt_move rfl) rfl rfl ?_
          refine XL_q rfl (qt_move rfl) rfl rfl ?_
          refine XL_q rfl (qt_move rfl) rfl rfl ?_
          refine XL_q rfl (qt_move rfl) rfl rfl ?_
          refine XL_q rfl (qt_build (args := [(0, .tmp 73), (1, .tmp 74), (2, .tmp 75)]) (css := [#[.int .i64 p84], #[.int .i64 p85], #[.int .i64 (if x108 < (IntKind.wrap .i64 (-x99)) then x108 else IntKind.wrap .i64 (-x99))]]) (cells := #[.int .i64 p84, .int .i64 p85, .int .i64 (if x108 < (IntKind.wrap .i64 (-x99)) then x108 else IntKind.wrap .i64 (-x99))]) rfl ⟨rfl, rfl, rfl, trivial⟩ (by kernel_rfl)) rfl rfl ?_
          refine WL_buildH (t := (.pair (.int .i64) (.pair (.int .i64) (.int .i64)))) (args := [.tmp 76]) (xs := ([(p84, p85, (if x108 < (IntKind.wrap .i64 (-x99)) then x108 else IntKind.wrap .i64 (-x99)))] : List (Int × Int × Int))) H155 (BltL.cons (Blt.pair (Blt.int) (Blt.pair (Blt.int) (Blt.int))) rfl (BltL.nil)) u29 j40 rfl rfl rfl rfl rfl rfl (fun v156 w157 H158 => ?_)
          have H159 : Holds (([] : List Res).flatMap Res.own) w w157 [.sl 40 (.pair (.int .i64) (.pair (.int .i64) (.int .i64))) v156 ([(p84, p85, (if x108 < (IntKind.wrap .i64 (-x99)) then x108 else IntKind.wrap .i64 (-x99)))]), .sl 3 (.int .i64) v13 (List.set (List.set s16 (Int.toNat p84) (IntKind.wrap .i64 (x120 + (if x108 < (IntKind.wrap .i64 (-x99)) then x108 else IntKind.wrap .i64 (-x99))))) (Int.toNat p85) (IntKind.wrap .i64 (x138 - (if x108 < (IntKind.wrap .i64 (-x99)) then x108 else IntKind.wrap .i64 (-x99))))), .sl 40 (.pair (.int .i64) (.pair (.int .i64) (.int .i64))) vs15 s15] G := H158
          have H160 : Holds (([] : List Res).flatMap Res.own) w w157 [.sl 40 (.pair (.int .i64) (.pair (.int .i64) (.int .i64))) vs15 s15, .sl 40 (.pair (.int .i64) (.pair (.int .i64) (.int .i64))) v156 ([(p84, p85, (if x108 < (IntKind.wrap .i64 (-x99)) then x108 else IntKind.wrap .i64 (-x99)))]), .sl 3 (.int .i64) v13 (List.set (List.set s16 (Int.toNat p84) (IntKind.wrap .i64 (x120 + (if x108 < (IntKind.wrap .i64 (-x99)) then x108 else IntKind.wrap .i64 (-x99))))) (Int.toNat p85) (IntKind.wrap .i64 (x138 - (if x108 < (IntKind.wrap .i64 (-x99)) then x108 else IntKind.wrap .i64 (-x99)))))] G := H159.pull 2
          obtain ⟨x161, hx162, hs24⟩ := bind_some hs24
          refine WL_appendH H160 (Has.c (Has.hd)) hx162 u29 j40 rfl rfl rfl rfl rfl rfl (fun v163 w164 H165 => ?_)
          have H166 : Holds (([] : List Res).flatMap Res.own) w w164 [.sl 40 (.pair (.int .i64) (.pair (.int .i64) (.int .i64))) v163 x161, .sl 40 (.pair (.int .i64) (.pair (.int .i64) (.int .i64))) v156 ([(p84, p85, (if x108 < (IntKind.wrap .i64 (-x99)) then x108 else IntKind.wrap .i64 (-x99)))]), .sl 3 (.int .i64) v13 (List.set (List.set s16 (Int.toNat p84) (IntKind.wrap .i64 (x120 + (if x108 < (IntKind.wrap .i64 (-x99)) then x108 else IntKind.wrap .i64 (-x99))))) (Int.toNat p85) (IntKind.wrap .i64 (x138 - (if x108 < (IntKind.wrap .i64 (-x99)) then x108 else IntKind.wrap .i64 (-x99)))))] G := H165
          refine XL_q rfl (qt_assign rfl) rfl rfl ?_
          refine WL_nil fun a ha => ?_
          obtain rfl := Option.some.inj hs24
          have H167 : Holds (([] : List Res).flatMap Res.own) w w164 [.sl 3 (.int .i64) v13 (List.set (List.set s16 (Int.toNat p84) (IntKind.wrap .i64 (x120 + (if x108 < (IntKind.wrap .i64 (-x99)) then x108 else IntKind.wrap .i64 (-x99))))) (Int.toNat p85) (IntKind.wrap .i64 (x138 - (if x108 < (IntKind.wrap .i64 (-x99)) then x108 else IntKind.wrap .i64 (-x99))))), .sl 40 (.pair (.int .i64) (.pair (.int .i64) (.int .i64))) v163 x161] G := ((H166.cut 1).pull 1)
          exact nrm_block (⟨rfl, v163, ha.sub ⟨rfl, rfl, trivial⟩, H167⟩)
    · intro e a20 w168 hO169
      obtain ⟨p170, p171⟩ := o18
      obtain ⟨rfl, hO173⟩ := hO169
      obtain ⟨vp170, ha, H172⟩ := hO173
      obtain rfl := Option.some.inj h
      exact ret_block (ret1 rfl ha rfl ⟨vp170, rfl, H172⟩)
theorem w_spec_SettleFast (w : World) (G : List Res) (vp0 : Value) (p0 : List Int) (hp0 : Has G (.int .i64) vp0 p0) (r : (List (Int × Int × Int))) (h : spec_SettleFastS p0 = some r) (H : Ctx w G) : Calls Tryd.prog 25 #[vp0] w fun e w' => ∃ (v1 : Value), e = .returned (v1) ∧ Holds (([] : List Res).flatMap Res.own) w w' [.sl 40 (.pair (.int .i64) (.pair (.int .i64) (.int .i64))) v1 r] G := by
  have H : Holds (([] : List Res).flatMap Res.own) w w [] G := Holds.startN H
  refine calls_enter (args := [vp0]) (n := 107) Tryd.func25 rfl rfl rfl ?_
  unfold spec_SettleFastS at h
  refine WP_seq ?_
  refine WP_region ?_
  refine XL_q rfl (qt_assign rfl) rfl rfl ?_
  refine WL_nil_seq ?_
  refine WP_seq ?_
  refine WP_region ?_
  refine WL_buildH (t := (.pair (.int .i64) (.pair (.int .i64) (.int .i64)))) (args := []) (xs := ([] : List (Int × Int × Int))) H (BltL.nil) u29 j40 rfl rfl rfl rfl rfl rfl (fun v1 w2 H3 => ?_)
  have H4 : Holds (([] : List Res).flatMap Res.own) w w2 [.sl 40 (.pair (.int .i64) (.pair (.int .i64) (.int .i64))) v1 ([])] G := H3
  refine XL_q rfl (qt_assign rfl) rfl rfl ?_
  refine WL_nil_seq ?_
  refine WP_seq ?_
  refine WP_seq ?_
  refine WP_still ?_
  refine XL_q rfl (qt_move rfl) rfl rfl ?_
  obtain ⟨x5, hx6, h⟩ := bind_some h
  refine QL_call rfl rfl c14 (fun w' hb => (w_spec_OwedValid w' ([.sl 40 (.pair (.int .i64) (.pair (.int .i64) (.int .i64))) v1 ([])] ++ G) vp0 p0 (hp0.c) x5 hx6 (H4.grow hb).ctx).mono fun e w'' hK => ⟨hK.1, hK.2.bel⟩) (by rfl) ?_
  refine XL_q rfl (qt_not rfl) rfl rfl ?_
  refine QL_nil fun a ha w7 hb8 => ?_
  have H9 : Holds (([] : List Res).flatMap Res.own) w w7 [.sl 40 (.pair (.int .i64) (.pair (.int .i64) (.int .i64))) v1 ([])] G := H4.grow hb8
  refine nrm_seq (WP.app ?_ ha)
  refine WP_cond rfl (fun hc10 => ?_) (fun hc10 => ?_)
  · have h := if_t hc10 h
    refine WP_seq ?_
    refine WP_region ?_
    refine XL_q rfl (qt_move rfl) rfl rfl ?_
    refine XL_q rfl (qt_assign rfl) rfl rfl ?_
    refine WL_nil_seq ?_
    refine WP_ret fun a ha => ?_
    obtain rfl := Option.some.inj h
    exact ret_seq (ret1 rfl ha rfl ⟨v1, rfl, H9⟩)
  · have h := if_f hc10 h
    refine WP_skip_seq ?_
    refine WP_seq ?_
    refine WP_region ?_
    refine WL_buildH (t := (.int .i64)) (args := []) (xs := ([] : List Int)) H9 (BltL.nil) u23 j3 rfl rfl rfl rfl rfl rfl (fun v11 w12 H13 => ?_)
    have H14 : Holds (([] : List Res).flatMap Res.own) w w12 [.sl 3 (.int .i64) v11 ([]), .sl 40 (.pair (.int .i64) (.pair (.int .i64) (.int .i64))) v1 ([])] G := H13
    refine XL_q rfl (qt_move rfl) rfl rfl ?_
    obtain ⟨x15, hx16, h⟩ := bind_some h
    refine WL_appendH H14 (hp0.c.c) hx16 u23 j3 rfl rfl rfl rfl rfl rfl (fun v17 w18 H19 => ?_)
    have H20 : Holds (([] : List Res).flatMap Res.own) w w18 [.sl 3 (.int .i64) v17 x15, .sl 40 (.pair (.int .i64) (.pair (.int .i64) (.int .i64))) v1 ([])] G := H19
    refine XL_q rfl (qt_assign rfl) rfl rfl ?_
    refine WL_nil_seq ?_
    refine WP_block ?_
    obtain ⟨o23, ho24, h⟩ := bind_some h
    have H27 : Holds (([] : List Res).flatMap Res.own) w w18 [.sl 40 (.pair (.int .i64) (.pair (.int .i64) (.int .i64))) v1 ([]), .sl 3 (.int .i64) v17 x15] G := (H20.pull 1)
    refine fun a25 ha26 => wp_loop_fix (I := fun s a w2 => match s with | (s21, s22) => ∃ vs21, Fr a 107 [(3, vs21), (4, v17)] ∧ Holds (([] : List Res).flatMap Res.own) w w2 [.sl 40 (.pair (.int .i64) (.pair (.int .i64) (.int .i64))) vs21 s21, .sl 3 (.int .i64) v17 s22] G) (O := fun o e a w2 => match o with | (q0, q1) => e = .ret ∧ ∃ vq0, Fr a 107 [(2, vq0)] ∧ Holds (([] : List Res).flatMap Res.own) w w2 [.sl 40 (.pair (.int .i64) (.pair (.int .i64) (.int .i64))) vq0 q0] G) ho24 ?_ ?_ ?_
    · exact ⟨v1, ha26.sub ⟨rfl, rfl, trivial⟩, H27⟩
    · clear ha26
      intro s o30 a w28 hs29 hI31
      obtain ⟨s21, s22⟩ := s
      obtain ⟨vs21, ha, H32⟩ := hI31
      refine WP.app ?_ ha
      clear ha
      refine WP_block ?_
      refine WP_seq ?_
      refine WP_region ?_
      refine XL_q rfl (qt_assign rfl) rfl rfl ?_
      refine WL_nil_seq ?_
      refine WP_seq ?_
      refine WP_region ?_
      refine XL_q rfl (qt_assign rfl) rfl rfl ?_
      refine WL_nil_seq ?_
      refine WP_seq ?_
      refine WP_seq ?_
      refine WP_region ?_
      refine XL_q rfl (qt_assign rfl) rfl rfl ?_
      refine WL_nil_seq ?_
      refine WP_block ?_
      obtain ⟨o36, ho37, hs29⟩ := bind_some hs29
      have H40 : Holds (([] : List Res).flatMap Res.own) w w28 [.sl 40 (.pair (.int .i64) (.pair (.int .i64) (.int .i64))) vs21 s21, .sl 3 (.int .i64) v17 s22] G := ((H32.pull 1).pull 1)
      refine fun a38 ha39 => wp_loop_fix (I := fun s a w2 => match s with | (s33, s34, s35) => (Fr a 107 [(3, vs21), (4, v17), (5, .int .i64 s33), (6, .int .i64 s34), (7, .int .i64 s35)] ∧ Holds (([] : List Res).flatMap Res.own) w w2 [.sl 40 (.pair (.int .i64) (.pair (.int .i64) (.int .i64))) vs21 s21, .sl 3 (.int .i64) v17 s22] G)) (O := fun o e a w2 => match o with | (q0, q1) => e = .exit 2 ∧ (Fr a 107 [(3, vs21), (4, v17), (5, .int .i64 q0), (6, .int .i64 q1)] ∧ Holds (([] : List Res).flatMap Res.own) w w2 [.sl 40 (.pair (.int .i64) (.pair (.int .i64) (.int .i64))) vs21 s21, .sl 3 (.int .i64) v17 s22] G)) ho37 ?_ ?_ ?_
      · exact ⟨ha39.sub ⟨rfl, rfl, rfl, rfl, rfl, trivial⟩, H40⟩
      · clear ha39
        intro s o43 a w41 hs42 hI44
        obtain ⟨s33, s34, s35⟩ := s
        obtain ⟨ha, H45⟩ := hI44
        refine WP.app ?_ ha
        clear ha
        refine WP_seq ?_
        refine WP_seq ?_
        refine WP_region ?_
        refine XL_q rfl (qt_move rfl) rfl rfl ?_
        refine XL_q rfl (qt_move rfl) rfl rfl ?_
        refine XL_lenH H45.ctx (t := (.int .i64)) (Has.c (Has.hd)) u23 rfl rfl rfl ?_
        refine XL_q rfl (qt_lss rfl rfl) rfl rfl ?_
        refine WL_nil_seq ?_
        refine WP_cond rfl (fun hc46 => ?_) (fun hc46 => ?_)
        · have hs42 := if_t hc46 hs42
          refine WP_skip_seq ?_
          refine WP_seq ?_
          refine WP_block ?_
          refine WP_seq ?_
          refine WP_seq ?_
          refine WP_quiet (by kernel_rfl) (by kernel_rfl) ?_
          refine XL_q rfl (qt_move rfl) rfl rfl ?_
          refine XL_q rfl (qt_move rfl) rfl rfl ?_
          obtain ⟨x47, hx48, hs42⟩ := bind_some hs42
          refine XL_indexH H45.ctx (Has.c (Has.hd)) hx48 u23 i3 rfl rfl rfl rfl (fun b49 off50 cap51 hv52 => ?_)
          obtain ⟨F53, hat54, hdup55⟩ := H45.at (Has.c (Has.hd)) hx48 hv52
          refine XL_load_int (k := .i64) u3 rfl hat54 rfl rfl rfl ?_
          refine XL_q rfl (qt_lss rfl rfl) rfl rfl ?_
          refine XL_q rfl (qt_move rfl) rfl rfl ?_
          obtain ⟨b56, hg57, hs42⟩ := bind_some hs42
          refine XL_join 14 42 (.bool b56) ?_ (fun md hmd hk => ?_)
          rotate_left
          · obtain ⟨K, rfl⟩ := Md.quiet_of hmd
            rcases btf (decide (x47 < 0)) with hc58 | hc58
            · skip
              have hg57 := if_t hc58 hg57
              refine XL_q (w_take rfl hc58) (qt_move rfl) rfl rfl ?_
              refine XL_q (w_take rfl hc58) (qt_lss rfl rfl) rfl rfl ?_
              refine XL_q (w_take rfl hc58) (qt_move rfl) rfl rfl ?_
              obtain ⟨b59, hg60, hg57⟩ := bind_some hg57
              refine XL_join 10 41 (.bool b59) ?_ (fun md hmd hk => ?_)
              rotate_left
              · obtain ⟨K, rfl⟩ := Md.quiet_of hmd
                rcases btf (decide (s33 < 0)) with hc61 | hc61
                · skip
                  refine XL_skip (w_skip rfl hc61) rfl rfl ?_
                  refine XL_skip (w_skip rfl hc61) rfl rfl ?_
                  refine XL_skip (w_skip rfl hc61) rfl rfl ?_
                  refine XL_skip (w_skip rfl hc61) rfl rfl ?_
                  refine XL_skip (w_skip rfl hc61) rfl rfl ?_
                  refine XL_skip (w_skip rfl hc61) rfl rfl ?_
                  refine XL_skip (w_skip rfl hc61) rfl rfl ?_
                  refine XL_skip (w_skip rfl hc61) rfl rfl ?_
                  refine XL_skip (w_skip rfl hc61) rfl rfl ?_
                  refine XL_q (w_take rfl hc58) (qt_pickT rfl hc61 rfl) rfl rfl ?_
                  exact hk _ (Cov.same (vb (if_t hc61 hg60)) (Cov.fresh rfl (Cov.fresh rfl (Cov.fresh rfl (Cov.fresh rfl (Cov.fresh rfl (Cov.fresh rfl (Cov.fresh rfl (Cov.fresh rfl (Cov.fresh rfl (Cov.refl)))))))))))
                · skip
                  have hg60 := if_f hc61 hg60
                  refine XL_q (w_take rfl hc61) (qt_move rfl) rfl rfl ?_
                  refine XL_q (w_take rfl hc61) (qt_move rfl) rfl rfl ?_
                  obtain ⟨x62, hx63, hg60⟩ := bind_some hg60
                  refine XL_indexH H45.ctx (Has.c (Has.hd)) hx63 u23 i3 (w_take rfl hc61) rfl rfl rfl (fun b64 off65 cap66 hv67 => ?_)
                  obtain ⟨F68, hat69, hdup70⟩ := H45.at (Has.c (Has.hd)) hx63 hv67
                  refine XL_load_int (k := .i64) u3 rfl hat69 (w_take rfl hc61) rfl rfl ?_
                  refine XL_q (w_take rfl hc61) (qt_move rfl) rfl rfl ?_
                  refine XL_q (w_take rfl hc61) (qt_move rfl) rfl rfl ?_
                  obtain ⟨x71, hx72, hg60⟩ := bind_some hg60
                  refine XL_indexH H45.ctx (Has.c (Has.hd)) hx72 u23 i3 (w_take rfl hc61) rfl rfl rfl (fun b73 off74 cap75 hv76 => ?_)
                  obtain ⟨F77, hat78, hdup79⟩ := H45.at (Has.c (Has.hd)) hx72 hv76
                  refine XL_load_int (k := .i64) u3 rfl hat78 (w_take rfl hc61) rfl rfl ?_
                  refine XL_q (w_take rfl hc61) (qt_lss rfl rfl) rfl rfl ?_
                  refine XL_q (w_take rfl hc58) (qt_pickF rfl hc61 rfl) rfl rfl ?_
                  exact hk _ (Cov.same (vb hg60) (Cov.fresh rfl (Cov.fresh rfl (Cov.fresh rfl (Cov.fresh rfl (Cov.fresh rfl (Cov.fresh rfl (Cov.fresh rfl (Cov.fresh rfl (Cov.fresh rfl (Cov.refl)))))))))))
              refine XL_q rfl (qt_pickT rfl hc58 rfl) rfl rfl ?_
              exact hk _ (Cov.same (vb hg57) (Cov.fresh rfl (Cov.fresh rfl (Cov.fresh rfl (Cov.fresh rfl (Cov.refl))))))
            · skip
              refine XL_skip (w_skip rfl hc58) rfl rfl ?_
              refine XL_skip (w_skip rfl hc58) rfl rfl ?_
              refine XL_skip (w_skip rfl hc58) rfl rfl ?_
              refine XL_skip rfl rfl rfl ?_
              refine XL_skip rfl rfl rfl ?_
              refine XL_skip rfl rfl rfl ?_
              refine XL_skip rfl rfl rfl ?_
              refine XL_skip rfl rfl rfl ?_
              refine XL_skip rfl rfl rfl ?_
              refine XL_skip rfl rfl rfl ?_
              refine XL_skip rfl rfl rfl ?_
              refine XL_skip rfl rfl rfl ?_
              refine XL_skip (w_skip rfl hc58) rfl rfl ?_
              refine XL_q rfl (qt_pickF rfl hc58 rfl) rfl rfl ?_
              exact hk _ (Cov.same (vb (if_f hc58 hg57)) (Cov.fresh rfl (Cov.fresh rfl (Cov.fresh rfl (Cov.fresh rfl (Cov.fresh rfl (Cov.fresh rfl (Cov.fresh rfl (Cov.fresh rfl (Cov.fresh rfl (Cov.fresh rfl (Cov.fresh rfl (Cov.fresh rfl (Cov.fresh rfl (Cov.refl)))))))))))))))
          refine QL_nil fun a ha w80 hb81 => ?_
          have H82 : Holds (([] : List Res).flatMap Res.own) w w80 [.sl 40 (.pair (.int .i64) (.pair (.int .i64) (.int .i64))) vs21 s21, .sl 3 (.int .i64) v17 s22] G := H45.grow hb81
          refine nrm_seq (WP.app ?_ ha)
          obtain ⟨o84, ho85, hs42⟩ := bind_some hs42
          obtain ⟨j83, rfl⟩ : ∃ z, z = o84 := ⟨o84, rfl⟩
          refine WP_join (M := fun a w2 => (Fr a 107 [(3, vs21), (4, v17), (5, .int .i64 j83), (6, .int .i64 s34), (7, .int .i64 s35)] ∧ Holds (([] : List Res).flatMap Res.own) w w2 [.sl 40 (.pair (.int .i64) (.pair (.int .i64) (.int .i64))) vs21 s21, .sl 3 (.int .i64) v17 s22] G)) ?_ ?_
          · refine WP_cond rfl (fun hc86 => ?_) (fun hc86 => ?_)
            · have ho85 := if_t hc86 ho85
              refine WP_region ?_
              refine XL_q rfl (qt_move rfl) rfl rfl ?_
              refine XL_q rfl (qt_assign rfl) rfl rfl ?_
              refine WL_nil fun a ha => ?_
              obtain rfl := Option.some.inj ho85
              have H87 : Holds (([] : List Res).flatMap Res.own) w w80 [.sl 40 (.pair (.int .i64) (.pair (.int .i64) (.int .i64))) vs21 s21, .sl 3 (.int .i64) v17 s22] G := ((H82.pull 1).pull 1)
              exact nrm_seq (⟨ha.sub ⟨rfl, rfl, rfl, rfl, rfl, trivial⟩, H87⟩)
            · have ho85 := if_f hc86 ho85
              refine WP_skip fun a ha => ?_
              obtain rfl := Option.some.inj ho85
              have H88 : Holds (([] : List Res).flatMap Res.own) w w80 [.sl 40 (.pair (.int .i64) (.pair (.int .i64) (.int .i64))) vs21 s21, .sl 3 (.int .i64) v17 s22] G := ((H82.pull 1).pull 1)
              exact nrm_seq (⟨ha.sub ⟨rfl, rfl, rfl, rfl, rfl, trivial⟩, H88⟩)
          · intro a w89 hI90
            obtain ⟨ha, H91⟩ := hI90
            refine WP.app ?_ ha
            clear ha
            refine WP_seq ?_
            refine WP_quiet (by kernel_rfl) (by kernel_rfl) ?_
            refine XL_q rfl (qt_move rfl) rfl rfl ?_
            refine XL_q rfl (qt_move rfl) rfl rfl ?_
            obtain ⟨x92, hx93, hs42⟩ := bind_some hs42
            refine XL_indexH H91.ctx (Has.c (Has.hd)) hx93 u23 i3 rfl rfl rfl rfl (fun b94 off95 cap96 hv97 => ?_)
            obtain ⟨F98, hat99, hdup100⟩ := H91.at (Has.c (Has.hd)) hx93 hv97
            refine XL_load_int (k := .i64) u3 rfl hat99 rfl rfl rfl ?_
            refine XL_q rfl (qt_gtr rfl rfl) rfl rfl ?_
            refine XL_q rfl (qt_move rfl) rfl rfl ?_
            obtain ⟨b101, hg102, hs42⟩ := bind_some hs42
            refine XL_join 14 63 (.bool b101) ?_ (fun md hmd hk => ?_)
            rotate_left
            · obtain ⟨K, rfl⟩ := Md.quiet_of hmd
              rcases btf (decide (x92 > 0)) with hc103 | hc103
              · skip
                have hg102 := if_t hc103 hg102
                refine XL_q (w_take rfl hc103) (qt_move rfl) rfl rfl ?_
                refine XL_q (w_take rfl hc103) (qt_lss rfl rfl) rfl rfl ?_
                refine XL_q (w_take rfl hc103) (qt_move rfl) rfl rfl ?_
                obtain ⟨b104, hg105, hg102⟩ := bind_some hg102
                refine XL_join 10 62 (.bool b104) ?_ (fun md hmd hk => ?_)
                rotate_left
                · obtain ⟨K, rfl⟩ := Md.quiet_of hmd
                  rcases btf (decide (s34 < 0)) with hc106 | hc106
                  · skip
                    refine XL_skip (w_skip rfl hc106) rfl rfl ?_
                    refine XL_skip (w_skip rfl hc106) rfl rfl ?_
                    refine XL_skip (w_skip rfl hc106) rfl rfl ?_
                    refine XL_skip (w_skip rfl hc106) rfl rfl ?_
                    refine XL_skip (w_skip rfl hc106) rfl rfl ?_
                    refine XL_skip (w_skip rfl hc106) rfl rfl ?_
                    refine XL_skip (w_skip rfl hc106) rfl rfl ?_
                    refine XL_skip (w_skip rfl hc106) rfl rfl ?_
                    refine XL_skip (w_skip rfl hc106) rfl rfl ?_
                    refine XL_q (w_take rfl hc103) (qt_pickT rfl hc106 rfl) rfl rfl ?_
                    exact hk _ (Cov.same (vb (if_t hc106 hg105)) (Cov.fresh rfl (Cov.fresh rfl (Cov.fresh rfl (Cov.fresh rfl (Cov.fresh rfl (Cov.fresh rfl (Cov.fresh rfl (Cov.fresh rfl (Cov.fresh rfl (Cov.refl)))))))))))
                  · skip
                    have hg105 := if_f hc106 hg105
                    refine XL_q (w_take rfl hc106) (qt_move rfl) rfl rfl ?_
                    refine XL_q (w_take rfl hc106) (qt_move rfl) rfl rfl ?_
                    obtain ⟨x107, hx108, hg105⟩ := bind_some hg105
                    refine XL_indexH H91.ctx (Has.c (Has.hd)) hx108 u23 i3 (w_take rfl hc106) rfl rfl rfl (fun b109 off110 cap111 hv112 => ?_)
                    obtain ⟨F113, hat114, hdup115⟩ := H91.at (Has.c (Has.hd)) hx108 hv112
                    refine XL_load_int (k := .i64) u3 rfl hat114 (w_take rfl hc106) rfl rfl ?_
                    refine XL_q (w_take rfl hc106) (qt_move rfl) rfl rfl ?_
                    refine XL_q (w_take rfl hc106) (qt_move rfl) rfl rfl ?_
                    obtain ⟨x116, hx117, hg105⟩ := bind_some hg105
                    refine XL_indexH H91.ctx (Has.c (Has.hd)) hx117 u23 i3 (w_take rfl hc106) rfl rfl rfl (fun b118 off119 cap120 hv121 => ?_)
                    obtain ⟨F122, hat123, hdup124⟩ := H91.at (Has.c (Has.hd)) hx117 hv121
                    refine XL_load_int (k := .i64) u3 rfl hat123 (w_take rfl hc106) rfl rfl ?_
                    refine XL_q (w_take rfl hc106) (qt_gtr rfl rfl) rfl rfl ?_
                    refine XL_q (w_take rfl hc103) (qt_pickF rfl hc106 rfl) rfl rfl ?_
                    exact hk _ (Cov.same (vb hg105) (Cov.fresh rfl (Cov.fresh rfl (Cov.fresh rfl (Cov.fresh rfl (Cov.fresh rfl (Cov.fresh rfl (Cov.fresh rfl (Cov.fresh rfl (Cov.fresh rfl (Cov.refl)))))))))))
                refine XL_q rfl (qt_pickT rfl hc103 rfl) rfl rfl ?_
                exact hk _ (Cov.same (vb hg102) (Cov.fresh rfl (Cov.fresh rfl (Cov.fresh rfl (Cov.fresh rfl (Cov.refl))))))
              · skip
                refine XL_skip (w_skip rfl hc103) rfl rfl ?_
                refine XL_skip (w_skip rfl hc103) rfl rfl ?_
                refine XL_skip (w_skip rfl hc103) rfl rfl ?_
                refine XL_skip rfl rfl rfl ?_
                refine XL_skip rfl rfl rfl ?_
                refine XL_skip rfl rfl rfl ?_
                refine XL_skip rfl rfl rfl ?_
                refine XL_skip rfl rfl rfl ?_
                refine XL_skip rfl rfl rfl ?_
                refine XL_skip rfl rfl rfl ?_
                refine XL_skip rfl rfl rfl ?_
                refine XL_skip rfl rfl rfl ?_
                refine XL_skip (w_skip rfl hc103) rfl rfl ?_
                refine XL_q rfl (qt_pickF rfl hc103 rfl) rfl rfl ?_
                exact hk _ (Cov.same (vb (if_f hc103 hg102)) (Cov.fresh rfl (Cov.fresh rfl (Cov.fresh rfl (Cov.fresh rfl (Cov.fresh rfl (Cov.fresh rfl (Cov.fresh rfl (Cov.fresh rfl (Cov.fresh rfl (Cov.fresh rfl (Cov.fresh rfl (Cov.fresh rfl (Cov.fresh rfl (Cov.refl)))))))))))))))
            refine QL_nil fun a ha w125 hb126 => ?_
            have H127 : Holds (([] : List Res).flatMap Res.own) w w125 [.sl 40 (.pair (.int .i64) (.pair (.int .i64) (.int .i64))) vs21 s21, .sl 3 (.int .i64) v17 s22] G := H91.grow hb126
            refine nrm_seq (WP.app ?_ ha)
            refine WP_cond rfl (fun hc128 => ?_) (fun hc128 => ?_)
            · have hs42 := if_t hc128 hs42
              refine WP_region ?_
              refine XL_q rfl (qt_move rfl) rfl rfl ?_
              refine XL_q rfl (qt_assign rfl) rfl rfl ?_
              refine WL_nil fun a ha => ?_
              refine nrm_block (nrm_seq (WP.app ?_ ha))
              refine WP_region ?_
              refine XL_q rfl (qt_move rfl) rfl rfl ?_
              refine XL_q rfl (qt_add rfl rfl) rfl rfl ?_
              refine XL_q rfl (qt_assign rfl) rfl rfl ?_
              refine WL_nil fun a ha => ?_
              obtain rfl := Option.some.inj hs42
              have H129 : Holds (([] : List Res).flatMap Res.own) w w125 [.sl 40 (.pair (.int .i64) (.pair (.int .i64) (.int .i64))) vs21 s21, .sl 3 (.int .i64) v17 s22] G := ((H127.pull 1).pull 1)
              exact ⟨rfl, ha.sub ⟨rfl, rfl, rfl, rfl, rfl, trivial⟩, H129⟩
            · have hs42 := if_f hc128 hs42
              refine WP_skip fun a ha => ?_
              refine nrm_block (nrm_seq (WP.app ?_ ha))
              refine WP_region ?_
              refine XL_q rfl (qt_move rfl) rfl rfl ?_
              refine XL_q rfl (qt_add rfl rfl) rfl rfl ?_
              refine XL_q rfl (qt_assign rfl) rfl rfl ?_
              refine WL_nil fun a ha => ?_
              obtain rfl := Option.some.inj hs42
              have H130 : Holds (([] : List Res).flatMap Res.own) w w125 [.sl 40 (.pair (.int .i64) (.pair (.int .i64) (.int .i64))) vs21 s21, .sl 3 (.int .i64) v17 s22] G := ((H127.pull 1).pull 1)
              exact ⟨rfl, ha.sub ⟨rfl, rfl, rfl, rfl, rfl, trivial⟩, H130⟩
        · have hs42 := if_f hc46 hs42
          refine WP_exit fun a ha => ?_
          obtain rfl := Option.some.inj hs42
          have H131 : Holds (([] : List Res).flatMap Res.own) w w41 [.sl 40 (.pair (.int .i64) (.pair (.int .i64) (.int .i64))) vs21 s21, .sl 3 (.int .i64) v17 s22] G := ((H45.pull 1).pull 1)
          exact exit_seq (⟨exit_ne, rfl, ha.sub ⟨rfl, rfl, rfl, rfl, trivial⟩, H131⟩)
      · intro e a38 w132 hO133
        obtain ⟨p134, p135⟩ := o36
        obtain ⟨rfl, hO137⟩ := hO133
        obtain ⟨ha, H136⟩ := hO137
        refine exit_block_eq (nrm_seq (WP.app ?_ ha))
        refine WP_seq ?_
        refine WP_seq ?_
        refine WP_region ?_
        refine XL_q rfl (qt_move rfl) rfl rfl ?_
        refine XL_q rfl (qt_lss rfl rfl) rfl rfl ?_
        refine XL_q rfl (qt_move rfl) rfl rfl ?_
        refine XL_join 3 70 (.bool ((decide (p134 < 0)) || (decide (p135 < 0)))) ?_ (fun md hmd hk => ?_)
        rotate_left
        · obtain ⟨Q, rfl⟩ := Md.seq_of hmd
          rcases btf (decide (p134 < 0)) with hc138 | hc138
          · skip
            refine XL_skip (w_skip rfl hc138) rfl rfl ?_
            refine XL_skip (w_skip rfl hc138) rfl rfl ?_
            refine XL_q rfl (qt_pickT rfl hc138 rfl) rfl rfl ?_
            exact hk _ (Cov.same (by rw [hc138]; rfl) (Cov.fresh rfl (Cov.fresh rfl (Cov.refl))))
          · skip
            refine XL_q (w_take rfl hc138) (qt_move rfl) rfl rfl ?_
            refine XL_q (w_take rfl hc138) (qt_lss rfl rfl) rfl rfl ?_
            refine XL_q rfl (qt_pickF rfl hc138 rfl) rfl rfl ?_
            exact hk _ (Cov.same (by rw [hc138]; rfl) (Cov.fresh rfl (Cov.fresh rfl (Cov.refl))))
        refine WL_nil_seq ?_
        refine WP_cond rfl (fun hc139 => ?_) (fun hc139 => ?_)
        · have hs29 := if_t hc139 hs29
          refine WP_seq ?_
          refine WP_region ?_
          refine XL_q rfl (qt_move rfl) rfl rfl ?_
          refine XL_q rfl (qt_assign rfl) rfl rfl ?_
          refine WL_nil_seq ?_
          refine WP_ret fun a ha => ?_
          obtain rfl := Option.some.inj hs29
          have H140 : Holds (([] : List Res).flatMap Res.own) w w132 [.sl 40 (.pair (.int .i64) (.pair (.int .i64) (.int .i64))) vs21 s21] G := (H136.cut 1)
          exact ret_seq (ret_block (⟨ret_ne, rfl, vs21, ha.sub ⟨rfl, trivial⟩, H140⟩))
        · have hs29 := if_f hc139 hs29
          refine WP_skip_seq ?_
          refine WP_seq ?_
          refine WP_quiet (by kernel_rfl) (by kernel_rfl) ?_
          refine XL_q rfl (qt_move rfl) rfl rfl ?_
          refine XL_q rfl (qt_move rfl) rfl rfl ?_
          obtain ⟨x141, hx142, hs29⟩ := bind_some hs29
          refine XL_indexH H136.ctx (Has.c (Has.hd)) hx142 u23 i3 rfl rfl rfl rfl (fun b143 off144 cap145 hv146 => ?_)
          obtain ⟨F147, hat148, hdup149⟩ := H136.at (Has.c (Has.hd)) hx142 hv146
          refine XL_load_int (k := .i64) u3 rfl hat148 rfl rfl rfl ?_
          refine XL_q rfl (qt_neg rfl) rfl rfl ?_
          refine XL_q rfl (qt_move rfl) rfl rfl ?_
          refine XL_q rfl (qt_move rfl) rfl rfl ?_
          obtain ⟨x150, hx151, hs29⟩ := bind_some hs29
          refine XL_indexH H136.ctx (Has.c (Has.hd)) hx151 u23 i3 rfl rfl rfl rfl (fun b152 off153 cap154 hv155 => ?_)
          obtain ⟨F156, hat157, hdup158⟩ := H136.at (Has.c (Has.hd)) hx151 hv155
          refine XL_load_int (k := .i64) u3 rfl hat157 rfl rfl rfl ?_
          refine XL_q rfl (qt_min rfl rfl) rfl rfl ?_
          refine XL_q rfl (qt_assign rfl) rfl rfl ?_
          refine QL_nil fun a ha w159 hb160 => ?_
          have H161 : Holds (([] : List Res).flatMap Res.own) w w159 [.sl 40 (.pair (.int .i64) (.pair (.int .i64) (.int .i64))) vs21 s21, .sl 3 (.int .i64) v17 s22] G := H136.grow hb160
          refine nrm_seq (WP.app ?_ ha)
          refine WP_seq ?_
          refine WP_region ?_
          refine XL_q rfl (qt_move rfl) rfl rfl ?_
          refine XL_q rfl (qt_move rfl) rfl rfl ?_
          refine XL_q rfl (qt_move rfl) rfl rfl ?_
          refine XL_q rfl (qt_move rfl) rfl rfl ?_
          obtain ⟨x162, hx163, hs29⟩ := bind_some hs29
          refine XL_indexH H161.ctx (Has.c (Has.hd)) hx163 u23 i3 rfl rfl rfl rfl (fun b164 off165 cap166 hv167 => ?_)
          obtain ⟨F168, hat169, hdup170⟩ := H161.at (Has.c (Has.hd)) hx163 hv167
          refine XL_load_int (k := .i64) u3 rfl hat169 rfl rfl rfl ?_
          refine XL_q rfl (qt_move rfl) rfl rfl ?_
          refine XL_q rfl (qt_add rfl rfl) rfl rfl ?_
          obtain ⟨x171, hx172, hs29⟩ := bind_some hs29
          refine XL_indexH H161.ctx (Has.c (Has.hd)) hx172 u23 i3 rfl rfl rfl rfl (fun b173 off174 cap175 hv176 => ?_)
          have H177 : Holds (([] : List Res).flatMap Res.own) w w159 [.sl 3 (.int .i64) v17 s22, .sl 40 (.pair (.int .i64) (.pair (.int .i64) (.int .i64))) vs21 s21] G := H161.pull 1
          refine WL_storeH (fo := 0) (cs' := [.int .i64 (IntKind.wrap .i64 (x162 + (if x150 < (IntKind.wrap .i64 (-x141)) then x150 else IntKind.wrap .i64 (-x141))))]) H177 hx172 hv176 (Upd.whole (Blt.int)) rfl il3 rfl rfl rfl rfl (fun w178 H179 => ?_)
          have H180 : Holds (([] : List Res).flatMap Res.own) w w178 [.sl 3 (.int .i64) v17 (List.set s22 (Int.toNat p134) (IntKind.wrap .i64 (x162 + (if x150 < (IntKind.wrap .i64 (-x141)) then x150 else IntKind.wrap .i64 (-x141))))), .sl 40 (.pair (.int .i64) (.pair (.int .i64) (.int .i64))) vs21 s21] G := H179
          refine WL_nil_seq ?_
          refine WP_seq ?_
          refine WP_region ?_
          refine XL_q rfl (qt_move rfl) rfl rfl ?_
          refine XL_q rfl (qt_move rfl) rfl rfl ?_
          refine XL_q rfl (qt_move rfl) rfl rfl ?_
          refine XL_q rfl (qt_move rfl) rfl rfl ?_
          obtain ⟨x181, hx182, hs29⟩ := bind_some hs29
          refine XL_indexH H180.ctx (Has.hd) hx182 u23 i3 rfl rfl rfl rfl (fun b183 off184 cap185 hv186 => ?_)
          obtain ⟨F187, hat188, hdup189⟩ := H180.at (Has.hd) hx182 hv186
          refine XL_load_int (k := .i64) u3 rfl hat188 rfl rfl rfl ?_
          refine XL_q rfl (qt_move rfl) rfl rfl ?_
          refine XL_q rfl (qt_sub rfl rfl) rfl rfl ?_
          obtain ⟨x190, hx191, hs29⟩ := bind_some hs29
          refine XL_indexH H180.ctx (Has.hd) hx191 u23 i3 rfl rfl rfl rfl (fun b192 off193 cap194 hv195 => ?_)
          refine WL_storeH (fo := 0) (cs' := [.int .i64 (IntKind.wrap .i64 (x181 - (if x150 < (IntKind.wrap .i64 (-x141)) then x150 else IntKind.wrap .i64 (-x141))))]) H180 hx191 hv195 (Upd.whole (Blt.int)) rfl il3 rfl rfl rfl rfl (fun w196 H197 => ?_)
          have H198 : Holds (([] : List Res).flatMap Res.own) w w196 [.sl 3 (.int .i64) v17 (List.set (List.set s22 (Int.toNat p134) (IntKind.wrap .i64 (x162 + (if x150 < (IntKind.wrap .i64 (-x141)) then x150 else IntKind.wrap .i64 (-x141))))) (Int.toNat p135) (IntKind.wrap .i64 (x181 - (if x150 < (IntKind.wrap .i64 (-x141)) then x150 else IntKind.wrap .i64 (-x141))))), .sl 40 (.pair (.int .i64) (.pair (.int .i64) (.int .i64))) vs21 s21] G := H197
          refine WL_nil_seq ?_
          refine WP_region ?_
          refine XL_q rfl (qt_move rfl) rfl rfl ?_
          refine XL_q rfl (qt_move rfl) rfl rfl ?_
          refine XL_q rfl (qt_move rfl) rfl rfl ?_
          refine XL_q rfl (qt_move rfl) rfl rfl ?_
          refine XL_q rfl (qt_build (args := [(0, .tmp 101), (1, .tmp 102), (2, .tmp 103)]) (css := [#[.int .i64 p134], #[.int .i64 p135], #[.int .i64 (if x150 < (IntKind.wrap .i64 (-x141)) then x150 else IntKind.wrap .i64 (-x141))]]) (cells := #[.int .i64 p134, .int .i64 p135, .int .i64 (if x150 < (IntKind.wrap .i64 (-x141)) then x150 else IntKind.wrap .i64 (-x141))]) rfl ⟨rfl, rfl, rfl, trivial⟩ (by kernel_rfl)) rfl rfl ?_
          refine WL_buildH (t := (.pair (.int .i64) (.pair (.int .i64) (.int .i64)))) (args := [.tmp 104]) (xs := ([(p134, p135, (if x150 < (IntKind.wrap .i64 (-x141)) then x150 else IntKind.wrap .i64 (-x141)))] : List (Int × Int × Int))) H198 (BltL.cons (Blt.pair (Blt.int) (Blt.pair (Blt.int) (Blt.int))) rfl (BltL.nil)) u29 j40 rfl rfl rfl rfl rfl rfl (fun v199 w200 H201 => ?_)
          have H202 : Holds (([] : List Res).flatMap Res.own) w w200 [.sl 40 (.pair (.int .i64) (.pair (.int .i64) (.int .i64))) v199 ([(p134, p135, (if x150 < (IntKind.wrap .i64 (-x141)) then x150 else IntKind.wrap .i64 (-x141)))]), .sl 3 (.int .i64) v17 (List.set (List.set s22 (Int.toNat p134) (IntKind.wrap .i64 (x162 + (if x150 < (IntKind.wrap .i64 (-x141)) then x150 else IntKind.wrap .i64 (-x141))))) (Int.toNat p135) (IntKind.wrap .i64 (x181 - (if x150 < (IntKind.wrap .i64 (-x141)) then x150 else IntKind.wrap .i64 (-x141))))), .sl 40 (.pair (.int .i64) (.pair (.int .i64) (.int .i64))) vs21 s21] G := H201
          have H203 : Holds (([] : List Res).flatMap Res.own) w w200 [.sl 40 (.pair (.int .i64) (.pair (.int .i64) (.int .i64))) vs21 s21, .sl 40 (.pair (.int .i64) (.pair (.int .i64) (.int .i64))) v199 ([(p134, p135, (if x150 < (IntKind.wrap .i64 (-x141)) then x150 else IntKind.wrap .i64 (-x141)))]), .sl 3 (.int .i64) v17 (List.set (List.set s22 (Int.toNat p134) (IntKind.wrap .i64 (x162 + (if x150 < (IntKind.wrap .i64 (-x141)) then x150 else IntKind.wrap .i64 (-x141))))) (Int.toNat p135) (IntKind.wrap .i64 (x181 - (if x150 < (IntKind.wrap .i64 (-x141)) then x150 else IntKind.wrap .i64 (-x141)))))] G := H202.pull 2
          obtain ⟨x204, hx205, hs29⟩ := bind_some hs29
          refine WL_appendH H203 (Has.c (Has.hd)) hx205 u29 j40 rfl rfl rfl rfl rfl rfl (fun v206 w207 H208 => ?_)
          have H209 : Holds (([] : List Res).flatMap Res.own) w w207 [.sl 40 (.pair (.int .i64) (.pair (.int .i64) (.int .i64))) v206 x204, .sl 40 (.pair (.int .i64) (.pair (.int .i64) (.int .i64))) v199 ([(p134, p135, (if x150 < (IntKind.wrap .i64 (-x141)) then x150 else IntKind.wrap .i64 (-x141)))]), .sl 3 (.int .i64) v17 (List.set (List.set s22 (Int.toNat p134) (IntKind.wrap .i64 (x162 + (if x150 < (IntKind.wrap .i64 (-x141)) then x150 else IntKind.wrap .i64 (-x141))))) (Int.toNat p135) (IntKind.wrap .i64 (x181 - (if x150 < (IntKind.wrap .i64 (-x141)) then x150 else IntKind.wrap .i64 (-x141)))))] G := H208
          refine XL_q rfl (qt_assign rfl) rfl rfl ?_
          refine WL_nil fun a ha => ?_
          obtain rfl := Option.some.inj hs29
          have H210 : Holds (([] : List Res).flatMap Res.own) w w207 [.sl 40 (.pair (.int .i64) (.pair (.int .i64) (.int .i64))) v206 x204, .sl 3 (.int .i64) v17 (List.set (List.set s22 (Int.toNat p134) (IntKind.wrap .i64 (x162 + (if x150 < (IntKind.wrap .i64 (-x141)) then x150 else IntKind.wrap .i64 (-x141))))) (Int.toNat p135) (IntKind.wrap .i64 (x181 - (if x150 < (IntKind.wrap .i64 (-x141)) then x150 else IntKind.wrap .i64 (-x141)))))] G := (((H209.cut 1).pull 1).pull 1)
          exact nrm_block (⟨rfl, v206, ha.sub ⟨rfl, rfl, trivial⟩, H210⟩)
    · intro e a25 w211 hO212
      obtain ⟨p213, p214⟩ := o23
      obtain ⟨rfl, hO216⟩ := hO212
      obtain ⟨vp213, ha, H215⟩ := hO216
      obtain rfl := Option.some.inj h
      exact ret_block (ret1 rfl ha rfl ⟨vp213, rfl, H215⟩)
theorem w_laws_samePays (w : World) (G : List Res) (vp0 : Value) (p0 : List (Int × Int × Int)) (hp0 : Has G (.pair (.int .i64) (.pair (.int .i64) (.int .i64))) vp0 p0) (vp1 : Value) (p1 : List (Int × Int × Int)) (hp1 : Has G (.pair (.int .i64) (.pair (.int .i64) (.int .i64))) vp1 p1) (r : Bool) (h : laws_samePaysS p0 p1 = some r) (H : Ctx w G) : Calls Tryd.prog 24 #[vp0, vp1] w fun e w' => e = .returned (.bool r) ∧ Holds (([] : List Res).flatMap Res.own) w w' [] G := by
  have H : Holds (([] : List Res).flatMap Res.own) w w [] G := Holds.startN H
  refine calls_enter (args := [vp0, vp1]) (n := 26) Tryd.func24 rfl rfl rfl ?_
  unfold laws_samePaysS at h
  refine WP_seq ?_
  refine WP_region ?_
  refine XL_q rfl (qt_assign rfl) rfl rfl ?_
  refine WL_nil_seq ?_
  refine WP_seq ?_
  refine WP_seq ?_
  refine WP_region ?_
  refine XL_q rfl (qt_move rfl) rfl rfl ?_
  refine XL_lenH H.ctx (t := (.pair (.int .i64) (.pair (.int .i64) (.int .i64)))) (hp0) u29 rfl rfl rfl ?_
  refine XL_q rfl (qt_move rfl) rfl rfl ?_
  refine XL_lenH H.ctx (t := (.pair (.int .i64) (.pair (.int .i64) (.int .i64)))) (hp1) u29 rfl rfl rfl ?_
  refine XL_q rfl (qt_neq rfl rfl) rfl rfl ?_
  refine WL_nil_seq ?_
  refine WP_cond rfl (fun hc1 => ?_) (fun hc1 => ?_)
  · have h := if_t hc1 h
    refine WP_seq ?_
    refine WP_region ?_
    refine XL_q rfl (qt_assign rfl) rfl rfl ?_
    refine WL_nil_seq ?_
    refine WP_ret fun a ha => ?_
    obtain rfl := Option.some.inj h
    exact ret_seq (ret1 rfl ha rfl ⟨rfl, H⟩)
  · have h := if_f hc1 h
    refine WP_skip_seq ?_
    refine WP_seq ?_
    refine WP_seq ?_
    refine WP_region ?_
    refine XL_q rfl (qt_assign rfl) rfl rfl ?_
    refine WL_nil_seq ?_
    refine WP_block ?_
    obtain ⟨o3, ho4, h⟩ := bind_some h
    refine fun a5 ha6 => wp_loop_fix (I := fun s a w2 => match s with | s2 => (Fr a 26 [(0, vp0), (1, vp1), (5, .int .i64 s2)] ∧ Holds (([] : List Res).flatMap Res.own) w w2 [] G)) (O := fun o e a w2 => match o with | .inl _ => e = .exit 0 ∧ (Fr a 26 [] ∧ Holds (([] : List Res).flatMap Res.own) w w2 [] G) | .inr q0 => e = .ret ∧ (Fr a 26 [(4, .bool q0)] ∧ Holds (([] : List Res).flatMap Res.own) w w2 [] G)) ho4 ?_ ?_ ?_
    · exact ⟨ha6.sub ⟨rfl, rfl, rfl, trivial⟩, H⟩
    · clear ha6
      intro s o9 a w7 hs8 hI10
      obtain ⟨s2, rfl⟩ : ∃ z, z = s := ⟨s, rfl⟩
      obtain ⟨ha, H11⟩ := hI10
      refine WP.app ?_ ha
      clear ha
      refine WP_seq ?_
      refine WP_seq ?_
      refine WP_region ?_
      refine XL_q rfl (qt_move rfl) rfl rfl ?_
      refine XL_q rfl (qt_move rfl) rfl rfl ?_
      refine XL_lenH H11.ctx (t := (.pair (.int .i64) (.pair (.int .i64) (.int .i64)))) (hp0) u29 rfl rfl rfl ?_
      refine XL_q rfl (qt_lss rfl rfl) rfl rfl ?_
      refine WL_nil_seq ?_
      refine WP_cond rfl (fun hc12 => ?_) (fun hc12 => ?_)
      · have hs8 := if_t hc12 hs8
        refine WP_skip_seq ?_
        refine WP_seq ?_
        refine WP_block ?_
        refine WP_seq ?_
        refine WP_quiet (by kernel_rfl) (by kernel_rfl) ?_
        refine XL_q rfl (qt_move rfl) rfl rfl ?_
        refine XL_q rfl (qt_move rfl) rfl rfl ?_
        obtain ⟨x13, hx14, hs8⟩ := bind_some hs8
        refine XL_indexH H11.ctx (hp0) hx14 u29 i40 rfl rfl rfl rfl (fun b15 off16 cap17 hv18 => ?_)
        obtain ⟨F19, hat20, hdup21⟩ := H11.at (hp0) hx14 hv18
        refine XL_load_agg (t := (.pair (.int .i64) (.pair (.int .i64) (.int .i64)))) us40 uo40 i40 hat20 rfl rfl rfl (fun cs22 hr23 => ?_)
        obtain ⟨c24, c25, F26, F27, rfl, eF30, hr28, hr29⟩ := hr23
        obtain ⟨rfl, _⟩ := hr28
        obtain ⟨c31, c32, F33, F34, rfl, eF37, hr35, hr36⟩ := hr29
        obtain ⟨rfl, _⟩ := hr35
        obtain ⟨rfl, _⟩ := hr36
        change XL _ _ _ _ _ ((20, .agg #[.int .i64 x13.1, .int .i64 x13.2.1, .int .i64 x13.2.2]) :: _) _
        refine XL_q rfl (qt_move rfl) rfl rfl ?_
        refine XL_q rfl (qt_move rfl) rfl rfl ?_
        obtain ⟨x38, hx39, hs8⟩ := bind_some hs8
        refine XL_indexH H11.ctx (hp1) hx39 u29 i40 rfl rfl rfl rfl (fun b40 off41 cap42 hv43 => ?_)
        obtain ⟨F44, hat45, hdup46⟩ := H11.at (hp1) hx39 hv43
        refine XL_load_agg (t := (.pair (.int .i64) (.pair (.int .i64) (.int .i64)))) us40 uo40 i40 hat45 rfl rfl rfl (fun cs47 hr48 => ?_)
        obtain ⟨c49, c50, F51, F52, rfl, eF55, hr53, hr54⟩ := hr48
        obtain ⟨rfl, _⟩ := hr53
        obtain ⟨c56, c57, F58, F59, rfl, eF62, hr60, hr61⟩ := hr54
        obtain ⟨rfl, _⟩ := hr60
        obtain ⟨rfl, _⟩ := hr61
        change XL _ _ _ _ _ ((24, .agg #[.int .i64 x38.1, .int .i64 x38.2.1, .int .i64 x38.2.2]) :: _) _
        refine XL_q rfl (qt_neqA rfl rfl (by kernel_rfl) (eqs40 x13.1 x38.1 x13.2.1 x38.2.1 x13.2.2 x38.2.2)) rfl rfl ?_
        refine QL_nil fun a ha w63 hb64 => ?_
        have H65 : Holds (([] : List Res).flatMap Res.own) w w63 [] G := H11.grow hb64
        refine nrm_seq (WP.app ?_ ha)
        refine WP_cond rfl (fun hc66 => ?_) (fun hc66 => ?_)
        · have hs8 := if_t hc66 hs8
          refine WP_seq ?_
          refine WP_region ?_
          refine XL_q rfl (qt_assign rfl) rfl rfl ?_
          refine WL_nil_seq ?_
          refine WP_ret fun a ha => ?_
          obtain rfl := Option.some.inj hs8
          exact ret_block (ret_seq (⟨ret_ne, rfl, ha.sub ⟨rfl, trivial⟩, H65⟩))
        · have hs8 := if_f hc66 hs8
          refine WP_skip fun a ha => ?_
          refine nrm_block (nrm_seq (WP.app ?_ ha))
          refine WP_region ?_
          refine XL_q rfl (qt_move rfl) rfl rfl ?_
          refine XL_q rfl (qt_add rfl rfl) rfl rfl ?_
          refine XL_q rfl (qt_assign rfl) rfl rfl ?_
          refine WL_nil fun a ha => ?_
          obtain rfl := Option.some.inj hs8
          exact ⟨rfl, ha.sub ⟨rfl, rfl, rfl, trivial⟩, H65⟩
      · have hs8 := if_f hc12 hs8
        refine WP_exit fun a ha => ?_
        obtain rfl := Option.some.inj hs8
        exact exit_seq (⟨exit_ne, rfl, ha.sub trivial, H11⟩)
    · intro e a5 w67 hO68
      rcases o3 with o3 | o3
      · skip
        obtain ⟨rfl, hO70⟩ := hO68
        obtain ⟨ha, H69⟩ := hO70
        refine exit_block_eq (nrm_seq (WP.app ?_ ha))
        refine WP_seq ?_
        refine WP_region ?_
        refine XL_q rfl (qt_assign rfl) rfl rfl ?_
        refine WL_nil_seq ?_
        refine WP_ret fun a ha => ?_
        obtain rfl := Option.some.inj h
        exact ret1 rfl ha rfl ⟨rfl, H69⟩
      · skip
        obtain ⟨p71, rfl⟩ : ∃ z, z = o3 := ⟨o3, rfl⟩
        obtain ⟨rfl, hO73⟩ := hO68
        obtain ⟨ha, H72⟩ := hO73
        obtain rfl := Option.some.inj h
        exact ret_block (ret_seq (ret1 rfl ha rfl ⟨rfl, H72⟩))
theorem w_impl_PaysOk (w : World) (G : List Res) (vp0 : Value) (p0 : List Int) (hp0 : Has G (.int .i64) vp0 p0) (vp1 : Value) (p1 : List (Int × Int × Int)) (hp1 : Has G (.pair (.int .i64) (.pair (.int .i64) (.int .i64))) vp1 p1) (r : Bool) (h : impl_PaysOkS p0 p1 = some r) (H : Ctx w G) : Calls Tryd.prog 26 #[vp0, vp1] w fun e w' => e = .returned (.bool r) ∧ Holds (([] : List Res).flatMap Res.own) w w' [] G := by
  have H : Holds (([] : List Res).flatMap Res.own) w w [] G := Holds.startN H
  refine calls_enter (args := [vp0, vp1]) (n := 86) Tryd.func26 rfl rfl rfl ?_
  unfold impl_PaysOkS at h
  refine WP_seq ?_
  refine WP_region ?_
  refine XL_q rfl (qt_assign rfl) rfl rfl ?_
  refine WL_nil_seq ?_
  refine WP_seq ?_
  refine WP_seq ?_
  refine WP_still ?_
  refine XL_q rfl (qt_move rfl) rfl rfl ?_
  obtain ⟨x1, hx2, h⟩ := bind_some h
  refine QL_call rfl rfl c13 (fun w' hb => (w_impl_OwedValid w' G vp0 p0 (hp0) x1 hx2 (H.grow hb).ctx).mono fun e w'' hK => ⟨hK.1, hK.2.bel⟩) (by rfl) ?_
  refine XL_q rfl (qt_not rfl) rfl rfl ?_
  refine QL_nil fun a ha w3 hb4 => ?_
  have H5 : Holds (([] : List Res).flatMap Res.own) w w3 [] G := H.grow hb4
  refine nrm_seq (WP.app ?_ ha)
  refine WP_cond rfl (fun hc6 => ?_) (fun hc6 => ?_)
  · have h := if_t hc6 h
    refine WP_seq ?_
    refine WP_region ?_
    refine XL_q rfl (qt_assign rfl) rfl rfl ?_
    refine WL_nil_seq ?_
    refine WP_ret fun a ha => ?_
    obtain rfl := Option.some.inj h
    exact ret_seq (ret1 rfl ha rfl ⟨rfl, H5⟩)
  · have h := if_f hc6 h
    refine WP_skip_seq ?_
    refine WP_seq ?_
    refine WP_region ?_
    refine XL_q rfl (qt_move rfl) rfl rfl ?_
    obtain ⟨x7, hx8, h⟩ := bind_some h
    refine WL_call rfl rfl c54 (w_impl_copyInts w3 G vp0 p0 (hp0) x7 hx8 H5.ctx) (by rfl) ?_
    rintro _ w9 ⟨v11, rfl, H10⟩; refine ⟨_, rfl, ?_⟩
    have H12 : Holds (([] : List Res).flatMap Res.own) w w9 [.sl 3 (.int .i64) v11 x7] G := H5.calledN (Rs := []) H10
    refine XL_q rfl (qt_assign rfl) rfl rfl ?_
    refine WL_nil_seq ?_
    refine WP_seq ?_
    refine WP_seq ?_
    refine WP_region ?_
    refine XL_q rfl (qt_move rfl) rfl rfl ?_
    refine XL_lenH H12.ctx (t := (.pair (.int .i64) (.pair (.int .i64) (.int .i64)))) (hp1.c) u29 rfl rfl rfl ?_
    refine XL_q rfl (qt_move rfl) rfl rfl ?_
    refine WL_nil_seq ?_
    refine WP_block ?_
    obtain ⟨o15, ho16, h⟩ := bind_some h
    refine fun a17 ha18 => wp_loop_fix (I := fun s a w2 => match s with | (s13, s14) => (Fr a 86 [(0, vp0), (5, v11), (15, vp1), (16, .int .i64 (List.length p1 : Int)), (17, .int .i64 s13)] ∧ Holds (([] : List Res).flatMap Res.own) w w2 [.sl 3 (.int .i64) v11 s14] G)) (O := fun o e a w2 => match o with | .inl q0 => e = .exit 0 ∧ (Fr a 86 [(5, v11)] ∧ Holds (([] : List Res).flatMap Res.own) w w2 [.sl 3 (.int .i64) v11 q0] G) | .inr (q0, q1) => e = .ret ∧ (Fr a 86 [(4, .bool q0)] ∧ Holds (([] : List Res).flatMap Res.own) w w2 [] G)) ho16 ?_ ?_ ?_
    · exact ⟨ha18.sub ⟨rfl, rfl, rfl, rfl, rfl, trivial⟩, H12⟩
    · clear ha18
      intro s o21 a w19 hs20 hI22
      obtain ⟨s13, s14⟩ := s
      obtain ⟨ha, H23⟩ := hI22
      refine WP.app ?_ ha
      clear ha
      refine WP_seq ?_
      refine WP_region ?_
      refine XL_q rfl (qt_lss rfl rfl) rfl rfl ?_
      refine WL_nil_seq ?_
      refine WP_seq ?_
      refine WP_cond rfl (fun hc24 => ?_) (fun hc24 => ?_)
      · have hs20 := if_t hc24 hs20
        refine WP_skip_seq ?_
        refine WP_seq ?_
        refine WP_block ?_
        refine WP_seq ?_
        refine WP_region ?_
        obtain ⟨x25, hx26, hs20⟩ := bind_some hs20
        refine XL_indexH H23.ctx (hp1.c) hx26 u29 i40 rfl rfl rfl rfl (fun b27 off28 cap29 hv30 => ?_)
        obtain ⟨F31, hat32, hdup33⟩ := H23.at (hp1.c) hx26 hv30
        refine XL_load_agg (t := (.pair (.int .i64) (.pair (.int .i64) (.int .i64)))) us40 uo40 i40 hat32 rfl rfl rfl (fun cs34 hr35 => ?_)
        obtain ⟨c36, c37, F38, F39, rfl, eF42, hr40, hr41⟩ := hr35
        obtain ⟨rfl, _⟩ := hr40
        obtain ⟨c43, c44, F45, F46, rfl, eF49, hr47, hr48⟩ := hr41
        obtain ⟨rfl, _⟩ := hr47
        obtain ⟨rfl, _⟩ := hr48
        change XL _ _ _ _ _ ((20, .agg #[.int .i64 x25.1, .int .i64 x25.2.1, .int .i64 x25.2.2]) :: _) _
        refine WL_alloc (cs := [.int .i64 0, .int .i64 0, .int .i64 0]) H23 z40 rfl rfl rfl (fun b50 w51 H52 => ?_)
        have H53 : Holds (([] : List Res).flatMap Res.own) w w51 [.bx b50 40 [.int .i64 0, .int .i64 0, .int .i64 0], .sl 3 (.int .i64) v11 s14] G := H52
        refine WL_store_bxA (cs' := [.int .i64 x25.1, .int .i64 x25.2.1, .int .i64 x25.2.2]) H53 rfl il40 rfl rfl rfl rfl rfl (fun w54 H55 => ?_)
        have H56 : Holds (([] : List Res).flatMap Res.own) w w54 [.bx b50 40 [.int .i64 x25.1, .int .i64 x25.2.1, .int .i64 x25.2.2], .sl 3 (.int .i64) v11 s14] G := H55
        refine WL_nil_seq ?_
        refine WP_seq ?_
        refine WP_seq ?_
        refine WP_region ?_
        refine XL_q rfl (qt_fieldAddr uf40 fi40_0 nz3 rfl) rfl rfl ?_
        have hB57 : Bx w54 b50 40 [.int .i64 x25.1, .int .i64 x25.2.1, .int .i64 x25.2.2] := Holds.bx (H56.pull 0)
        refine XL_load_bx u3 rfl hB57 rfl rfl rfl rfl ?_
        refine XL_q rfl (qt_lss rfl rfl) rfl rfl ?_
        refine XL_q rfl (qt_move rfl) rfl rfl ?_
        refine XL_join 6 30 (.bool ((decide (x25.1 < 0)) || (decide (x25.1 ≥ (List.length p0 : Int))))) ?_ (fun md hmd hk => ?_)
        rotate_left
        · obtain ⟨Q, rfl⟩ := Md.seq_of hmd
          rcases btf (decide (x25.1 < 0)) with hc58 | hc58
          · skip
            refine XL_skip (w_skip rfl hc58) rfl rfl ?_
            refine XL_skip (w_skip rfl hc58) rfl rfl ?_
            refine XL_skip (w_skip rfl hc58) rfl rfl ?_
            refine XL_skip (w_skip rfl hc58) rfl rfl ?_
            refine XL_skip (w_skip rfl hc58) rfl rfl ?_
            refine XL_q rfl (qt_pickT rfl hc58 rfl) rfl rfl ?_
            exact hk _ (Cov.same (by rw [hc58]; rfl) (Cov.fresh rfl (Cov.fresh rfl (Cov.fresh rfl (Cov.fresh rfl (Cov.fresh rfl (Cov.refl)))))))
          · skip
            refine XL_q (w_take rfl hc58) (qt_fieldAddr uf40 fi40_0 nz3 rfl) rfl rfl ?_
            have hB59 : Bx w54 b50 40 [.int .i64 x25.1, .int .i64 x25.2.1, .int .i64 x25.2.2] := Holds.bx (H56.pull 0)
            refine XL_load_bx u3 rfl hB59 rfl (w_take rfl hc58) rfl rfl ?_
            refine XL_q (w_take rfl hc58) (qt_move rfl) rfl rfl ?_
            refine XL_lenH H56.ctx (t := (.int .i64)) (hp0.c.c) u23 (w_take rfl hc58) rfl rfl ?_
            refine XL_q (w_take rfl hc58) (qt_geq rfl rfl) rfl rfl ?_
            refine XL_q rfl (qt_pickF rfl hc58 rfl) rfl rfl ?_
            exact hk _ (Cov.same (by rw [hc58]; rfl) (Cov.fresh rfl (Cov.fresh rfl (Cov.fresh rfl (Cov.fresh rfl (Cov.fresh rfl (Cov.refl)))))))
        refine XL_q rfl (qt_move rfl) rfl rfl ?_
        refine XL_join 4 35 (.bool (((decide (x25.1 < 0)) || (decide (x25.1 ≥ (List.length p0 : Int)))) || (decide (x25.2.1 < 0)))) ?_ (fun md hmd hk => ?_)
        rotate_left
        · obtain ⟨Q, rfl⟩ := Md.seq_of hmd
          rcases btf ((decide (x25.1 < 0)) || (decide (x25.1 ≥ (List.length p0 : Int)))) with hc60 | hc60
          · skip
            refine XL_skip (w_skip rfl hc60) rfl rfl ?_
            refine XL_skip (w_skip rfl hc60) rfl rfl ?_
            refine XL_skip (w_skip rfl hc60) rfl rfl ?_
            refine XL_q rfl (qt_pickT rfl hc60 rfl) rfl rfl ?_
            exact hk _ (Cov.same (by rw [hc60]; rfl) (Cov.fresh rfl (Cov.fresh rfl (Cov.fresh rfl (Cov.refl)))))
          · skip
            refine XL_q (w_take rfl hc60) (qt_fieldAddr uf40 fi40_1 nz3 rfl) rfl rfl ?_
            have hB61 : Bx w54 b50 40 [.int .i64 x25.1, .int .i64 x25.2.1, .int .i64 x25.2.2] := Holds.bx (H56.pull 0)
            refine XL_load_bx u3 rfl hB61 rfl (w_take rfl hc60) rfl rfl ?_
            refine XL_q (w_take rfl hc60) (qt_lss rfl rfl) rfl rfl ?_
            refine XL_q rfl (qt_pickF rfl hc60 rfl) rfl rfl ?_
            exact hk _ (Cov.same (by rw [hc60]; rfl) (Cov.fresh rfl (Cov.fresh rfl (Cov.fresh rfl (Cov.refl)))))
        refine XL_q rfl (qt_move rfl) rfl rfl ?_
        refine XL_join 6 42 (.bool ((((decide (x25.1 < 0)) || (decide (x25.1 ≥ (List.length p0 : Int)))) || (decide (x25.2.1 < 0))) || (decide (x25.2.1 ≥ (List.length p0 : Int))))) ?_ (fun md hmd hk => ?_)
        rotate_left
        · obtain ⟨Q, rfl⟩ := Md.seq_of hmd
          rcases btf (((decide (x25.1 < 0)) || (decide (x25.1 ≥ (List.length p0 : Int)))) || (decide (x25.2.1 < 0))) with hc62 | hc62
          · skip
            refine XL_skip (w_skip rfl hc62) rfl rfl ?_
            refine XL_skip (w_skip rfl hc62) rfl rfl ?_
            refine XL_skip (w_skip rfl hc62) rfl rfl ?_
            refine XL_skip (w_skip rfl hc62) rfl rfl ?_
            refine XL_skip (w_skip rfl hc62) rfl rfl ?_
            refine XL_q rfl (qt_pickT rfl hc62 rfl) rfl rfl ?_
            exact hk _ (Cov.same (by rw [hc62]; rfl) (Cov.fresh rfl (Cov.fresh rfl (Cov.fresh rfl (Cov.fresh rfl (Cov.fresh rfl (Cov.refl)))))))
          · skip
            refine XL_q (w_take rfl hc62) (qt_fieldAddr uf40 fi40_1 nz3 rfl) rfl rfl ?_
            have hB63 : Bx w54 b50 40 [.int .i64 x25.1, .int .i64 x25.2.1, .int .i64 x25.2.2] := Holds.bx (H56.pull 0)
            refine XL_load_bx u3 rfl hB63 rfl (w_take rfl hc62) rfl rfl ?_
            refine XL_q (w_take rfl hc62) (qt_move rfl) rfl rfl ?_
            refine XL_lenH H56.ctx (t := (.int .i64)) (hp0.c.c) u23 (w_take rfl hc62) rfl rfl ?_
            refine XL_q (w_take rfl hc62) (qt_geq rfl rfl) rfl rfl ?_
            refine XL_q rfl (qt_pickF rfl hc62 rfl) rfl rfl ?_
            exact hk _ (Cov.same (by rw [hc62]; rfl) (Cov.fresh rfl (Cov.fresh rfl (Cov.fresh rfl (Cov.fresh rfl (Cov.fresh rfl (Cov.refl)))))))
        refine XL_q rfl (qt_move rfl) rfl rfl ?_
        refine XL_join 6 49 (.bool (((((decide (x25.1 < 0)) || (decide (x25.1 ≥ (List.length p0 : Int)))) || (decide (x25.2.1 < 0))) || (decide (x25.2.1 ≥ (List.length p0 : Int)))) || (x25.1 == x25.2.1))) ?_ (fun md hmd hk => ?_)
        rotate_left
        · obtain ⟨Q, rfl⟩ := Md.seq_of hmd
          rcases btf ((((decide (x25.1 < 0)) || (decide (x25.1 ≥ (List.length p0 : Int)))) || (decide (x25.2.1 < 0))) || (decide (x25.2.1 ≥ (List.length p0 : Int)))) with hc64 | hc64
          · skip
            refine XL_skip (w_skip rfl hc64) rfl rfl ?_
            refine XL_skip (w_skip rfl hc64) rfl rfl ?_
            refine XL_skip (w_skip rfl hc64) rfl rfl ?_
            refine XL_skip (w_skip rfl hc64) rfl rfl ?_
            refine XL_skip (w_skip rfl hc64) rfl rfl ?_
            refine XL_q rfl (qt_pickT rfl hc64 rfl) rfl rfl ?_
            exact hk _ (Cov.same (by rw [hc64]; rfl) (Cov.fresh rfl (Cov.fresh rfl (Cov.fresh rfl (Cov.fresh rfl (Cov.fresh rfl (Cov.refl)))))))
          · skip
            refine XL_q (w_take rfl hc64) (qt_fieldAddr uf40 fi40_0 nz3 rfl) rfl rfl ?_
            have hB65 : Bx w54 b50 40 [.int .i64 x25.1, .int .i64 x25.2.1, .int .i64 x25.2.2] := Holds.bx (H56.pull 0)
            refine XL_load_bx u3 rfl hB65 rfl (w_take rfl hc64) rfl rfl ?_
            refine XL_q (w_take rfl hc64) (qt_fieldAddr uf40 fi40_1 nz3 rfl) rfl rfl ?_
            have hB66 : Bx w54 b50 40 [.int .i64 x25.1, .int .i64 x25.2.1, .int .i64 x25.2.2] := Holds.bx (H56.pull 0)
            refine XL_load_bx u3 rfl hB66 rfl (w_take rfl hc64) rfl rfl ?_
            refine XL_q (w_take rfl hc64) (qt_eql rfl rfl) rfl rfl ?_
            refine XL_q rfl (qt_pickF rfl hc64 rfl) rfl rfl ?_
            exact hk _ (Cov.same (by rw [hc64]; rfl) (Cov.fresh rfl (Cov.fresh rfl (Cov.fresh rfl (Cov.fresh rfl (Cov.fresh rfl (Cov.refl)))))))
        refine WL_nil_seq ?_
        refine WP_cond rfl (fun hc67 => ?_) (fun hc67 => ?_)
        · have hs20 := if_t hc67 hs20
          refine WP_seq ?_
          refine WP_region ?_
          refine XL_q rfl (qt_assign rfl) rfl rfl ?_
          refine WL_nil_seq ?_
          refine WP_ret fun a ha => ?_
          obtain rfl := Option.some.inj hs20
          have H68 : Holds (([] : List Res).flatMap Res.own) w w54 [] G := ((H56.cut 0).cut 0)
          exact ret_seq (ret_block (ret_seq (⟨ret_ne, rfl, ha.sub ⟨rfl, trivial⟩, H68⟩)))
        · have hs20 := if_f hc67 hs20
          refine WP_skip_seq ?_
          refine WP_seq ?_
          refine WP_seq ?_
          refine WP_region ?_
          refine XL_q rfl (qt_fieldAddr uf40 fi40_2 nz3 rfl) rfl rfl ?_
          have hB69 : Bx w54 b50 40 [.int .i64 x25.1, .int .i64 x25.2.1, .int .i64 x25.2.2] := Holds.bx (H56.pull 0)
          refine XL_load_bx u3 rfl hB69 rfl rfl rfl rfl ?_
          refine XL_q rfl (qt_lss rfl rfl) rfl rfl ?_
          refine XL_q rfl (qt_move rfl) rfl rfl ?_
          refine XL_join 4 57 (.bool ((decide (x25.2.2 < 1)) || (decide (x25.2.2 > 9999)))) ?_ (fun md hmd hk => ?_)
          rotate_left
          · obtain ⟨Q, rfl⟩ := Md.seq_of hmd
            rcases btf (decide (x25.2.2 < 1)) with hc70 | hc70
            · skip
              refine XL_skip (w_skip rfl hc70) rfl rfl ?_
              refine XL_skip (w_skip rfl hc70) rfl rfl ?_
              refine XL_skip (w_skip rfl hc70) rfl rfl ?_
              refine XL_q rfl (qt_pickT rfl hc70 rfl) rfl rfl ?_
              exact hk _ (Cov.same (by rw [hc70]; rfl) (Cov.fresh rfl (Cov.fresh rfl (Cov.fresh rfl (Cov.refl)))))
            · skip
              refine XL_q (w_take rfl hc70) (qt_fieldAddr uf40 fi40_2 nz3 rfl) rfl rfl ?_
              have hB71 : Bx w54 b50 40 [.int .i64 x25.1, .int .i64 x25.2.1, .int .i64 x25.2.2] := Holds.bx (H56.pull 0)
              refine XL_load_bx u3 rfl hB71 rfl (w_take rfl hc70) rfl rfl ?_
              refine XL_q (w_take rfl hc70) (qt_gtr rfl rfl) rfl rfl ?_
              refine XL_q rfl (qt_pickF rfl hc70 rfl) rfl rfl ?_
              exact hk _ (Cov.same (by rw [hc70]; rfl) (Cov.fresh rfl (Cov.fresh rfl (Cov.fresh rfl (Cov.refl)))))
          refine WL_nil_seq ?_
          refine WP_cond rfl (fun hc72 => ?_) (fun hc72 => ?_)
          · have hs20 := if_t hc72 hs20
            refine WP_seq ?_
            refine WP_region ?_
            refine XL_q rfl (qt_assign rfl) rfl rfl ?_
            refine WL_nil_seq ?_
            refine WP_ret fun a ha => ?_
            obtain rfl := Option.some.inj hs20
            have H73 : Holds (([] : List Res).flatMap Res.own) w w54 [] G := ((H56.cut 0).cut 0)
            exact ret_seq (ret_block (ret_seq (⟨ret_ne, rfl, ha.sub ⟨rfl, trivial⟩, H73⟩)))
          · have hs20 := if_f hc72 hs20
            refine WP_skip_seq ?_
            refine WP_seq ?_
            refine WP_tail 7 (by kernel_rfl) (by kernel_rfl) (fun w74 hb75 => ?_)
            have H76 : Holds (([] : List Res).flatMap Res.own) w w74 [.bx b50 40 [.int .i64 x25.1, .int .i64 x25.2.1, .int .i64 x25.2.2], .sl 3 (.int .i64) v11 s14] G := H56.grow hb75
            refine XL_q rfl (qt_move rfl) rfl rfl ?_
            refine XL_q rfl (qt_fieldAddr uf40 fi40_0 nz3 rfl) rfl rfl ?_
            have hB77 : Bx w74 b50 40 [.int .i64 x25.1, .int .i64 x25.2.1, .int .i64 x25.2.2] := Holds.bx (H76.pull 0)
            refine XL_load_bx u3 rfl hB77 rfl rfl rfl rfl ?_
            obtain ⟨x78, hx79, hs20⟩ := bind_some hs20
            refine XL_indexH H76.ctx (Has.c (Has.hd)) hx79 u23 i3 rfl rfl rfl rfl (fun b80 off81 cap82 hv83 => ?_)
            obtain ⟨F84, hat85, hdup86⟩ := H76.at (Has.c (Has.hd)) hx79 hv83
            refine XL_load_int (k := .i64) u3 rfl hat85 rfl rfl rfl ?_
            refine XL_q rfl (qt_fieldAddr uf40 fi40_2 nz3 rfl) rfl rfl ?_
            have hB87 : Bx w74 b50 40 [.int .i64 x25.1, .int .i64 x25.2.1, .int .i64 x25.2.2] := Holds.bx (H76.pull 0)
            refine XL_load_bx u3 rfl hB87 rfl rfl rfl rfl ?_
            refine SL_nil ?_
            refine XL_q rfl (qt_add rfl rfl) rfl rfl ?_
            obtain ⟨x88, hx89, hs20⟩ := bind_some hs20
            refine XL_indexH H76.ctx (Has.c (Has.hd)) hx89 u23 i3 rfl rfl rfl rfl (fun b90 off91 cap92 hv93 => ?_)
            have H94 : Holds (([] : List Res).flatMap Res.own) w w74 [.sl 3 (.int .i64) v11 s14, .bx b50 40 [.int .i64 x25.1, .int .i64 x25.2.1, .int .i64 x25.2.2]] G := H76.pull 1
            refine WL_storeH (fo := 0) (cs' := [.int .i64 (IntKind.wrap .i64 (x78 + x25.2.2))]) H94 hx89 hv93 (Upd.whole (Blt.int)) rfl il3 rfl rfl rfl rfl (fun w95 H96 => ?_)
            have H97 : Holds (([] : List Res).flatMap Res.own) w w95 [.sl 3 (.int .i64) v11 (List.set s14 (Int.toNat x25.1) (IntKind.wrap .i64 (x78 + x25.2.2))), .bx b50 40 [.int .i64 x25.1, .int .i64 x25.2.1, .int .i64 x25.2.2]] G := H96
            refine WL_nil_seq ?_
            refine WP_tail 7 (by kernel_rfl) (by kernel_rfl) (fun w98 hb99 => ?_)
            have H100 : Holds (([] : List Res).flatMap Res.own) w w98 [.sl 3 (.int .i64) v11 (List.set s14 (Int.toNat x25.1) (IntKind.wrap .i64 (x78 + x25.2.2))), .bx b50 40 [.int .i64 x25.1, .int .i64 x25.2.1, .int .i64 x25.2.2]] G := H97.grow hb99
            refine XL_q rfl (qt_move rfl) rfl rfl ?_
            refine XL_q rfl (qt_fieldAddr uf40 fi40_1 nz3 rfl) rfl rfl ?_
            have hB101 : Bx w98 b50 40 [.int .i64 x25.1, .int .i64 x25.2.1, .int .i64 x25.2.2] := Holds.bx (H100.pull 1)
            refine XL_load_bx u3 rfl hB101 rfl rfl rfl rfl ?_
            obtain ⟨x102, hx103, hs20⟩ := bind_some hs20
            refine XL_indexH H100.ctx (Has.hd) hx103 u23 i3 rfl rfl rfl rfl (fun b104 off105 cap106 hv107 => ?_)
            obtain ⟨F108, hat109, hdup110⟩ := H100.at (Has.hd) hx103 hv107
            refine XL_load_int (k := .i64) u3 rfl hat109 rfl rfl rfl ?_
            refine XL_q rfl (qt_fieldAddr uf40 fi40_2 nz3 rfl) rfl rfl ?_
            have hB111 : Bx w98 b50 40 [.int .i64 x25.1, .int .i64 x25.2.1, .int .i64 x25.2.2] := Holds.bx (H100.pull 1)
            refine XL_load_bx u3 rfl hB111 rfl rfl rfl rfl ?_
            refine SL_nil ?_
            refine XL_q rfl (qt_sub rfl rfl) rfl rfl ?_
            obtain ⟨x112, hx113, hs20⟩ := bind_some hs20
            refine XL_indexH H100.ctx (Has.hd) hx113 u23 i3 rfl rfl rfl rfl (fun b114 off115 cap116 hv117 => ?_)
            refine WL_storeH (fo := 0) (cs' := [.int .i64 (IntKind.wrap .i64 (x102 - x25.2.2))]) H100 hx113 hv117 (Upd.whole (Blt.int)) rfl il3 rfl rfl rfl rfl (fun w118 H119 => ?_)
            have H120 : Holds (([] : List Res).flatMap Res.own) w w118 [.sl 3 (.int .i64) v11 (List.set (List.set s14 (Int.toNat x25.1) (IntKind.wrap .i64 (x78 + x25.2.2))) (Int.toNat x25.2.1) (IntKind.wrap .i64 (x102 - x25.2.2))), .bx b50 40 [.int .i64 x25.1, .int .i64 x25.2.1, .int .i64 x25.2.2]] G := H119
            refine WL_nil fun a ha => ?_
            refine nrm_block (nrm_seq (WP.app ?_ ha))
            refine WP_region ?_
            refine XL_q rfl (qt_add rfl rfl) rfl rfl ?_
            refine XL_q rfl (qt_move rfl) rfl rfl ?_
            refine WL_nil fun a ha => ?_
            obtain rfl := Option.some.inj hs20
            have H121 : Holds (([] : List Res).flatMap Res.own) w w118 [.sl 3 (.int .i64) v11 (List.set (List.set s14 (Int.toNat x25.1) (IntKind.wrap .i64 (x78 + x25.2.2))) (Int.toNat x25.2.1) (IntKind.wrap .i64 (x102 - x25.2.2)))] G := (H120.cut 1)
            exact ⟨rfl, ha.sub ⟨rfl, rfl, rfl, rfl, rfl, trivial⟩, H121⟩
      · have hs20 := if_f hc24 hs20
        refine WP_exit fun a ha => ?_
        obtain rfl := Option.some.inj hs20
        exact exit_seq (⟨exit_ne, rfl, ha.sub ⟨rfl, trivial⟩, H23⟩)
    · intro e a17 w122 hO123
      rcases o15 with o15 | o15
      · skip
        obtain ⟨p124, rfl⟩ : ∃ z, z = o15 := ⟨o15, rfl⟩
        obtain ⟨rfl, hO126⟩ := hO123
        obtain ⟨ha, H125⟩ := hO126
        refine exit_block_eq (nrm_seq (WP.app ?_ ha))
        refine WP_seq ?_
        refine WP_seq ?_
        refine WP_region ?_
        refine XL_q rfl (qt_move rfl) rfl rfl ?_
        refine XL_lenH H125.ctx (t := (.int .i64)) (Has.hd) u23 rfl rfl rfl ?_
        refine XL_q rfl (qt_move rfl) rfl rfl ?_
        refine WL_nil_seq ?_
        refine WP_block ?_
        obtain ⟨o128, ho129, h⟩ := bind_some h
        refine fun a130 ha131 => wp_loop_fix (I := fun s a w2 => match s with | s127 => (Fr a 86 [(77, v11), (78, .int .i64 (List.length p124 : Int)), (79, .int .i64 s127)] ∧ Holds (([] : List Res).flatMap Res.own) w w2 [.sl 3 (.int .i64) v11 p124] G)) (O := fun o e a w2 => match o with | .inl _ => e = .exit 2 ∧ (Fr a 86 [] ∧ Holds (([] : List Res).flatMap Res.own) w w2 [] G) | .inr q0 => e = .ret ∧ (Fr a 86 [(4, .bool q0)] ∧ Holds (([] : List Res).flatMap Res.own) w w2 [] G)) ho129 ?_ ?_ ?_
        · exact ⟨ha131.sub ⟨rfl, rfl, rfl, trivial⟩, H125⟩
        · clear ha131
          intro s o134 a w132 hs133 hI135
          obtain ⟨s127, rfl⟩ : ∃ z, z = s := ⟨s, rfl⟩
          obtain ⟨ha, H136⟩ := hI135
          refine WP.app ?_ ha
          clear ha
          refine WP_seq ?_
          refine WP_region ?_
          refine XL_q rfl (qt_lss rfl rfl) rfl rfl ?_
          refine WL_nil_seq ?_
          refine WP_seq ?_
          refine WP_cond rfl (fun hc137 => ?_) (fun hc137 => ?_)
          · have hs133 := if_t hc137 hs133
            refine WP_skip_seq ?_
            refine WP_seq ?_
            refine WP_block ?_
            refine WP_seq ?_
            refine WP_region ?_
            obtain ⟨x138, hx139, hs133⟩ := bind_some hs133
            refine XL_indexH H136.ctx (Has.hd) hx139 u23 i3 rfl rfl rfl rfl (fun b140 off141 cap142 hv143 => ?_)
            obtain ⟨F144, hat145, hdup146⟩ := H136.at (Has.hd) hx139 hv143
            refine XL_load_int (k := .i64) u3 rfl hat145 rfl rfl rfl ?_
            refine XL_q rfl (qt_assign rfl) rfl rfl ?_
            refine WL_nil_seq ?_
            refine WP_seq ?_
            refine WP_region ?_
            refine XL_q rfl (qt_move rfl) rfl rfl ?_
            refine XL_q rfl (qt_neq rfl rfl) rfl rfl ?_
            refine WL_nil_seq ?_
            refine WP_cond rfl (fun hc147 => ?_) (fun hc147 => ?_)
            · have hs133 := if_t hc147 hs133
              refine WP_seq ?_
              refine WP_region ?_
              refine XL_q rfl (qt_assign rfl) rfl rfl ?_
              refine WL_nil_seq ?_
              refine WP_ret fun a ha => ?_
              obtain rfl := Option.some.inj hs133
              have H148 : Holds (([] : List Res).flatMap Res.own) w w132 [] G := (H136.cut 0)
              exact ret_block (ret_seq (⟨ret_ne, rfl, ha.sub ⟨rfl, trivial⟩, H148⟩))
            · have hs133 := if_f hc147 hs133
              refine WP_skip fun a ha => ?_
              refine nrm_block (nrm_seq (WP.app ?_ ha))
              refine WP_region ?_
              refine XL_q rfl (qt_add rfl rfl) rfl rfl ?_
              refine XL_q rfl (qt_move rfl) rfl rfl ?_
              refine WL_nil fun a ha => ?_
              obtain rfl := Option.some.inj hs133
              exact ⟨rfl, ha.sub ⟨rfl, rfl, rfl, trivial⟩, H136⟩
          · have hs133 := if_f hc137 hs133
            refine WP_exit fun a ha => ?_
            obtain rfl := Option.some.inj hs133
            have H149 : Holds (([] : List Res).flatMap Res.own) w w132 [] G := (H136.cut 0)
            exact exit_seq (⟨exit_ne, rfl, ha.sub trivial, H149⟩)
        · intro e a130 w150 hO151
          rcases o128 with o128 | o128
          · skip
            obtain ⟨rfl, hO153⟩ := hO151
            obtain ⟨ha, H152⟩ := hO153
            refine exit_block_eq (nrm_seq (WP.app ?_ ha))
            refine WP_seq ?_
            refine WP_region ?_
            refine XL_q rfl (qt_assign rfl) rfl rfl ?_
            refine WL_nil_seq ?_
            refine WP_ret fun a ha => ?_
            obtain rfl := Option.some.inj h
            exact ret1 rfl ha rfl ⟨rfl, H152⟩
          · skip
            obtain ⟨p154, rfl⟩ : ∃ z, z = o128 := ⟨o128, rfl⟩
            obtain ⟨rfl, hO156⟩ := hO151
            obtain ⟨ha, H155⟩ := hO156
            obtain rfl := Option.some.inj h
            exact ret_block (ret_seq (ret1 rfl ha rfl ⟨rfl, H155⟩))
      · skip
        obtain ⟨p157, p158⟩ := o15
        obtain ⟨rfl, hO160⟩ := hO123
        obtain ⟨ha, H159⟩ := hO160
        obtain rfl := Option.some.inj h
        exact ret_block (ret_seq (ret1 rfl ha rfl ⟨rfl, H159⟩))
theorem w_laws_FnSettleFast (w : World) (G : List Res) (vp0 : Value) (p0 : List Int) (hp0 : HasRo G (.int .u8) vp0 p0) (r : Bool) (h : laws_FnSettleFastS p0 = some r) (H : Ctx w G) : Calls Tryd.prog 6 #[vp0] w fun e w' => e = .returned (.bool r) ∧ Holds (([] : List Res).flatMap Res.own) w w' [] G := by
  have H : Holds (([] : List Res).flatMap Res.own) w w [] G := Holds.startN H
  refine calls_enter (args := [vp0]) (n := 59) Tryd.func6 rfl rfl rfl ?_
  unfold laws_FnSettleFastS at h
  refine WP_seq ?_
  refine WP_region ?_
  refine XL_q rfl (qt_assign rfl) rfl rfl ?_
  refine WL_nil_seq ?_
  refine WP_seq ?_
  refine WP_seq ?_
  refine WP_region ?_
  refine XL_q rfl (qt_move rfl) rfl rfl ?_
  refine XL_lenH H.ctx (t := (.int .u8)) (hp0.has) u22 rfl rfl rfl ?_
  refine XL_q rfl (qt_gtr rfl rfl) rfl rfl ?_
  refine WL_nil_seq ?_
  refine WP_cond rfl (fun hc1 => ?_) (fun hc1 => ?_)
  · have h := if_t hc1 h
    refine WP_seq ?_
    refine WP_region ?_
    refine XL_q rfl (qt_assign rfl) rfl rfl ?_
    refine WL_nil_seq ?_
    refine WP_ret fun a ha => ?_
    obtain rfl := Option.some.inj h
    exact ret_seq (ret1 rfl ha rfl ⟨rfl, H⟩)
  · have h := if_f hc1 h
    refine WP_skip_seq ?_
    refine WP_seq ?_
    refine WP_region ?_
    refine XL_q rfl (qt_move rfl) rfl rfl ?_
    obtain ⟨x2, hx3, h⟩ := bind_some h
    refine WL_call rfl rfl c22 (w_spec_DrawSettleFast w G vp0 p0 (hp0) x2 hx3 H.ctx) (by rfl) ?_
    rintro _ w4 ⟨v6, rfl, H5⟩; refine ⟨_, rfl, ?_⟩
    have H7 : Holds (([] : List Res).flatMap Res.own) w w4 [.sl 3 (.int .i64) v6 x2] G := H.calledN (Rs := []) H5
    refine XL_q rfl (qt_assign rfl) rfl rfl ?_
    refine WL_nil_seq ?_
    refine WP_seq ?_
    refine WP_region ?_
    refine XL_q rfl (qt_move rfl) rfl rfl ?_
    obtain ⟨x8, hx9, h⟩ := bind_some h
    refine WL_call rfl rfl c23 (w_impl_SettleFast w4 ([.sl 3 (.int .i64) v6 x2] ++ G) v6 x2 (Has.hd) x8 hx9 H7.ctx) (by rfl) ?_
    rintro _ w10 ⟨v12, rfl, H11⟩; refine ⟨_, rfl, ?_⟩
    have H13 : Holds (([] : List Res).flatMap Res.own) w w10 [.sl 40 (.pair (.int .i64) (.pair (.int .i64) (.int .i64))) v12 x8, .sl 3 (.int .i64) v6 x2] G := H7.calledN (Rs := []) H11
    refine XL_q rfl (qt_assign rfl) rfl rfl ?_
    refine WL_nil_seq ?_
    refine WP_seq ?_
    refine WP_seq ?_
    refine WP_region ?_
    refine XL_q rfl (qt_move rfl) rfl rfl ?_
    refine XL_q rfl (qt_move rfl) rfl rfl ?_
    obtain ⟨x14, hx15, h⟩ := bind_some h
    refine WL_call rfl rfl c25 (w_spec_SettleFast w10 ([.sl 40 (.pair (.int .i64) (.pair (.int .i64) (.int .i64))) v12 x8, .sl 3 (.int .i64) v6 x2] ++ G) v6 x2 (Has.c (Has.hd)) x14 hx15 H13.ctx) (by rfl) ?_
    rintro _ w16 ⟨v18, rfl, H17⟩; refine ⟨_, rfl, ?_⟩
    have H19 : Holds (([] : List Res).flatMap Res.own) w w16 [.sl 40 (.pair (.int .i64) (.pair (.int .i64) (.int .i64))) v18 x14, .sl 40 (.pair (.int .i64) (.pair (.int .i64) (.int .i64))) v12 x8, .sl 3 (.int .i64) v6 x2] G := H13.calledN (Rs := []) H17
    obtain ⟨x20, hx21, h⟩ := bind_some h
    refine WL_call rfl rfl c24 (w_laws_samePays w16 ([.sl 40 (.pair (.int .i64) (.pair (.int .i64) (.int .i64))) v18 x14, .sl 40 (.pair (.int .i64) (.pair (.int .i64) (.int .i64))) v12 x8, .sl 3 (.int .i64) v6 x2] ++ G) v12 x8 (Has.c (Has.hd)) v18 x14 (Has.hd) x20 hx21 H19.ctx) (by rfl) ?_
    rintro _ w22 ⟨rfl, H23⟩; refine ⟨_, rfl, ?_⟩
    have H24 : Holds (([] : List Res).flatMap Res.own) w w22 [.sl 40 (.pair (.int .i64) (.pair (.int .i64) (.int .i64))) v18 x14, .sl 40 (.pair (.int .i64) (.pair (.int .i64) (.int .i64))) v12 x8, .sl 3 (.int .i64) v6 x2] G := H19.calledN (Rs := []) H23
    refine XL_q rfl (qt_not rfl) rfl rfl ?_
    refine WL_nil_seq ?_
    refine WP_cond rfl (fun hc25 => ?_) (fun hc25 => ?_)
    · have h := if_t hc25 h
      refine WP_seq ?_
      refine WP_region ?_
      refine XL_q rfl (qt_assign rfl) rfl rfl ?_
      refine WL_nil_seq ?_
      refine WP_ret fun a ha => ?_
      obtain rfl := Option.some.inj h
      have H26 : Holds (([] : List Res).flatMap Res.own) w w22 [] G := (((H24.cut 0).cut 0).cut 0)
      exact ret_seq (ret1 rfl ha rfl ⟨rfl, H26⟩)
    · have h := if_f hc25 h
      refine WP_skip_seq ?_
      refine WP_seq ?_
      refine WP_seq ?_
      refine WP_still ?_
      refine XL_q rfl (qt_move rfl) rfl rfl ?_
      obtain ⟨x27, hx28, h⟩ := bind_some h
      refine QL_call rfl rfl c14 (fun w' hb => (w_spec_OwedValid w' ([.sl 40 (.pair (.int .i64) (.pair (.int .i64) (.int .i64))) v18 x14, .sl 40 (.pair (.int .i64) (.pair (.int .i64) (.int .i64))) v12 x8, .sl 3 (.int .i64) v6 x2] ++ G) v6 x2 (Has.c (Has.c (Has.hd))) x27 hx28 (H24.grow hb).ctx).mono fun e w'' hK => ⟨hK.1, hK.2.bel⟩) (by rfl) ?_
      refine XL_q rfl (qt_not rfl) rfl rfl ?_
      refine QL_nil fun a ha w29 hb30 => ?_
      have H31 : Holds (([] : List Res).flatMap Res.own) w w29 [.sl 40 (.pair (.int .i64) (.pair (.int .i64) (.int .i64))) v18 x14, .sl 40 (.pair (.int .i64) (.pair (.int .i64) (.int .i64))) v12 x8, .sl 3 (.int .i64) v6 x2] G := H24.grow hb30
      refine nrm_seq (WP.app ?_ ha)
      refine WP_cond rfl (fun hc32 => ?_) (fun hc32 => ?_)
      · have h := if_t hc32 h
        refine WP_seq ?_
        refine WP_still ?_
        refine XL_q rfl (qt_move rfl) rfl rfl ?_
        refine XL_lenH H31.ctx (t := (.pair (.int .i64) (.pair (.int .i64) (.int .i64)))) (Has.c (Has.hd)) u29 rfl rfl rfl ?_
        refine XL_q rfl (qt_eql rfl rfl) rfl rfl ?_
        refine XL_q rfl (qt_move rfl) rfl rfl ?_
        obtain ⟨b33, hg34, h⟩ := bind_some h
        refine XL_join 2 27 (.bool b33) ?_ (fun md hmd hk => ?_)
        rotate_left
        · obtain ⟨K, rfl⟩ := Md.quiet_of hmd
          rcases btf ((List.length x8 : Int) == 0) with hc35 | hc35
          · skip
            have hg34 := if_t hc35 hg34
            obtain ⟨x36, hx37, hg34⟩ := bind_some hg34
            refine QL_call (w_take rfl hc35) rfl c15 (fun w' hb => (w_laws_alive w' ([.sl 40 (.pair (.int .i64) (.pair (.int .i64) (.int .i64))) v18 x14, .sl 40 (.pair (.int .i64) (.pair (.int .i64) (.int .i64))) v12 x8, .sl 3 (.int .i64) v6 x2] ++ G)  x36 hx37 (H31.grow hb).ctx).mono fun e w'' hK => ⟨hK.1, hK.2.bel⟩) (by rfl) ?_
            refine XL_q rfl (qt_pickT rfl hc35 rfl) rfl rfl ?_
            exact hk _ (Cov.same (vb hg34) (Cov.fresh rfl (Cov.refl)))
          · skip
            refine XL_skip (w_skip rfl hc35) rfl rfl ?_
            refine XL_q rfl (qt_pickF rfl hc35 rfl) rfl rfl ?_
            exact hk _ (Cov.same (vb (if_f hc35 hg34)) (Cov.fresh rfl (Cov.refl)))
        refine XL_q rfl (qt_assign rfl) rfl rfl ?_
        refine QL_nil fun a ha w38 hb39 => ?_
        have H40 : Holds (([] : List Res).flatMap Res.own) w w38 [.sl 40 (.pair (.int .i64) (.pair (.int .i64) (.int .i64))) v18 x14, .sl 40 (.pair (.int .i64) (.pair (.int .i64) (.int .i64))) v12 x8, .sl 3 (.int .i64) v6 x2] G := H31.grow hb39
        refine nrm_seq (WP.app ?_ ha)
        refine WP_ret fun a ha => ?_
        obtain rfl := Option.some.inj h
        have H41 : Holds (([] : List Res).flatMap Res.own) w w38 [] G := (((H40.cut 0).cut 0).cut 0)
        exact ret_seq (ret1 rfl ha rfl ⟨rfl, H41⟩)
      · have h := if_f hc32 h
        refine WP_skip_seq ?_
        refine WP_seq ?_
        refine WP_region ?_
        refine XL_q rfl (qt_assign rfl) rfl rfl ?_
        refine WL_nil_seq ?_
        refine WP_seq ?_
        refine WP_seq ?_
        refine WP_region ?_
        refine XL_q rfl (qt_assign rfl) rfl rfl ?_
        refine WL_nil_seq ?_
        refine WP_block ?_
        obtain ⟨o44, ho45, h⟩ := bind_some h
        have H48 : Holds (([] : List Res).flatMap Res.own) w w29 [.sl 3 (.int .i64) v6 x2, .sl 40 (.pair (.int .i64) (.pair (.int .i64) (.int .i64))) v12 x8] G := ((H31.cut 0).pull 1)
        refine fun a46 ha47 => wp_loop_fix (I := fun s a w2 => match s with | (s42, s43) => (Fr a 59 [(3, v6), (4, v12), (5, .int .i64 s42), (6, .int .i64 s43)] ∧ Holds (([] : List Res).flatMap Res.own) w w2 [.sl 3 (.int .i64) v6 x2, .sl 40 (.pair (.int .i64) (.pair (.int .i64) (.int .i64))) v12 x8] G)) (O := fun o e a w2 => match o with | q0 => e = .exit 0 ∧ (Fr a 59 [(3, v6), (4, v12), (5, .int .i64 q0)] ∧ Holds (([] : List Res).flatMap Res.own) w w2 [.sl 3 (.int .i64) v6 x2, .sl 40 (.pair (.int .i64) (.pair (.int .i64) (.int .i64))) v12 x8] G)) ho45 ?_ ?_ ?_
        · exact ⟨ha47.sub ⟨rfl, rfl, rfl, rfl, trivial⟩, H48⟩
        · clear ha47
          intro s o51 a w49 hs50 hI52
          obtain ⟨s42, s43⟩ := s
          obtain ⟨ha, H53⟩ := hI52
          refine WP.app ?_ ha
          clear ha
          refine WP_seq ?_
          refine WP_seq ?_
          refine WP_region ?_
          refine XL_q rfl (qt_move rfl) rfl rfl ?_
          refine XL_q rfl (qt_move rfl) rfl rfl ?_
          refine XL_lenH H53.ctx (t := (.int .i64)) (Has.hd) u23 rfl rfl rfl ?_
          refine XL_q rfl (qt_lss rfl rfl) rfl rfl ?_
          refine WL_nil_seq ?_
          refine WP_cond rfl (fun hc54 => ?_) (fun hc54 => ?_)
          · have hs50 := if_t hc54 hs50
            refine WP_skip_seq ?_
            refine WP_seq ?_
            refine WP_block ?_
            refine WP_seq ?_
            refine WP_region ?_
            refine XL_q rfl (qt_move rfl) rfl rfl ?_
            refine XL_q rfl (qt_move rfl) rfl rfl ?_
            obtain ⟨x55, hx56, hs50⟩ := bind_some hs50
            refine XL_indexH H53.ctx (Has.hd) hx56 u23 i3 rfl rfl rfl rfl (fun b57 off58 cap59 hv60 => ?_)
            obtain ⟨F61, hat62, hdup63⟩ := H53.at (Has.hd) hx56 hv60
            refine XL_load_int (k := .i64) u3 rfl hat62 rfl rfl rfl ?_
            refine XL_q rfl (qt_neq rfl rfl) rfl rfl ?_
            refine WL_nil_seq ?_
            refine WP_cond rfl (fun hc64 => ?_) (fun hc64 => ?_)
            · have hs50 := if_t hc64 hs50
              refine WP_region ?_
              refine XL_q rfl (qt_move rfl) rfl rfl ?_
              refine XL_q rfl (qt_add rfl rfl) rfl rfl ?_
              refine XL_q rfl (qt_assign rfl) rfl rfl ?_
              refine WL_nil fun a ha => ?_
              refine nrm_block (nrm_seq (WP.app ?_ ha))
              refine WP_region ?_
              refine XL_q rfl (qt_move rfl) rfl rfl ?_
              refine XL_q rfl (qt_add rfl rfl) rfl rfl ?_
              refine XL_q rfl (qt_assign rfl) rfl rfl ?_
              refine WL_nil fun a ha => ?_
              obtain rfl := Option.some.inj hs50
              have H65 : Holds (([] : List Res).flatMap Res.own) w w49 [.sl 3 (.int .i64) v6 x2, .sl 40 (.pair (.int .i64) (.pair (.int .i64) (.int .i64))) v12 x8] G := ((H53.pull 1).pull 1)
              exact ⟨rfl, ha.sub ⟨rfl, rfl, rfl, rfl, trivial⟩, H65⟩
            · have hs50 := if_f hc64 hs50
              refine WP_skip fun a ha => ?_
              refine nrm_block (nrm_seq (WP.app ?_ ha))
              refine WP_region ?_
              refine XL_q rfl (qt_move rfl) rfl rfl ?_
              refine XL_q rfl (qt_add rfl rfl) rfl rfl ?_
              refine XL_q rfl (qt_assign rfl) rfl rfl ?_
              refine WL_nil fun a ha => ?_
              obtain rfl := Option.some.inj hs50
              have H66 : Holds (([] : List Res).flatMap Res.own) w w49 [.sl 3 (.int .i64) v6 x2, .sl 40 (.pair (.int .i64) (.pair (.int .i64) (.int .i64))) v12 x8] G := ((H53.pull 1).pull 1)
              exact ⟨rfl, ha.sub ⟨rfl, rfl, rfl, rfl, trivial⟩, H66⟩
          · have hs50 := if_f hc54 hs50
            refine WP_exit fun a ha => ?_
            obtain rfl := Option.some.inj hs50
            have H67 : Holds (([] : List Res).flatMap Res.own) w w49 [.sl 3 (.int .i64) v6 x2, .sl 40 (.pair (.int .i64) (.pair (.int .i64) (.int .i64))) v12 x8] G := ((H53.pull 1).pull 1)
            exact exit_seq (⟨exit_ne, rfl, ha.sub ⟨rfl, rfl, rfl, trivial⟩, H67⟩)
        · intro e a46 w68 hO69
          obtain ⟨p70, rfl⟩ : ∃ z, z = o44 := ⟨o44, rfl⟩
          obtain ⟨rfl, hO72⟩ := hO69
          obtain ⟨ha, H71⟩ := hO72
          refine exit_block_eq (nrm_seq (WP.app ?_ ha))
          refine WP_seq ?_
          refine WP_still ?_
          refine XL_q rfl (qt_move rfl) rfl rfl ?_
          refine XL_q rfl (qt_move rfl) rfl rfl ?_
          obtain ⟨x73, hx74, h⟩ := bind_some h
          refine QL_call rfl rfl c26 (fun w' hb => (w_impl_PaysOk w' ([.sl 3 (.int .i64) v6 x2, .sl 40 (.pair (.int .i64) (.pair (.int .i64) (.int .i64))) v12 x8] ++ G) v6 x2 (Has.hd) v12 x8 (Has.c (Has.hd)) x73 hx74 (H71.grow hb).ctx).mono fun e w'' hK => ⟨hK.1, hK.2.bel⟩) (by rfl) ?_
          refine XL_q rfl (qt_move rfl) rfl rfl ?_
          refine XL_join 14 58 (.bool (x73 && (((p70 == 0) && ((List.length x8 : Int) == 0)) || (decide ((List.length x8 : Int) < p70))))) ?_ (fun md hmd hk => ?_)
          rotate_left
          · obtain ⟨K, rfl⟩ := Md.quiet_of hmd
            rcases btf x73 with hc75 | hc75
            · skip
              refine XL_q (w_take rfl hc75) (qt_move rfl) rfl rfl ?_
              refine XL_q (w_take rfl hc75) (qt_eql rfl rfl) rfl rfl ?_
              refine XL_q (w_take rfl hc75) (qt_move rfl) rfl rfl ?_
              refine XL_join 4 51 (.bool ((p70 == 0) && ((List.length x8 : Int) == 0))) ?_ (fun md hmd hk => ?_)
              rotate_left
              · obtain ⟨K, rfl⟩ := Md.quiet_of hmd
                rcases btf (p70 == 0) with hc76 | hc76
                · skip
                  refine XL_q (w_take rfl hc76) (qt_move rfl) rfl rfl ?_
                  refine XL_lenH H71.ctx (t := (.pair (.int .i64) (.pair (.int .i64) (.int .i64)))) (Has.c (Has.hd)) u29 (w_take rfl hc76) rfl rfl ?_
                  refine XL_q (w_take rfl hc76) (qt_eql rfl rfl) rfl rfl ?_
                  refine XL_q (w_take rfl hc75) (qt_pickT rfl hc76 rfl) rfl rfl ?_
                  exact hk _ (Cov.same (by rw [hc76]; rfl) (Cov.fresh rfl (Cov.fresh rfl (Cov.fresh rfl (Cov.refl)))))
                · skip
                  refine XL_skip (w_skip rfl hc76) rfl rfl ?_
                  refine XL_skip (w_skip rfl hc76) rfl rfl ?_
                  refine XL_skip (w_skip rfl hc76) rfl rfl ?_
                  refine XL_q (w_take rfl hc75) (qt_pickF rfl hc76 rfl) rfl rfl ?_
                  exact hk _ (Cov.same (by rw [hc76]; rfl) (Cov.fresh rfl (Cov.fresh rfl (Cov.fresh rfl (Cov.refl)))))
              refine XL_q (w_take rfl hc75) (qt_move rfl) rfl rfl ?_
              refine XL_join 5 57 (.bool (((p70 == 0) && ((List.length x8 : Int) == 0)) || (decide ((List.length x8 : Int) < p70)))) ?_ (fun md hmd hk => ?_)
              rotate_left
              · obtain ⟨K, rfl⟩ := Md.quiet_of hmd
                rcases btf ((p70 == 0) && ((List.length x8 : Int) == 0)) with hc77 | hc77
                · skip
                  refine XL_skip (w_skip rfl hc77) rfl rfl ?_
                  refine XL_skip (w_skip rfl hc77) rfl rfl ?_
                  refine XL_skip (w_skip rfl hc77) rfl rfl ?_
                  refine XL_skip (w_skip rfl hc77) rfl rfl ?_
                  refine XL_q (w_take rfl hc75) (qt_pickT rfl hc77 rfl) rfl rfl ?_
                  exact hk _ (Cov.same (by rw [hc77]; rfl) (Cov.fresh rfl (Cov.fresh rfl (Cov.fresh rfl (Cov.fresh rfl (Cov.refl))))))
                · skip
                  refine XL_q (w_take rfl hc77) (qt_move rfl) rfl rfl ?_
                  refine XL_lenH H71.ctx (t := (.pair (.int .i64) (.pair (.int .i64) (.int .i64)))) (Has.c (Has.hd)) u29 (w_take rfl hc77) rfl rfl ?_
                  refine XL_q (w_take rfl hc77) (qt_move rfl) rfl rfl ?_
                  refine XL_q (w_take rfl hc77) (qt_lss rfl rfl) rfl rfl ?_
                  refine XL_q (w_take rfl hc75) (qt_pickF rfl hc77 rfl) rfl rfl ?_
                  exact hk _ (Cov.same (by rw [hc77]; rfl) (Cov.fresh rfl (Cov.fresh rfl (Cov.fresh rfl (Cov.fresh rfl (Cov.refl))))))
              refine XL_q rfl (qt_pickT rfl hc75 rfl) rfl rfl ?_
              exact hk _ (Cov.same (by rw [hc75]; rfl) (Cov.fresh rfl (Cov.fresh rfl (Cov.fresh rfl (Cov.fresh rfl (Cov.fresh rfl (Cov.fresh rfl (Cov.refl))))))))
            · skip
              refine XL_skip (w_skip rfl hc75) rfl rfl ?_
              refine XL_skip (w_skip rfl hc75) rfl rfl ?_
              refine XL_skip (w_skip rfl hc75) rfl rfl ?_
              refine XL_skip rfl rfl rfl ?_
              refine XL_skip rfl rfl rfl ?_
              refine XL_skip rfl rfl rfl ?_
              refine XL_skip (w_skip rfl hc75) rfl rfl ?_
              refine XL_skip (w_skip rfl hc75) rfl rfl ?_
              refine XL_skip rfl rfl rfl ?_
              refine XL_skip rfl rfl rfl ?_
              refine XL_skip rfl rfl rfl ?_
              refine XL_skip rfl rfl rfl ?_
              refine XL_skip (w_skip rfl hc75) rfl rfl ?_
              refine XL_q rfl (qt_pickF rfl hc75 rfl) rfl rfl ?_
              exact hk _ (Cov.same (by rw [hc75]; rfl) (Cov.fresh rfl (Cov.fresh rfl (Cov.fresh rfl (Cov.fresh rfl (Cov.fresh rfl (Cov.fresh rfl (Cov.fresh rfl (Cov.fresh rfl (Cov.fresh rfl (Cov.fresh rfl (Cov.fresh rfl (Cov.fresh rfl (Cov.fresh rfl (Cov.refl)))))))))))))))
          refine XL_q rfl (qt_assign rfl) rfl rfl ?_
          refine QL_nil fun a ha w78 hb79 => ?_
          have H80 : Holds (([] : List Res).flatMap Res.own) w w78 [.sl 3 (.int .i64) v6 x2, .sl 40 (.pair (.int .i64) (.pair (.int .i64) (.int .i64))) v12 x8] G := H71.grow hb79
          refine nrm_seq (WP.app ?_ ha)
          refine WP_ret fun a ha => ?_
          obtain rfl := Option.some.inj h
          have H81 : Holds (([] : List Res).flatMap Res.own) w w78 [] G := ((H80.cut 0).cut 0)
          exact ret1 rfl ha rfl ⟨rfl, H81⟩
theorem w_spec_l20Pays (w : World) (G : List Res) (bp0 : Nat) (vp0_0 : Value) (p0_0 : List Int) (hp0_0 : Has G (.int .u8) vp0_0 p0_0) (p0_1 : Int) (r : Int × (List Int) × (List (Int × Int × Int))) (h : spec_l20PaysS p0_0 p0_1 = some r) (H : Ctx w ([.bx bp0 69 [vp0_0, .int .i64 p0_1]] ++ G)) : Calls Tryd.prog 55 #[.pointer (some ⟨bp0, 0, none⟩)] w fun e w' => ∃ (v1 : Value) (v2 : Value), e = .returned (.tuple #[v1, v2]) ∧ Holds (([.bx bp0 69 [vp0_0, .int .i64 p0_1]] : List Res).flatMap Res.own) w w' [.sl 3 (.int .i64) v1 r.2.1, .sl 40 (.pair (.int .i64) (.pair (.int .i64) (.int .i64))) v2 r.2.2, .bx bp0 69 [vp0_0, .int .i64 r.1]] G := by
  have H : Holds (([.bx bp0 69 [vp0_0, .int .i64 p0_1]] : List Res).flatMap Res.own) w w [.bx bp0 69 [vp0_0, .int .i64 p0_1]] G := Holds.startN H
  refine calls_enter (args := [.pointer (some ⟨bp0, 0, none⟩)]) (n := 94) Tryd.func55 rfl rfl rfl ?_
  unfold spec_l20PaysS at h
  refine WP_seq ?_
  refine WP_region ?_
  refine XL_q rfl (qt_assign rfl) rfl rfl ?_
  refine XL_q rfl (qt_assign rfl) rfl rfl ?_
  refine WL_nil_seq ?_
  refine WP_seq ?_
  refine WP_region ?_
  refine XL_q rfl (qt_move rfl) rfl rfl ?_
  obtain ⟨x1, hx2, h⟩ := bind_some h
  refine WL_call rfl rfl c43 (w_spec_l20Owed w G bp0 vp0_0 p0_0 (hp0_0) p0_1 14 x1 hx2 H.ctx) (by rfl) ?_
  rintro _ w3 ⟨v5, rfl, H4⟩; refine ⟨_, rfl, ?_⟩
  have H6 : Holds (([.bx bp0 69 [vp0_0, .int .i64 p0_1]] : List Res).flatMap Res.own) w w3 [.sl 3 (.int .i64) v5 x1.2, .bx bp0 69 [vp0_0, .int .i64 x1.1]] G := H.calledN (Rs := [_]) H4
  refine XL_q rfl (qt_assign rfl) rfl rfl ?_
  refine WL_nil_seq ?_
  refine WP_seq ?_
  refine WP_region ?_
  refine XL_q rfl (qt_move rfl) rfl rfl ?_
  obtain ⟨x7, hx8, h⟩ := bind_some h
  refine WL_call rfl rfl c25 (w_spec_SettleFast w3 ([.sl 3 (.int .i64) v5 x1.2, .bx bp0 69 [vp0_0, .int .i64 x1.1]] ++ G) v5 x1.2 (Has.hd) x7 hx8 H6.ctx) (by rfl) ?_
  rintro _ w9 ⟨v11, rfl, H10⟩; refine ⟨_, rfl, ?_⟩
  have H12 : Holds (([.bx bp0 69 [vp0_0, .int .i64 p0_1]] : List Res).flatMap Res.own) w w9 [.sl 40 (.pair (.int .i64) (.pair (.int .i64) (.int .i64))) v11 x7, .sl 3 (.int .i64) v5 x1.2, .bx bp0 69 [vp0_0, .int .i64 x1.1]] G := H6.calledN (Rs := []) H10
  refine XL_q rfl (qt_assign rfl) rfl rfl ?_
  refine WL_nil_seq ?_
  refine WP_seq ?_
  refine WP_seq ?_
  refine WP_region ?_
  refine XL_q rfl (qt_move rfl) rfl rfl ?_
  have H15 : Holds (([.bx bp0 69 [vp0_0, .int .i64 p0_1]] : List Res).flatMap Res.own) w w9 [.bx bp0 69 [vp0_0, .int .i64 x1.1], .sl 40 (.pair (.int .i64) (.pair (.int .i64) (.int .i64))) v11 x7, .sl 3 (.int .i64) v5 x1.2] G := H12.pull 2
  obtain ⟨x13, hx14, h⟩ := bind_some h
  refine WL_call rfl rfl c65 (w_spec_l20Rd__pick w9 ([.sl 40 (.pair (.int .i64) (.pair (.int .i64) (.int .i64))) v11 x7, .sl 3 (.int .i64) v5 x1.2] ++ G) bp0 vp0_0 p0_0 (hp0_0.c.c) x1.1 3 x13 hx14 H15.ctx) (by rfl) ?_
  rintro _ w16 ⟨rfl, H17⟩; refine ⟨_, rfl, ?_⟩
  have H18 : Holds (([.bx bp0 69 [vp0_0, .int .i64 p0_1]] : List Res).flatMap Res.own) w w16 [.bx bp0 69 [vp0_0, .int .i64 x13.1], .sl 40 (.pair (.int .i64) (.pair (.int .i64) (.int .i64))) v11 x7, .sl 3 (.int .i64) v5 x1.2] G := H15.calledN (Rs := [_]) H17
  refine XL_q rfl (qt_eql rfl rfl) rfl rfl ?_
  refine XL_q rfl (qt_move rfl) rfl rfl ?_
  obtain ⟨o21, ho22, h⟩ := bind_some h
  obtain ⟨g19, b20⟩ := o21
  refine WL_cutM 3 (fun a w2 => (Fr a 94 [(0, .pointer (some ⟨bp0, 0, none⟩)), (4, v5), (5, v11), (18, .bool b20)] ∧ Holds (([.bx bp0 69 [vp0_0, .int .i64 p0_1]] : List Res).flatMap Res.own) w w2 [.bx bp0 69 [vp0_0, .int .i64 g19], .sl 3 (.int .i64) v5 x1.2, .sl 40 (.pair (.int .i64) (.pair (.int .i64) (.int .i64))) v11 x7] G)) ?_ ?_
  · rcases btf (x13.2 == 0) with hc23 | hc23
    · have ho22 := if_t hc23 ho22
      refine XL_q (w_take rfl hc23) (qt_move rfl) rfl rfl ?_
      obtain ⟨x24, hx25, ho22⟩ := bind_some ho22
      refine WL_call (w_take rfl hc23) rfl c14 (w_spec_OwedValid w16 ([.bx bp0 69 [vp0_0, .int .i64 x13.1], .sl 40 (.pair (.int .i64) (.pair (.int .i64) (.int .i64))) v11 x7, .sl 3 (.int .i64) v5 x1.2] ++ G) v5 x1.2 (Has.c (Has.c (Has.hd))) x24 hx25 H18.ctx) (by rfl) ?_
      rintro _ w26 ⟨rfl, H27⟩; refine ⟨_, rfl, ?_⟩
      have H28 : Holds (([.bx bp0 69 [vp0_0, .int .i64 p0_1]] : List Res).flatMap Res.own) w w26 [.bx bp0 69 [vp0_0, .int .i64 x13.1], .sl 40 (.pair (.int .i64) (.pair (.int .i64) (.int .i64))) v11 x7, .sl 3 (.int .i64) v5 x1.2] G := H18.calledN (Rs := []) H27
      refine XL_q rfl (qt_pickT rfl hc23 rfl) rfl rfl ?_
      refine WL_nil fun a ha => ?_
      obtain ⟨rfl, rfl⟩ := Option.some.inj ho22 |> Prod.mk.inj
      have H29 : Holds (([.bx bp0 69 [vp0_0, .int .i64 p0_1]] : List Res).flatMap Res.own) w w26 [.bx bp0 69 [vp0_0, .int .i64 x13.1], .sl 3 (.int .i64) v5 x1.2, .sl 40 (.pair (.int .i64) (.pair (.int .i64) (.int .i64))) v11 x7] G := (((H28.pull 1).pull 2).pull 2)
      exact nrm_seq ⟨ha.sub ⟨rfl, rfl, rfl, rfl, trivial⟩, H29⟩
    · have ho22 := if_f hc23 ho22
      refine XL_skip (w_skip rfl hc23) rfl rfl ?_
      refine XL_skip (w_skip rfl hc23) rfl rfl ?_
      refine XL_q rfl (qt_pickF rfl hc23 rfl) rfl rfl ?_
      refine WL_nil fun a ha => ?_
      obtain ⟨rfl, rfl⟩ := Option.some.inj ho22 |> Prod.mk.inj
      have H30 : Holds (([.bx bp0 69 [vp0_0, .int .i64 p0_1]] : List Res).flatMap Res.own) w w16 [.bx bp0 69 [vp0_0, .int .i64 x13.1], .sl 3 (.int .i64) v5 x1.2, .sl 40 (.pair (.int .i64) (.pair (.int .i64) (.int .i64))) v11 x7] G := (((H18.pull 1).pull 2).pull 2)
      exact nrm_seq ⟨ha.sub ⟨rfl, rfl, rfl, rfl, trivial⟩, H30⟩
  intro a w31 hI32
  obtain ⟨ha, H33⟩ := hI32
  refine SL_app ?_ ha
  clear ha
  refine WL_nil_seq ?_
  obtain ⟨o35, ho36, h⟩ := bind_some h
  obtain ⟨j34, rfl⟩ : ∃ z, z = o35 := ⟨o35, rfl⟩
  refine WP_join (M := fun a w2 => ∃ vj34, Fr a 94 [(0, .pointer (some ⟨bp0, 0, none⟩)), (4, v5), (5, vj34)] ∧ Holds (([.bx bp0 69 [vp0_0, .int .i64 p0_1]] : List Res).flatMap Res.own) w w2 [.bx bp0 69 [vp0_0, .int .i64 g19], .sl 3 (.int .i64) v5 x1.2, .sl 40 (.pair (.int .i64) (.pair (.int .i64) (.int .i64))) vj34 j34] G) ?_ ?_
  · refine WP_cond rfl (fun hc37 => ?_) (fun hc37 => ?_)
    · have ho36 := if_t hc37 ho36
      refine WP_seq ?_
      refine WP_region ?_
      refine WL_buildH (t := (.pair (.int .i64) (.pair (.int .i64) (.int .i64)))) (args := []) (xs := ([] : List (Int × Int × Int))) H33 (BltL.nil) u29 j40 rfl rfl rfl rfl rfl rfl (fun v38 w39 H40 => ?_)
      have H41 : Holds (([.bx bp0 69 [vp0_0, .int .i64 p0_1]] : List Res).flatMap Res.own) w w39 [.sl 40 (.pair (.int .i64) (.pair (.int .i64) (.int .i64))) v38 ([]), .bx bp0 69 [vp0_0, .int .i64 g19], .sl 3 (.int .i64) v5 x1.2, .sl 40 (.pair (.int .i64) (.pair (.int .i64) (.int .i64))) v11 x7] G := H40
      refine XL_q rfl (qt_assign rfl) rfl rfl ?_
      refine WL_nil_seq ?_
      refine WP_seq ?_
      refine WP_region ?_
      refine WL_buildH (t := (.int .i64)) (args := []) (xs := ([] : List Int)) H41 (BltL.nil) u23 j3 rfl rfl rfl rfl rfl rfl (fun v42 w43 H44 => ?_)
      have H45 : Holds (([.bx bp0 69 [vp0_0, .int .i64 p0_1]] : List Res).flatMap Res.own) w w43 [.sl 3 (.int .i64) v42 ([]), .sl 40 (.pair (.int .i64) (.pair (.int .i64) (.int .i64))) v38 ([]), .bx bp0 69 [vp0_0, .int .i64 g19], .sl 3 (.int .i64) v5 x1.2, .sl 40 (.pair (.int .i64) (.pair (.int .i64) (.int .i64))) v11 x7] G := H44
      refine XL_q rfl (qt_move rfl) rfl rfl ?_
      obtain ⟨x46, hx47, ho36⟩ := bind_some ho36
      refine WL_appendH H45 (Has.c (Has.c (Has.c (Has.hd)))) hx47 u23 j3 rfl rfl rfl rfl rfl rfl (fun v48 w49 H50 => ?_)
      have H51 : Holds (([.bx bp0 69 [vp0_0, .int .i64 p0_1]] : List Res).flatMap Res.own) w w49 [.sl 3 (.int .i64) v48 x46, .sl 40 (.pair (.int .i64) (.pair (.int .i64) (.int .i64))) v38 ([]), .bx bp0 69 [vp0_0, .int .i64 g19], .sl 3 (.int .i64) v5 x1.2, .sl 40 (.pair (.int .i64) (.pair (.int .i64) (.int .i64))) v11 x7] G := H50
      refine XL_q rfl (qt_assign rfl) rfl rfl ?_
      refine WL_nil_seq ?_
      refine WP_seq ?_
      refine WP_region ?_
      refine XL_q rfl (qt_assign rfl) rfl rfl ?_
      refine WL_nil_seq ?_
      refine WP_block ?_
      obtain ⟨o55, ho56, ho36⟩ := bind_some ho36
      have H59 : Holds (([.bx bp0 69 [vp0_0, .int .i64 p0_1]] : List Res).flatMap Res.own) w w49 [.bx bp0 69 [vp0_0, .int .i64 g19], .sl 3 (.int .i64) v5 x1.2, .sl 40 (.pair (.int .i64) (.pair (.int .i64) (.int .i64))) v38 ([]), .sl 3 (.int .i64) v48 x46] G := ((((H51.cut 4).pull 1).pull 3).pull 3)
      refine fun a57 ha58 => wp_loop_fix (I := fun s a w2 => match s with | (s52, s53, s54) => ∃ vs52, Fr a 94 [(0, .pointer (some ⟨bp0, 0, none⟩)), (4, v5), (5, vs52), (6, v48), (7, .int .i64 s53)] ∧ Holds (([.bx bp0 69 [vp0_0, .int .i64 p0_1]] : List Res).flatMap Res.own) w w2 [.bx bp0 69 [vp0_0, .int .i64 g19], .sl 3 (.int .i64) v5 x1.2, .sl 40 (.pair (.int .i64) (.pair (.int .i64) (.int .i64))) vs52 s52, .sl 3 (.int .i64) v48 s54] G) (O := fun o e a w2 => match o with | (q0, q1) => e = .exit 0 ∧ ∃ vq0, Fr a 94 [(0, .pointer (some ⟨bp0, 0, none⟩)), (4, v5), (5, vq0)] ∧ Holds (([.bx bp0 69 [vp0_0, .int .i64 p0_1]] : List Res).flatMap Res.own) w w2 [.bx bp0 69 [vp0_0, .int .i64 g19], .sl 3 (.int .i64) v5 x1.2, .sl 40 (.pair (.int .i64) (.pair (.int .i64) (.int .i64))) vq0 q0] G) ho56 ?_ ?_ ?_
      · exact ⟨v38, ha58.sub ⟨rfl, rfl, rfl, rfl, rfl, trivial⟩, H59⟩
      · clear ha58
        intro s o62 a w60 hs61 hI63
        obtain ⟨s52, s53, s54⟩ := s
        obtain ⟨vs52, ha, H64⟩ := hI63
        refine WP.app ?_ ha
        clear ha
        refine WP_seq ?_
        refine WP_seq ?_
        refine WP_region ?_
        refine XL_q rfl (qt_move rfl) rfl rfl ?_
        refine XL_q rfl (qt_add rfl rfl) rfl rfl ?_
        refine XL_q rfl (qt_move rfl) rfl rfl ?_
        refine XL_lenH H64.ctx (t := (.int .i64)) (Has.c (Has.c (Has.c (Has.hd)))) u23 rfl rfl rfl ?_
        refine XL_q rfl (qt_lss rfl rfl) rfl rfl ?_
        refine WL_nil_seq ?_
        refine WP_cond rfl (fun hc65 => ?_) (fun hc65 => ?_)
        · have hs61 := if_t hc65 hs61
          refine WP_skip_seq ?_
          refine WP_seq ?_
          refine WP_block ?_
          refine WP_seq ?_
          refine WP_seq ?_
          refine WP_region ?_
          refine XL_q rfl (qt_move rfl) rfl rfl ?_
          refine XL_q rfl (qt_move rfl) rfl rfl ?_
          obtain ⟨x66, hx67, hs61⟩ := bind_some hs61
          refine XL_indexH H64.ctx (Has.c (Has.c (Has.c (Has.hd)))) hx67 u23 i3 rfl rfl rfl rfl (fun b68 off69 cap70 hv71 => ?_)
          obtain ⟨F72, hat73, hdup74⟩ := H64.at (Has.c (Has.c (Has.c (Has.hd)))) hx67 hv71
          refine XL_load_int (k := .i64) u3 rfl hat73 rfl rfl rfl ?_
          refine XL_q rfl (qt_lss rfl rfl) rfl rfl ?_
          refine WL_nil_seq ?_
          obtain ⟨o76, ho77, hs61⟩ := bind_some hs61
          obtain ⟨j75, rfl⟩ : ∃ z, z = o76 := ⟨o76, rfl⟩
          refine WP_join (M := fun a w2 => ∃ vj75, Fr a 94 [(0, .pointer (some ⟨bp0, 0, none⟩)), (4, v5), (5, vj75), (6, v48), (7, .int .i64 s53)] ∧ Holds (([.bx bp0 69 [vp0_0, .int .i64 p0_1]] : List Res).flatMap Res.own) w w2 [.bx bp0 69 [vp0_0, .int .i64 g19], .sl 3 (.int .i64) v5 x1.2, .sl 40 (.pair (.int .i64) (.pair (.int .i64) (.int .i64))) vj75 j75, .sl 3 (.int .i64) v48 s54] G) ?_ ?_
          · refine WP_cond rfl (fun hc78 => ?_) (fun hc78 => ?_)
            · have ho77 := if_t hc78 ho77
              refine WP_region ?_
              refine XL_q rfl (qt_move rfl) rfl rfl ?_
              refine XL_q rfl (qt_move rfl) rfl rfl ?_
              refine XL_q rfl (qt_move rfl) rfl rfl ?_
              refine XL_q rfl (qt_add rfl rfl) rfl rfl ?_
              refine XL_q rfl (qt_move rfl) rfl rfl ?_
              refine XL_q rfl (qt_move rfl) rfl rfl ?_
              obtain ⟨x79, hx80, ho77⟩ := bind_some ho77
              refine XL_indexH H64.ctx (Has.c (Has.c (Has.c (Has.hd)))) hx80 u23 i3 rfl rfl rfl rfl (fun b81 off82 cap83 hv84 => ?_)
              obtain ⟨F85, hat86, hdup87⟩ := H64.at (Has.c (Has.c (Has.c (Has.hd)))) hx80 hv84
              refine XL_load_int (k := .i64) u3 rfl hat86 rfl rfl rfl ?_
              refine XL_q rfl (qt_neg rfl) rfl rfl ?_
              refine XL_q rfl (qt_build (args := [(0, .tmp 36), (1, .tmp 38), (2, .tmp 43)]) (css := [#[.int .i64 s53], #[.int .i64 (IntKind.wrap .i64 (s53 + 1))], #[.int .i64 (IntKind.wrap .i64 (-x79))]]) (cells := #[.int .i64 s53, .int .i64 (IntKind.wrap .i64 (s53 + 1)), .int .i64 (IntKind.wrap .i64 (-x79))]) rfl ⟨rfl, rfl, rfl, trivial⟩ (by kernel_rfl)) rfl rfl ?_
              refine WL_buildH (t := (.pair (.int .i64) (.pair (.int .i64) (.int .i64)))) (args := [.tmp 44]) (xs := ([(s53, IntKind.wrap .i64 (s53 + 1), IntKind.wrap .i64 (-x79))] : List (Int × Int × Int))) H64 (BltL.cons (Blt.pair (Blt.int) (Blt.pair (Blt.int) (Blt.int))) rfl (BltL.nil)) u29 j40 rfl rfl rfl rfl rfl rfl (fun v88 w89 H90 => ?_)
              have H91 : Holds (([.bx bp0 69 [vp0_0, .int .i64 p0_1]] : List Res).flatMap Res.own) w w89 [.sl 40 (.pair (.int .i64) (.pair (.int .i64) (.int .i64))) v88 ([(s53, IntKind.wrap .i64 (s53 + 1), IntKind.wrap .i64 (-x79))]), .bx bp0 69 [vp0_0, .int .i64 g19], .sl 3 (.int .i64) v5 x1.2, .sl 40 (.pair (.int .i64) (.pair (.int .i64) (.int .i64))) vs52 s52, .sl 3 (.int .i64) v48 s54] G := H90
              have H92 : Holds (([.bx bp0 69 [vp0_0, .int .i64 p0_1]] : List Res).flatMap Res.own) w w89 [.sl 40 (.pair (.int .i64) (.pair (.int .i64) (.int .i64))) vs52 s52, .sl 40 (.pair (.int .i64) (.pair (.int .i64) (.int .i64))) v88 ([(s53, IntKind.wrap .i64 (s53 + 1), IntKind.wrap .i64 (-x79))]), .bx bp0 69 [vp0_0, .int .i64 g19], .sl 3 (.int .i64) v5 x1.2, .sl 3 (.int .i64) v48 s54] G := H91.pull 3
              obtain ⟨x93, hx94, ho77⟩ := bind_some ho77
              refine WL_appendH H92 (Has.c (Has.hd)) hx94 u29 j40 rfl rfl rfl rfl rfl rfl (fun v95 w96 H97 => ?_)
              have H98 : Holds (([.bx bp0 69 [vp0_0, .int .i64 p0_1]] : List Res).flatMap Res.own) w w96 [.sl 40 (.pair (.int .i64) (.pair (.int .i64) (.int .i64))) v95 x93, .sl 40 (.pair (.int .i64) (.pair (.int .i64) (.int .i64))) v88 ([(s53, IntKind.wrap .i64 (s53 + 1), IntKind.wrap .i64 (-x79))]), .bx bp0 69 [vp0_0, .int .i64 g19], .sl 3 (.int .i64) v5 x1.2, .sl 3 (.int .i64) v48 s54] G := H97
              refine XL_q rfl (qt_assign rfl) rfl rfl ?_
              refine WL_nil fun a ha => ?_
              obtain rfl := Option.some.inj ho77
              have H99 : Holds (([.bx bp0 69 [vp0_0, .int .i64 p0_1]] : List Res).flatMap Res.own) w w96 [.bx bp0 69 [vp0_0, .int .i64 g19], .sl 3 (.int .i64) v5 x1.2, .sl 40 (.pair (.int .i64) (.pair (.int .i64) (.int .i64))) v95 x93, .sl 3 (.int .i64) v48 s54] G := (((((H98.cut 1).pull 3).pull 1).pull 3).pull 3)
              exact nrm_seq (⟨v95, ha.sub ⟨rfl, rfl, rfl, rfl, rfl, trivial⟩, H99⟩)
            · have ho77 := if_f hc78 ho77
              refine WP_skip fun a ha => ?_
              obtain rfl := Option.some.inj ho77
              have H100 : Holds (([.bx bp0 69 [vp0_0, .int .i64 p0_1]] : List Res).flatMap Res.own) w w60 [.bx bp0 69 [vp0_0, .int .i64 g19], .sl 3 (.int .i64) v5 x1.2, .sl 40 (.pair (.int .i64) (.pair (.int .i64) (.int .i64))) vs52 s52, .sl 3 (.int .i64) v48 s54] G := ((((H64.pull 3).pull 3).pull 3).pull 3)
              exact nrm_seq (⟨vs52, ha.sub ⟨rfl, rfl, rfl, rfl, rfl, trivial⟩, H100⟩)
          · intro a w101 hI102
            obtain ⟨vj75, ha, H103⟩ := hI102
            refine WP.app ?_ ha
            clear ha
            refine WP_seq ?_
            refine WP_seq ?_
            refine WP_region ?_
            refine XL_q rfl (qt_move rfl) rfl rfl ?_
            refine XL_q rfl (qt_move rfl) rfl rfl ?_
            obtain ⟨x104, hx105, hs61⟩ := bind_some hs61
            refine XL_indexH H103.ctx (Has.c (Has.c (Has.c (Has.hd)))) hx105 u23 i3 rfl rfl rfl rfl (fun b106 off107 cap108 hv109 => ?_)
            obtain ⟨F110, hat111, hdup112⟩ := H103.at (Has.c (Has.c (Has.c (Has.hd)))) hx105 hv109
            refine XL_load_int (k := .i64) u3 rfl hat111 rfl rfl rfl ?_
            refine XL_q rfl (qt_gtr rfl rfl) rfl rfl ?_
            refine WL_nil_seq ?_
            obtain ⟨o114, ho115, hs61⟩ := bind_some hs61
            obtain ⟨j113, rfl⟩ : ∃ z, z = o114 := ⟨o114, rfl⟩
            refine WP_join (M := fun a w2 => ∃ vj113, Fr a 94 [(0, .pointer (some ⟨bp0, 0, none⟩)), (4, v5), (5, vj113), (6, v48), (7, .int .i64 s53)] ∧ Holds (([.bx bp0 69 [vp0_0, .int .i64 p0_1]] : List Res).flatMap Res.own) w w2 [.bx bp0 69 [vp0_0, .int .i64 g19], .sl 3 (.int .i64) v5 x1.2, .sl 40 (.pair (.int .i64) (.pair (.int .i64) (.int .i64))) vj113 j113, .sl 3 (.int .i64) v48 s54] G) ?_ ?_
            · refine WP_cond rfl (fun hc116 => ?_) (fun hc116 => ?_)
              · have ho115 := if_t hc116 ho115
                refine WP_region ?_
                refine XL_q rfl (qt_move rfl) rfl rfl ?_
                refine XL_q rfl (qt_move rfl) rfl rfl ?_
                refine XL_q rfl (qt_add rfl rfl) rfl rfl ?_
                refine XL_q rfl (qt_move rfl) rfl rfl ?_
                refine XL_q rfl (qt_move rfl) rfl rfl ?_
                refine XL_q rfl (qt_move rfl) rfl rfl ?_
                obtain ⟨x117, hx118, ho115⟩ := bind_some ho115
                refine XL_indexH H103.ctx (Has.c (Has.c (Has.c (Has.hd)))) hx118 u23 i3 rfl rfl rfl rfl (fun b119 off120 cap121 hv122 => ?_)
                obtain ⟨F123, hat124, hdup125⟩ := H103.at (Has.c (Has.c (Has.c (Has.hd)))) hx118 hv122
                refine XL_load_int (k := .i64) u3 rfl hat124 rfl rfl rfl ?_
                refine XL_q rfl (qt_build (args := [(0, .tmp 54), (1, .tmp 55), (2, .tmp 59)]) (css := [#[.int .i64 (IntKind.wrap .i64 (s53 + 1))], #[.int .i64 s53], #[.int .i64 x117]]) (cells := #[.int .i64 (IntKind.wrap .i64 (s53 + 1)), .int .i64 s53, .int .i64 x117]) rfl ⟨rfl, rfl, rfl, trivial⟩ (by kernel_rfl)) rfl rfl ?_
                refine WL_buildH (t := (.pair (.int .i64) (.pair (.int .i64) (.int .i64)))) (args := [.tmp 60]) (xs := ([(IntKind.wrap .i64 (s53 + 1), s53, x117)] : List (Int × Int × Int))) H103 (BltL.cons (Blt.pair (Blt.int) (Blt.pair (Blt.int) (Blt.int))) rfl (BltL.nil)) u29 j40 rfl rfl rfl rfl rfl rfl (fun v126 w127 H128 => ?_)
                have H129 : Holds (([.bx bp0 69 [vp0_0, .int .i64 p0_1]] : List Res).flatMap Res.own) w w127 [.sl 40 (.pair (.int .i64) (.pair (.int .i64) (.int .i64))) v126 ([(IntKind.wrap .i64 (s53 + 1), s53, x117)]), .bx bp0 69 [vp0_0, .int .i64 g19], .sl 3 (.int .i64) v5 x1.2, .sl 40 (.pair (.int .i64) (.pair (.int .i64) (.int .i64))) vj75 j75, .sl 3 (.int .i64) v48 s54] G := H128
                have H130 : Holds (([.bx bp0 69 [vp0_0, .int .i64 p0_1]] : List Res).flatMap Res.own) w w127 [.sl 40 (.pair (.int .i64) (.pair (.int .i64) (.int .i64))) vj75 j75, .sl 40 (.pair (.int .i64) (.pair (.int .i64) (.int .i64))) v126 ([(IntKind.wrap .i64 (s53 + 1), s53, x117)]), .bx bp0 69 [vp0_0, .int .i64 g19], .sl 3 (.int .i64) v5 x1.2, .sl 3 (.int .i64) v48 s54] G := H129.pull 3
                obtain ⟨x131, hx132, ho115⟩ := bind_some ho115
                refine WL_appendH H130 (Has.c (Has.hd)) hx132 u29 j40 rfl rfl rfl rfl rfl rfl (fun v133 w134 H135 => ?_)
                have H136 : Holds (([.bx bp0 69 [vp0_0, .int .i64 p0_1]] : List Res).flatMap Res.own) w w134 [.sl 40 (.pair (.int .i64) (.pair (.int .i64) (.int .i64))) v133 x131, .sl 40 (.pair (.int .i64) (.pair (.int .i64) (.int .i64))) v126 ([(IntKind.wrap .i64 (s53 + 1), s53, x117)]), .bx bp0 69 [vp0_0, .int .i64 g19], .sl 3 (.int .i64) v5 x1.2, .sl 3 (.int .i64) v48 s54] G := H135
                refine XL_q rfl (qt_assign rfl) rfl rfl ?_
                refine WL_nil fun a ha => ?_
                obtain rfl := Option.some.inj ho115
                have H137 : Holds (([.bx bp0 69 [vp0_0, .int .i64 p0_1]] : List Res).flatMap Res.own) w w134 [.bx bp0 69 [vp0_0, .int .i64 g19], .sl 3 (.int .i64) v5 x1.2, .sl 40 (.pair (.int .i64) (.pair (.int .i64) (.int .i64))) v133 x131, .sl 3 (.int .i64) v48 s54] G := (((((H136.cut 1).pull 3).pull 1).pull 3).pull 3)
                exact nrm_seq (⟨v133, ha.sub ⟨rfl, rfl, rfl, rfl, rfl, trivial⟩, H137⟩)
              · have ho115 := if_f hc116 ho115
                refine WP_skip fun a ha => ?_
                obtain rfl := Option.some.inj ho115
                have H138 : Holds (([.bx bp0 69 [vp0_0, .int .i64 p0_1]] : List Res).flatMap Res.own) w w101 [.bx bp0 69 [vp0_0, .int .i64 g19], .sl 3 (.int .i64) v5 x1.2, .sl 40 (.pair (.int .i64) (.pair (.int .i64) (.int .i64))) vj75 j75, .sl 3 (.int .i64) v48 s54] G := ((((H103.pull 3).pull 3).pull 3).pull 3)
                exact nrm_seq (⟨vj75, ha.sub ⟨rfl, rfl, rfl, rfl, rfl, trivial⟩, H138⟩)
            · intro a w139 hI140
              obtain ⟨vj113, ha, H141⟩ := hI140
              refine WP.app ?_ ha
              clear ha
              refine WP_tail 13 (by kernel_rfl) (by kernel_rfl) (fun w142 hb143 => ?_)
              have H144 : Holds (([.bx bp0 69 [vp0_0, .int .i64 p0_1]] : List Res).flatMap Res.own) w w142 [.bx bp0 69 [vp0_0, .int .i64 g19], .sl 3 (.int .i64) v5 x1.2, .sl 40 (.pair (.int .i64) (.pair (.int .i64) (.int .i64))) vj113 j113, .sl 3 (.int .i64) v48 s54] G := H141.grow hb143
              refine XL_q rfl (qt_move rfl) rfl rfl ?_
              refine XL_q rfl (qt_move rfl) rfl rfl ?_
              refine XL_q rfl (qt_add rfl rfl) rfl rfl ?_
              refine XL_q rfl (qt_move rfl) rfl rfl ?_
              refine XL_q rfl (qt_move rfl) rfl rfl ?_
              refine XL_q rfl (qt_add rfl rfl) rfl rfl ?_
              obtain ⟨x145, hx146, hs61⟩ := bind_some hs61
              refine XL_indexH H144.ctx (Has.c (Has.c (Has.c (Has.hd)))) hx146 u23 i3 rfl rfl rfl rfl (fun b147 off148 cap149 hv150 => ?_)
              obtain ⟨F151, hat152, hdup153⟩ := H144.at (Has.c (Has.c (Has.c (Has.hd)))) hx146 hv150
              refine XL_load_int (k := .i64) u3 rfl hat152 rfl rfl rfl ?_
              refine XL_q rfl (qt_move rfl) rfl rfl ?_
              refine XL_q rfl (qt_move rfl) rfl rfl ?_
              obtain ⟨x154, hx155, hs61⟩ := bind_some hs61
              refine XL_indexH H144.ctx (Has.c (Has.c (Has.c (Has.hd)))) hx155 u23 i3 rfl rfl rfl rfl (fun b156 off157 cap158 hv159 => ?_)
              obtain ⟨F160, hat161, hdup162⟩ := H144.at (Has.c (Has.c (Has.c (Has.hd)))) hx155 hv159
              refine XL_load_int (k := .i64) u3 rfl hat161 rfl rfl rfl ?_
              refine XL_q rfl (qt_add rfl rfl) rfl rfl ?_
              refine SL_nil ?_
              obtain ⟨x163, hx164, hs61⟩ := bind_some hs61
              refine XL_indexH H144.ctx (Has.c (Has.c (Has.c (Has.hd)))) hx164 u23 i3 rfl rfl rfl rfl (fun b165 off166 cap167 hv168 => ?_)
              have H169 : Holds (([.bx bp0 69 [vp0_0, .int .i64 p0_1]] : List Res).flatMap Res.own) w w142 [.sl 3 (.int .i64) v48 s54, .bx bp0 69 [vp0_0, .int .i64 g19], .sl 3 (.int .i64) v5 x1.2, .sl 40 (.pair (.int .i64) (.pair (.int .i64) (.int .i64))) vj113 j113] G := H144.pull 3
              refine WL_storeH (fo := 0) (cs' := [.int .i64 (IntKind.wrap .i64 (x145 + x154))]) H169 hx164 hv168 (Upd.whole (Blt.int)) rfl il3 rfl rfl rfl rfl (fun w170 H171 => ?_)
              have H172 : Holds (([.bx bp0 69 [vp0_0, .int .i64 p0_1]] : List Res).flatMap Res.own) w w170 [.sl 3 (.int .i64) v48 (List.set s54 (Int.toNat (IntKind.wrap .i64 (s53 + 1))) (IntKind.wrap .i64 (x145 + x154))), .bx bp0 69 [vp0_0, .int .i64 g19], .sl 3 (.int .i64) v5 x1.2, .sl 40 (.pair (.int .i64) (.pair (.int .i64) (.int .i64))) vj113 j113] G := H171
              refine WL_nil fun a ha => ?_
              refine nrm_block (nrm_seq (WP.app ?_ ha))
              refine WP_region ?_
              refine XL_q rfl (qt_move rfl) rfl rfl ?_
              refine XL_q rfl (qt_add rfl rfl) rfl rfl ?_
              refine XL_q rfl (qt_assign rfl) rfl rfl ?_
              refine WL_nil fun a ha => ?_
              obtain rfl := Option.some.inj hs61
              have H173 : Holds (([.bx bp0 69 [vp0_0, .int .i64 p0_1]] : List Res).flatMap Res.own) w w170 [.bx bp0 69 [vp0_0, .int .i64 g19], .sl 3 (.int .i64) v5 x1.2, .sl 40 (.pair (.int .i64) (.pair (.int .i64) (.int .i64))) vj113 j113, .sl 3 (.int .i64) v48 (List.set s54 (Int.toNat (IntKind.wrap .i64 (s53 + 1))) (IntKind.wrap .i64 (x145 + x154)))] G := (((H172.pull 3).pull 3).pull 3)
              exact ⟨rfl, vj113, ha.sub ⟨rfl, rfl, rfl, rfl, rfl, trivial⟩, H173⟩
        · have hs61 := if_f hc65 hs61
          refine WP_exit fun a ha => ?_
          obtain rfl := Option.some.inj hs61
          have H174 : Holds (([.bx bp0 69 [vp0_0, .int .i64 p0_1]] : List Res).flatMap Res.own) w w60 [.bx bp0 69 [vp0_0, .int .i64 g19], .sl 3 (.int .i64) v5 x1.2, .sl 40 (.pair (.int .i64) (.pair (.int .i64) (.int .i64))) vs52 s52] G := ((((H64.cut 3).pull 2).pull 2).pull 2)
          exact exit_seq (⟨exit_ne, rfl, vs52, ha.sub ⟨rfl, rfl, rfl, trivial⟩, H174⟩)
      · intro e a57 w175 hO176
        obtain ⟨p177, p178⟩ := o55
        obtain ⟨rfl, hO180⟩ := hO176
        obtain ⟨vp177, ha, H179⟩ := hO180
        obtain rfl := Option.some.inj ho36
        have H181 : Holds (([.bx bp0 69 [vp0_0, .int .i64 p0_1]] : List Res).flatMap Res.own) w w175 [.bx bp0 69 [vp0_0, .int .i64 g19], .sl 3 (.int .i64) v5 x1.2, .sl 40 (.pair (.int .i64) (.pair (.int .i64) (.int .i64))) vp177 p177] G := (((H179.pull 2).pull 2).pull 2)
        exact exit_block_eq (nrm_seq (⟨vp177, ha.sub ⟨rfl, rfl, rfl, trivial⟩, H181⟩))
    · have ho36 := if_f hc37 ho36
      refine WP_skip fun a ha => ?_
      obtain rfl := Option.some.inj ho36
      have H182 : Holds (([.bx bp0 69 [vp0_0, .int .i64 p0_1]] : List Res).flatMap Res.own) w w31 [.bx bp0 69 [vp0_0, .int .i64 g19], .sl 3 (.int .i64) v5 x1.2, .sl 40 (.pair (.int .i64) (.pair (.int .i64) (.int .i64))) v11 x7] G := (((H33.pull 2).pull 2).pull 2)
      exact nrm_seq (⟨v11, ha.sub ⟨rfl, rfl, rfl, trivial⟩, H182⟩)
  · intro a w183 hI184
    obtain ⟨vj34, ha, H185⟩ := hI184
    refine WP.app ?_ ha
    clear ha
    refine WP_seq ?_
    refine WP_seq ?_
    refine WP_region ?_
    refine XL_q rfl (qt_move rfl) rfl rfl ?_
    obtain ⟨x186, hx187, h⟩ := bind_some h
    refine WL_call rfl rfl c66 (w_spec_l20Rd__odd w183 ([.sl 3 (.int .i64) v5 x1.2, .sl 40 (.pair (.int .i64) (.pair (.int .i64) (.int .i64))) vj34 j34] ++ G) bp0 vp0_0 p0_0 (hp0_0.c.c) g19 9 x186 hx187 H185.ctx) (by rfl) ?_
    rintro _ w188 ⟨rfl, H189⟩; refine ⟨_, rfl, ?_⟩
    have H190 : Holds (([.bx bp0 69 [vp0_0, .int .i64 p0_1]] : List Res).flatMap Res.own) w w188 [.bx bp0 69 [vp0_0, .int .i64 x186.1], .sl 3 (.int .i64) v5 x1.2, .sl 40 (.pair (.int .i64) (.pair (.int .i64) (.int .i64))) vj34 j34] G := H185.calledN (Rs := [_]) H189
    refine XL_q rfl (qt_move rfl) rfl rfl ?_
    refine XL_join 4 83 (.bool (x186.2 && (decide ((List.length j34 : Int) > 0)))) ?_ (fun md hmd hk => ?_)
    rotate_left
    · obtain ⟨Q, rfl⟩ := Md.seq_of hmd
      rcases btf x186.2 with hc191 | hc191
      · skip
        refine XL_q (w_take rfl hc191) (qt_move rfl) rfl rfl ?_
        refine XL_lenH H190.ctx (t := (.pair (.int .i64) (.pair (.int .i64) (.int .i64)))) (Has.c (Has.c (Has.hd))) u29 (w_take rfl hc191) rfl rfl ?_
        refine XL_q (w_take rfl hc191) (qt_gtr rfl rfl) rfl rfl ?_
        refine XL_q rfl (qt_pickT rfl hc191 rfl) rfl rfl ?_
        exact hk _ (Cov.same (by rw [hc191]; rfl) (Cov.fresh rfl (Cov.fresh rfl (Cov.fresh rfl (Cov.refl)))))
      · skip
        refine XL_skip (w_skip rfl hc191) rfl rfl ?_
        refine XL_skip (w_skip rfl hc191) rfl rfl ?_
        refine XL_skip (w_skip rfl hc191) rfl rfl ?_
        refine XL_q rfl (qt_pickF rfl hc191 rfl) rfl rfl ?_
        exact hk _ (Cov.same (by rw [hc191]; rfl) (Cov.fresh rfl (Cov.fresh rfl (Cov.fresh rfl (Cov.refl)))))
    refine WL_nil_seq ?_
    obtain ⟨o193, ho194, h⟩ := bind_some h
    obtain ⟨j192, rfl⟩ : ∃ z, z = o193 := ⟨o193, rfl⟩
    refine WP_join (M := fun a w2 => ∃ vj34, Fr a 94 [(0, .pointer (some ⟨bp0, 0, none⟩)), (4, v5), (5, vj34)] ∧ Holds (([.bx bp0 69 [vp0_0, .int .i64 p0_1]] : List Res).flatMap Res.own) w w2 [.bx bp0 69 [vp0_0, .int .i64 x186.1], .sl 3 (.int .i64) v5 x1.2, .sl 40 (.pair (.int .i64) (.pair (.int .i64) (.int .i64))) vj34 j192] G) ?_ ?_
    · refine WP_cond rfl (fun hc195 => ?_) (fun hc195 => ?_)
      · have ho194 := if_t hc195 ho194
        refine WP_region ?_
        refine XL_q rfl (qt_move rfl) rfl rfl ?_
        refine XL_q rfl (qt_move rfl) rfl rfl ?_
        obtain ⟨x196, hx197, ho194⟩ := bind_some ho194
        refine XL_indexH H190.ctx (Has.c (Has.c (Has.hd))) hx197 u29 i40 rfl rfl rfl rfl (fun b198 off199 cap200 hv201 => ?_)
        refine XL_q rfl (qt_fieldAddr uf40 fi40_2 nz3 rfl) rfl rfl ?_
        obtain ⟨F202, hat203, hdup204⟩ := H190.at (Has.c (Has.c (Has.hd))) hx197 hv201
        obtain ⟨F205, hat206, hin207⟩ := AtP.snd hat203
        obtain ⟨F208, hat209, hin210⟩ := AtP.snd hat206
        refine XL_load_int (k := .i64) u3 rfl hat209 rfl rfl rfl ?_
        refine XL_q rfl (qt_add rfl rfl) rfl rfl ?_
        obtain ⟨x211, hx212, ho194⟩ := bind_some ho194
        refine XL_indexH H190.ctx (Has.c (Has.c (Has.hd))) hx212 u29 i40 rfl rfl rfl rfl (fun b213 off214 cap215 hv216 => ?_)
        refine XL_q rfl (qt_fieldAddr uf40 fi40_2 nz3 rfl) rfl rfl ?_
        have H217 : Holds (([.bx bp0 69 [vp0_0, .int .i64 p0_1]] : List Res).flatMap Res.own) w w188 [.sl 40 (.pair (.int .i64) (.pair (.int .i64) (.int .i64))) vj34 j34, .bx bp0 69 [vp0_0, .int .i64 x186.1], .sl 3 (.int .i64) v5 x1.2] G := H190.pull 2
        refine WL_storeH (fo := 2) (cs' := [.int .i64 (IntKind.wrap .i64 (x196.2.2 + 1))]) H217 hx212 hv216 (Upd.snd (Upd.snd (Upd.whole (Blt.int)))) rfl il3 rfl rfl rfl rfl (fun w218 H219 => ?_)
        have H220 : Holds (([.bx bp0 69 [vp0_0, .int .i64 p0_1]] : List Res).flatMap Res.own) w w218 [.sl 40 (.pair (.int .i64) (.pair (.int .i64) (.int .i64))) vj34 (List.set j34 (Int.toNat 0) (x211.1, (x211.2.1, IntKind.wrap .i64 (x196.2.2 + 1)))), .bx bp0 69 [vp0_0, .int .i64 x186.1], .sl 3 (.int .i64) v5 x1.2] G := H219
        refine WL_nil fun a ha => ?_
        obtain rfl := Option.some.inj ho194
        have H221 : Holds (([.bx bp0 69 [vp0_0, .int .i64 p0_1]] : List Res).flatMap Res.own) w w218 [.bx bp0 69 [vp0_0, .int .i64 x186.1], .sl 3 (.int .i64) v5 x1.2, .sl 40 (.pair (.int .i64) (.pair (.int .i64) (.int .i64))) vj34 (List.set j34 (Int.toNat 0) (x211.1, (x211.2.1, IntKind.wrap .i64 (x196.2.2 + 1))))] G := ((H220.pull 2).pull 2)
        exact nrm_seq (⟨vj34, ha.sub ⟨rfl, rfl, rfl, trivial⟩, H221⟩)
      · have ho194 := if_f hc195 ho194
        refine WP_skip fun a ha => ?_
        obtain rfl := Option.some.inj ho194
        have H222 : Holds (([.bx bp0 69 [vp0_0, .int .i64 p0_1]] : List Res).flatMap Res.own) w w188 [.bx bp0 69 [vp0_0, .int .i64 x186.1], .sl 3 (.int .i64) v5 x1.2, .sl 40 (.pair (.int .i64) (.pair (.int .i64) (.int .i64))) vj34 j34] G := (((H190.pull 2).pull 2).pull 2)
        exact nrm_seq (⟨vj34, ha.sub ⟨rfl, rfl, rfl, trivial⟩, H222⟩)
    · intro a w223 hI224
      obtain ⟨vj34, ha, H225⟩ := hI224
      refine WP.app ?_ ha
      clear ha
      refine WP_seq ?_
      refine WP_region ?_
      refine XL_q rfl (qt_move rfl) rfl rfl ?_
      refine XL_q rfl (qt_move rfl) rfl rfl ?_
      refine XL_q rfl (qt_assign rfl) rfl rfl ?_
      refine XL_q rfl (qt_assign rfl) rfl rfl ?_
      refine WL_nil_seq ?_
      refine WP_ret fun a ha => ?_
      obtain rfl := Option.some.inj h
      have H226 : Holds (([.bx bp0 69 [vp0_0, .int .i64 p0_1]] : List Res).flatMap Res.own) w w223 [.sl 3 (.int .i64) v5 x1.2, .sl 40 (.pair (.int .i64) (.pair (.int .i64) (.int .i64))) vj34 j192, .bx bp0 69 [vp0_0, .int .i64 x186.1]] G := ((H225.pull 2).pull 2)
      exact ret2 rfl ha rfl rfl ⟨v5, vj34, rfl, H226⟩
theorem w_spec_DrawPaysOk (w : World) (G : List Res) (vp0 : Value) (p0 : List Int) (hp0 : HasRo G (.int .u8) vp0 p0) (r : (List Int) × (List (Int × Int × Int))) (h : spec_DrawPaysOkS p0 = some r) (H : Ctx w G) : Calls Tryd.prog 27 #[vp0] w fun e w' => ∃ (v1 : Value) (v2 : Value), e = .returned (.tuple #[v1, v2]) ∧ Holds (([] : List Res).flatMap Res.own) w w' [.sl 3 (.int .i64) v1 r.1, .sl 40 (.pair (.int .i64) (.pair (.int .i64) (.int .i64))) v2 r.2] G := by
  have H : Holds (([] : List Res).flatMap Res.own) w w [] G := Holds.startN H
  refine calls_enter (args := [vp0]) (n := 9) Tryd.func27 rfl rfl rfl ?_
  unfold spec_DrawPaysOkS at h
  refine WP_seq ?_
  refine WP_region ?_
  refine XL_q rfl (qt_assign rfl) rfl rfl ?_
  refine XL_q rfl (qt_assign rfl) rfl rfl ?_
  refine WL_nil_seq ?_
  refine WP_seq ?_
  refine WP_region ?_
  refine XL_q rfl (qt_move rfl) rfl rfl ?_
  obtain ⟨x1, hx2, h⟩ := bind_some h
  refine WL_call rfl rfl c44 (w_spec_l20Open w G vp0 p0 (hp0) x1 hx2 H.ctx) (by rfl) ?_
  rintro _ w3 ⟨v5, b6, rfl, H4⟩; refine ⟨_, rfl, ?_⟩
  have H7 : Holds (([] : List Res).flatMap Res.own) w w3 [.ro (.int .u8) v5 x1.1, .bx b6 69 [v5, .int .i64 x1.2]] G := H.calledN (Rs := []) H4
  have H10 : Holds (([] : List Res).flatMap Res.own) w w3 [.bx b6 69 [v5, .int .i64 x1.2], .ro (.int .u8) v5 x1.1] G := H7.pull 1
  obtain ⟨x8, hx9, h⟩ := bind_some h
  refine WL_call rfl rfl c55 (w_spec_l20Pays w3 ([.ro (.int .u8) v5 x1.1] ++ G) b6 v5 x1.1 (HasRo.has (HasRo.hd)) x1.2 x8 hx9 H10.ctx) (by rfl) ?_
  rintro _ w11 ⟨v13, v14, rfl, H12⟩; refine ⟨_, rfl, ?_⟩
  have H15 : Holds (([] : List Res).flatMap Res.own) w w11 [.sl 3 (.int .i64) v13 x8.2.1, .sl 40 (.pair (.int .i64) (.pair (.int .i64) (.int .i64))) v14 x8.2.2, .bx b6 69 [v5, .int .i64 x8.1], .ro (.int .u8) v5 x1.1] G := H10.calledN (Rs := [_]) H12
  refine XL_q rfl (qt_extract rfl rfl) rfl rfl ?_
  refine XL_q rfl (qt_extract rfl rfl) rfl rfl ?_
  refine XL_q rfl (qt_assign rfl) rfl rfl ?_
  refine XL_q rfl (qt_assign rfl) rfl rfl ?_
  refine WL_nil_seq ?_
  refine WP_ret fun a ha => ?_
  obtain rfl := Option.some.inj h
  have H16 : Holds (([] : List Res).flatMap Res.own) w w11 [.sl 3 (.int .i64) v13 x8.2.1, .sl 40 (.pair (.int .i64) (.pair (.int .i64) (.int .i64))) v14 x8.2.2] G := ((((H15.cut 2).cut 2).pull 1).pull 1)
  exact ret2 rfl ha rfl rfl ⟨v13, v14, rfl, H16⟩
theorem w_spec_PaysOk (w : World) (G : List Res) (vp0 : Value) (p0 : List Int) (hp0 : Has G (.int .i64) vp0 p0) (vp1 : Value) (p1 : List (Int × Int × Int)) (hp1 : Has G (.pair (.int .i64) (.pair (.int .i64) (.int .i64))) vp1 p1) (r : Bool) (h : spec_PaysOkS p0 p1 = some r) (H : Ctx w G) : Calls Tryd.prog 28 #[vp0, vp1] w fun e w' => e = .returned (.bool r) ∧ Holds (([] : List Res).flatMap Res.own) w w' [] G := by
  have H : Holds (([] : List Res).flatMap Res.own) w w [] G := Holds.startN H
  refine calls_enter (args := [vp0, vp1]) (n := 89) Tryd.func28 rfl rfl rfl ?_
  unfold spec_PaysOkS at h
  refine WP_seq ?_
  refine WP_region ?_
  refine XL_q rfl (qt_assign rfl) rfl rfl ?_
  refine WL_nil_seq ?_
  refine WP_seq ?_
  refine WP_seq ?_
  refine WP_still ?_
  refine XL_q rfl (qt_move rfl) rfl rfl ?_
  obtain ⟨x1, hx2, h⟩ := bind_some h
  refine QL_call rfl rfl c14 (fun w' hb => (w_spec_OwedValid w' G vp0 p0 (hp0) x1 hx2 (H.grow hb).ctx).mono fun e w'' hK => ⟨hK.1, hK.2.bel⟩) (by rfl) ?_
  refine XL_q rfl (qt_not rfl) rfl rfl ?_
  refine QL_nil fun a ha w3 hb4 => ?_
  have H5 : Holds (([] : List Res).flatMap Res.own) w w3 [] G := H.grow hb4
  refine nrm_seq (WP.app ?_ ha)
  refine WP_cond rfl (fun hc6 => ?_) (fun hc6 => ?_)
  · have h := if_t hc6 h
    refine WP_seq ?_
    refine WP_region ?_
    refine XL_q rfl (qt_assign rfl) rfl rfl ?_
    refine WL_nil_seq ?_
    refine WP_ret fun a ha => ?_
    obtain rfl := Option.some.inj h
    exact ret_seq (ret1 rfl ha rfl ⟨rfl, H5⟩)
  · have h := if_f hc6 h
    refine WP_skip_seq ?_
    refine WP_seq ?_
    refine WP_region ?_
    refine WL_buildH (t := (.int .i64)) (args := []) (xs := ([] : List Int)) H5 (BltL.nil) u23 j3 rfl rfl rfl rfl rfl rfl (fun v7 w8 H9 => ?_)
    have H10 : Holds (([] : List Res).flatMap Res.own) w w8 [.sl 3 (.int .i64) v7 ([])] G := H9
    refine XL_q rfl (qt_move rfl) rfl rfl ?_
    obtain ⟨x11, hx12, h⟩ := bind_some h
    refine WL_appendH H10 (hp0.c) hx12 u23 j3 rfl rfl rfl rfl rfl rfl (fun v13 w14 H15 => ?_)
    have H16 : Holds (([] : List Res).flatMap Res.own) w w14 [.sl 3 (.int .i64) v13 x11] G := H15
    refine XL_q rfl (qt_assign rfl) rfl rfl ?_
    refine WL_nil_seq ?_
    refine WP_seq ?_
    refine WP_seq ?_
    refine WP_region ?_
    refine XL_q rfl (qt_assign rfl) rfl rfl ?_
    refine WL_nil_seq ?_
    refine WP_block ?_
    obtain ⟨o19, ho20, h⟩ := bind_some h
    refine fun a21 ha22 => wp_loop_fix (I := fun s a w2 => match s with | (s17, s18) => (Fr a 89 [(0, vp0), (1, vp1), (5, v13), (6, .int .i64 s17)] ∧ Holds (([] : List Res).flatMap Res.own) w w2 [.sl 3 (.int .i64) v13 s18] G)) (O := fun o e a w2 => match o with | .inl q0 => e = .exit 0 ∧ (Fr a 89 [(5, v13)] ∧ Holds (([] : List Res).flatMap Res.own) w w2 [.sl 3 (.int .i64) v13 q0] G) | .inr (q0, q1) => e = .ret ∧ (Fr a 89 [(4, .bool q0)] ∧ Holds (([] : List Res).flatMap Res.own) w w2 [] G)) ho20 ?_ ?_ ?_
    · exact ⟨ha22.sub ⟨rfl, rfl, rfl, rfl, trivial⟩, H16⟩
    · clear ha22
      intro s o25 a w23 hs24 hI26
      obtain ⟨s17, s18⟩ := s
      obtain ⟨ha, H27⟩ := hI26
      refine WP.app ?_ ha
      clear ha
      refine WP_seq ?_
      refine WP_seq ?_
      refine WP_region ?_
      refine XL_q rfl (qt_move rfl) rfl rfl ?_
      refine XL_q rfl (qt_move rfl) rfl rfl ?_
      refine XL_lenH H27.ctx (t := (.pair (.int .i64) (.pair (.int .i64) (.int .i64)))) (hp1.c) u29 rfl rfl rfl ?_
      refine XL_q rfl (qt_lss rfl rfl) rfl rfl ?_
      refine WL_nil_seq ?_
      refine WP_cond rfl (fun hc28 => ?_) (fun hc28 => ?_)
      · have hs24 := if_t hc28 hs24
        refine WP_skip_seq ?_
        refine WP_seq ?_
        refine WP_block ?_
        refine WP_seq ?_
        refine WP_region ?_
        refine XL_q rfl (qt_move rfl) rfl rfl ?_
        refine XL_q rfl (qt_move rfl) rfl rfl ?_
        obtain ⟨x29, hx30, hs24⟩ := bind_some hs24
        refine XL_indexH H27.ctx (hp1.c) hx30 u29 i40 rfl rfl rfl rfl (fun b31 off32 cap33 hv34 => ?_)
        obtain ⟨F35, hat36, hdup37⟩ := H27.at (hp1.c) hx30 hv34
        refine XL_load_agg (t := (.pair (.int .i64) (.pair (.int .i64) (.int .i64)))) us40 uo40 i40 hat36 rfl rfl rfl (fun cs38 hr39 => ?_)
        obtain ⟨c40, c41, F42, F43, rfl, eF46, hr44, hr45⟩ := hr39
        obtain ⟨rfl, _⟩ := hr44
        obtain ⟨c47, c48, F49, F50, rfl, eF53, hr51, hr52⟩ := hr45
        obtain ⟨rfl, _⟩ := hr51
        obtain ⟨rfl, _⟩ := hr52
        change XL _ _ _ _ _ ((24, .agg #[.int .i64 x29.1, .int .i64 x29.2.1, .int .i64 x29.2.2]) :: _) _
        refine WL_alloc (cs := [.int .i64 0, .int .i64 0, .int .i64 0]) H27 z40 rfl rfl rfl (fun b54 w55 H56 => ?_)
        have H57 : Holds (([] : List Res).flatMap Res.own) w w55 [.bx b54 40 [.int .i64 0, .int .i64 0, .int .i64 0], .sl 3 (.int .i64) v13 s18] G := H56
        refine WL_store_bxA (cs' := [.int .i64 x29.1, .int .i64 x29.2.1, .int .i64 x29.2.2]) H57 rfl il40 rfl rfl rfl rfl rfl (fun w58 H59 => ?_)
        have H60 : Holds (([] : List Res).flatMap Res.own) w w58 [.bx b54 40 [.int .i64 x29.1, .int .i64 x29.2.1, .int .i64 x29.2.2], .sl 3 (.int .i64) v13 s18] G := H59
        refine WL_nil_seq ?_
        refine WP_seq ?_
        refine WP_seq ?_
        refine WP_still ?_
        refine XL_q rfl (qt_fieldAddr uf40 fi40_0 nz3 rfl) rfl rfl ?_
        have hB61 : Bx w58 b54 40 [.int .i64 x29.1, .int .i64 x29.2.1, .int .i64 x29.2.2] := Holds.bx (H60.pull 0)
        refine XL_load_bx u3 rfl hB61 rfl rfl rfl rfl ?_
        refine XL_q rfl (qt_move rfl) rfl rfl ?_
        refine XL_lenH H60.ctx (t := (.int .i64)) (hp0.c.c) u23 rfl rfl rfl ?_
        refine XL_q rfl (qt_sub rfl rfl) rfl rfl ?_
        obtain ⟨x62, hx63, hs24⟩ := bind_some hs24
        refine QL_call rfl rfl c46 (fun w' hb => (w_spec_l1In w' ([.bx b54 40 [.int .i64 x29.1, .int .i64 x29.2.1, .int .i64 x29.2.2], .sl 3 (.int .i64) v13 s18] ++ G) x29.1 0 (IntKind.wrap .i64 ((List.length p0 : Int) - 1)) x62 hx63 (H60.grow hb).ctx).mono fun e w'' hK => ⟨hK.1, hK.2.bel⟩) (by rfl) ?_
        refine XL_q rfl (qt_not rfl) rfl rfl ?_
        refine XL_q rfl (qt_move rfl) rfl rfl ?_
        obtain ⟨b64, hg65, hs24⟩ := bind_some hs24
        refine XL_join 8 40 (.bool b64) ?_ (fun md hmd hk => ?_)
        rotate_left
        · obtain ⟨K, rfl⟩ := Md.quiet_of hmd
          rcases btf (!x62) with hc66 | hc66
          · skip
            refine XL_skip (w_skip rfl hc66) rfl rfl ?_
            refine XL_skip (w_skip rfl hc66) rfl rfl ?_
            refine XL_skip (w_skip rfl hc66) rfl rfl ?_
            refine XL_skip (w_skip rfl hc66) rfl rfl ?_
            refine XL_skip (w_skip rfl hc66) rfl rfl ?_
            refine XL_skip (w_skip rfl hc66) rfl rfl ?_
            refine XL_skip (w_skip rfl hc66) rfl rfl ?_
            refine XL_q rfl (qt_pickT rfl hc66 rfl) rfl rfl ?_
            exact hk _ (Cov.same (vb (if_t hc66 hg65)) (Cov.fresh rfl (Cov.fresh rfl (Cov.fresh rfl (Cov.fresh rfl (Cov.fresh rfl (Cov.fresh rfl (Cov.fresh rfl (Cov.refl)))))))))
          · skip
            have hg65 := if_f hc66 hg65
            refine XL_q (w_take rfl hc66) (qt_fieldAddr uf40 fi40_1 nz3 rfl) rfl rfl ?_
            have hB67 : Bx w58 b54 40 [.int .i64 x29.1, .int .i64 x29.2.1, .int .i64 x29.2.2] := Holds.bx (H60.pull 0)
            refine XL_load_bx u3 rfl hB67 rfl (w_take rfl hc66) rfl rfl ?_
            refine XL_q (w_take rfl hc66) (qt_move rfl) rfl rfl ?_
            refine XL_lenH H60.ctx (t := (.int .i64)) (hp0.c.c) u23 (w_take rfl hc66) rfl rfl ?_
            refine XL_q (w_take rfl hc66) (qt_sub rfl rfl) rfl rfl ?_
            obtain ⟨x68, hx69, hg65⟩ := bind_some hg65
            refine QL_call (w_take rfl hc66) rfl c46 (fun w' hb => (w_spec_l1In w' ([.bx b54 40 [.int .i64 x29.1, .int .i64 x29.2.1, .int .i64 x29.2.2], .sl 3 (.int .i64) v13 s18] ++ G) x29.2.1 0 (IntKind.wrap .i64 ((List.length p0 : Int) - 1)) x68 hx69 (H60.grow hb).ctx).mono fun e w'' hK => ⟨hK.1, hK.2.bel⟩) (by rfl) ?_
            refine XL_q (w_take rfl hc66) (qt_not rfl) rfl rfl ?_
            refine XL_q rfl (qt_pickF rfl hc66 rfl) rfl rfl ?_
            exact hk _ (Cov.same (vb hg65) (Cov.fresh rfl (Cov.fresh rfl (Cov.fresh rfl (Cov.fresh rfl (Cov.fresh rfl (Cov.fresh rfl (Cov.fresh rfl (Cov.refl)))))))))
        refine XL_q rfl (qt_move rfl) rfl rfl ?_
        refine XL_join 6 47 (.bool (b64 || (x29.1 == x29.2.1))) ?_ (fun md hmd hk => ?_)
        rotate_left
        · obtain ⟨K, rfl⟩ := Md.quiet_of hmd
          rcases btf b64 with hc70 | hc70
          · skip
            refine XL_skip (w_skip rfl hc70) rfl rfl ?_
            refine XL_skip (w_skip rfl hc70) rfl rfl ?_
            refine XL_skip (w_skip rfl hc70) rfl rfl ?_
            refine XL_skip (w_skip rfl hc70) rfl rfl ?_
            refine XL_skip (w_skip rfl hc70) rfl rfl ?_
            refine XL_q rfl (qt_pickT rfl hc70 rfl) rfl rfl ?_
            exact hk _ (Cov.same (by rw [hc70]; rfl) (Cov.fresh rfl (Cov.fresh rfl (Cov.fresh rfl (Cov.fresh rfl (Cov.fresh rfl (Cov.refl)))))))
          · skip
            refine XL_q (w_take rfl hc70) (qt_fieldAddr uf40 fi40_0 nz3 rfl) rfl rfl ?_
            have hB71 : Bx w58 b54 40 [.int .i64 x29.1, .int .i64 x29.2.1, .int .i64 x29.2.2] := Holds.bx (H60.pull 0)
            refine XL_load_bx u3 rfl hB71 rfl (w_take rfl hc70) rfl rfl ?_
            refine XL_q (w_take rfl hc70) (qt_fieldAddr uf40 fi40_1 nz3 rfl) rfl rfl ?_
            have hB72 : Bx w58 b54 40 [.int .i64 x29.1, .int .i64 x29.2.1, .int .i64 x29.2.2] := Holds.bx (H60.pull 0)
            refine XL_load_bx u3 rfl hB72 rfl (w_take rfl hc70) rfl rfl ?_
            refine XL_q (w_take rfl hc70) (qt_eql rfl rfl) rfl rfl ?_
            refine XL_q rfl (qt_pickF rfl hc70 rfl) rfl rfl ?_
            exact hk _ (Cov.same (by rw [hc70]; rfl) (Cov.fresh rfl (Cov.fresh rfl (Cov.fresh rfl (Cov.fresh rfl (Cov.fresh rfl (Cov.refl)))))))
        refine XL_q rfl (qt_move rfl) rfl rfl ?_
        obtain ⟨b73, hg74, hs24⟩ := bind_some hs24
        refine XL_join 5 53 (.bool b73) ?_ (fun md hmd hk => ?_)
        rotate_left
        · obtain ⟨K, rfl⟩ := Md.quiet_of hmd
          rcases btf (b64 || (x29.1 == x29.2.1)) with hc75 | hc75
          · skip
            refine XL_skip (w_skip rfl hc75) rfl rfl ?_
            refine XL_skip (w_skip rfl hc75) rfl rfl ?_
            refine XL_skip (w_skip rfl hc75) rfl rfl ?_
            refine XL_skip (w_skip rfl hc75) rfl rfl ?_
            refine XL_q rfl (qt_pickT rfl hc75 rfl) rfl rfl ?_
            exact hk _ (Cov.same (vb (if_t hc75 hg74)) (Cov.fresh rfl (Cov.fresh rfl (Cov.fresh rfl (Cov.fresh rfl (Cov.refl))))))
          · skip
            have hg74 := if_f hc75 hg74
            refine XL_q (w_take rfl hc75) (qt_fieldAddr uf40 fi40_2 nz3 rfl) rfl rfl ?_
            have hB76 : Bx w58 b54 40 [.int .i64 x29.1, .int .i64 x29.2.1, .int .i64 x29.2.2] := Holds.bx (H60.pull 0)
            refine XL_load_bx u3 rfl hB76 rfl (w_take rfl hc75) rfl rfl ?_
            obtain ⟨x77, hx78, hg74⟩ := bind_some hg74
            refine QL_call (w_take rfl hc75) rfl c46 (fun w' hb => (w_spec_l1In w' ([.bx b54 40 [.int .i64 x29.1, .int .i64 x29.2.1, .int .i64 x29.2.2], .sl 3 (.int .i64) v13 s18] ++ G) x29.2.2 1 9999 x77 hx78 (H60.grow hb).ctx).mono fun e w'' hK => ⟨hK.1, hK.2.bel⟩) (by rfl) ?_
            refine XL_q (w_take rfl hc75) (qt_not rfl) rfl rfl ?_
            refine XL_q rfl (qt_pickF rfl hc75 rfl) rfl rfl ?_
            exact hk _ (Cov.same (vb hg74) (Cov.fresh rfl (Cov.fresh rfl (Cov.fresh rfl (Cov.fresh rfl (Cov.refl))))))
        refine QL_nil fun a ha w79 hb80 => ?_
        have H81 : Holds (([] : List Res).flatMap Res.own) w w79 [.bx b54 40 [.int .i64 x29.1, .int .i64 x29.2.1, .int .i64 x29.2.2], .sl 3 (.int .i64) v13 s18] G := H60.grow hb80
        refine nrm_seq (WP.app ?_ ha)
        refine WP_cond rfl (fun hc82 => ?_) (fun hc82 => ?_)
        · have hs24 := if_t hc82 hs24
          refine WP_seq ?_
          refine WP_region ?_
          refine XL_q rfl (qt_assign rfl) rfl rfl ?_
          refine WL_nil_seq ?_
          refine WP_ret fun a ha => ?_
          obtain rfl := Option.some.inj hs24
          have H83 : Holds (([] : List Res).flatMap Res.own) w w79 [] G := ((H81.cut 0).cut 0)
          exact ret_seq (ret_block (ret_seq (⟨ret_ne, rfl, ha.sub ⟨rfl, trivial⟩, H83⟩)))
        · have hs24 := if_f hc82 hs24
          refine WP_skip_seq ?_
          refine WP_seq ?_
          refine WP_tail 11 (by kernel_rfl) (by kernel_rfl) (fun w84 hb85 => ?_)
          have H86 : Holds (([] : List Res).flatMap Res.own) w w84 [.bx b54 40 [.int .i64 x29.1, .int .i64 x29.2.1, .int .i64 x29.2.2], .sl 3 (.int .i64) v13 s18] G := H81.grow hb85
          refine XL_q rfl (qt_move rfl) rfl rfl ?_
          refine XL_q rfl (qt_fieldAddr uf40 fi40_0 nz3 rfl) rfl rfl ?_
          have hB87 : Bx w84 b54 40 [.int .i64 x29.1, .int .i64 x29.2.1, .int .i64 x29.2.2] := Holds.bx (H86.pull 0)
          refine XL_load_bx u3 rfl hB87 rfl rfl rfl rfl ?_
          refine XL_q rfl (qt_move rfl) rfl rfl ?_
          refine XL_q rfl (qt_fieldAddr uf40 fi40_0 nz3 rfl) rfl rfl ?_
          have hB88 : Bx w84 b54 40 [.int .i64 x29.1, .int .i64 x29.2.1, .int .i64 x29.2.2] := Holds.bx (H86.pull 0)
          refine XL_load_bx u3 rfl hB88 rfl rfl rfl rfl ?_
          obtain ⟨x89, hx90, hs24⟩ := bind_some hs24
          refine XL_indexH H86.ctx (Has.c (Has.hd)) hx90 u23 i3 rfl rfl rfl rfl (fun b91 off92 cap93 hv94 => ?_)
          obtain ⟨F95, hat96, hdup97⟩ := H86.at (Has.c (Has.hd)) hx90 hv94
          refine XL_load_int (k := .i64) u3 rfl hat96 rfl rfl rfl ?_
          refine XL_q rfl (qt_fieldAddr uf40 fi40_2 nz3 rfl) rfl rfl ?_
          have hB98 : Bx w84 b54 40 [.int .i64 x29.1, .int .i64 x29.2.1, .int .i64 x29.2.2] := Holds.bx (H86.pull 0)
          refine XL_load_bx u3 rfl hB98 rfl rfl rfl rfl ?_
          refine XL_q rfl (qt_add rfl rfl) rfl rfl ?_
          refine SL_nil ?_
          obtain ⟨x99, hx100, hs24⟩ := bind_some hs24
          refine XL_indexH H86.ctx (Has.c (Has.hd)) hx100 u23 i3 rfl rfl rfl rfl (fun b101 off102 cap103 hv104 => ?_)
          have H105 : Holds (([] : List Res).flatMap Res.own) w w84 [.sl 3 (.int .i64) v13 s18, .bx b54 40 [.int .i64 x29.1, .int .i64 x29.2.1, .int .i64 x29.2.2]] G := H86.pull 1
          refine WL_storeH (fo := 0) (cs' := [.int .i64 (IntKind.wrap .i64 (x89 + x29.2.2))]) H105 hx100 hv104 (Upd.whole (Blt.int)) rfl il3 rfl rfl rfl rfl (fun w106 H107 => ?_)
          have H108 : Holds (([] : List Res).flatMap Res.own) w w106 [.sl 3 (.int .i64) v13 (List.set s18 (Int.toNat x29.1) (IntKind.wrap .i64 (x89 + x29.2.2))), .bx b54 40 [.int .i64 x29.1, .int .i64 x29.2.1, .int .i64 x29.2.2]] G := H107
          refine WL_nil_seq ?_
          refine WP_tail 11 (by kernel_rfl) (by kernel_rfl) (fun w109 hb110 => ?_)
          have H111 : Holds (([] : List Res).flatMap Res.own) w w109 [.sl 3 (.int .i64) v13 (List.set s18 (Int.toNat x29.1) (IntKind.wrap .i64 (x89 + x29.2.2))), .bx b54 40 [.int .i64 x29.1, .int .i64 x29.2.1, .int .i64 x29.2.2]] G := H108.grow hb110
          refine XL_q rfl (qt_move rfl) rfl rfl ?_
          refine XL_q rfl (qt_fieldAddr uf40 fi40_1 nz3 rfl) rfl rfl ?_
          have hB112 : Bx w109 b54 40 [.int .i64 x29.1, .int .i64 x29.2.1, .int .i64 x29.2.2] := Holds.bx (H111.pull 1)
          refine XL_load_bx u3 rfl hB112 rfl rfl rfl rfl ?_
          refine XL_q rfl (qt_move rfl) rfl rfl ?_
          refine XL_q rfl (qt_fieldAddr uf40 fi40_1 nz3 rfl) rfl rfl ?_
          have hB113 : Bx w109 b54 40 [.int .i64 x29.1, .int .i64 x29.2.1, .int .i64 x29.2.2] := Holds.bx (H111.pull 1)
          refine XL_load_bx u3 rfl hB113 rfl rfl rfl rfl ?_
          obtain ⟨x114, hx115, hs24⟩ := bind_some hs24
          refine XL_indexH H111.ctx (Has.hd) hx115 u23 i3 rfl rfl rfl rfl (fun b116 off117 cap118 hv119 => ?_)
          obtain ⟨F120, hat121, hdup122⟩ := H111.at (Has.hd) hx115 hv119
          refine XL_load_int (k := .i64) u3 rfl hat121 rfl rfl rfl ?_
          refine XL_q rfl (qt_fieldAddr uf40 fi40_2 nz3 rfl) rfl rfl ?_
          have hB123 : Bx w109 b54 40 [.int .i64 x29.1, .int .i64 x29.2.1, .int .i64 x29.2.2] := Holds.bx (H111.pull 1)
          refine XL_load_bx u3 rfl hB123 rfl rfl rfl rfl ?_
          refine XL_q rfl (qt_sub rfl rfl) rfl rfl ?_
          refine SL_nil ?_
          obtain ⟨x124, hx125, hs24⟩ := bind_some hs24
          refine XL_indexH H111.ctx (Has.hd) hx125 u23 i3 rfl rfl rfl rfl (fun b126 off127 cap128 hv129 => ?_)
          refine WL_storeH (fo := 0) (cs' := [.int .i64 (IntKind.wrap .i64 (x114 - x29.2.2))]) H111 hx125 hv129 (Upd.whole (Blt.int)) rfl il3 rfl rfl rfl rfl (fun w130 H131 => ?_)
          have H132 : Holds (([] : List Res).flatMap Res.own) w w130 [.sl 3 (.int .i64) v13 (List.set (List.set s18 (Int.toNat x29.1) (IntKind.wrap .i64 (x89 + x29.2.2))) (Int.toNat x29.2.1) (IntKind.wrap .i64 (x114 - x29.2.2))), .bx b54 40 [.int .i64 x29.1, .int .i64 x29.2.1, .int .i64 x29.2.2]] G := H131
          refine WL_nil fun a ha => ?_
          refine nrm_block (nrm_seq (WP.app ?_ ha))
          refine WP_region ?_
          refine XL_q rfl (qt_move rfl) rfl rfl ?_
          refine XL_q rfl (qt_add rfl rfl) rfl rfl ?_
          refine XL_q rfl (qt_assign rfl) rfl rfl ?_
          refine WL_nil fun a ha => ?_
          obtain rfl := Option.some.inj hs24
          have H133 : Holds (([] : List Res).flatMap Res.own) w w130 [.sl 3 (.int .i64) v13 (List.set (List.set s18 (Int.toNat x29.1) (IntKind.wrap .i64 (x89 + x29.2.2))) (Int.toNat x29.2.1) (IntKind.wrap .i64 (x114 - x29.2.2)))] G := (H132.cut 1)
          exact ⟨rfl, ha.sub ⟨rfl, rfl, rfl, rfl, trivial⟩, H133⟩
      · have hs24 := if_f hc28 hs24
        refine WP_exit fun a ha => ?_
        obtain rfl := Option.some.inj hs24
        exact exit_seq (⟨exit_ne, rfl, ha.sub ⟨rfl, trivial⟩, H27⟩)
    · intro e a21 w134 hO135
      rcases o19 with o19 | o19
      · skip
        obtain ⟨p136, rfl⟩ : ∃ z, z = o19 := ⟨o19, rfl⟩
        obtain ⟨rfl, hO138⟩ := hO135
        obtain ⟨ha, H137⟩ := hO138
        refine exit_block_eq (nrm_seq (WP.app ?_ ha))
        refine WP_seq ?_
        refine WP_seq ?_
        refine WP_region ?_
        refine XL_q rfl (qt_assign rfl) rfl rfl ?_
        refine WL_nil_seq ?_
        refine WP_block ?_
        obtain ⟨o140, ho141, h⟩ := bind_some h
        refine fun a142 ha143 => wp_loop_fix (I := fun s a w2 => match s with | s139 => (Fr a 89 [(5, v13), (8, .int .i64 s139)] ∧ Holds (([] : List Res).flatMap Res.own) w w2 [.sl 3 (.int .i64) v13 p136] G)) (O := fun o e a w2 => match o with | .inl _ => e = .exit 2 ∧ (Fr a 89 [] ∧ Holds (([] : List Res).flatMap Res.own) w w2 [] G) | .inr q0 => e = .ret ∧ (Fr a 89 [(4, .bool q0)] ∧ Holds (([] : List Res).flatMap Res.own) w w2 [] G)) ho141 ?_ ?_ ?_
        · exact ⟨ha143.sub ⟨rfl, rfl, trivial⟩, H137⟩
        · clear ha143
          intro s o146 a w144 hs145 hI147
          obtain ⟨s139, rfl⟩ : ∃ z, z = s := ⟨s, rfl⟩
          obtain ⟨ha, H148⟩ := hI147
          refine WP.app ?_ ha
          clear ha
          refine WP_seq ?_
          refine WP_seq ?_
          refine WP_region ?_
          refine XL_q rfl (qt_move rfl) rfl rfl ?_
          refine XL_q rfl (qt_move rfl) rfl rfl ?_
          refine XL_lenH H148.ctx (t := (.int .i64)) (Has.hd) u23 rfl rfl rfl ?_
          refine XL_q rfl (qt_lss rfl rfl) rfl rfl ?_
          refine WL_nil_seq ?_
          refine WP_cond rfl (fun hc149 => ?_) (fun hc149 => ?_)
          · have hs145 := if_t hc149 hs145
            refine WP_skip_seq ?_
            refine WP_seq ?_
            refine WP_block ?_
            refine WP_seq ?_
            refine WP_region ?_
            refine XL_q rfl (qt_move rfl) rfl rfl ?_
            refine XL_q rfl (qt_move rfl) rfl rfl ?_
            obtain ⟨x150, hx151, hs145⟩ := bind_some hs145
            refine XL_indexH H148.ctx (Has.hd) hx151 u23 i3 rfl rfl rfl rfl (fun b152 off153 cap154 hv155 => ?_)
            obtain ⟨F156, hat157, hdup158⟩ := H148.at (Has.hd) hx151 hv155
            refine XL_load_int (k := .i64) u3 rfl hat157 rfl rfl rfl ?_
            refine XL_q rfl (qt_neq rfl rfl) rfl rfl ?_
            refine WL_nil_seq ?_
            refine WP_cond rfl (fun hc159 => ?_) (fun hc159 => ?_)
            · have hs145 := if_t hc159 hs145
              refine WP_seq ?_
              refine WP_region ?_
              refine XL_q rfl (qt_assign rfl) rfl rfl ?_
              refine WL_nil_seq ?_
              refine WP_ret fun a ha => ?_
              obtain rfl := Option.some.inj hs145
              have H160 : Holds (([] : List Res).flatMap Res.own) w w144 [] G := (H148.cut 0)
              exact ret_block (ret_seq (⟨ret_ne, rfl, ha.sub ⟨rfl, trivial⟩, H160⟩))
            · have hs145 := if_f hc159 hs145
              refine WP_skip fun a ha => ?_
              refine nrm_block (nrm_seq (WP.app ?_ ha))
              refine WP_region ?_
              refine XL_q rfl (qt_move rfl) rfl rfl ?_
              refine XL_q rfl (qt_add rfl rfl) rfl rfl ?_
              refine XL_q rfl (qt_assign rfl) rfl rfl ?_
              refine WL_nil fun a ha => ?_
              obtain rfl := Option.some.inj hs145
              exact ⟨rfl, ha.sub ⟨rfl, rfl, trivial⟩, H148⟩
          · have hs145 := if_f hc149 hs145
            refine WP_exit fun a ha => ?_
            obtain rfl := Option.some.inj hs145
            have H161 : Holds (([] : List Res).flatMap Res.own) w w144 [] G := (H148.cut 0)
            exact exit_seq (⟨exit_ne, rfl, ha.sub trivial, H161⟩)
        · intro e a142 w162 hO163
          rcases o140 with o140 | o140
          · skip
            obtain ⟨rfl, hO165⟩ := hO163
            obtain ⟨ha, H164⟩ := hO165
            refine exit_block_eq (nrm_seq (WP.app ?_ ha))
            refine WP_seq ?_
            refine WP_region ?_
            refine XL_q rfl (qt_assign rfl) rfl rfl ?_
            refine WL_nil_seq ?_
            refine WP_ret fun a ha => ?_
            obtain rfl := Option.some.inj h
            exact ret1 rfl ha rfl ⟨rfl, H164⟩
          · skip
            obtain ⟨p166, rfl⟩ : ∃ z, z = o140 := ⟨o140, rfl⟩
            obtain ⟨rfl, hO168⟩ := hO163
            obtain ⟨ha, H167⟩ := hO168
            obtain rfl := Option.some.inj h
            exact ret_block (ret_seq (ret1 rfl ha rfl ⟨rfl, H167⟩))
      · skip
        obtain ⟨p169, p170⟩ := o19
        obtain ⟨rfl, hO172⟩ := hO135
        obtain ⟨ha, H171⟩ := hO172
        obtain rfl := Option.some.inj h
        exact ret_block (ret_seq (ret1 rfl ha rfl ⟨rfl, H171⟩))
theorem w_bits_OnesCount64 (w : World) (G : List Res) (p0 : Int) (r : Int) (h : bits_OnesCount64S p0 = some r) (H : Ctx w G) : Calls Tryd.prog 75 #[.int .u64 p0] w fun e w' => e = .returned (.int .i64 r) ∧ Holds (([] : List Res).flatMap Res.own) w w' [] G := by
  have H : Holds (([] : List Res).flatMap Res.own) w w [] G := Holds.startN H
  refine calls_enter (args := [.int .u64 p0]) (n := 35) Tryd.func75 rfl rfl rfl ?_
  unfold bits_OnesCount64S at h
  refine WP_seq ?_
  refine WP_region ?_
  refine XL_q rfl (qt_assign rfl) rfl rfl ?_
  refine WL_nil_seq ?_
  refine WP_seq ?_
  refine WP_region ?_
  refine XL_q rfl (qt_move rfl) rfl rfl ?_
  refine XL_q rfl (qt_shr rfl rfl (by decide)) rfl rfl ?_
  refine XL_q rfl (qt_and rfl rfl) rfl rfl ?_
  refine XL_q rfl (qt_move rfl) rfl rfl ?_
  refine XL_q rfl (qt_and rfl rfl) rfl rfl ?_
  refine XL_q rfl (qt_add rfl rfl) rfl rfl ?_
  refine XL_q rfl (qt_assign rfl) rfl rfl ?_
  refine WL_nil_seq ?_
  refine WP_seq ?_
  refine WP_region ?_
  refine XL_q rfl (qt_move rfl) rfl rfl ?_
  refine XL_q rfl (qt_shr rfl rfl (by decide)) rfl rfl ?_
  refine XL_q rfl (qt_and rfl rfl) rfl rfl ?_
  refine XL_q rfl (qt_move rfl) rfl rfl ?_
  refine XL_q rfl (qt_and rfl rfl) rfl rfl ?_
  obtain ⟨x1, hx2, h⟩ := bind_some h
  refine XL_qe rfl (qt_add rfl rfl) (vi hx2) rfl rfl ?_
  refine XL_q rfl (qt_assign rfl) rfl rfl ?_
  refine WL_nil_seq ?_
  refine WP_seq ?_
  refine WP_region ?_
  refine XL_q rfl (qt_move rfl) rfl rfl ?_
  refine XL_q rfl (qt_shr rfl rfl (by decide)) rfl rfl ?_
  refine XL_q rfl (qt_move rfl) rfl rfl ?_
  refine XL_q rfl (qt_add rfl rfl) rfl rfl ?_
  refine XL_q rfl (qt_and rfl rfl) rfl rfl ?_
  refine XL_q rfl (qt_assign rfl) rfl rfl ?_
  refine WL_nil_seq ?_
  refine WP_seq ?_
  refine WP_region ?_
  refine XL_q rfl (qt_move rfl) rfl rfl ?_
  refine XL_q rfl (qt_move rfl) rfl rfl ?_
  refine XL_q rfl (qt_shr rfl rfl (by decide)) rfl rfl ?_
  obtain ⟨x3, hx4, h⟩ := bind_some h
  refine XL_qe rfl (qt_add rfl rfl) (vi hx4) rfl rfl ?_
  refine XL_q rfl (qt_assign rfl) rfl rfl ?_
  refine WL_nil_seq ?_
  refine WP_seq ?_
  refine WP_region ?_
  refine XL_q rfl (qt_move rfl) rfl rfl ?_
  refine XL_q rfl (qt_move rfl) rfl rfl ?_
  refine XL_q rfl (qt_shr rfl rfl (by decide)) rfl rfl ?_
  refine XL_q rfl (qt_add rfl rfl) rfl rfl ?_
  refine XL_q rfl (qt_assign rfl) rfl rfl ?_
  refine WL_nil_seq ?_
  refine WP_seq ?_
  refine WP_region ?_
  refine XL_q rfl (qt_move rfl) rfl rfl ?_
  refine XL_q rfl (qt_move rfl) rfl rfl ?_
  refine XL_q rfl (qt_shr rfl rfl (by decide)) rfl rfl ?_
  refine XL_q rfl (qt_add rfl rfl) rfl rfl ?_
  refine XL_q rfl (qt_assign rfl) rfl rfl ?_
  refine WL_nil_seq ?_
  refine WP_seq ?_
  refine WP_region ?_
  refine XL_q rfl (qt_move rfl) rfl rfl ?_
  refine XL_q rfl (qt_int u3 rfl u84) rfl rfl ?_
  obtain ⟨x5, hx6, h⟩ := bind_some h
  refine XL_qe rfl (qt_and rfl rfl) (vi hx6) rfl rfl ?_
  refine XL_q rfl (qt_assign rfl) rfl rfl ?_
  refine WL_nil_seq ?_
  refine WP_ret fun a ha => ?_
  obtain rfl := Option.some.inj h
  exact ret1 rfl ha rfl ⟨rfl, H⟩
theorem w_bits_OnesCount (w : World) (G : List Res) (p0 : Int) (r : Int) (h : bits_OnesCountS p0 = some r) (H : Ctx w G) : Calls Tryd.prog 56 #[.int .u64 p0] w fun e w' => e = .returned (.int .i64 r) ∧ Holds (([] : List Res).flatMap Res.own) w w' [] G := by
  have H : Holds (([] : List Res).flatMap Res.own) w w [] G := Holds.startN H
  refine calls_enter (args := [.int .u64 p0]) (n := 8) Tryd.func56 rfl rfl rfl ?_
  unfold bits_OnesCountS at h
  refine WP_seq ?_
  refine WP_region ?_
  refine XL_q rfl (qt_assign rfl) rfl rfl ?_
  refine WL_nil_seq ?_
  refine WP_seq ?_
  refine WP_cond_false rfl ?_
  refine WP_skip_seq ?_
  refine WP_seq ?_
  refine WP_still ?_
  refine XL_q rfl (qt_move rfl) rfl rfl ?_
  obtain ⟨x1, hx2, h⟩ := bind_some h
  refine QL_call rfl rfl c75 (fun w' hb => (w_bits_OnesCount64 w' G p0 x1 hx2 (H.grow hb).ctx).mono fun e w'' hK => ⟨hK.1, hK.2.bel⟩) (by rfl) ?_
  refine XL_q rfl (qt_assign rfl) rfl rfl ?_
  refine QL_nil fun a ha w3 hb4 => ?_
  have H5 : Holds (([] : List Res).flatMap Res.own) w w3 [] G := H.grow hb4
  refine nrm_seq (WP.app ?_ ha)
  refine WP_ret fun a ha => ?_
  obtain rfl := Option.some.inj h
  exact ret1 rfl ha rfl ⟨rfl, H5⟩
theorem w_impl_SettleLeast (w : World) (G : List Res) (vp0 : Value) (p0 : List Int) (hp0 : Has G (.int .i64) vp0 p0) (r : Int) (h : impl_SettleLeastS p0 = some r) (H : Ctx w G) : Calls Tryd.prog 29 #[vp0] w fun e w' => e = .returned (.int .i64 r) ∧ Holds (([] : List Res).flatMap Res.own) w w' [] G := by
  have H : Holds (([] : List Res).flatMap Res.own) w w [] G := Holds.startN H
  refine calls_enter (args := [vp0]) (n := 13) Tryd.func29 rfl rfl rfl ?_
  unfold impl_SettleLeastS at h
  refine WP_seq ?_
  refine WP_region ?_
  refine XL_q rfl (qt_assign rfl) rfl rfl ?_
  refine WL_nil_seq ?_
  refine WP_seq ?_
  refine WP_seq ?_
  refine WP_still ?_
  refine XL_q rfl (qt_move rfl) rfl rfl ?_
  obtain ⟨x1, hx2, h⟩ := bind_some h
  refine QL_call rfl rfl c13 (fun w' hb => (w_impl_OwedValid w' G vp0 p0 (hp0) x1 hx2 (H.grow hb).ctx).mono fun e w'' hK => ⟨hK.1, hK.2.bel⟩) (by rfl) ?_
  refine XL_q rfl (qt_not rfl) rfl rfl ?_
  refine QL_nil fun a ha w3 hb4 => ?_
  have H5 : Holds (([] : List Res).flatMap Res.own) w w3 [] G := H.grow hb4
  refine nrm_seq (WP.app ?_ ha)
  refine WP_cond rfl (fun hc6 => ?_) (fun hc6 => ?_)
  · have h := if_t hc6 h
    refine WP_seq ?_
    refine WP_region ?_
    refine XL_q rfl (qt_assign rfl) rfl rfl ?_
    refine WL_nil_seq ?_
    refine WP_ret fun a ha => ?_
    obtain rfl := Option.some.inj h
    exact ret_seq (ret1 rfl ha rfl ⟨rfl, H5⟩)
  · have h := if_f hc6 h
    refine WP_skip_seq ?_
    refine WP_seq ?_
    refine WP_still ?_
    refine XL_q rfl (qt_move rfl) rfl rfl ?_
    obtain ⟨x7, hx8, h⟩ := bind_some h
    refine QL_call rfl rfl c52 (fun w' hb => (w_impl_concerned w' G vp0 p0 (hp0) x7 hx8 (H5.grow hb).ctx).mono fun e w'' hK => ⟨hK.1, hK.2.bel⟩) (by rfl) ?_
    refine XL_q rfl (qt_int u58 rfl u3) rfl rfl ?_
    obtain ⟨x9, hx10, h⟩ := bind_some h
    refine QL_call rfl rfl c56 (fun w' hb => (w_bits_OnesCount w' G (IntKind.wrap .u64 x7) x9 hx10 (H5.grow hb).ctx).mono fun e w'' hK => ⟨hK.1, hK.2.bel⟩) (by rfl) ?_
    refine XL_q rfl (qt_move rfl) rfl rfl ?_
    obtain ⟨x11, hx12, h⟩ := bind_some h
    refine QL_call rfl rfl c20 (fun w' hb => (w_impl_GroupsMost w' G vp0 p0 (hp0) x11 hx12 (H5.grow hb).ctx).mono fun e w'' hK => ⟨hK.1, hK.2.bel⟩) (by rfl) ?_
    refine XL_q rfl (qt_sub rfl rfl) rfl rfl ?_
    refine XL_q rfl (qt_assign rfl) rfl rfl ?_
    refine QL_nil fun a ha w13 hb14 => ?_
    have H15 : Holds (([] : List Res).flatMap Res.own) w w13 [] G := H5.grow hb14
    refine nrm_seq (WP.app ?_ ha)
    refine WP_ret fun a ha => ?_
    obtain rfl := Option.some.inj h
    exact ret1 rfl ha rfl ⟨rfl, H15⟩
theorem w_laws_FnPaysOk (w : World) (G : List Res) (vp0 : Value) (p0 : List Int) (hp0 : HasRo G (.int .u8) vp0 p0) (r : Bool) (h : laws_FnPaysOkS p0 = some r) (H : Ctx w G) : Calls Tryd.prog 7 #[vp0] w fun e w' => e = .returned (.bool r) ∧ Holds (([] : List Res).flatMap Res.own) w w' [] G := by
  have H : Holds (([] : List Res).flatMap Res.own) w w [] G := Holds.startN H
  refine calls_enter (args := [vp0]) (n := 40) Tryd.func7 rfl rfl rfl ?_
  unfold laws_FnPaysOkS at h
  refine WP_seq ?_
  refine WP_region ?_
  refine XL_q rfl (qt_assign rfl) rfl rfl ?_
  refine WL_nil_seq ?_
  refine WP_seq ?_
  refine WP_seq ?_
  refine WP_region ?_
  refine XL_q rfl (qt_move rfl) rfl rfl ?_
  refine XL_lenH H.ctx (t := (.int .u8)) (hp0.has) u22 rfl rfl rfl ?_
  refine XL_q rfl (qt_gtr rfl rfl) rfl rfl ?_
  refine WL_nil_seq ?_
  refine WP_cond rfl (fun hc1 => ?_) (fun hc1 => ?_)
  · have h := if_t hc1 h
    refine WP_seq ?_
    refine WP_region ?_
    refine XL_q rfl (qt_assign rfl) rfl rfl ?_
    refine WL_nil_seq ?_
    refine WP_ret fun a ha => ?_
    obtain rfl := Option.some.inj h
    exact ret_seq (ret1 rfl ha rfl ⟨rfl, H⟩)
  · have h := if_f hc1 h
    refine WP_skip_seq ?_
    refine WP_seq ?_
    refine WP_region ?_
    refine XL_q rfl (qt_move rfl) rfl rfl ?_
    obtain ⟨x2, hx3, h⟩ := bind_some h
    refine WL_call rfl rfl c27 (w_spec_DrawPaysOk w G vp0 p0 (hp0) x2 hx3 H.ctx) (by rfl) ?_
    rintro _ w4 ⟨v6, v7, rfl, H5⟩; refine ⟨_, rfl, ?_⟩
    have H8 : Holds (([] : List Res).flatMap Res.own) w w4 [.sl 3 (.int .i64) v6 x2.1, .sl 40 (.pair (.int .i64) (.pair (.int .i64) (.int .i64))) v7 x2.2] G := H.calledN (Rs := []) H5
    refine XL_q rfl (qt_move rfl) rfl rfl ?_
    refine XL_q rfl (qt_extract rfl rfl) rfl rfl ?_
    refine XL_q rfl (qt_extract rfl rfl) rfl rfl ?_
    refine XL_q rfl (qt_assign rfl) rfl rfl ?_
    refine XL_q rfl (qt_assign rfl) rfl rfl ?_
    refine WL_nil_seq ?_
    refine WP_seq ?_
    refine WP_still ?_
    refine XL_q rfl (qt_move rfl) rfl rfl ?_
    refine XL_q rfl (qt_move rfl) rfl rfl ?_
    obtain ⟨x9, hx10, h⟩ := bind_some h
    refine QL_call rfl rfl c26 (fun w' hb => (w_impl_PaysOk w' ([.sl 3 (.int .i64) v6 x2.1, .sl 40 (.pair (.int .i64) (.pair (.int .i64) (.int .i64))) v7 x2.2] ++ G) v6 x2.1 (Has.hd) v7 x2.2 (Has.c (Has.hd)) x9 hx10 (H8.grow hb).ctx).mono fun e w'' hK => ⟨hK.1, hK.2.bel⟩) (by rfl) ?_
    refine XL_q rfl (qt_assign rfl) rfl rfl ?_
    refine QL_nil fun a ha w11 hb12 => ?_
    have H13 : Holds (([] : List Res).flatMap Res.own) w w11 [.sl 3 (.int .i64) v6 x2.1, .sl 40 (.pair (.int .i64) (.pair (.int .i64) (.int .i64))) v7 x2.2] G := H8.grow hb12
    refine nrm_seq (WP.app ?_ ha)
    refine WP_seq ?_
    refine WP_seq ?_
    refine WP_still ?_
    refine XL_q rfl (qt_move rfl) rfl rfl ?_
    refine XL_q rfl (qt_move rfl) rfl rfl ?_
    refine XL_q rfl (qt_move rfl) rfl rfl ?_
    obtain ⟨x14, hx15, h⟩ := bind_some h
    refine QL_call rfl rfl c28 (fun w' hb => (w_spec_PaysOk w' ([.sl 3 (.int .i64) v6 x2.1, .sl 40 (.pair (.int .i64) (.pair (.int .i64) (.int .i64))) v7 x2.2] ++ G) v6 x2.1 (Has.hd) v7 x2.2 (Has.c (Has.hd)) x14 hx15 (H13.grow hb).ctx).mono fun e w'' hK => ⟨hK.1, hK.2.bel⟩) (by rfl) ?_
    refine XL_q rfl (qt_bneq u4 rfl rfl) rfl rfl ?_
    refine QL_nil fun a ha w16 hb17 => ?_
    have H18 : Holds (([] : List Res).flatMap Res.own) w w16 [.sl 3 (.int .i64) v6 x2.1, .sl 40 (.pair (.int .i64) (.pair (.int .i64) (.int .i64))) v7 x2.2] G := H13.grow hb17
    refine nrm_seq (WP.app ?_ ha)
    refine WP_cond rfl (fun hc19 => ?_) (fun hc19 => ?_)
    · have h := if_t hc19 h
      refine WP_seq ?_
      refine WP_region ?_
      refine XL_q rfl (qt_assign rfl) rfl rfl ?_
      refine WL_nil_seq ?_
      refine WP_ret fun a ha => ?_
      obtain rfl := Option.some.inj h
      have H20 : Holds (([] : List Res).flatMap Res.own) w w16 [] G := ((H18.cut 0).cut 0)
      exact ret_seq (ret1 rfl ha rfl ⟨rfl, H20⟩)
    · have h := if_f hc19 h
      refine WP_skip_seq ?_
      refine WP_seq ?_
      refine WP_still ?_
      refine XL_q rfl (qt_move rfl) rfl rfl ?_
      obtain ⟨x21, hx22, h⟩ := bind_some h
      refine QL_call rfl rfl c29 (fun w' hb => (w_impl_SettleLeast w' ([.sl 3 (.int .i64) v6 x2.1, .sl 40 (.pair (.int .i64) (.pair (.int .i64) (.int .i64))) v7 x2.2] ++ G) v6 x2.1 (Has.hd) x21 hx22 (H18.grow hb).ctx).mono fun e w'' hK => ⟨hK.1, hK.2.bel⟩) (by rfl) ?_
      refine XL_q rfl (qt_assign rfl) rfl rfl ?_
      refine QL_nil fun a ha w23 hb24 => ?_
      have H25 : Holds (([] : List Res).flatMap Res.own) w w23 [.sl 3 (.int .i64) v6 x2.1, .sl 40 (.pair (.int .i64) (.pair (.int .i64) (.int .i64))) v7 x2.2] G := H18.grow hb24
      refine nrm_seq (WP.app ?_ ha)
      refine WP_seq ?_
      refine WP_still ?_
      refine XL_q rfl (qt_move rfl) rfl rfl ?_
      refine XL_q rfl (qt_not rfl) rfl rfl ?_
      refine XL_q rfl (qt_move rfl) rfl rfl ?_
      refine XL_join 9 36 (.bool ((!x9) || ((decide (x21 ≥ 0)) && (decide (x21 ≤ (List.length x2.2 : Int)))))) ?_ (fun md hmd hk => ?_)
      rotate_left
      · obtain ⟨K, rfl⟩ := Md.quiet_of hmd
        rcases btf (!x9) with hc26 | hc26
        · skip
          refine XL_skip (w_skip rfl hc26) rfl rfl ?_
          refine XL_skip (w_skip rfl hc26) rfl rfl ?_
          refine XL_skip (w_skip rfl hc26) rfl rfl ?_
          refine XL_skip rfl rfl rfl ?_
          refine XL_skip rfl rfl rfl ?_
          refine XL_skip rfl rfl rfl ?_
          refine XL_skip rfl rfl rfl ?_
          refine XL_skip (w_skip rfl hc26) rfl rfl ?_
          refine XL_q rfl (qt_pickT rfl hc26 rfl) rfl rfl ?_
          exact hk _ (Cov.same (by rw [hc26]; rfl) (Cov.fresh rfl (Cov.fresh rfl (Cov.fresh rfl (Cov.fresh rfl (Cov.fresh rfl (Cov.fresh rfl (Cov.fresh rfl (Cov.fresh rfl (Cov.refl))))))))))
        · skip
          refine XL_q (w_take rfl hc26) (qt_move rfl) rfl rfl ?_
          refine XL_q (w_take rfl hc26) (qt_geq rfl rfl) rfl rfl ?_
          refine XL_q (w_take rfl hc26) (qt_move rfl) rfl rfl ?_
          refine XL_join 5 35 (.bool ((decide (x21 ≥ 0)) && (decide (x21 ≤ (List.length x2.2 : Int))))) ?_ (fun md hmd hk => ?_)
          rotate_left
          · obtain ⟨K, rfl⟩ := Md.quiet_of hmd
            rcases btf (decide (x21 ≥ 0)) with hc27 | hc27
            · skip
              refine XL_q (w_take rfl hc27) (qt_move rfl) rfl rfl ?_
              refine XL_q (w_take rfl hc27) (qt_move rfl) rfl rfl ?_
              refine XL_lenH H25.ctx (t := (.pair (.int .i64) (.pair (.int .i64) (.int .i64)))) (Has.c (Has.hd)) u29 (w_take rfl hc27) rfl rfl ?_
              refine XL_q (w_take rfl hc27) (qt_leq rfl rfl) rfl rfl ?_
              refine XL_q (w_take rfl hc26) (qt_pickT rfl hc27 rfl) rfl rfl ?_
              exact hk _ (Cov.same (by rw [hc27]; rfl) (Cov.fresh rfl (Cov.fresh rfl (Cov.fresh rfl (Cov.fresh rfl (Cov.refl))))))
            · skip
              refine XL_skip (w_skip rfl hc27) rfl rfl ?_
              refine XL_skip (w_skip rfl hc27) rfl rfl ?_
              refine XL_skip (w_skip rfl hc27) rfl rfl ?_
              refine XL_skip (w_skip rfl hc27) rfl rfl ?_
              refine XL_q (w_take rfl hc26) (qt_pickF rfl hc27 rfl) rfl rfl ?_
              exact hk _ (Cov.same (by rw [hc27]; rfl) (Cov.fresh rfl (Cov.fresh rfl (Cov.fresh rfl (Cov.fresh rfl (Cov.refl))))))
          refine XL_q rfl (qt_pickF rfl hc26 rfl) rfl rfl ?_
          exact hk _ (Cov.same (by rw [hc26]; rfl) (Cov.fresh rfl (Cov.fresh rfl (Cov.fresh rfl (Cov.fresh rfl (Cov.refl))))))
      refine XL_q rfl (qt_move rfl) rfl rfl ?_
      obtain ⟨b28, hg29, h⟩ := bind_some h
      refine XL_join 2 39 (.bool b28) ?_ (fun md hmd hk => ?_)
      rotate_left
      · obtain ⟨K, rfl⟩ := Md.quiet_of hmd
        rcases btf ((!x9) || ((decide (x21 ≥ 0)) && (decide (x21 ≤ (List.length x2.2 : Int))))) with hc30 | hc30
        · skip
          have hg29 := if_t hc30 hg29
          obtain ⟨x31, hx32, hg29⟩ := bind_some hg29
          refine QL_call (w_take rfl hc30) rfl c15 (fun w' hb => (w_laws_alive w' ([.sl 3 (.int .i64) v6 x2.1, .sl 40 (.pair (.int .i64) (.pair (.int .i64) (.int .i64))) v7 x2.2] ++ G)  x31 hx32 (H25.grow hb).ctx).mono fun e w'' hK => ⟨hK.1, hK.2.bel⟩) (by rfl) ?_
          refine XL_q rfl (qt_pickT rfl hc30 rfl) rfl rfl ?_
          exact hk _ (Cov.same (vb hg29) (Cov.fresh rfl (Cov.refl)))
        · skip
          refine XL_skip (w_skip rfl hc30) rfl rfl ?_
          refine XL_q rfl (qt_pickF rfl hc30 rfl) rfl rfl ?_
          exact hk _ (Cov.same (vb (if_f hc30 hg29)) (Cov.fresh rfl (Cov.refl)))
      refine XL_q rfl (qt_assign rfl) rfl rfl ?_
      refine QL_nil fun a ha w33 hb34 => ?_
      have H35 : Holds (([] : List Res).flatMap Res.own) w w33 [.sl 3 (.int .i64) v6 x2.1, .sl 40 (.pair (.int .i64) (.pair (.int .i64) (.int .i64))) v7 x2.2] G := H25.grow hb34
      refine nrm_seq (WP.app ?_ ha)
      refine WP_ret fun a ha => ?_
      obtain rfl := Option.some.inj h
      have H36 : Holds (([] : List Res).flatMap Res.own) w w33 [] G := ((H35.cut 0).cut 0)
      exact ret1 rfl ha rfl ⟨rfl, H36⟩
theorem w_spec_l20Sum (w : World) (G : List Res) (bp0 : Nat) (vp0_0 : Value) (p0_0 : List Int) (hp0_0 : Has G (.int .u8) vp0_0 p0_0) (p0_1 : Int) (r : Int × Int) (h : spec_l20SumS p0_0 p0_1 = some r) (H : Ctx w ([.bx bp0 69 [vp0_0, .int .i64 p0_1]] ++ G)) : Calls Tryd.prog 57 #[.pointer (some ⟨bp0, 0, none⟩)] w fun e w' => e = .returned (.int .i64 r.2) ∧ Holds (([.bx bp0 69 [vp0_0, .int .i64 p0_1]] : List Res).flatMap Res.own) w w' [.bx bp0 69 [vp0_0, .int .i64 r.1]] G := by
  have H : Holds (([.bx bp0 69 [vp0_0, .int .i64 p0_1]] : List Res).flatMap Res.own) w w [.bx bp0 69 [vp0_0, .int .i64 p0_1]] G := Holds.startN H
  refine calls_enter (args := [.pointer (some ⟨bp0, 0, none⟩)]) (n := 19) Tryd.func57 rfl rfl rfl ?_
  unfold spec_l20SumS at h
  refine WP_seq ?_
  refine WP_region ?_
  refine XL_q rfl (qt_assign rfl) rfl rfl ?_
  refine WL_nil_seq ?_
  refine WP_seq ?_
  refine WP_region ?_
  refine XL_q rfl (qt_move rfl) rfl rfl ?_
  obtain ⟨x1, hx2, h⟩ := bind_some h
  refine WL_call rfl rfl c65 (w_spec_l20Rd__pick w G bp0 vp0_0 p0_0 (hp0_0) p0_1 256 x1 hx2 H.ctx) (by rfl) ?_
  rintro _ w3 ⟨rfl, H4⟩; refine ⟨_, rfl, ?_⟩
  have H5 : Holds (([.bx bp0 69 [vp0_0, .int .i64 p0_1]] : List Res).flatMap Res.own) w w3 [.bx bp0 69 [vp0_0, .int .i64 x1.1]] G := H.calledN (Rs := [_]) H4
  refine XL_q rfl (qt_move rfl) rfl rfl ?_
  obtain ⟨x6, hx7, h⟩ := bind_some h
  refine WL_call rfl rfl c65 (w_spec_l20Rd__pick w3 G bp0 vp0_0 p0_0 (hp0_0) x1.1 30 x6 hx7 H5.ctx) (by rfl) ?_
  rintro _ w8 ⟨rfl, H9⟩; refine ⟨_, rfl, ?_⟩
  have H10 : Holds (([.bx bp0 69 [vp0_0, .int .i64 p0_1]] : List Res).flatMap Res.own) w w8 [.bx bp0 69 [vp0_0, .int .i64 x6.1]] G := H5.calledN (Rs := [_]) H9
  refine XL_q rfl (qt_add rfl rfl) rfl rfl ?_
  refine XL_q rfl (qt_mul rfl rfl) rfl rfl ?_
  refine XL_q rfl (qt_move rfl) rfl rfl ?_
  obtain ⟨x11, hx12, h⟩ := bind_some h
  refine WL_call rfl rfl c65 (w_spec_l20Rd__pick w8 G bp0 vp0_0 p0_0 (hp0_0) x6.1 40 x11 hx12 H10.ctx) (by rfl) ?_
  rintro _ w13 ⟨rfl, H14⟩; refine ⟨_, rfl, ?_⟩
  have H15 : Holds (([.bx bp0 69 [vp0_0, .int .i64 p0_1]] : List Res).flatMap Res.own) w w13 [.bx bp0 69 [vp0_0, .int .i64 x11.1]] G := H10.calledN (Rs := [_]) H14
  refine XL_q rfl (qt_quo rfl rfl (by decide)) rfl rfl ?_
  refine XL_q rfl (qt_mul rfl rfl) rfl rfl ?_
  refine XL_q rfl (qt_add rfl rfl) rfl rfl ?_
  refine XL_q rfl (qt_move rfl) rfl rfl ?_
  obtain ⟨x16, hx17, h⟩ := bind_some h
  refine WL_call rfl rfl c65 (w_spec_l20Rd__pick w13 G bp0 vp0_0 p0_0 (hp0_0) x11.1 30 x16 hx17 H15.ctx) (by rfl) ?_
  rintro _ w18 ⟨rfl, H19⟩; refine ⟨_, rfl, ?_⟩
  have H20 : Holds (([.bx bp0 69 [vp0_0, .int .i64 p0_1]] : List Res).flatMap Res.own) w w18 [.bx bp0 69 [vp0_0, .int .i64 x16.1]] G := H15.calledN (Rs := [_]) H19
  refine XL_q rfl (qt_quo rfl rfl (by decide)) rfl rfl ?_
  refine XL_q rfl (qt_mul rfl rfl) rfl rfl ?_
  obtain ⟨x21, hx22, h⟩ := bind_some h
  refine XL_qe rfl (qt_sub rfl rfl) (vi hx22) rfl rfl ?_
  refine XL_q rfl (qt_assign rfl) rfl rfl ?_
  refine WL_nil_seq ?_
  refine WP_ret fun a ha => ?_
  obtain rfl := Option.some.inj h
  exact ret1 rfl ha rfl ⟨rfl, H20⟩
theorem w_spec_DrawShareOf (w : World) (G : List Res) (vp0 : Value) (p0 : List Int) (hp0 : HasRo G (.int .u8) vp0 p0) (r : (List Int) × Int) (h : spec_DrawShareOfS p0 = some r) (H : Ctx w G) : Calls Tryd.prog 30 #[vp0] w fun e w' => ∃ (v1 : Value), e = .returned (.tuple #[v1, .int .i64 r.2]) ∧ Holds (([] : List Res).flatMap Res.own) w w' [.sl 3 (.int .i64) v1 r.1] G := by
  have H : Holds (([] : List Res).flatMap Res.own) w w [] G := Holds.startN H
  refine calls_enter (args := [vp0]) (n := 11) Tryd.func30 rfl rfl rfl ?_
  unfold spec_DrawShareOfS at h
  refine WP_seq ?_
  refine WP_region ?_
  refine XL_q rfl (qt_assign rfl) rfl rfl ?_
  refine XL_q rfl (qt_assign rfl) rfl rfl ?_
  refine WL_nil_seq ?_
  refine WP_seq ?_
  refine WP_region ?_
  refine XL_q rfl (qt_move rfl) rfl rfl ?_
  obtain ⟨x1, hx2, h⟩ := bind_some h
  refine WL_call rfl rfl c44 (w_spec_l20Open w G vp0 p0 (hp0) x1 hx2 H.ctx) (by rfl) ?_
  rintro _ w3 ⟨v5, b6, rfl, H4⟩; refine ⟨_, rfl, ?_⟩
  have H7 : Holds (([] : List Res).flatMap Res.own) w w3 [.ro (.int .u8) v5 x1.1, .bx b6 69 [v5, .int .i64 x1.2]] G := H.calledN (Rs := []) H4
  refine XL_q rfl (qt_assign rfl) rfl rfl ?_
  refine WL_nil_seq ?_
  refine WP_seq ?_
  refine WP_region ?_
  refine XL_q rfl (qt_move rfl) rfl rfl ?_
  have H10 : Holds (([] : List Res).flatMap Res.own) w w3 [.bx b6 69 [v5, .int .i64 x1.2], .ro (.int .u8) v5 x1.1] G := H7.pull 1
  obtain ⟨x8, hx9, h⟩ := bind_some h
  refine WL_call rfl rfl c49 (w_spec_l20Shares w3 ([.ro (.int .u8) v5 x1.1] ++ G) b6 v5 x1.1 (HasRo.has (HasRo.hd)) x1.2 9 x8 hx9 H10.ctx) (by rfl) ?_
  rintro _ w11 ⟨v13, rfl, H12⟩; refine ⟨_, rfl, ?_⟩
  have H14 : Holds (([] : List Res).flatMap Res.own) w w11 [.sl 3 (.int .i64) v13 x8.2, .bx b6 69 [v5, .int .i64 x8.1], .ro (.int .u8) v5 x1.1] G := H10.calledN (Rs := [_]) H12
  refine XL_q rfl (qt_move rfl) rfl rfl ?_
  have H17 : Holds (([] : List Res).flatMap Res.own) w w11 [.bx b6 69 [v5, .int .i64 x8.1], .sl 3 (.int .i64) v13 x8.2, .ro (.int .u8) v5 x1.1] G := H14.pull 1
  obtain ⟨x15, hx16, h⟩ := bind_some h
  refine WL_call rfl rfl c57 (w_spec_l20Sum w11 ([.sl 3 (.int .i64) v13 x8.2, .ro (.int .u8) v5 x1.1] ++ G) b6 v5 x1.1 (HasRo.has (HasRo.c (HasRo.hd))) x8.1 x15 hx16 H17.ctx) (by rfl) ?_
  rintro _ w18 ⟨rfl, H19⟩; refine ⟨_, rfl, ?_⟩
  have H20 : Holds (([] : List Res).flatMap Res.own) w w18 [.bx b6 69 [v5, .int .i64 x15.1], .sl 3 (.int .i64) v13 x8.2, .ro (.int .u8) v5 x1.1] G := H17.calledN (Rs := [_]) H19
  refine XL_q rfl (qt_assign rfl) rfl rfl ?_
  refine XL_q rfl (qt_assign rfl) rfl rfl ?_
  refine WL_nil_seq ?_
  refine WP_ret fun a ha => ?_
  obtain rfl := Option.some.inj h
  have H21 : Holds (([] : List Res).flatMap Res.own) w w18 [.sl 3 (.int .i64) v13 x8.2] G := ((H20.cut 0).cut 1)
  exact ret2 rfl ha rfl rfl ⟨v13, rfl, H21⟩
theorem w_impl_indices (w : World) (G : List Res) (p0 : Int) (r : (List Int)) (h : impl_indicesS p0 = some r) (H : Ctx w G) : Calls Tryd.prog 58 #[.int .i64 p0] w fun e w' => ∃ (v1 : Value), e = .returned (v1) ∧ Holds (([] : List Res).flatMap Res.own) w w' [.sl 3 (.int .i64) v1 r] G := by
  have H : Holds (([] : List Res).flatMap Res.own) w w [] G := Holds.startN H
  refine calls_enter (args := [.int .i64 p0]) (n := 18) Tryd.func58 rfl rfl rfl ?_
  unfold impl_indicesS at h
  refine WP_seq ?_
  refine WP_region ?_
  refine XL_q rfl (qt_assign rfl) rfl rfl ?_
  refine WL_nil_seq ?_
  refine WP_seq ?_
  refine WP_region ?_
  refine XL_q rfl (qt_move rfl) rfl rfl ?_
  obtain ⟨x1, hx2, h⟩ := bind_some h
  refine WL_makeH H hx2 u23 j3 rfl (fun _ => ⟨rfl, rfl⟩) rfl rfl rfl rfl rfl (fun v3 w4 H5 => ?_)
  have H6 : Holds (([] : List Res).flatMap Res.own) w w4 [.sl 3 (.int .i64) v3 x1] G := H5
  refine XL_q rfl (qt_assign rfl) rfl rfl ?_
  refine WL_nil_seq ?_
  refine WP_seq ?_
  refine WP_seq ?_
  refine WP_region ?_
  refine XL_q rfl (qt_move rfl) rfl rfl ?_
  refine XL_lenH H6.ctx (t := (.int .i64)) (Has.hd) u23 rfl rfl rfl ?_
  refine XL_q rfl (qt_move rfl) rfl rfl ?_
  refine WL_nil_seq ?_
  refine WP_block ?_
  obtain ⟨o9, ho10, h⟩ := bind_some h
  refine fun a11 ha12 => wp_loop_fix (I := fun s a w2 => match s with | (s7, s8) => (Fr a 18 [(3, v3), (8, .int .i64 (List.length x1 : Int)), (9, .int .i64 s7)] ∧ Holds (([] : List Res).flatMap Res.own) w w2 [.sl 3 (.int .i64) v3 s8] G)) (O := fun o e a w2 => match o with | q0 => e = .exit 0 ∧ (Fr a 18 [(3, v3)] ∧ Holds (([] : List Res).flatMap Res.own) w w2 [.sl 3 (.int .i64) v3 q0] G)) ho10 ?_ ?_ ?_
  · exact ⟨ha12.sub ⟨rfl, rfl, rfl, trivial⟩, H6⟩
  · clear ha12
    intro s o15 a w13 hs14 hI16
    obtain ⟨s7, s8⟩ := s
    obtain ⟨ha, H17⟩ := hI16
    refine WP.app ?_ ha
    clear ha
    refine WP_seq ?_
    refine WP_region ?_
    refine XL_q rfl (qt_lss rfl rfl) rfl rfl ?_
    refine WL_nil_seq ?_
    refine WP_seq ?_
    refine WP_cond rfl (fun hc18 => ?_) (fun hc18 => ?_)
    · have hs14 := if_t hc18 hs14
      refine WP_skip_seq ?_
      refine WP_seq ?_
      refine WP_block ?_
      refine WP_seq ?_
      refine WP_region ?_
      refine XL_q rfl (qt_move rfl) rfl rfl ?_
      refine XL_q rfl (qt_assign rfl) rfl rfl ?_
      refine WL_nil_seq ?_
      refine WP_region ?_
      refine XL_q rfl (qt_move rfl) rfl rfl ?_
      refine XL_q rfl (qt_move rfl) rfl rfl ?_
      refine XL_q rfl (qt_move rfl) rfl rfl ?_
      obtain ⟨x19, hx20, hs14⟩ := bind_some hs14
      refine XL_indexH H17.ctx (Has.hd) hx20 u23 i3 rfl rfl rfl rfl (fun b21 off22 cap23 hv24 => ?_)
      refine WL_storeH (fo := 0) (cs' := [.int .i64 s7]) H17 hx20 hv24 (Upd.whole (Blt.int)) rfl il3 rfl rfl rfl rfl (fun w25 H26 => ?_)
      have H27 : Holds (([] : List Res).flatMap Res.own) w w25 [.sl 3 (.int .i64) v3 (List.set s8 (Int.toNat s7) s7)] G := H26
      refine WL_nil fun a ha => ?_
      refine nrm_block (nrm_seq (WP.app ?_ ha))
      refine WP_region ?_
      refine XL_q rfl (qt_add rfl rfl) rfl rfl ?_
      refine XL_q rfl (qt_move rfl) rfl rfl ?_
      refine WL_nil fun a ha => ?_
      obtain rfl := Option.some.inj hs14
      exact ⟨rfl, ha.sub ⟨rfl, rfl, rfl, trivial⟩, H27⟩
    · have hs14 := if_f hc18 hs14
      refine WP_exit fun a ha => ?_
      obtain rfl := Option.some.inj hs14
      exact exit_seq (⟨exit_ne, rfl, ha.sub ⟨rfl, trivial⟩, H17⟩)
  · intro e a11 w28 hO29
    obtain ⟨p30, rfl⟩ : ∃ z, z = o9 := ⟨o9, rfl⟩
    obtain ⟨rfl, hO32⟩ := hO29
    obtain ⟨ha, H31⟩ := hO32
    refine exit_block_eq (nrm_seq (WP.app ?_ ha))
    refine WP_seq ?_
    refine WP_region ?_
    refine XL_q rfl (qt_move rfl) rfl rfl ?_
    refine XL_q rfl (qt_assign rfl) rfl rfl ?_
    refine WL_nil_seq ?_
    refine WP_ret fun a ha => ?_
    obtain rfl := Option.some.inj h
    exact ret1 rfl ha rfl ⟨v3, rfl, H31⟩
theorem w_impl_ShareOf_1 (w : World) (G : List Res) (p0 : Int) (p1 : Int) (bf2 : Nat) (f2_0 : Int) (hf2 : HasB G bf2 3 [.int .i64 f2_0]) (bf3 : Nat) (vf3_0 : Value) (f3_0 : List Int) (hf3_0 : Has G (.int .i64) vf3_0 f3_0) (hf3 : HasB G bf3 23 [vf3_0]) (bf4 : Nat) (f4_0 : Int) (hf4 : HasB G bf4 3 [.int .i64 f4_0]) (r : Int) (h : impl_ShareOf_1S p0 p1 f2_0 f3_0 f4_0 = some r) (H : Ctx w G) : Calls Tryd.prog 60 #[.int .i64 p0, .int .i64 p1, .pointer (some ⟨bf2, 0, none⟩), .pointer (some ⟨bf3, 0, none⟩), .pointer (some ⟨bf4, 0, none⟩)] w fun e w' => e = .returned (.int .i64 r) ∧ Holds (([] : List Res).flatMap Res.own) w w' [] G := by
  have H : Holds (([] : List Res).flatMap Res.own) w w [] G := Holds.startN H
  refine calls_enter (args := [.int .i64 p0, .int .i64 p1, .pointer (some ⟨bf2, 0, none⟩), .pointer (some ⟨bf3, 0, none⟩), .pointer (some ⟨bf4, 0, none⟩)]) (n := 25) Tryd.func60 rfl rfl rfl ?_
  unfold impl_ShareOf_1S at h
  refine WP_seq ?_
  refine WP_region ?_
  refine XL_q rfl (qt_assign rfl) rfl rfl ?_
  refine WL_nil_seq ?_
  refine WP_seq ?_
  refine WP_quiet (by kernel_rfl) (by kernel_rfl) ?_
  have hB1 : Bx w bf2 3 [.int .i64 f2_0] := HasB.bx (hf2) H.ctx
  refine XL_load_bx u3 rfl hB1 rfl rfl rfl rfl ?_
  have hB2 : Bx w bf3 23 [vf3_0] := HasB.bx (hf3) H.ctx
  refine XL_load_bx u23 rfl hB2 rfl rfl rfl rfl ?_
  refine XL_q rfl (qt_move rfl) rfl rfl ?_
  obtain ⟨x3, hx4, h⟩ := bind_some h
  refine XL_indexH H.ctx (hf3_0) hx4 u23 i3 rfl rfl rfl rfl (fun b5 off6 cap7 hv8 => ?_)
  obtain ⟨F9, hat10, hdup11⟩ := H.at (hf3_0) hx4 hv8
  refine XL_load_int (k := .i64) u3 rfl hat10 rfl rfl rfl ?_
  refine XL_q rfl (qt_mul rfl rfl) rfl rfl ?_
  have hB12 : Bx w bf4 3 [.int .i64 f4_0] := HasB.bx (hf4) H.ctx
  refine XL_load_bx u3 rfl hB12 rfl rfl rfl rfl ?_
  obtain ⟨x13, hx14, h⟩ := bind_some h
  refine XL_q rfl (qt_remO rfl rfl hx14) rfl rfl ?_
  have hB15 : Bx w bf2 3 [.int .i64 f2_0] := HasB.bx (hf2) H.ctx
  refine XL_load_bx u3 rfl hB15 rfl rfl rfl rfl ?_
  have hB16 : Bx w bf3 23 [vf3_0] := HasB.bx (hf3) H.ctx
  refine XL_load_bx u23 rfl hB16 rfl rfl rfl rfl ?_
  refine XL_q rfl (qt_move rfl) rfl rfl ?_
  obtain ⟨x17, hx18, h⟩ := bind_some h
  refine XL_indexH H.ctx (hf3_0) hx18 u23 i3 rfl rfl rfl rfl (fun b19 off20 cap21 hv22 => ?_)
  obtain ⟨F23, hat24, hdup25⟩ := H.at (hf3_0) hx18 hv22
  refine XL_load_int (k := .i64) u3 rfl hat24 rfl rfl rfl ?_
  refine XL_q rfl (qt_mul rfl rfl) rfl rfl ?_
  have hB26 : Bx w bf4 3 [.int .i64 f4_0] := HasB.bx (hf4) H.ctx
  refine XL_load_bx u3 rfl hB26 rfl rfl rfl rfl ?_
  obtain ⟨x27, hx28, h⟩ := bind_some h
  refine XL_q rfl (qt_remO rfl rfl hx28) rfl rfl ?_
  refine XL_q rfl (qt_sub rfl rfl) rfl rfl ?_
  refine XL_q rfl (qt_assign rfl) rfl rfl ?_
  refine QL_nil fun a ha w29 hb30 => ?_
  have H31 : Holds (([] : List Res).flatMap Res.own) w w29 [] G := H.grow hb30
  refine nrm_seq (WP.app ?_ ha)
  refine WP_ret fun a ha => ?_
  obtain rfl := Option.some.inj h
  exact ret1 rfl ha rfl ⟨rfl, H31⟩
theorem w_slices_insertionSortCmpFunc_int (w : World) (G : List Res) (vp0 : Value) (p0 : List Int) (p1 : Int) (p2 : Int) (gp3 : FuncId) (cp3 : Array Value) (kp3 : Callable Tryd.prog gp3) (p3 : Int → Int → Option Int) (hp3 : CloOk Tryd.prog gp3 cp3 p3 G) (r : (List Int)) (h : slices_insertionSortCmpFunc_intS p0 p1 p2 p3 = some r) (H : Ctx w ([.sl 3 (.int .i64) vp0 p0] ++ G)) : Calls Tryd.prog 81 #[vp0, .int .i64 p1, .int .i64 p2, .func (.func gp3) #[] cp3] w fun e w' => e = .returned (.tuple #[]) ∧ Holds (([.sl 3 (.int .i64) vp0 p0] : List Res).flatMap Res.own) w w' [.sl 3 (.int .i64) vp0 r] G := by
  have H : Holds (([.sl 3 (.int .i64) vp0 p0] : List Res).flatMap Res.own) w w [.sl 3 (.int .i64) vp0 p0] G := Holds.startN H
  refine calls_enter (args := [vp0, .int .i64 p1, .int .i64 p2, .func (.func gp3) #[] cp3]) (n := 53) Tryd.func81 rfl rfl rfl ?_
  unfold slices_insertionSortCmpFunc_intS at h
  refine WP_seq ?_
  refine WP_region ?_
  refine XL_q rfl (qt_move rfl) rfl rfl ?_
  refine XL_q rfl (qt_add rfl rfl) rfl rfl ?_
  refine XL_q rfl (qt_assign rfl) rfl rfl ?_
  refine WL_nil_seq ?_
  refine WP_block ?_
  obtain ⟨o3, ho4, h⟩ := bind_some h
  refine fun a5 ha6 => wp_loop_fix (I := fun s a w2 => match s with | (s1, s2) => (Fr a 53 [(0, vp0), (1, .int .i64 p1), (2, .int .i64 p2), (3, .func (.func gp3) #[] cp3), (8, .int .i64 s1)] ∧ Holds (([.sl 3 (.int .i64) vp0 p0] : List Res).flatMap Res.own) w w2 [.sl 3 (.int .i64) vp0 s2] G)) (O := fun o e a w2 => match o with | q0 => e = .exit 0 ∧ (Fr a 53 [(0, vp0)] ∧ Holds (([.sl 3 (.int .i64) vp0 p0] : List Res).flatMap Res.own) w w2 [.sl 3 (.int .i64) vp0 q0] G)) ho4 ?_ ?_ ?_
  · exact ⟨ha6.sub ⟨rfl, rfl, rfl, rfl, rfl, trivial⟩, H⟩
  · clear ha6
    intro s o9 a w7 hs8 hI10
    obtain ⟨s1, s2⟩ := s
    obtain ⟨ha, H11⟩ := hI10
    refine WP.app ?_ ha
    clear ha
    refine WP_seq ?_
    refine WP_seq ?_
    refine WP_region ?_
    refine XL_q rfl (qt_move rfl) rfl rfl ?_
    refine XL_q rfl (qt_move rfl) rfl rfl ?_
    refine XL_q rfl (qt_lss rfl rfl) rfl rfl ?_
    refine WL_nil_seq ?_
    refine WP_cond rfl (fun hc12 => ?_) (fun hc12 => ?_)
    · have hs8 := if_t hc12 hs8
      refine WP_skip_seq ?_
      refine WP_seq ?_
      refine WP_block ?_
      refine WP_seq ?_
      refine WP_region ?_
      refine XL_q rfl (qt_move rfl) rfl rfl ?_
      refine XL_q rfl (qt_assign rfl) rfl rfl ?_
      refine WL_nil_seq ?_
      refine WP_block ?_
      obtain ⟨o15, ho16, hs8⟩ := bind_some hs8
      refine fun a17 ha18 => wp_loop_fix (I := fun s a w2 => match s with | (s13, s14) => (Fr a 53 [(0, vp0), (1, .int .i64 p1), (2, .int .i64 p2), (3, .func (.func gp3) #[] cp3), (8, .int .i64 s1), (9, .int .i64 s13)] ∧ Holds (([.sl 3 (.int .i64) vp0 p0] : List Res).flatMap Res.own) w w2 [.sl 3 (.int .i64) vp0 s14] G)) (O := fun o e a w2 => match o with | q0 => e = .exit 2 ∧ (Fr a 53 [(0, vp0), (1, .int .i64 p1), (2, .int .i64 p2), (3, .func (.func gp3) #[] cp3), (8, .int .i64 s1)] ∧ Holds (([.sl 3 (.int .i64) vp0 p0] : List Res).flatMap Res.own) w w2 [.sl 3 (.int .i64) vp0 q0] G)) ho16 ?_ ?_ ?_
      · exact ⟨ha18.sub ⟨rfl, rfl, rfl, rfl, rfl, rfl, trivial⟩, H11⟩
      · clear ha18
        intro s o21 a w19 hs20 hI22
        obtain ⟨s13, s14⟩ := s
        obtain ⟨ha, H23⟩ := hI22
        refine WP.app ?_ ha
        clear ha
        refine WP_seq ?_
        refine WP_seq ?_
        refine WP_quiet (by kernel_rfl) (by kernel_rfl) ?_
        refine XL_q rfl (qt_move rfl) rfl rfl ?_
        refine XL_q rfl (qt_move rfl) rfl rfl ?_
        refine XL_q rfl (qt_gtr rfl rfl) rfl rfl ?_
        refine XL_q rfl (qt_move rfl) rfl rfl ?_
        obtain ⟨b24, hg25, hs20⟩ := bind_some hs20
        refine XL_join 13 34 (.bool b24) ?_ (fun md hmd hk => ?_)
        rotate_left
        · obtain ⟨K, rfl⟩ := Md.quiet_of hmd
          rcases btf (decide (s13 > p1)) with hc26 | hc26
          · skip
            have hg25 := if_t hc26 hg25
            refine XL_q (w_take rfl hc26) (qt_move rfl) rfl rfl ?_
            refine XL_q (w_take rfl hc26) (qt_move rfl) rfl rfl ?_
            refine XL_q (w_take rfl hc26) (qt_move rfl) rfl rfl ?_
            obtain ⟨x27, hx28, hg25⟩ := bind_some hg25
            refine XL_indexH H23.ctx (Has.hd) hx28 u23 i3 (w_take rfl hc26) rfl rfl rfl (fun b29 off30 cap31 hv32 => ?_)
            obtain ⟨F33, hat34, hdup35⟩ := H23.at (Has.hd) hx28 hv32
            refine XL_load_int (k := .i64) u3 rfl hat34 (w_take rfl hc26) rfl rfl ?_
            refine XL_q (w_take rfl hc26) (qt_move rfl) rfl rfl ?_
            refine XL_q (w_take rfl hc26) (qt_move rfl) rfl rfl ?_
            refine XL_q (w_take rfl hc26) (qt_sub rfl rfl) rfl rfl ?_
            obtain ⟨x36, hx37, hg25⟩ := bind_some hg25
            refine XL_indexH H23.ctx (Has.hd) hx37 u23 i3 (w_take rfl hc26) rfl rfl rfl (fun b38 off39 cap40 hv41 => ?_)
            obtain ⟨F42, hat43, hdup44⟩ := H23.at (Has.hd) hx37 hv41
            refine XL_load_int (k := .i64) u3 rfl hat43 (w_take rfl hc26) rfl rfl ?_
            obtain ⟨x45, hx46, hg25⟩ := bind_some hg25
            refine QL_callv (Γ := [.sl 3 (.int .i64) vp0 s14]) (w_take rfl hc26) rfl rfl rfl kp3 hp3 hx46 (fun w' hb => (H23.grow hb).ctx) rfl ?_
            refine XL_q (w_take rfl hc26) (qt_lss rfl rfl) rfl rfl ?_
            refine XL_q rfl (qt_pickT rfl hc26 rfl) rfl rfl ?_
            exact hk _ (Cov.same (vb hg25) (Cov.fresh rfl (Cov.fresh rfl (Cov.fresh rfl (Cov.fresh rfl (Cov.fresh rfl (Cov.fresh rfl (Cov.fresh rfl (Cov.fresh rfl (Cov.fresh rfl (Cov.fresh rfl (Cov.fresh rfl (Cov.fresh rfl (Cov.refl))))))))))))))
          · skip
            refine XL_skip (w_skip rfl hc26) rfl rfl ?_
            refine XL_skip (w_skip rfl hc26) rfl rfl ?_
            refine XL_skip (w_skip rfl hc26) rfl rfl ?_
            refine XL_skip (w_skip rfl hc26) rfl rfl ?_
            refine XL_skip (w_skip rfl hc26) rfl rfl ?_
            refine XL_skip (w_skip rfl hc26) rfl rfl ?_
            refine XL_skip (w_skip rfl hc26) rfl rfl ?_
            refine XL_skip (w_skip rfl hc26) rfl rfl ?_
            refine XL_skip (w_skip rfl hc26) rfl rfl ?_
            refine XL_skip (w_skip rfl hc26) rfl rfl ?_
            refine XL_skip (w_skip rfl hc26) rfl rfl ?_
            refine XL_skip (w_skip rfl hc26) rfl rfl ?_
            refine XL_q rfl (qt_pickF rfl hc26 rfl) rfl rfl ?_
            exact hk _ (Cov.same (vb (if_f hc26 hg25)) (Cov.fresh rfl (Cov.fresh rfl (Cov.fresh rfl (Cov.fresh rfl (Cov.fresh rfl (Cov.fresh rfl (Cov.fresh rfl (Cov.fresh rfl (Cov.fresh rfl (Cov.fresh rfl (Cov.fresh rfl (Cov.fresh rfl (Cov.refl))))))))))))))
        refine QL_nil fun a ha w47 hb48 => ?_
        have H49 : Holds (([.sl 3 (.int .i64) vp0 p0] : List Res).flatMap Res.own) w w47 [.sl 3 (.int .i64) vp0 s14] G := H23.grow hb48
        refine nrm_seq (WP.app ?_ ha)
        refine WP_cond rfl (fun hc50 => ?_) (fun hc50 => ?_)
        · have hs20 := if_t hc50 hs20
          refine WP_skip_seq ?_
          refine WP_seq ?_
          refine WP_block ?_
          obtain ⟨x51, hx52, hs20⟩ := bind_some hs20
          obtain ⟨x60, hx61, hs20⟩ := bind_some hs20
          obtain ⟨x69, hx70, hs20⟩ := bind_some hs20
          obtain ⟨x78, hx79, hs20⟩ := bind_some hs20
          refine WP_mid (Mid := fun a w2 => (Fr a 53 [(0, vp0), (1, .int .i64 p1), (2, .int .i64 p2), (3, .func (.func gp3) #[] cp3), (8, .int .i64 s1), (9, .int .i64 s13)] ∧ Holds (([.sl 3 (.int .i64) vp0 p0] : List Res).flatMap Res.own) w w2 [.sl 3 (.int .i64) vp0 (List.set (List.set s14 (Int.toNat s13) x51) (Int.toNat (IntKind.wrap .i64 (s13 - 1))) x60)] G)) ?_ ?_
          · refine WP_orders (by kernel_rfl) (fun w251 hb252 => ?_)
            have H253 : Holds (([.sl 3 (.int .i64) vp0 p0] : List Res).flatMap Res.own) w w251 [.sl 3 (.int .i64) vp0 s14] G := H49.grow hb252
            refine XB_take (i := 0) rfl (by kernel_rfl) (by kernel_rfl) (by kernel_rfl) rfl (fun _ => qt_move rfl) rfl rfl ?_
            refine XB_take (i := 1) rfl (by kernel_rfl) (by kernel_rfl) (by kernel_rfl) rfl (fun _ => qt_move rfl) rfl rfl ?_
            refine XB_take (i := 2) rfl (by kernel_rfl) (by kernel_rfl) (by kernel_rfl) rfl (fun _ => qt_move rfl) rfl rfl ?_
            refine XB_take (i := 3) rfl (by kernel_rfl) (by kernel_rfl) (by kernel_rfl) rfl (fun _ => qt_move rfl) rfl rfl ?_
            refine XB_take (i := 4) rfl (by kernel_rfl) (by kernel_rfl) (by kernel_rfl) rfl (fun _ => qt_sub rfl rfl) rfl rfl ?_
            refine XB_take (i := 5) rfl (by kernel_rfl) (by kernel_rfl) (by kernel_rfl) rfl (fun _ => qt_move rfl) rfl rfl ?_
            refine XB_take (i := 6) rfl (by kernel_rfl) (by kernel_rfl) (by kernel_rfl) rfl (fun _ => qt_move rfl) rfl rfl ?_
            refine XB_take (i := 7) rfl (by kernel_rfl) (by kernel_rfl) (by kernel_rfl) rfl (fun _ => qt_sub rfl rfl) rfl rfl ?_
            refine XB_indexH (i := 8) rfl (by kernel_rfl) (by kernel_rfl) (by kernel_rfl) H253.ctx (Has.hd) hx52 u23 i3 rfl rfl rfl rfl (fun b254 off255 cap256 hv257 => ?_)
            refine XB_take (i := 10) rfl (by kernel_rfl) (by kernel_rfl) (by kernel_rfl) rfl (fun _ => qt_move rfl) rfl rfl ?_
            refine XB_take (i := 11) rfl (by kernel_rfl) (by kernel_rfl) (by kernel_rfl) rfl (fun _ => qt_move rfl) rfl rfl ?_
            refine XB_indexH (i := 12) rfl (by kernel_rfl) (by kernel_rfl) (by kernel_rfl) H253.ctx (Has.hd) hx61 u23 i3 rfl rfl rfl rfl (fun b258 off259 cap260 hv261 => ?_)
            refine XB_all [9, 13] (by kernel_rfl) (by simp) (allc ?_ (allc ?_ alln))
            · refine XB_do rfl ?_
              obtain ⟨F262, hat263, hdup264⟩ := H253.at (Has.hd) hx52 hv257
              refine XL_load_int (k := .i64) u3 rfl hat263 rfl rfl rfl ?_
              refine WL_nil fun a ha => ⟨rfl, (?_ : XB _ _ _ _ _ _ _ _) a ha⟩
              refine XB_all [13] (by kernel_rfl) (by simp) (allc ?_ alln)
              · refine XB_do rfl ?_
                obtain ⟨F265, hat266, hdup267⟩ := H253.at (Has.hd) hx61 hv261
                refine XL_load_int (k := .i64) u3 rfl hat266 rfl rfl rfl ?_
                refine WL_nil fun a ha => ⟨rfl, (?_ : XB _ _ _ _ _ _ _ _) a ha⟩
                refine XB_indexH (i := 14) rfl (by kernel_rfl) (by kernel_rfl) (by kernel_rfl) H253.ctx (Has.hd) hx70 u23 i3 rfl rfl rfl rfl (fun b268 off269 cap270 hv271 => ?_)
                refine XB_all [15] (by kernel_rfl) (by simp) (allc ?_ alln)
                · refine XB_do rfl ?_
                  refine WL_storeH (fo := 0) (cs' := [.int .i64 x51]) H253 hx70 hv271 (Upd.whole (Blt.int)) rfl il3 rfl rfl rfl rfl (fun w272 H273 => ?_)
                  have H274 : Holds (([.sl 3 (.int .i64) vp0 p0] : List Res).flatMap Res.own) w w272 [.sl 3 (.int .i64) vp0 (List.set s14 (Int.toNat s13) x51)] G := H273
                  refine WL_nil fun a ha => ⟨rfl, (?_ : XB _ _ _ _ _ _ _ _) a ha⟩
                  refine XB_indexH (i := 16) rfl (by kernel_rfl) (by kernel_rfl) (by kernel_rfl) H274.ctx (Has.hd) hx79 u23 i3 rfl rfl rfl rfl (fun b275 off276 cap277 hv278 => ?_)
                  refine XB_all [17] (by kernel_rfl) (by simp) (allc ?_ alln)
                  · refine XB_do rfl ?_
                    refine WL_storeH (fo := 0) (cs' := [.int .i64 x60]) H274 hx79 hv278 (Upd.whole (Blt.int)) rfl il3 rfl rfl rfl rfl (fun w279 H280 => ?_)
                    have H281 : Holds (([.sl 3 (.int .i64) vp0 p0] : List Res).flatMap Res.own) w w279 [.sl 3 (.int .i64) vp0 (List.set (List.set s14 (Int.toNat s13) x51) (Int.toNat (IntKind.wrap .i64 (s13 - 1))) x60)] G := H280
                    refine WL_nil fun a ha => ⟨rfl, (?_ : XB _ _ _ _ _ _ _ _) a ha⟩
                    refine XB_done (by kernel_rfl) (fun a ha => ?_)
                    exact ⟨ha.sub ⟨rfl, rfl, rfl, rfl, rfl, rfl, trivial⟩, H281⟩
            · refine XB_do rfl ?_
              obtain ⟨F282, hat283, hdup284⟩ := H253.at (Has.hd) hx61 hv261
              refine XL_load_int (k := .i64) u3 rfl hat283 rfl rfl rfl ?_
              refine WL_nil fun a ha => ⟨rfl, (?_ : XB _ _ _ _ _ _ _ _) a ha⟩
              refine XB_all [9] (by kernel_rfl) (by simp) (allc ?_ alln)
              · refine XB_do rfl ?_
                obtain ⟨F285, hat286, hdup287⟩ := H253.at (Has.hd) hx52 hv257
                refine XL_load_int (k := .i64) u3 rfl hat286 rfl rfl rfl ?_
                refine WL_nil fun a ha => ⟨rfl, (?_ : XB _ _ _ _ _ _ _ _) a ha⟩
                refine XB_indexH (i := 14) rfl (by kernel_rfl) (by kernel_rfl) (by kernel_rfl) H253.ctx (Has.hd) hx70 u23 i3 rfl rfl rfl rfl (fun b288 off289 cap290 hv291 => ?_)
                refine XB_all [15] (by kernel_rfl) (by simp) (allc ?_ alln)
                · refine XB_do rfl ?_
                  refine WL_storeH (fo := 0) (cs' := [.int .i64 x51]) H253 hx70 hv291 (Upd.whole (Blt.int)) rfl il3 rfl rfl rfl rfl (fun w292 H293 => ?_)
                  have H294 : Holds (([.sl 3 (.int .i64) vp0 p0] : List Res).flatMap Res.own) w w292 [.sl 3 (.int .i64) vp0 (List.set s14 (Int.toNat s13) x51)] G := H293
                  refine WL_nil fun a ha => ⟨rfl, (?_ : XB _ _ _ _ _ _ _ _) a ha⟩
                  refine XB_indexH (i := 16) rfl (by kernel_rfl) (by kernel_rfl) (by kernel_rfl) H294.ctx (Has.hd) hx79 u23 i3 rfl rfl rfl rfl (fun b295 off296 cap297 hv298 => ?_)
                  refine XB_all [17] (by kernel_rfl) (by simp) (allc ?_ alln)
                  · refine XB_do rfl ?_
                    refine WL_storeH (fo := 0) (cs' := [.int .i64 x60]) H294 hx79 hv298 (Upd.whole (Blt.int)) rfl il3 rfl rfl rfl rfl (fun w299 H300 => ?_)
                    have H301 : Holds (([.sl 3 (.int .i64) vp0 p0] : List Res).flatMap Res.own) w w299 [.sl 3 (.int .i64) vp0 (List.set (List.set s14 (Int.toNat s13) x51) (Int.toNat (IntKind.wrap .i64 (s13 - 1))) x60)] G := H300
                    refine WL_nil fun a ha => ⟨rfl, (?_ : XB _ _ _ _ _ _ _ _) a ha⟩
                    refine XB_done (by kernel_rfl) (fun a ha => ?_)
                    exact ⟨ha.sub ⟨rfl, rfl, rfl, rfl, rfl, rfl, trivial⟩, H301⟩
          · intro a w302 hI303
            obtain ⟨ha, H304⟩ := hI303
            refine nrm_block (nrm_seq (WP.app ?_ ha))
            refine WP_region ?_
            refine XL_q rfl (qt_move rfl) rfl rfl ?_
            refine XL_q rfl (qt_sub rfl rfl) rfl rfl ?_
            refine XL_q rfl (qt_assign rfl) rfl rfl ?_
            refine WL_nil fun a ha => ?_
            obtain rfl := Option.some.inj hs20
            exact ⟨rfl, ha.sub ⟨rfl, rfl, rfl, rfl, rfl, rfl, trivial⟩, H304⟩
        · have hs20 := if_f hc50 hs20
          refine WP_exit fun a ha => ?_
          obtain rfl := Option.some.inj hs20
          exact exit_seq (⟨exit_ne, rfl, ha.sub ⟨rfl, rfl, rfl, rfl, rfl, trivial⟩, H49⟩)
      · intro e a17 w305 hO306
        obtain ⟨p307, rfl⟩ : ∃ z, z = o15 := ⟨o15, rfl⟩
        obtain ⟨rfl, hO309⟩ := hO306
        obtain ⟨ha, H308⟩ := hO309
        refine exit_block_eq (nrm_block (nrm_seq (WP.app ?_ ha)))
        refine WP_region ?_
        refine XL_q rfl (qt_move rfl) rfl rfl ?_
        refine XL_q rfl (qt_add rfl rfl) rfl rfl ?_
        refine XL_q rfl (qt_assign rfl) rfl rfl ?_
        refine WL_nil fun a ha => ?_
        obtain rfl := Option.some.inj hs8
        exact ⟨rfl, ha.sub ⟨rfl, rfl, rfl, rfl, rfl, trivial⟩, H308⟩
    · have hs8 := if_f hc12 hs8
      refine WP_exit fun a ha => ?_
      obtain rfl := Option.some.inj hs8
      exact exit_seq (⟨exit_ne, rfl, ha.sub ⟨rfl, trivial⟩, H11⟩)
  · intro e a5 w310 hO311
    obtain ⟨p312, rfl⟩ : ∃ z, z = o3 := ⟨o3, rfl⟩
    obtain ⟨rfl, hO314⟩ := hO311
    obtain ⟨ha, H313⟩ := hO314
    obtain rfl := Option.some.inj h
    exact exit_block_eq (ret0n rfl ha  ⟨rfl, H313⟩)
theorem w_slices_symMergeCmpFunc_int (w : World) (G : List Res) (vp0 : Value) (p0 : List Int) (p1 : Int) (p2 : Int) (p3 : Int) (gp4 : FuncId) (cp4 : Array Value) (kp4 : Callable Tryd.prog gp4) (p4 : Int → Int → Option Int) (hp4 : CloOk Tryd.prog gp4 cp4 p4 G) (r : (List Int)) (h : slices_symMergeCmpFunc_intS p0 p1 p2 p3 p4 = some r) (H : Ctx w ([.sl 3 (.int .i64) vp0 p0] ++ G)) : Calls Tryd.prog 82 #[vp0, .int .i64 p1, .int .i64 p2, .int .i64 p3, .func (.func gp4) #[] cp4] w fun e w' => e = .returned (.tuple #[]) ∧ Holds (([.sl 3 (.int .i64) vp0 p0] : List Res).flatMap Res.own) w w' [.sl 3 (.int .i64) vp0 r] G := by
  have H : Holds (([.sl 3 (.int .i64) vp0 p0] : List Res).flatMap Res.own) w w [.sl 3 (.int .i64) vp0 p0] G := Holds.startN H
  refine calls_enter (args := [vp0, .int .i64 p1, .int .i64 p2, .int .i64 p3, .func (.func gp4) #[] cp4]) (n := 220) Tryd.func82 rfl rfl rfl ?_
  unfold slices_symMergeCmpFunc_intS at h
  cases h
end Go.Proofs.YtohhaladggoglaaDoor
