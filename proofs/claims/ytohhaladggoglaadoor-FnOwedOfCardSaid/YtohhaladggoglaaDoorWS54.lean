/- The walks: each Go function computes its shallow function. Printed by a program. -/
import Derived.Test.YtohhaladggoglaaDoorWS53
set_option linter.unusedVariables false
set_option maxRecDepth 10000
namespace Go.Proofs.YtohhaladggoglaaDoor
open Go Go.RowKit
theorem w_spec_OwedOf (w : World) (G : List Res) (vp0 : Value) (p0 : List Int) (hp0 : Has G (.int .i64) vp0 p0) (vp1 : Value) (p1 : List Int) (hp1 : Has G (.int .i64) vp1 p1) (r : (List Int)) (h : spec_OwedOfS p0 p1 = some r) (H : Ctx w G) : Calls Tryd.prog 42 #[vp0, vp1] w fun e w' => ∃ (v1 : Value), e = .returned (v1) ∧ Holds (([] : List Res).flatMap Res.own) w w' [.sl 3 (.int .i64) v1 r] G := by
  have H : Holds (([] : List Res).flatMap Res.own) w w [] G := Holds.startN H
  refine calls_enter (args := [vp0, vp1]) (n := 57) Tryd.func42 rfl rfl rfl ?_
  unfold spec_OwedOfS at h
  refine WP_seq ?_
  refine WP_region ?_
  refine XL_q rfl (qt_assign rfl) rfl rfl ?_
  refine WL_nil_seq ?_
  refine WP_seq ?_
  refine WP_region ?_
  refine WL_buildH (t := (.int .i64)) (args := []) (xs := ([] : List Int)) H (BltL.nil) u23 j3 rfl rfl rfl rfl rfl rfl (fun v1 w2 H3 => ?_)
  have H4 : Holds (([] : List Res).flatMap Res.own) w w2 [.sl 3 (.int .i64) v1 ([])] G := H3
  refine XL_q rfl (qt_assign rfl) rfl rfl ?_
  refine WL_nil_seq ?_
  refine WP_seq ?_
  refine WP_seq ?_
  refine WP_still ?_
  refine XL_q rfl (qt_move rfl) rfl rfl ?_
  obtain ⟨x5, hx6, h⟩ := bind_some h
  refine QL_call rfl rfl c18 (fun w' hb => (w_spec_SharesValid w' ([.sl 3 (.int .i64) v1 ([])] ++ G) vp0 p0 (hp0.c) x5 hx6 (H4.grow hb).ctx).mono fun e w'' hK => ⟨hK.1, hK.2.bel⟩) (by rfl) ?_
  refine XL_q rfl (qt_not rfl) rfl rfl ?_
  refine XL_q rfl (qt_move rfl) rfl rfl ?_
  refine XL_join 6 19 (.bool ((!x5) || ((List.length p1 : Int) != (List.length p0 : Int)))) ?_ (fun md hmd hk => ?_)
  rotate_left
  · obtain ⟨K, rfl⟩ := Md.quiet_of hmd
    rcases btf (!x5) with hc7 | hc7
    · skip
      refine XL_skip (w_skip rfl hc7) rfl rfl ?_
      refine XL_skip (w_skip rfl hc7) rfl rfl ?_
      refine XL_skip (w_skip rfl hc7) rfl rfl ?_
      refine XL_skip (w_skip rfl hc7) rfl rfl ?_
      refine XL_skip (w_skip rfl hc7) rfl rfl ?_
      refine XL_q rfl (qt_pickT rfl hc7 rfl) rfl rfl ?_
      exact hk _ (Cov.same (by rw [hc7]; rfl) (Cov.fresh rfl (Cov.fresh rfl (Cov.fresh rfl (Cov.fresh rfl (Cov.fresh rfl (Cov.refl)))))))
    · skip
      refine XL_q (w_take rfl hc7) (qt_move rfl) rfl rfl ?_
      refine XL_lenH H4.ctx (t := (.int .i64)) (hp1.c) u23 (w_take rfl hc7) rfl rfl ?_
      refine XL_q (w_take rfl hc7) (qt_move rfl) rfl rfl ?_
      refine XL_lenH H4.ctx (t := (.int .i64)) (hp0.c) u23 (w_take rfl hc7) rfl rfl ?_
      refine XL_q (w_take rfl hc7) (qt_neq rfl rfl) rfl rfl ?_
      refine XL_q rfl (qt_pickF rfl hc7 rfl) rfl rfl ?_
      exact hk _ (Cov.same (by rw [hc7]; rfl) (Cov.fresh rfl (Cov.fresh rfl (Cov.fresh rfl (Cov.fresh rfl (Cov.fresh rfl (Cov.refl)))))))
  refine QL_nil fun a ha w8 hb9 => ?_
  have H10 : Holds (([] : List Res).flatMap Res.own) w w8 [.sl 3 (.int .i64) v1 ([])] G := H4.grow hb9
  refine nrm_seq (WP.app ?_ ha)
  refine WP_cond rfl (fun hc11 => ?_) (fun hc11 => ?_)
  · have h := if_t hc11 h
    refine WP_seq ?_
    refine WP_region ?_
    refine XL_q rfl (qt_move rfl) rfl rfl ?_
    refine XL_q rfl (qt_assign rfl) rfl rfl ?_
    refine WL_nil_seq ?_
    refine WP_ret fun a ha => ?_
    obtain rfl := Option.some.inj h
    exact ret_seq (ret1 rfl ha rfl ⟨v1, rfl, H10⟩)
  · have h := if_f hc11 h
    refine WP_skip_seq ?_
    refine WP_seq ?_
    refine WP_seq ?_
    refine WP_region ?_
    refine XL_q rfl (qt_assign rfl) rfl rfl ?_
    refine WL_nil_seq ?_
    refine WP_block ?_
    obtain ⟨o13, ho14, h⟩ := bind_some h
    refine fun a15 ha16 => wp_loop_fix (I := fun s a w2 => match s with | s12 => (Fr a 57 [(0, vp0), (1, vp1), (5, v1), (6, .int .i64 s12)] ∧ Holds (([] : List Res).flatMap Res.own) w w2 [.sl 3 (.int .i64) v1 ([])] G)) (O := fun o e a w2 => match o with | .inl _ => e = .exit 0 ∧ (Fr a 57 [(0, vp0), (1, vp1), (5, v1)] ∧ Holds (([] : List Res).flatMap Res.own) w w2 [.sl 3 (.int .i64) v1 ([])] G) | .inr q0 => e = .ret ∧ ∃ vq0, Fr a 57 [(4, vq0)] ∧ Holds (([] : List Res).flatMap Res.own) w w2 [.sl 3 (.int .i64) vq0 q0] G) ho14 ?_ ?_ ?_
    · exact ⟨ha16.sub ⟨rfl, rfl, rfl, rfl, trivial⟩, H10⟩
    · clear ha16
      intro s o19 a w17 hs18 hI20
      obtain ⟨s12, rfl⟩ : ∃ z, z = s := ⟨s, rfl⟩
      obtain ⟨ha, H21⟩ := hI20
      refine WP.app ?_ ha
      clear ha
      refine WP_seq ?_
      refine WP_seq ?_
      refine WP_region ?_
      refine XL_q rfl (qt_move rfl) rfl rfl ?_
      refine XL_q rfl (qt_move rfl) rfl rfl ?_
      refine XL_lenH H21.ctx (t := (.int .i64)) (hp1.c) u23 rfl rfl rfl ?_
      refine XL_q rfl (qt_lss rfl rfl) rfl rfl ?_
      refine WL_nil_seq ?_
      refine WP_cond rfl (fun hc22 => ?_) (fun hc22 => ?_)
      · have hs18 := if_t hc22 hs18
        refine WP_skip_seq ?_
        refine WP_seq ?_
        refine WP_block ?_
        refine WP_seq ?_
        refine WP_still ?_
        refine XL_q rfl (qt_move rfl) rfl rfl ?_
        refine XL_q rfl (qt_move rfl) rfl rfl ?_
        obtain ⟨x23, hx24, hs18⟩ := bind_some hs18
        refine XL_indexH H21.ctx (hp1.c) hx24 u23 i3 rfl rfl rfl rfl (fun b25 off26 cap27 hv28 => ?_)
        obtain ⟨F29, hat30, hdup31⟩ := H21.at (hp1.c) hx24 hv28
        refine XL_load_int (k := .i64) u3 rfl hat30 rfl rfl rfl ?_
        obtain ⟨x32, hx33, hs18⟩ := bind_some hs18
        refine QL_call rfl rfl c46 (fun w' hb => (w_spec_l1In w' ([.sl 3 (.int .i64) v1 ([])] ++ G) x23 0 9999 x32 hx33 (H21.grow hb).ctx).mono fun e w'' hK => ⟨hK.1, hK.2.bel⟩) (by rfl) ?_
        refine XL_q rfl (qt_not rfl) rfl rfl ?_
        refine QL_nil fun a ha w34 hb35 => ?_
        have H36 : Holds (([] : List Res).flatMap Res.own) w w34 [.sl 3 (.int .i64) v1 ([])] G := H21.grow hb35
        refine nrm_seq (WP.app ?_ ha)
        refine WP_cond rfl (fun hc37 => ?_) (fun hc37 => ?_)
        · have hs18 := if_t hc37 hs18
          refine WP_seq ?_
          refine WP_region ?_
          refine XL_q rfl (qt_move rfl) rfl rfl ?_
          refine XL_q rfl (qt_assign rfl) rfl rfl ?_
          refine WL_nil_seq ?_
          refine WP_ret fun a ha => ?_
          obtain rfl := Option.some.inj hs18
          exact ret_block (ret_seq (⟨ret_ne, rfl, v1, ha.sub ⟨rfl, trivial⟩, H36⟩))
        · have hs18 := if_f hc37 hs18
          refine WP_skip fun a ha => ?_
          refine nrm_block (nrm_seq (WP.app ?_ ha))
          refine WP_region ?_
          refine XL_q rfl (qt_move rfl) rfl rfl ?_
          refine XL_q rfl (qt_add rfl rfl) rfl rfl ?_
          refine XL_q rfl (qt_assign rfl) rfl rfl ?_
          refine WL_nil fun a ha => ?_
          obtain rfl := Option.some.inj hs18
          exact ⟨rfl, ha.sub ⟨rfl, rfl, rfl, rfl, trivial⟩, H36⟩
      · have hs18 := if_f hc22 hs18
        refine WP_exit fun a ha => ?_
        obtain rfl := Option.some.inj hs18
        exact exit_seq (⟨exit_ne, rfl, ha.sub ⟨rfl, rfl, rfl, trivial⟩, H21⟩)
    · intro e a15 w38 hO39
      rcases o13 with o13 | o13
      · skip
        obtain ⟨rfl, hO41⟩ := hO39
        obtain ⟨ha, H40⟩ := hO41
        refine exit_block_eq (nrm_seq (WP.app ?_ ha))
        refine WP_seq ?_
        refine WP_region ?_
        refine XL_q rfl (qt_move rfl) rfl rfl ?_
        refine XL_q rfl (qt_move rfl) rfl rfl ?_
        obtain ⟨x42, hx43, h⟩ := bind_some h
        refine WL_call rfl rfl c47 (w_spec_l1Sum w38 ([.sl 3 (.int .i64) v1 ([])] ++ G) vp1 p1 (hp1.c) x42 hx43 H40.ctx) (by rfl) ?_
        rintro _ w44 ⟨rfl, H45⟩; refine ⟨_, rfl, ?_⟩
        have H46 : Holds (([] : List Res).flatMap Res.own) w w44 [.sl 3 (.int .i64) v1 ([])] G := H40.calledN (Rs := []) H45
        obtain ⟨x47, hx48, h⟩ := bind_some h
        refine WL_call rfl rfl c33 (w_spec_ShareOf w44 ([.sl 3 (.int .i64) v1 ([])] ++ G) vp0 p0 (hp0.c) x42 x47 hx48 H46.ctx) (by rfl) ?_
        rintro _ w49 ⟨v51, rfl, H50⟩; refine ⟨_, rfl, ?_⟩
        have H52 : Holds (([] : List Res).flatMap Res.own) w w49 [.sl 3 (.int .i64) v51 x47, .sl 3 (.int .i64) v1 ([])] G := H46.calledN (Rs := []) H50
        refine XL_q rfl (qt_assign rfl) rfl rfl ?_
        refine WL_nil_seq ?_
        refine WP_seq ?_
        refine WP_seq ?_
        refine WP_region ?_
        refine XL_q rfl (qt_assign rfl) rfl rfl ?_
        refine WL_nil_seq ?_
        refine WP_block ?_
        obtain ⟨o55, ho56, h⟩ := bind_some h
        have H59 : Holds (([] : List Res).flatMap Res.own) w w49 [.sl 3 (.int .i64) v1 ([]), .sl 3 (.int .i64) v51 x47] G := (H52.pull 1)
        refine fun a57 ha58 => wp_loop_fix (I := fun s a w2 => match s with | (s53, s54) => ∃ vs53, Fr a 57 [(1, vp1), (5, vs53), (7, v51), (8, .int .i64 s54)] ∧ Holds (([] : List Res).flatMap Res.own) w w2 [.sl 3 (.int .i64) vs53 s53, .sl 3 (.int .i64) v51 x47] G) (O := fun o e a w2 => match o with | q0 => e = .exit 2 ∧ ∃ vq0, Fr a 57 [(5, vq0)] ∧ Holds (([] : List Res).flatMap Res.own) w w2 [.sl 3 (.int .i64) vq0 q0] G) ho56 ?_ ?_ ?_
        · exact ⟨v1, ha58.sub ⟨rfl, rfl, rfl, rfl, trivial⟩, H59⟩
        · clear ha58
          intro s o62 a w60 hs61 hI63
          obtain ⟨s53, s54⟩ := s
          obtain ⟨vs53, ha, H64⟩ := hI63
          refine WP.app ?_ ha
          clear ha
          refine WP_seq ?_
          refine WP_seq ?_
          refine WP_region ?_
          refine XL_q rfl (qt_move rfl) rfl rfl ?_
          refine XL_q rfl (qt_move rfl) rfl rfl ?_
          refine XL_lenH H64.ctx (t := (.int .i64)) (Has.c (Has.hd)) u23 rfl rfl rfl ?_
          refine XL_q rfl (qt_lss rfl rfl) rfl rfl ?_
          refine WL_nil_seq ?_
          refine WP_cond rfl (fun hc65 => ?_) (fun hc65 => ?_)
          · have hs61 := if_t hc65 hs61
            refine WP_skip_seq ?_
            refine WP_seq ?_
            refine WP_block ?_
            obtain ⟨x66, hx67, hs61⟩ := bind_some hs61
            obtain ⟨x75, hx76, hs61⟩ := bind_some hs61
            obtain ⟨x89, hx90, hs61⟩ := bind_some hs61
            refine WP_mid (Mid := fun a w2 => ∃ vz65_0, Fr a 57 [(1, vp1), (5, vz65_0), (7, v51), (8, .int .i64 s54)] ∧ Holds (([] : List Res).flatMap Res.own) w w2 [.sl 3 (.int .i64) vz65_0 x89, .sl 3 (.int .i64) v51 x47] G) ?_ ?_
            · refine WP_orders (by kernel_rfl) (fun w266 hb267 => ?_)
              have H268 : Holds (([] : List Res).flatMap Res.own) w w266 [.sl 3 (.int .i64) vs53 s53, .sl 3 (.int .i64) v51 x47] G := H64.grow hb267
              refine XB_take (i := 0) rfl (by kernel_rfl) (by kernel_rfl) (by kernel_rfl) rfl (fun _ => qt_move rfl) rfl rfl ?_
              refine XB_take (i := 1) rfl (by kernel_rfl) (by kernel_rfl) (by kernel_rfl) rfl (fun _ => qt_move rfl) rfl rfl ?_
              refine XB_take (i := 2) rfl (by kernel_rfl) (by kernel_rfl) (by kernel_rfl) rfl (fun _ => qt_move rfl) rfl rfl ?_
              refine XB_indexH (i := 3) rfl (by kernel_rfl) (by kernel_rfl) (by kernel_rfl) H268.ctx (hp1.c.c) hx67 u23 i3 rfl rfl rfl rfl (fun b269 off270 cap271 hv272 => ?_)
              refine XB_take (i := 5) rfl (by kernel_rfl) (by kernel_rfl) (by kernel_rfl) rfl (fun _ => qt_move rfl) rfl rfl ?_
              refine XB_take (i := 6) rfl (by kernel_rfl) (by kernel_rfl) (by kernel_rfl) rfl (fun _ => qt_move rfl) rfl rfl ?_
              refine XB_indexH (i := 7) rfl (by kernel_rfl) (by kernel_rfl) (by kernel_rfl) H268.ctx (Has.c (Has.hd)) hx76 u23 i3 rfl rfl rfl rfl (fun b273 off274 cap275 hv276 => ?_)
              refine XB_all [4, 8] (by kernel_rfl) (by simp) (allc ?_ (allc ?_ alln))
              · refine XB_do rfl ?_
                obtain ⟨F277, hat278, hdup279⟩ := H268.at (hp1.c.c) hx67 hv272
                refine XL_load_int (k := .i64) u3 rfl hat278 rfl rfl rfl ?_
                refine WL_nil fun a ha => ⟨rfl, (?_ : XB _ _ _ _ _ _ _ _) a ha⟩
                refine XB_all [8] (by kernel_rfl) (by simp) (allc ?_ alln)
                · refine XB_do rfl ?_
                  obtain ⟨F280, hat281, hdup282⟩ := H268.at (Has.c (Has.hd)) hx76 hv276
                  refine XL_load_int (k := .i64) u3 rfl hat281 rfl rfl rfl ?_
                  refine WL_nil fun a ha => ⟨rfl, (?_ : XB _ _ _ _ _ _ _ _) a ha⟩
                  refine XB_take (i := 9) rfl (by kernel_rfl) (by kernel_rfl) (by kernel_rfl) rfl (fun _ => qt_sub rfl rfl) rfl rfl ?_
                  refine XB_all [10] (by kernel_rfl) (by simp) (allc ?_ alln)
                  · refine XB_do rfl ?_
                    refine WL_buildH (t := (.int .i64)) (args := [.tmp 53]) (xs := ([IntKind.wrap .i64 (x66 - x75)] : List Int)) H268 (BltL.cons (Blt.int) rfl (BltL.nil)) u23 j3 rfl rfl rfl rfl rfl rfl (fun v283 w284 H285 => ?_)
                    have H286 : Holds (([] : List Res).flatMap Res.own) w w284 [.sl 3 (.int .i64) v283 ([IntKind.wrap .i64 (x66 - x75)]), .sl 3 (.int .i64) vs53 s53, .sl 3 (.int .i64) v51 x47] G := H285
                    refine WL_nil fun a ha => ⟨rfl, (?_ : XB _ _ _ _ _ _ _ _) a ha⟩
                    refine XB_all [11] (by kernel_rfl) (by simp) (allc ?_ alln)
                    · refine XB_do rfl ?_
                      have H287 : Holds (([] : List Res).flatMap Res.own) w w284 [.sl 3 (.int .i64) vs53 s53, .sl 3 (.int .i64) v283 ([IntKind.wrap .i64 (x66 - x75)]), .sl 3 (.int .i64) v51 x47] G := H286.pull 1
                      refine WL_appendH H287 (Has.c (Has.hd)) hx90 u23 j3 rfl rfl rfl rfl rfl rfl (fun v288 w289 H290 => ?_)
                      have H291 : Holds (([] : List Res).flatMap Res.own) w w289 [.sl 3 (.int .i64) v288 x89, .sl 3 (.int .i64) v283 ([IntKind.wrap .i64 (x66 - x75)]), .sl 3 (.int .i64) v51 x47] G := H290
                      refine WL_nil fun a ha => ⟨rfl, (?_ : XB _ _ _ _ _ _ _ _) a ha⟩
                      refine XB_take (i := 12) rfl (by kernel_rfl) (by kernel_rfl) (by kernel_rfl) rfl (fun _ => qt_assign rfl) rfl rfl ?_
                      refine XB_done (by kernel_rfl) (fun a ha => ?_)
                      have H292 : Holds (([] : List Res).flatMap Res.own) w w289 [.sl 3 (.int .i64) v288 x89, .sl 3 (.int .i64) v51 x47] G := (((H291.cut 1).pull 1).pull 1)
                      exact ⟨v288, ha.sub ⟨rfl, rfl, rfl, rfl, trivial⟩, H292⟩
              · refine XB_do rfl ?_
                obtain ⟨F293, hat294, hdup295⟩ := H268.at (Has.c (Has.hd)) hx76 hv276
                refine XL_load_int (k := .i64) u3 rfl hat294 rfl rfl rfl ?_
                refine WL_nil fun a ha => ⟨rfl, (?_ : XB _ _ _ _ _ _ _ _) a ha⟩
                refine XB_all [4] (by kernel_rfl) (by simp) (allc ?_ alln)
                · refine XB_do rfl ?_
                  obtain ⟨F296, hat297, hdup298⟩ := H268.at (hp1.c.c) hx67 hv272
                  refine XL_load_int (k := .i64) u3 rfl hat297 rfl rfl rfl ?_
                  refine WL_nil fun a ha => ⟨rfl, (?_ : XB _ _ _ _ _ _ _ _) a ha⟩
                  refine XB_take (i := 9) rfl (by kernel_rfl) (by kernel_rfl) (by kernel_rfl) rfl (fun _ => qt_sub rfl rfl) rfl rfl ?_
                  refine XB_all [10] (by kernel_rfl) (by simp) (allc ?_ alln)
                  · refine XB_do rfl ?_
                    refine WL_buildH (t := (.int .i64)) (args := [.tmp 53]) (xs := ([IntKind.wrap .i64 (x66 - x75)] : List Int)) H268 (BltL.cons (Blt.int) rfl (BltL.nil)) u23 j3 rfl rfl rfl rfl rfl rfl (fun v299 w300 H301 => ?_)
                    have H302 : Holds (([] : List Res).flatMap Res.own) w w300 [.sl 3 (.int .i64) v299 ([IntKind.wrap .i64 (x66 - x75)]), .sl 3 (.int .i64) vs53 s53, .sl 3 (.int .i64) v51 x47] G := H301
                    refine WL_nil fun a ha => ⟨rfl, (?_ : XB _ _ _ _ _ _ _ _) a ha⟩
                    refine XB_all [11] (by kernel_rfl) (by simp) (allc ?_ alln)
                    · refine XB_do rfl ?_
                      have H303 : Holds (([] : List Res).flatMap Res.own) w w300 [.sl 3 (.int .i64) vs53 s53, .sl 3 (.int .i64) v299 ([IntKind.wrap .i64 (x66 - x75)]), .sl 3 (.int .i64) v51 x47] G := H302.pull 1
                      refine WL_appendH H303 (Has.c (Has.hd)) hx90 u23 j3 rfl rfl rfl rfl rfl rfl (fun v304 w305 H306 => ?_)
                      have H307 : Holds (([] : List Res).flatMap Res.own) w w305 [.sl 3 (.int .i64) v304 x89, .sl 3 (.int .i64) v299 ([IntKind.wrap .i64 (x66 - x75)]), .sl 3 (.int .i64) v51 x47] G := H306
                      refine WL_nil fun a ha => ⟨rfl, (?_ : XB _ _ _ _ _ _ _ _) a ha⟩
                      refine XB_take (i := 12) rfl (by kernel_rfl) (by kernel_rfl) (by kernel_rfl) rfl (fun _ => qt_assign rfl) rfl rfl ?_
                      refine XB_done (by kernel_rfl) (fun a ha => ?_)
                      have H308 : Holds (([] : List Res).flatMap Res.own) w w305 [.sl 3 (.int .i64) v304 x89, .sl 3 (.int .i64) v51 x47] G := (((H307.cut 1).pull 1).pull 1)
                      exact ⟨v304, ha.sub ⟨rfl, rfl, rfl, rfl, trivial⟩, H308⟩
            · intro a w309 hI310
              obtain ⟨vz65_0, ha, H311⟩ := hI310
              refine nrm_block (nrm_seq (WP.app ?_ ha))
              refine WP_region ?_
              refine XL_q rfl (qt_move rfl) rfl rfl ?_
              refine XL_q rfl (qt_add rfl rfl) rfl rfl ?_
              refine XL_q rfl (qt_assign rfl) rfl rfl ?_
              refine WL_nil fun a ha => ?_
              obtain rfl := Option.some.inj hs61
              have H312 : Holds (([] : List Res).flatMap Res.own) w w309 [.sl 3 (.int .i64) vz65_0 x89, .sl 3 (.int .i64) v51 x47] G := ((H311.pull 1).pull 1)
              exact ⟨rfl, vz65_0, ha.sub ⟨rfl, rfl, rfl, rfl, trivial⟩, H312⟩
          · have hs61 := if_f hc65 hs61
            refine WP_exit fun a ha => ?_
            obtain rfl := Option.some.inj hs61
            have H313 : Holds (([] : List Res).flatMap Res.own) w w60 [.sl 3 (.int .i64) vs53 s53] G := (H64.cut 1)
            exact exit_seq (⟨exit_ne, rfl, vs53, ha.sub ⟨rfl, trivial⟩, H313⟩)
        · intro e a57 w314 hO315
          obtain ⟨p316, rfl⟩ : ∃ z, z = o55 := ⟨o55, rfl⟩
          obtain ⟨rfl, hO318⟩ := hO315
          obtain ⟨vp316, ha, H317⟩ := hO318
          refine exit_block_eq (nrm_seq (WP.app ?_ ha))
          refine WP_seq ?_
          refine WP_region ?_
          refine XL_q rfl (qt_move rfl) rfl rfl ?_
          refine XL_q rfl (qt_assign rfl) rfl rfl ?_
          refine WL_nil_seq ?_
          refine WP_ret fun a ha => ?_
          obtain rfl := Option.some.inj h
          exact ret1 rfl ha rfl ⟨vp316, rfl, H317⟩
      · skip
        obtain ⟨p319, rfl⟩ : ∃ z, z = o13 := ⟨o13, rfl⟩
        obtain ⟨rfl, hO321⟩ := hO39
        obtain ⟨vp319, ha, H320⟩ := hO321
        obtain rfl := Option.some.inj h
        exact ret_block (ret_seq (ret1 rfl ha rfl ⟨vp319, rfl, H320⟩))
theorem w_laws_FnOwedOf (w : World) (G : List Res) (vp0 : Value) (p0 : List Int) (hp0 : HasRo G (.int .u8) vp0 p0) (r : Bool) (h : laws_FnOwedOfS p0 = some r) (H : Ctx w G) : Calls Tryd.prog 11 #[vp0] w fun e w' => e = .returned (.bool r) ∧ Holds (([] : List Res).flatMap Res.own) w w' [] G := by
  have H : Holds (([] : List Res).flatMap Res.own) w w [] G := Holds.startN H
  refine calls_enter (args := [vp0]) (n := 57) Tryd.func11 rfl rfl rfl ?_
  unfold laws_FnOwedOfS at h
  refine WP_seq ?_
  refine WP_region ?_
  refine XL_q rfl (qt_assign rfl) rfl rfl ?_
  refine WL_nil_seq ?_
  refine WP_seq ?_
  refine WP_seq ?_
  refine WP_region ?_
  refine XL_q rfl (qt_move rfl) rfl rfl ?_
  refine XL_lenH H.ctx (t := (.int .u8)) (hp0.has) u22 rfl rfl rfl ?_
  refine XL_q rfl (qt_gtr rfl rfl) rfl rfl ?_
  refine WL_nil_seq ?_
  refine WP_cond rfl (fun hc1 => ?_) (fun hc1 => ?_)
  · have h := if_t hc1 h
    refine WP_seq ?_
    refine WP_region ?_
    refine XL_q rfl (qt_assign rfl) rfl rfl ?_
    refine WL_nil_seq ?_
    refine WP_ret fun a ha => ?_
    obtain rfl := Option.some.inj h
    exact ret_seq (ret1 rfl ha rfl ⟨rfl, H⟩)
  · have h := if_f hc1 h
    refine WP_skip_seq ?_
    refine WP_seq ?_
    refine WP_region ?_
    refine XL_q rfl (qt_move rfl) rfl rfl ?_
    obtain ⟨x2, hx3, h⟩ := bind_some h
    refine WL_call rfl rfl c40 (w_spec_DrawOwedOf w G vp0 p0 (hp0) x2 hx3 H.ctx) (by rfl) ?_
    rintro _ w4 ⟨v6, v7, rfl, H5⟩; refine ⟨_, rfl, ?_⟩
    have H8 : Holds (([] : List Res).flatMap Res.own) w w4 [.sl 3 (.int .i64) v6 x2.1, .sl 3 (.int .i64) v7 x2.2] G := H.calledN (Rs := []) H5
    refine XL_q rfl (qt_move rfl) rfl rfl ?_
    refine XL_q rfl (qt_extract rfl rfl) rfl rfl ?_
    refine XL_q rfl (qt_extract rfl rfl) rfl rfl ?_
    refine XL_q rfl (qt_assign rfl) rfl rfl ?_
    refine XL_q rfl (qt_assign rfl) rfl rfl ?_
    refine WL_nil_seq ?_
    refine WP_seq ?_
    refine WP_region ?_
    refine XL_q rfl (qt_move rfl) rfl rfl ?_
    refine XL_q rfl (qt_move rfl) rfl rfl ?_
    obtain ⟨x9, hx10, h⟩ := bind_some h
    refine WL_call rfl rfl c41 (w_impl_OwedOf w4 ([.sl 3 (.int .i64) v6 x2.1, .sl 3 (.int .i64) v7 x2.2] ++ G) v6 x2.1 (Has.hd) v7 x2.2 (Has.c (Has.hd)) x9 hx10 H8.ctx) (by rfl) ?_
    rintro _ w11 ⟨v13, rfl, H12⟩; refine ⟨_, rfl, ?_⟩
    have H14 : Holds (([] : List Res).flatMap Res.own) w w11 [.sl 3 (.int .i64) v13 x9, .sl 3 (.int .i64) v6 x2.1, .sl 3 (.int .i64) v7 x2.2] G := H8.calledN (Rs := []) H12
    refine XL_q rfl (qt_assign rfl) rfl rfl ?_
    refine WL_nil_seq ?_
    refine WP_seq ?_
    refine WP_seq ?_
    refine WP_region ?_
    refine XL_q rfl (qt_move rfl) rfl rfl ?_
    refine XL_q rfl (qt_move rfl) rfl rfl ?_
    refine XL_q rfl (qt_move rfl) rfl rfl ?_
    obtain ⟨x15, hx16, h⟩ := bind_some h
    refine WL_call rfl rfl c42 (w_spec_OwedOf w11 ([.sl 3 (.int .i64) v13 x9, .sl 3 (.int .i64) v6 x2.1, .sl 3 (.int .i64) v7 x2.2] ++ G) v6 x2.1 (Has.c (Has.hd)) v7 x2.2 (Has.c (Has.c (Has.hd))) x15 hx16 H14.ctx) (by rfl) ?_
    rintro _ w17 ⟨v19, rfl, H18⟩; refine ⟨_, rfl, ?_⟩
    have H20 : Holds (([] : List Res).flatMap Res.own) w w17 [.sl 3 (.int .i64) v19 x15, .sl 3 (.int .i64) v13 x9, .sl 3 (.int .i64) v6 x2.1, .sl 3 (.int .i64) v7 x2.2] G := H14.calledN (Rs := []) H18
    obtain ⟨x21, hx22, h⟩ := bind_some h
    refine WL_call rfl rfl c32 (w_laws_sameInts w17 ([.sl 3 (.int .i64) v19 x15, .sl 3 (.int .i64) v13 x9, .sl 3 (.int .i64) v6 x2.1, .sl 3 (.int .i64) v7 x2.2] ++ G) v13 x9 (Has.c (Has.hd)) v19 x15 (Has.hd) x21 hx22 H20.ctx) (by rfl) ?_
    rintro _ w23 ⟨rfl, H24⟩; refine ⟨_, rfl, ?_⟩
    have H25 : Holds (([] : List Res).flatMap Res.own) w w23 [.sl 3 (.int .i64) v19 x15, .sl 3 (.int .i64) v13 x9, .sl 3 (.int .i64) v6 x2.1, .sl 3 (.int .i64) v7 x2.2] G := H20.calledN (Rs := []) H24
    refine XL_q rfl (qt_not rfl) rfl rfl ?_
    refine WL_nil_seq ?_
    refine WP_cond rfl (fun hc26 => ?_) (fun hc26 => ?_)
    · have h := if_t hc26 h
      refine WP_seq ?_
      refine WP_region ?_
      refine XL_q rfl (qt_assign rfl) rfl rfl ?_
      refine WL_nil_seq ?_
      refine WP_ret fun a ha => ?_
      obtain rfl := Option.some.inj h
      have H27 : Holds (([] : List Res).flatMap Res.own) w w23 [] G := ((((H25.cut 0).cut 0).cut 0).cut 0)
      exact ret_seq (ret1 rfl ha rfl ⟨rfl, H27⟩)
    · have h := if_f hc26 h
      refine WP_skip_seq ?_
      refine WP_seq ?_
      refine WP_seq ?_
      refine WP_region ?_
      refine XL_q rfl (qt_move rfl) rfl rfl ?_
      refine XL_lenH H25.ctx (t := (.int .i64)) (Has.c (Has.hd)) u23 rfl rfl rfl ?_
      refine XL_q rfl (qt_eql rfl rfl) rfl rfl ?_
      refine WL_nil_seq ?_
      refine WP_cond rfl (fun hc28 => ?_) (fun hc28 => ?_)
      · have h := if_t hc28 h
        refine WP_seq ?_
        refine WP_still ?_
        obtain ⟨x29, hx30, h⟩ := bind_some h
        refine QL_call rfl rfl c15 (fun w' hb => (w_laws_alive w' ([.sl 3 (.int .i64) v19 x15, .sl 3 (.int .i64) v13 x9, .sl 3 (.int .i64) v6 x2.1, .sl 3 (.int .i64) v7 x2.2] ++ G)  x29 hx30 (H25.grow hb).ctx).mono fun e w'' hK => ⟨hK.1, hK.2.bel⟩) (by rfl) ?_
        refine XL_q rfl (qt_assign rfl) rfl rfl ?_
        refine QL_nil fun a ha w31 hb32 => ?_
        have H33 : Holds (([] : List Res).flatMap Res.own) w w31 [.sl 3 (.int .i64) v19 x15, .sl 3 (.int .i64) v13 x9, .sl 3 (.int .i64) v6 x2.1, .sl 3 (.int .i64) v7 x2.2] G := H25.grow hb32
        refine nrm_seq (WP.app ?_ ha)
        refine WP_ret fun a ha => ?_
        obtain rfl := Option.some.inj h
        have H34 : Holds (([] : List Res).flatMap Res.own) w w31 [] G := ((((H33.cut 0).cut 0).cut 0).cut 0)
        exact ret_seq (ret1 rfl ha rfl ⟨rfl, H34⟩)
      · have h := if_f hc28 h
        refine WP_skip_seq ?_
        refine WP_seq ?_
        refine WP_region ?_
        refine XL_q rfl (qt_move rfl) rfl rfl ?_
        refine XL_q rfl (qt_move rfl) rfl rfl ?_
        obtain ⟨x35, hx36, h⟩ := bind_some h
        refine WL_call rfl rfl c34 (w_laws_sumOf w23 ([.sl 3 (.int .i64) v19 x15, .sl 3 (.int .i64) v13 x9, .sl 3 (.int .i64) v6 x2.1, .sl 3 (.int .i64) v7 x2.2] ++ G) v7 x2.2 (Has.c (Has.c (Has.c (Has.hd)))) x35 hx36 H25.ctx) (by rfl) ?_
        rintro _ w37 ⟨rfl, H38⟩; refine ⟨_, rfl, ?_⟩
        have H39 : Holds (([] : List Res).flatMap Res.own) w w37 [.sl 3 (.int .i64) v19 x15, .sl 3 (.int .i64) v13 x9, .sl 3 (.int .i64) v6 x2.1, .sl 3 (.int .i64) v7 x2.2] G := H25.calledN (Rs := []) H38
        obtain ⟨x40, hx41, h⟩ := bind_some h
        refine WL_call rfl rfl c31 (w_impl_ShareOf w37 ([.sl 3 (.int .i64) v19 x15, .sl 3 (.int .i64) v13 x9, .sl 3 (.int .i64) v6 x2.1, .sl 3 (.int .i64) v7 x2.2] ++ G) v6 x2.1 (Has.c (Has.c (Has.hd))) x35 x40 hx41 H39.ctx) (by rfl) ?_
        rintro _ w42 ⟨v44, rfl, H43⟩; refine ⟨_, rfl, ?_⟩
        have H45 : Holds (([] : List Res).flatMap Res.own) w w42 [.sl 3 (.int .i64) v44 x40, .sl 3 (.int .i64) v19 x15, .sl 3 (.int .i64) v13 x9, .sl 3 (.int .i64) v6 x2.1, .sl 3 (.int .i64) v7 x2.2] G := H39.calledN (Rs := []) H43
        refine XL_q rfl (qt_assign rfl) rfl rfl ?_
        refine WL_nil_seq ?_
        refine WP_seq ?_
        refine WP_region ?_
        refine XL_q rfl (qt_move rfl) rfl rfl ?_
        refine XL_q rfl (qt_move rfl) rfl rfl ?_
        obtain ⟨x46, hx47, h⟩ := bind_some h
        refine WL_call rfl rfl c41 (w_impl_OwedOf w42 ([.sl 3 (.int .i64) v44 x40, .sl 3 (.int .i64) v19 x15, .sl 3 (.int .i64) v13 x9, .sl 3 (.int .i64) v6 x2.1, .sl 3 (.int .i64) v7 x2.2] ++ G) v6 x2.1 (Has.c (Has.c (Has.c (Has.hd)))) v44 x40 (Has.hd) x46 hx47 H45.ctx) (by rfl) ?_
        rintro _ w48 ⟨v50, rfl, H49⟩; refine ⟨_, rfl, ?_⟩
        have H51 : Holds (([] : List Res).flatMap Res.own) w w48 [.sl 3 (.int .i64) v50 x46, .sl 3 (.int .i64) v44 x40, .sl 3 (.int .i64) v19 x15, .sl 3 (.int .i64) v13 x9, .sl 3 (.int .i64) v6 x2.1, .sl 3 (.int .i64) v7 x2.2] G := H45.calledN (Rs := []) H49
        refine XL_q rfl (qt_assign rfl) rfl rfl ?_
        refine WL_nil_seq ?_
        refine WP_seq ?_
        refine WP_seq ?_
        refine WP_region ?_
        refine XL_q rfl (qt_assign rfl) rfl rfl ?_
        refine WL_nil_seq ?_
        refine WP_block ?_
        obtain ⟨o53, ho54, h⟩ := bind_some h
        have H57 : Holds (([] : List Res).flatMap Res.own) w w48 [.sl 3 (.int .i64) v6 x2.1, .sl 3 (.int .i64) v13 x9, .sl 3 (.int .i64) v50 x46] G := (((((H51.cut 1).cut 1).cut 3).pull 1).pull 2)
        refine fun a55 ha56 => wp_loop_fix (I := fun s a w2 => match s with | s52 => (Fr a 57 [(3, v6), (5, v13), (7, v50), (8, .int .i64 s52)] ∧ Holds (([] : List Res).flatMap Res.own) w w2 [.sl 3 (.int .i64) v6 x2.1, .sl 3 (.int .i64) v13 x9, .sl 3 (.int .i64) v50 x46] G)) (O := fun o e a w2 => match o with | .inl _ => e = .exit 0 ∧ (Fr a 57 [(3, v6), (5, v13), (7, v50)] ∧ Holds (([] : List Res).flatMap Res.own) w w2 [.sl 3 (.int .i64) v6 x2.1, .sl 3 (.int .i64) v13 x9, .sl 3 (.int .i64) v50 x46] G) | .inr q0 => e = .ret ∧ (Fr a 57 [(2, .bool q0)] ∧ Holds (([] : List Res).flatMap Res.own) w w2 [] G)) ho54 ?_ ?_ ?_
        · exact ⟨ha56.sub ⟨rfl, rfl, rfl, rfl, trivial⟩, H57⟩
        · clear ha56
          intro s o60 a w58 hs59 hI61
          obtain ⟨s52, rfl⟩ : ∃ z, z = s := ⟨s, rfl⟩
          obtain ⟨ha, H62⟩ := hI61
          refine WP.app ?_ ha
          clear ha
          refine WP_seq ?_
          refine WP_seq ?_
          refine WP_region ?_
          refine XL_q rfl (qt_move rfl) rfl rfl ?_
          refine XL_q rfl (qt_move rfl) rfl rfl ?_
          refine XL_lenH H62.ctx (t := (.int .i64)) (Has.c (Has.c (Has.hd))) u23 rfl rfl rfl ?_
          refine XL_q rfl (qt_lss rfl rfl) rfl rfl ?_
          refine WL_nil_seq ?_
          refine WP_cond rfl (fun hc63 => ?_) (fun hc63 => ?_)
          · have hs59 := if_t hc63 hs59
            refine WP_skip_seq ?_
            refine WP_seq ?_
            refine WP_block ?_
            refine WP_seq ?_
            refine WP_region ?_
            refine XL_q rfl (qt_move rfl) rfl rfl ?_
            refine XL_q rfl (qt_move rfl) rfl rfl ?_
            obtain ⟨x64, hx65, hs59⟩ := bind_some hs59
            refine XL_indexH H62.ctx (Has.c (Has.c (Has.hd))) hx65 u23 i3 rfl rfl rfl rfl (fun b66 off67 cap68 hv69 => ?_)
            obtain ⟨F70, hat71, hdup72⟩ := H62.at (Has.c (Has.c (Has.hd))) hx65 hv69
            refine XL_load_int (k := .i64) u3 rfl hat71 rfl rfl rfl ?_
            refine XL_q rfl (qt_neq rfl rfl) rfl rfl ?_
            refine WL_nil_seq ?_
            refine WP_cond rfl (fun hc73 => ?_) (fun hc73 => ?_)
            · have hs59 := if_t hc73 hs59
              refine WP_seq ?_
              refine WP_region ?_
              refine XL_q rfl (qt_assign rfl) rfl rfl ?_
              refine WL_nil_seq ?_
              refine WP_ret fun a ha => ?_
              obtain rfl := Option.some.inj hs59
              have H74 : Holds (([] : List Res).flatMap Res.own) w w58 [] G := (((H62.cut 0).cut 0).cut 0)
              exact ret_block (ret_seq (⟨ret_ne, rfl, ha.sub ⟨rfl, trivial⟩, H74⟩))
            · have hs59 := if_f hc73 hs59
              refine WP_skip fun a ha => ?_
              refine nrm_block (nrm_seq (WP.app ?_ ha))
              refine WP_region ?_
              refine XL_q rfl (qt_move rfl) rfl rfl ?_
              refine XL_q rfl (qt_add rfl rfl) rfl rfl ?_
              refine XL_q rfl (qt_assign rfl) rfl rfl ?_
              refine WL_nil fun a ha => ?_
              obtain rfl := Option.some.inj hs59
              have H75 : Holds (([] : List Res).flatMap Res.own) w w58 [.sl 3 (.int .i64) v6 x2.1, .sl 3 (.int .i64) v13 x9, .sl 3 (.int .i64) v50 x46] G := (((H62.pull 2).pull 2).pull 2)
              exact ⟨rfl, ha.sub ⟨rfl, rfl, rfl, rfl, trivial⟩, H75⟩
          · have hs59 := if_f hc63 hs59
            refine WP_exit fun a ha => ?_
            obtain rfl := Option.some.inj hs59
            have H76 : Holds (([] : List Res).flatMap Res.own) w w58 [.sl 3 (.int .i64) v6 x2.1, .sl 3 (.int .i64) v13 x9, .sl 3 (.int .i64) v50 x46] G := (((H62.pull 2).pull 2).pull 2)
            exact exit_seq (⟨exit_ne, rfl, ha.sub ⟨rfl, rfl, rfl, trivial⟩, H76⟩)
        · intro e a55 w77 hO78
          rcases o53 with o53 | o53
          · skip
            obtain ⟨rfl, hO80⟩ := hO78
            obtain ⟨ha, H79⟩ := hO80
            refine exit_block_eq (nrm_seq (WP.app ?_ ha))
            refine WP_seq ?_
            refine WP_still ?_
            refine XL_q rfl (qt_move rfl) rfl rfl ?_
            obtain ⟨x81, hx82, h⟩ := bind_some h
            refine QL_call rfl rfl c13 (fun w' hb => (w_impl_OwedValid w' ([.sl 3 (.int .i64) v6 x2.1, .sl 3 (.int .i64) v13 x9, .sl 3 (.int .i64) v50 x46] ++ G) v13 x9 (Has.c (Has.hd)) x81 hx82 (H79.grow hb).ctx).mono fun e w'' hK => ⟨hK.1, hK.2.bel⟩) (by rfl) ?_
            refine XL_q rfl (qt_move rfl) rfl rfl ?_
            refine XL_join 6 56 (.bool (x81 && ((List.length x46 : Int) == (List.length x2.1 : Int)))) ?_ (fun md hmd hk => ?_)
            rotate_left
            · obtain ⟨K, rfl⟩ := Md.quiet_of hmd
              rcases btf x81 with hc83 | hc83
              · skip
                refine XL_q (w_take rfl hc83) (qt_move rfl) rfl rfl ?_
                refine XL_lenH H79.ctx (t := (.int .i64)) (Has.c (Has.c (Has.hd))) u23 (w_take rfl hc83) rfl rfl ?_
                refine XL_q (w_take rfl hc83) (qt_move rfl) rfl rfl ?_
                refine XL_lenH H79.ctx (t := (.int .i64)) (Has.hd) u23 (w_take rfl hc83) rfl rfl ?_
                refine XL_q (w_take rfl hc83) (qt_eql rfl rfl) rfl rfl ?_
                refine XL_q rfl (qt_pickT rfl hc83 rfl) rfl rfl ?_
                exact hk _ (Cov.same (by rw [hc83]; rfl) (Cov.fresh rfl (Cov.fresh rfl (Cov.fresh rfl (Cov.fresh rfl (Cov.fresh rfl (Cov.refl)))))))
              · skip
                refine XL_skip (w_skip rfl hc83) rfl rfl ?_
                refine XL_skip (w_skip rfl hc83) rfl rfl ?_
                refine XL_skip (w_skip rfl hc83) rfl rfl ?_
                refine XL_skip (w_skip rfl hc83) rfl rfl ?_
                refine XL_skip (w_skip rfl hc83) rfl rfl ?_
                refine XL_q rfl (qt_pickF rfl hc83 rfl) rfl rfl ?_
                exact hk _ (Cov.same (by rw [hc83]; rfl) (Cov.fresh rfl (Cov.fresh rfl (Cov.fresh rfl (Cov.fresh rfl (Cov.fresh rfl (Cov.refl)))))))
            refine XL_q rfl (qt_assign rfl) rfl rfl ?_
            refine QL_nil fun a ha w84 hb85 => ?_
            have H86 : Holds (([] : List Res).flatMap Res.own) w w84 [.sl 3 (.int .i64) v6 x2.1, .sl 3 (.int .i64) v13 x9, .sl 3 (.int .i64) v50 x46] G := H79.grow hb85
            refine nrm_seq (WP.app ?_ ha)
            refine WP_ret fun a ha => ?_
            obtain rfl := Option.some.inj h
            have H87 : Holds (([] : List Res).flatMap Res.own) w w84 [] G := (((H86.cut 0).cut 0).cut 0)
            exact ret1 rfl ha rfl ⟨rfl, H87⟩
          · skip
            obtain ⟨p88, rfl⟩ : ∃ z, z = o53 := ⟨o53, rfl⟩
            obtain ⟨rfl, hO90⟩ := hO78
            obtain ⟨ha, H89⟩ := hO90
            obtain rfl := Option.some.inj h
            exact ret_block (ret_seq (ret1 rfl ha rfl ⟨rfl, H89⟩))
end Go.Proofs.YtohhaladggoglaaDoor
