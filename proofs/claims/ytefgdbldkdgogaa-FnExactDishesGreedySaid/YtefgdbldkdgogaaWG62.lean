/- The walks: each Go function computes its shallow function. Printed by a program. -/
import Derived.Test.YtefgdbldkdgogaaWG61
set_option linter.unusedVariables false
set_option maxRecDepth 10000
namespace Go.Proofs.Ytefgdbldkdgogaa
open Go Go.RowKit
theorem w_spec_ApartValid (w : World) (p0 : Int) (vp1 : Value) (p1 : List Int) (Fp1 : List Nat) (hmp1 : Rep w (.slice (.int .i64)) [vp1] p1 Fp1) (vp2 : Value) (p2 : List Int) (Fp2 : List Nat) (hmp2 : Rep w (.slice (.int .i64)) [vp2] p2 Fp2) (r : Bool) (h : spec_ApartValidS p0 p1 p2 = some r) : Calls Try.prog 35 #[.int .i64 p0, vp1, vp2] w fun e w' => e = .returned (.bool r) ∧ Below w.heap.size w w' := by
  refine calls_enter (args := [.int .i64 p0, vp1, vp2]) (n := 79) Try.func35 rfl rfl rfl ?_
  unfold spec_ApartValidS at h
  refine WP_seq ?_
  refine WP_region ?_
  refine XL_q rfl (qt_assign rfl) rfl rfl ?_
  refine WL_nil_seq ?_
  refine WP_seq ?_
  refine WP_seq ?_
  refine WP_still ?_
  refine XL_q rfl (qt_move rfl) rfl rfl ?_
  refine XL_q rfl (qt_move rfl) rfl rfl ?_
  obtain ⟨x1, hx2, h⟩ := bind_some h
  refine QL_call rfl rfl c17 (fun w' hb => w_spec_MenuValid w' p0 vp1 p1 Fp1 (hmp1.below hb) x1 hx2) (by rfl) ?_
  refine XL_q rfl (qt_not rfl) rfl rfl ?_
  refine QL_nil fun a ha w3 hb4 => ?_
  have hm5 := hmp1.below hb4
  have hm6 := hmp2.below hb4
  have hB7 := bl_trans (Below.refl _ _) hb4
  refine nrm_seq (WP.app ?_ ha)
  refine WP_cond rfl (fun hc8 => ?_) (fun hc8 => ?_)
  · have h := if_t hc8 h
    refine WP_seq ?_
    refine WP_region ?_
    refine XL_q rfl (qt_assign rfl) rfl rfl ?_
    refine WL_nil_seq ?_
    refine WP_ret fun a ha => ?_
    exact ret_seq (ret1 rfl ha rfl ⟨congrArg (fun z => Ending.returned (.bool z)) (Option.some.inj h), hB7⟩)
  · have h := if_f hc8 h
    refine WP_skip_seq ?_
    refine WP_seq ?_
    refine WP_seq ?_
    refine WP_region ?_
    refine XL_q rfl (qt_assign rfl) rfl rfl ?_
    refine WL_nil_seq ?_
    refine WP_block ?_
    obtain ⟨o10, ho11, h⟩ := bind_some h
    refine fun a12 ha13 => wp_loop_fix (I := fun s a w2 => match s with | s9 => (Fr a 79 [(0, .int .i64 p0), (1, vp1), (2, vp2), (7, .int .i64 s9)] ∧ Below w.heap.size w w2 ∧ Rep w2 (.slice (.int .i64)) [vp1] p1 Fp1 ∧ Rep w2 (.slice (.int .i64)) [vp2] p2 Fp2)) (O := fun o e a w2 => match o with | .inl _ => e = .exit 0 ∧ (Fr a 79 [] ∧ Below w.heap.size w w2) | .inr q6 => e = .ret ∧ (Fr a 79 [(6, .bool q6)] ∧ Below w.heap.size w w2)) ho11 ?_ ?_ ?_
    · exact ⟨ha13.sub ⟨rfl, rfl, rfl, rfl, trivial⟩, hB7, hm5, hm6⟩
    · clear ha13
      intro s o16 a w14 hs15 hI17
      obtain ⟨s9, rfl⟩ : ∃ z, z = s := ⟨s, rfl⟩
      obtain ⟨ha, hB18, hm19, hm20⟩ := hI17
      refine WP.app ?_ ha
      clear ha
      refine WP_seq ?_
      refine WP_seq ?_
      refine WP_region ?_
      refine XL_q rfl (qt_move rfl) rfl rfl ?_
      refine XL_q rfl (qt_move rfl) rfl rfl ?_
      refine XL_len u22 hm20 rfl rfl rfl ?_
      refine XL_q rfl (qt_lss rfl rfl) rfl rfl ?_
      refine WL_nil_seq ?_
      refine WP_cond rfl (fun hc21 => ?_) (fun hc21 => ?_)
      · have hs15 := if_t hc21 hs15
        refine WP_skip_seq ?_
        refine WP_seq ?_
        refine WP_block ?_
        refine WP_seq ?_
        refine WP_seq ?_
        refine WP_quiet (by kernel_rfl) (by kernel_rfl) ?_
        refine XL_q rfl (qt_move rfl) rfl rfl ?_
        refine XL_q rfl (qt_move rfl) rfl rfl ?_
        obtain ⟨x22, hx23, hs15⟩ := bind_some hs15
        refine XL_index u22 i3 hm20 hx23 rfl rfl rfl rfl (fun b24 o25 F26 hat27 hsub28 hbm29 => ?_)
        refine XL_load_int u3 rfl hat27 rfl rfl rfl ?_
        refine XL_q rfl (qt_move rfl) rfl rfl ?_
        refine XL_q rfl (qt_sub rfl rfl) rfl rfl ?_
        obtain ⟨x30, hx31, hs15⟩ := bind_some hs15
        refine QL_call rfl rfl c49 (fun w' hb => w_spec_l1In w' x22 0 (IntKind.wrap .i64 (p0 - 1)) x30 hx31) (by rfl) ?_
        refine XL_q rfl (qt_not rfl) rfl rfl ?_
        refine XL_q rfl (qt_move rfl) rfl rfl ?_
        obtain ⟨b32, hg33, hs15⟩ := bind_some hs15
        refine XL_join 15 43 (.bool b32) ?_ (fun md hmd hk => ?_)
        rotate_left
        · obtain ⟨K, rfl⟩ := Md.quiet_of hmd
          rcases btf (!x30) with hc34 | hc34
          · skip
            refine XL_skip (w_skip rfl hc34) rfl rfl ?_
            refine XL_skip (w_skip rfl hc34) rfl rfl ?_
            refine XL_skip (w_skip rfl hc34) rfl rfl ?_
            refine XL_skip rfl rfl rfl ?_
            refine XL_skip rfl rfl rfl ?_
            refine XL_skip rfl rfl rfl ?_
            refine XL_skip rfl rfl rfl ?_
            refine XL_skip rfl rfl rfl ?_
            refine XL_skip rfl rfl rfl ?_
            refine XL_skip rfl rfl rfl ?_
            refine XL_skip rfl rfl rfl ?_
            refine XL_skip rfl rfl rfl ?_
            refine XL_skip rfl rfl rfl ?_
            refine XL_skip (w_skip rfl hc34) rfl rfl ?_
            refine XL_q rfl (qt_pickT rfl hc34 rfl) rfl rfl ?_
            exact hk _ (Cov.same (vb (if_t hc34 hg33)) (Cov.fresh rfl (Cov.fresh rfl (Cov.fresh rfl (Cov.fresh rfl (Cov.fresh rfl (Cov.fresh rfl (Cov.fresh rfl (Cov.fresh rfl (Cov.fresh rfl (Cov.fresh rfl (Cov.fresh rfl (Cov.fresh rfl (Cov.fresh rfl (Cov.fresh rfl (Cov.refl))))))))))))))))
          · skip
            have hg33 := if_f hc34 hg33
            refine XL_q (w_take rfl hc34) (qt_move rfl) rfl rfl ?_
            refine XL_q (w_take rfl hc34) (qt_gtr rfl rfl) rfl rfl ?_
            refine XL_q (w_take rfl hc34) (qt_move rfl) rfl rfl ?_
            obtain ⟨b35, hg36, hg33⟩ := bind_some hg33
            refine XL_join 11 42 (.bool b35) ?_ (fun md hmd hk => ?_)
            rotate_left
            · obtain ⟨K, rfl⟩ := Md.quiet_of hmd
              rcases btf (decide (s9 > 0)) with hc37 | hc37
              · skip
                have hg36 := if_t hc37 hg36
                refine XL_q (w_take rfl hc37) (qt_move rfl) rfl rfl ?_
                refine XL_q (w_take rfl hc37) (qt_move rfl) rfl rfl ?_
                refine XL_q (w_take rfl hc37) (qt_sub rfl rfl) rfl rfl ?_
                obtain ⟨x38, hx39, hg36⟩ := bind_some hg36
                refine XL_index u22 i3 hm20 hx39 (w_take rfl hc37) rfl rfl rfl (fun b40 o41 F42 hat43 hsub44 hbm45 => ?_)
                refine XL_load_int u3 rfl hat43 (w_take rfl hc37) rfl rfl ?_
                refine XL_q (w_take rfl hc37) (qt_move rfl) rfl rfl ?_
                refine XL_q (w_take rfl hc37) (qt_move rfl) rfl rfl ?_
                obtain ⟨x46, hx47, hg36⟩ := bind_some hg36
                refine XL_index u22 i3 hm20 hx47 (w_take rfl hc37) rfl rfl rfl (fun b48 o49 F50 hat51 hsub52 hbm53 => ?_)
                refine XL_load_int u3 rfl hat51 (w_take rfl hc37) rfl rfl ?_
                refine XL_q (w_take rfl hc37) (qt_geq rfl rfl) rfl rfl ?_
                refine XL_q (w_take rfl hc34) (qt_pickT rfl hc37 rfl) rfl rfl ?_
                exact hk _ (Cov.same (vb hg36) (Cov.fresh rfl (Cov.fresh rfl (Cov.fresh rfl (Cov.fresh rfl (Cov.fresh rfl (Cov.fresh rfl (Cov.fresh rfl (Cov.fresh rfl (Cov.fresh rfl (Cov.fresh rfl (Cov.refl))))))))))))
              · skip
                refine XL_skip (w_skip rfl hc37) rfl rfl ?_
                refine XL_skip (w_skip rfl hc37) rfl rfl ?_
                refine XL_skip (w_skip rfl hc37) rfl rfl ?_
                refine XL_skip (w_skip rfl hc37) rfl rfl ?_
                refine XL_skip (w_skip rfl hc37) rfl rfl ?_
                refine XL_skip (w_skip rfl hc37) rfl rfl ?_
                refine XL_skip (w_skip rfl hc37) rfl rfl ?_
                refine XL_skip (w_skip rfl hc37) rfl rfl ?_
                refine XL_skip (w_skip rfl hc37) rfl rfl ?_
                refine XL_skip (w_skip rfl hc37) rfl rfl ?_
                refine XL_q (w_take rfl hc34) (qt_pickF rfl hc37 rfl) rfl rfl ?_
                exact hk _ (Cov.same (vb (if_f hc37 hg36)) (Cov.fresh rfl (Cov.fresh rfl (Cov.fresh rfl (Cov.fresh rfl (Cov.fresh rfl (Cov.fresh rfl (Cov.fresh rfl (Cov.fresh rfl (Cov.fresh rfl (Cov.fresh rfl (Cov.refl))))))))))))
            refine XL_q rfl (qt_pickF rfl hc34 rfl) rfl rfl ?_
            exact hk _ (Cov.same (vb hg33) (Cov.fresh rfl (Cov.fresh rfl (Cov.fresh rfl (Cov.fresh rfl (Cov.refl))))))
        refine QL_nil fun a ha w54 hb55 => ?_
        have hm56 := hm19.below hb55
        have hm57 := hm20.below hb55
        have hB58 := bl_trans hB18 hb55
        refine nrm_seq (WP.app ?_ ha)
        refine WP_cond rfl (fun hc59 => ?_) (fun hc59 => ?_)
        · have hs15 := if_t hc59 hs15
          refine WP_seq ?_
          refine WP_region ?_
          refine XL_q rfl (qt_assign rfl) rfl rfl ?_
          refine WL_nil_seq ?_
          refine WP_ret fun a ha => ?_
          obtain rfl := Option.some.inj hs15
          exact ret_seq (ret_block (ret_seq (⟨ret_ne, rfl, ⟨ha.sub ⟨rfl, trivial⟩, hB58⟩⟩)))
        · have hs15 := if_f hc59 hs15
          refine WP_skip_seq ?_
          refine WP_seq ?_
          refine WP_region ?_
          refine XL_q rfl (qt_assign rfl) rfl rfl ?_
          refine WL_nil_seq ?_
          refine WP_block ?_
          obtain ⟨o61, ho62, hs15⟩ := bind_some hs15
          refine fun a63 ha64 => wp_loop_fix (I := fun s a w2 => match s with | s60 => (Fr a 79 [(0, .int .i64 p0), (1, vp1), (2, vp2), (7, .int .i64 s9), (8, .int .i64 s60)] ∧ Below w.heap.size w w2 ∧ Rep w2 (.slice (.int .i64)) [vp1] p1 Fp1 ∧ Rep w2 (.slice (.int .i64)) [vp2] p2 Fp2)) (O := fun o e a w2 => match o with | .inl _ => e = .exit 2 ∧ (Fr a 79 [(0, .int .i64 p0), (1, vp1), (2, vp2), (7, .int .i64 s9)] ∧ Below w.heap.size w w2 ∧ Rep w2 (.slice (.int .i64)) [vp1] p1 Fp1 ∧ Rep w2 (.slice (.int .i64)) [vp2] p2 Fp2) | .inr q6 => e = .ret ∧ (Fr a 79 [(6, .bool q6)] ∧ Below w.heap.size w w2)) ho62 ?_ ?_ ?_
          · exact ⟨ha64.sub ⟨rfl, rfl, rfl, rfl, rfl, trivial⟩, hB58, hm56, hm57⟩
          · clear ha64
            intro s o67 a w65 hs66 hI68
            obtain ⟨s60, rfl⟩ : ∃ z, z = s := ⟨s, rfl⟩
            obtain ⟨ha, hB69, hm70, hm71⟩ := hI68
            refine WP.app ?_ ha
            clear ha
            refine WP_seq ?_
            refine WP_seq ?_
            refine WP_region ?_
            refine XL_q rfl (qt_move rfl) rfl rfl ?_
            refine XL_q rfl (qt_move rfl) rfl rfl ?_
            refine XL_q rfl (qt_lss rfl rfl) rfl rfl ?_
            refine WL_nil_seq ?_
            refine WP_cond rfl (fun hc72 => ?_) (fun hc72 => ?_)
            · have hs66 := if_t hc72 hs66
              refine WP_skip_seq ?_
              refine WP_seq ?_
              refine WP_block ?_
              refine WP_seq ?_
              refine WP_region ?_
              refine XL_q rfl (qt_assign rfl) rfl rfl ?_
              refine WL_nil_seq ?_
              refine WP_block ?_
              obtain ⟨o74, ho75, hs66⟩ := bind_some hs66
              refine fun a76 ha77 => wp_loop_fix (I := fun s a w2 => match s with | s73 => (Fr a 79 [(0, .int .i64 p0), (1, vp1), (2, vp2), (7, .int .i64 s9), (8, .int .i64 s60), (9, .int .i64 s73)] ∧ Below w.heap.size w w2 ∧ Rep w2 (.slice (.int .i64)) [vp1] p1 Fp1 ∧ Rep w2 (.slice (.int .i64)) [vp2] p2 Fp2)) (O := fun o e a w2 => match o with | .inl _ => e = .exit 4 ∧ (Fr a 79 [(0, .int .i64 p0), (1, vp1), (2, vp2), (7, .int .i64 s9), (8, .int .i64 s60)] ∧ Below w.heap.size w w2 ∧ Rep w2 (.slice (.int .i64)) [vp1] p1 Fp1 ∧ Rep w2 (.slice (.int .i64)) [vp2] p2 Fp2) | .inr q6 => e = .ret ∧ (Fr a 79 [(6, .bool q6)] ∧ Below w.heap.size w w2)) ho75 ?_ ?_ ?_
              · exact ⟨ha77.sub ⟨rfl, rfl, rfl, rfl, rfl, rfl, trivial⟩, hB69, hm70, hm71⟩
              · clear ha77
                intro s o80 a w78 hs79 hI81
                obtain ⟨s73, rfl⟩ : ∃ z, z = s := ⟨s, rfl⟩
                obtain ⟨ha, hB82, hm83, hm84⟩ := hI81
                refine WP.app ?_ ha
                clear ha
                refine WP_seq ?_
                refine WP_seq ?_
                refine WP_region ?_
                refine XL_q rfl (qt_move rfl) rfl rfl ?_
                refine XL_q rfl (qt_move rfl) rfl rfl ?_
                refine XL_len u22 hm83 rfl rfl rfl ?_
                refine XL_q rfl (qt_lss rfl rfl) rfl rfl ?_
                refine WL_nil_seq ?_
                refine WP_cond rfl (fun hc85 => ?_) (fun hc85 => ?_)
                · have hs79 := if_t hc85 hs79
                  refine WP_skip_seq ?_
                  refine WP_seq ?_
                  refine WP_block ?_
                  refine WP_seq ?_
                  refine WP_quiet (by kernel_rfl) (by kernel_rfl) ?_
                  refine XL_q rfl (qt_move rfl) rfl rfl ?_
                  refine XL_q rfl (qt_move rfl) rfl rfl ?_
                  obtain ⟨x86, hx87, hs79⟩ := bind_some hs79
                  refine XL_index u22 i3 hm83 hx87 rfl rfl rfl rfl (fun b88 o89 F90 hat91 hsub92 hbm93 => ?_)
                  refine XL_load_int u3 rfl hat91 rfl rfl rfl ?_
                  refine XL_q rfl (qt_move rfl) rfl rfl ?_
                  refine XL_q rfl (qt_move rfl) rfl rfl ?_
                  obtain ⟨x94, hx95, hs79⟩ := bind_some hs79
                  refine XL_index u22 i3 hm84 hx95 rfl rfl rfl rfl (fun b96 o97 F98 hat99 hsub100 hbm101 => ?_)
                  refine XL_load_int u3 rfl hat99 rfl rfl rfl ?_
                  obtain ⟨x102, hx103, hs79⟩ := bind_some hs79
                  refine XL_q rfl (qt_shrO rfl rfl hx103) rfl rfl ?_
                  refine XL_q rfl (qt_rem rfl rfl (by decide)) rfl rfl ?_
                  refine XL_q rfl (qt_eql rfl rfl) rfl rfl ?_
                  refine XL_q rfl (qt_move rfl) rfl rfl ?_
                  obtain ⟨b104, hg105, hs79⟩ := bind_some hs79
                  refine XL_join 12 78 (.bool b104) ?_ (fun md hmd hk => ?_)
                  rotate_left
                  · obtain ⟨K, rfl⟩ := Md.quiet_of hmd
                    rcases btf ((Int.tmod x102 2) == 1) with hc106 | hc106
                    · skip
                      have hg105 := if_t hc106 hg105
                      refine XL_q (w_take rfl hc106) (qt_move rfl) rfl rfl ?_
                      refine XL_q (w_take rfl hc106) (qt_move rfl) rfl rfl ?_
                      obtain ⟨x107, hx108, hg105⟩ := bind_some hg105
                      refine XL_index u22 i3 hm83 hx108 (w_take rfl hc106) rfl rfl rfl (fun b109 o110 F111 hat112 hsub113 hbm114 => ?_)
                      refine XL_load_int u3 rfl hat112 (w_take rfl hc106) rfl rfl ?_
                      refine XL_q (w_take rfl hc106) (qt_move rfl) rfl rfl ?_
                      refine XL_q (w_take rfl hc106) (qt_move rfl) rfl rfl ?_
                      obtain ⟨x115, hx116, hg105⟩ := bind_some hg105
                      refine XL_index u22 i3 hm84 hx116 (w_take rfl hc106) rfl rfl rfl (fun b117 o118 F119 hat120 hsub121 hbm122 => ?_)
                      refine XL_load_int u3 rfl hat120 (w_take rfl hc106) rfl rfl ?_
                      obtain ⟨x123, hx124, hg105⟩ := bind_some hg105
                      refine XL_q (w_take rfl hc106) (qt_shrO rfl rfl hx124) rfl rfl ?_
                      refine XL_q (w_take rfl hc106) (qt_rem rfl rfl (by decide)) rfl rfl ?_
                      refine XL_q (w_take rfl hc106) (qt_eql rfl rfl) rfl rfl ?_
                      refine XL_q rfl (qt_pickT rfl hc106 rfl) rfl rfl ?_
                      exact hk _ (Cov.same (vb hg105) (Cov.fresh rfl (Cov.fresh rfl (Cov.fresh rfl (Cov.fresh rfl (Cov.fresh rfl (Cov.fresh rfl (Cov.fresh rfl (Cov.fresh rfl (Cov.fresh rfl (Cov.fresh rfl (Cov.fresh rfl (Cov.refl)))))))))))))
                    · skip
                      refine XL_skip (w_skip rfl hc106) rfl rfl ?_
                      refine XL_skip (w_skip rfl hc106) rfl rfl ?_
                      refine XL_skip (w_skip rfl hc106) rfl rfl ?_
                      refine XL_skip (w_skip rfl hc106) rfl rfl ?_
                      refine XL_skip (w_skip rfl hc106) rfl rfl ?_
                      refine XL_skip (w_skip rfl hc106) rfl rfl ?_
                      refine XL_skip (w_skip rfl hc106) rfl rfl ?_
                      refine XL_skip (w_skip rfl hc106) rfl rfl ?_
                      refine XL_skip (w_skip rfl hc106) rfl rfl ?_
                      refine XL_skip (w_skip rfl hc106) rfl rfl ?_
                      refine XL_skip (w_skip rfl hc106) rfl rfl ?_
                      refine XL_q rfl (qt_pickF rfl hc106 rfl) rfl rfl ?_
                      exact hk _ (Cov.same (vb (if_f hc106 hg105)) (Cov.fresh rfl (Cov.fresh rfl (Cov.fresh rfl (Cov.fresh rfl (Cov.fresh rfl (Cov.fresh rfl (Cov.fresh rfl (Cov.fresh rfl (Cov.fresh rfl (Cov.fresh rfl (Cov.fresh rfl (Cov.refl)))))))))))))
                  refine QL_nil fun a ha w125 hb126 => ?_
                  have hm127 := hm83.below hb126
                  have hm128 := hm84.below hb126
                  have hB129 := bl_trans hB82 hb126
                  refine nrm_seq (WP.app ?_ ha)
                  refine WP_cond rfl (fun hc130 => ?_) (fun hc130 => ?_)
                  · have hs79 := if_t hc130 hs79
                    refine WP_seq ?_
                    refine WP_region ?_
                    refine XL_q rfl (qt_assign rfl) rfl rfl ?_
                    refine WL_nil_seq ?_
                    refine WP_ret fun a ha => ?_
                    obtain rfl := Option.some.inj hs79
                    exact ret_block (ret_seq (⟨ret_ne, rfl, ⟨ha.sub ⟨rfl, trivial⟩, hB129⟩⟩))
                  · have hs79 := if_f hc130 hs79
                    refine WP_skip fun a ha => ?_
                    refine nrm_block (nrm_seq (WP.app ?_ ha))
                    refine WP_region ?_
                    refine XL_q rfl (qt_move rfl) rfl rfl ?_
                    refine XL_q rfl (qt_add rfl rfl) rfl rfl ?_
                    refine XL_q rfl (qt_assign rfl) rfl rfl ?_
                    refine WL_nil fun a ha => ?_
                    obtain rfl := Option.some.inj hs79
                    exact ⟨rfl, ⟨ha.sub ⟨rfl, rfl, rfl, rfl, rfl, rfl, trivial⟩, hB129, hm127, hm128⟩⟩
                · have hs79 := if_f hc85 hs79
                  refine WP_exit fun a ha => ?_
                  obtain rfl := Option.some.inj hs79
                  exact exit_seq (⟨exit_ne, rfl, ⟨ha.sub ⟨rfl, rfl, rfl, rfl, rfl, trivial⟩, hB82, hm83, hm84⟩⟩)
              · intro e a76 w131 hO132
                rcases o74 with o74 | o74
                · skip
                  obtain ⟨rfl, hO133⟩ := hO132
                  obtain ⟨ha, hB134, hm135, hm136⟩ := hO133
                  refine exit_block_eq (nrm_block (nrm_seq (WP.app ?_ ha)))
                  refine WP_region ?_
                  refine XL_q rfl (qt_move rfl) rfl rfl ?_
                  refine XL_q rfl (qt_add rfl rfl) rfl rfl ?_
                  refine XL_q rfl (qt_assign rfl) rfl rfl ?_
                  refine WL_nil fun a ha => ?_
                  obtain rfl := Option.some.inj hs66
                  exact ⟨rfl, ⟨ha.sub ⟨rfl, rfl, rfl, rfl, rfl, trivial⟩, hB134, hm135, hm136⟩⟩
                · skip
                  obtain ⟨p137, rfl⟩ : ∃ z, z = o74 := ⟨o74, rfl⟩
                  obtain ⟨rfl, hO138⟩ := hO132
                  obtain ⟨ha, hB139⟩ := hO138
                  obtain rfl := Option.some.inj hs66
                  exact ret_block (ret_block (ret_seq (⟨ret_ne, rfl, ⟨ha.sub ⟨rfl, trivial⟩, hB139⟩⟩)))
            · have hs66 := if_f hc72 hs66
              refine WP_exit fun a ha => ?_
              obtain rfl := Option.some.inj hs66
              exact exit_seq (⟨exit_ne, rfl, ⟨ha.sub ⟨rfl, rfl, rfl, rfl, trivial⟩, hB69, hm70, hm71⟩⟩)
          · intro e a63 w140 hO141
            rcases o61 with o61 | o61
            · skip
              obtain ⟨rfl, hO142⟩ := hO141
              obtain ⟨ha, hB143, hm144, hm145⟩ := hO142
              refine exit_block_eq (nrm_block (nrm_seq (WP.app ?_ ha)))
              refine WP_region ?_
              refine XL_q rfl (qt_move rfl) rfl rfl ?_
              refine XL_q rfl (qt_add rfl rfl) rfl rfl ?_
              refine XL_q rfl (qt_assign rfl) rfl rfl ?_
              refine WL_nil fun a ha => ?_
              obtain rfl := Option.some.inj hs15
              exact ⟨rfl, ⟨ha.sub ⟨rfl, rfl, rfl, rfl, trivial⟩, hB143, hm144, hm145⟩⟩
            · skip
              obtain ⟨p146, rfl⟩ : ∃ z, z = o61 := ⟨o61, rfl⟩
              obtain ⟨rfl, hO147⟩ := hO141
              obtain ⟨ha, hB148⟩ := hO147
              obtain rfl := Option.some.inj hs15
              exact ret_block (ret_block (ret_seq (⟨ret_ne, rfl, ⟨ha.sub ⟨rfl, trivial⟩, hB148⟩⟩)))
      · have hs15 := if_f hc21 hs15
        refine WP_exit fun a ha => ?_
        obtain rfl := Option.some.inj hs15
        exact exit_seq (⟨exit_ne, rfl, ⟨ha.sub trivial, hB18⟩⟩)
    · intro e a12 w149 hO150
      rcases o10 with o10 | o10
      · skip
        obtain ⟨rfl, hO151⟩ := hO150
        obtain ⟨ha, hB152⟩ := hO151
        refine exit_block_eq (nrm_seq (WP.app ?_ ha))
        refine WP_seq ?_
        refine WP_region ?_
        refine XL_q rfl (qt_assign rfl) rfl rfl ?_
        refine WL_nil_seq ?_
        refine WP_ret fun a ha => ?_
        exact ret1 rfl ha rfl ⟨congrArg (fun z => Ending.returned (.bool z)) (Option.some.inj h), hB152⟩
      · skip
        obtain ⟨p153, rfl⟩ : ∃ z, z = o10 := ⟨o10, rfl⟩
        obtain ⟨rfl, hO154⟩ := hO150
        obtain ⟨ha, hB155⟩ := hO154
        exact ret_block (ret_seq (ret1 rfl ha rfl ⟨congrArg (fun z => Ending.returned (.bool z)) (Option.some.inj h), hB155⟩))
theorem w_impl_ApartValid (w : World) (p0 : Int) (vp1 : Value) (p1 : List Int) (Fp1 : List Nat) (hmp1 : Rep w (.slice (.int .i64)) [vp1] p1 Fp1) (vp2 : Value) (p2 : List Int) (Fp2 : List Nat) (hmp2 : Rep w (.slice (.int .i64)) [vp2] p2 Fp2) (r : Bool) (h : impl_ApartValidS p0 p1 p2 = some r) : Calls Try.prog 36 #[.int .i64 p0, vp1, vp2] w fun e w' => e = .returned (.bool r) ∧ Below w.heap.size w w' := by
  refine calls_enter (args := [.int .i64 p0, vp1, vp2]) (n := 50) Try.func36 rfl rfl rfl ?_
  unfold impl_ApartValidS at h
  refine WP_seq ?_
  refine WP_region ?_
  refine XL_q rfl (qt_assign rfl) rfl rfl ?_
  refine WL_nil_seq ?_
  refine WP_seq ?_
  refine WP_seq ?_
  refine WP_still ?_
  refine XL_q rfl (qt_move rfl) rfl rfl ?_
  refine XL_q rfl (qt_move rfl) rfl rfl ?_
  obtain ⟨x1, hx2, h⟩ := bind_some h
  refine QL_call rfl rfl c19 (fun w' hb => w_impl_MenuValid w' p0 vp1 p1 Fp1 (hmp1.below hb) x1 hx2) (by rfl) ?_
  refine XL_q rfl (qt_not rfl) rfl rfl ?_
  refine QL_nil fun a ha w3 hb4 => ?_
  have hm5 := hmp1.below hb4
  have hm6 := hmp2.below hb4
  have hB7 := bl_trans (Below.refl _ _) hb4
  refine nrm_seq (WP.app ?_ ha)
  refine WP_cond rfl (fun hc8 => ?_) (fun hc8 => ?_)
  · have h := if_t hc8 h
    refine WP_seq ?_
    refine WP_region ?_
    refine XL_q rfl (qt_assign rfl) rfl rfl ?_
    refine WL_nil_seq ?_
    refine WP_ret fun a ha => ?_
    exact ret_seq (ret1 rfl ha rfl ⟨congrArg (fun z => Ending.returned (.bool z)) (Option.some.inj h), hB7⟩)
  · have h := if_f hc8 h
    refine WP_skip_seq ?_
    refine WP_seq ?_
    refine WP_region ?_
    refine XL_q rfl (qt_assign rfl) rfl rfl ?_
    refine XL_q rfl (qt_assign rfl) rfl rfl ?_
    refine WL_nil_seq ?_
    refine WP_seq ?_
    refine WP_seq ?_
    refine WP_region ?_
    refine XL_q rfl (qt_move rfl) rfl rfl ?_
    refine XL_len u22 hm6 rfl rfl rfl ?_
    refine XL_q rfl (qt_move rfl) rfl rfl ?_
    refine WL_nil_seq ?_
    refine WP_block ?_
    obtain ⟨o12, ho13, h⟩ := bind_some h
    refine fun a14 ha15 => wp_loop_fix (I := fun s a w2 => match s with | (s9, s10, s11) => (Fr a 50 [(0, .int .i64 p0), (1, vp1), (7, .int .i64 s9), (8, .int .i64 s10), (17, vp2), (18, .int .i64 (List.length p2 : Int)), (19, .int .i64 s11)] ∧ Below w.heap.size w w2 ∧ Rep w2 (.slice (.int .i64)) [vp1] p1 Fp1 ∧ Rep w2 (.slice (.int .i64)) [vp2] p2 Fp2)) (O := fun o e a w2 => match o with | .inl q8 => e = .exit 0 ∧ (Fr a 50 [(1, vp1), (8, .int .i64 q8)] ∧ Below w.heap.size w w2 ∧ Rep w2 (.slice (.int .i64)) [vp1] p1 Fp1) | .inr q6 => e = .ret ∧ (Fr a 50 [(6, .bool q6)] ∧ Below w.heap.size w w2)) ho13 ?_ ?_ ?_
    · exact ⟨ha15.sub ⟨rfl, rfl, rfl, rfl, rfl, rfl, rfl, trivial⟩, hB7, hm5, hm6⟩
    · clear ha15
      intro s o18 a w16 hs17 hI19
      obtain ⟨s9, s10, s11⟩ := s
      obtain ⟨ha, hB20, hm21, hm22⟩ := hI19
      refine WP.app ?_ ha
      clear ha
      refine WP_seq ?_
      refine WP_region ?_
      refine XL_q rfl (qt_lss rfl rfl) rfl rfl ?_
      refine WL_nil_seq ?_
      refine WP_seq ?_
      refine WP_cond rfl (fun hc23 => ?_) (fun hc23 => ?_)
      · have hs17 := if_t hc23 hs17
        refine WP_skip_seq ?_
        refine WP_seq ?_
        refine WP_block ?_
        refine WP_seq ?_
        refine WP_region ?_
        obtain ⟨x24, hx25, hs17⟩ := bind_some hs17
        refine XL_index u22 i3 hm22 hx25 rfl rfl rfl rfl (fun b26 o27 F28 hat29 hsub30 hbm31 => ?_)
        refine XL_load_int u3 rfl hat29 rfl rfl rfl ?_
        refine XL_q rfl (qt_assign rfl) rfl rfl ?_
        refine WL_nil_seq ?_
        refine WP_seq ?_
        refine WP_seq ?_
        refine WP_region ?_
        refine XL_q rfl (qt_move rfl) rfl rfl ?_
        refine XL_q rfl (qt_move rfl) rfl rfl ?_
        refine XL_q rfl (qt_leq rfl rfl) rfl rfl ?_
        refine XL_q rfl (qt_move rfl) rfl rfl ?_
        refine XL_join 4 30 (.bool ((decide (x24 ≤ s9)) || (decide (x24 ≥ p0)))) ?_ (fun md hmd hk => ?_)
        rotate_left
        · obtain ⟨Q, rfl⟩ := Md.seq_of hmd
          rcases btf (decide (x24 ≤ s9)) with hc32 | hc32
          · skip
            refine XL_skip (w_skip rfl hc32) rfl rfl ?_
            refine XL_skip (w_skip rfl hc32) rfl rfl ?_
            refine XL_skip (w_skip rfl hc32) rfl rfl ?_
            refine XL_q rfl (qt_pickT rfl hc32 rfl) rfl rfl ?_
            exact hk _ (Cov.same (by rw [hc32]; rfl) (Cov.fresh rfl (Cov.fresh rfl (Cov.fresh rfl (Cov.refl)))))
          · skip
            refine XL_q (w_take rfl hc32) (qt_move rfl) rfl rfl ?_
            refine XL_q (w_take rfl hc32) (qt_move rfl) rfl rfl ?_
            refine XL_q (w_take rfl hc32) (qt_geq rfl rfl) rfl rfl ?_
            refine XL_q rfl (qt_pickF rfl hc32 rfl) rfl rfl ?_
            exact hk _ (Cov.same (by rw [hc32]; rfl) (Cov.fresh rfl (Cov.fresh rfl (Cov.fresh rfl (Cov.refl)))))
        refine WL_nil_seq ?_
        refine WP_cond rfl (fun hc33 => ?_) (fun hc33 => ?_)
        · have hs17 := if_t hc33 hs17
          refine WP_seq ?_
          refine WP_region ?_
          refine XL_q rfl (qt_assign rfl) rfl rfl ?_
          refine WL_nil_seq ?_
          refine WP_ret fun a ha => ?_
          obtain rfl := Option.some.inj hs17
          exact ret_seq (ret_block (ret_seq (⟨ret_ne, rfl, ⟨ha.sub ⟨rfl, trivial⟩, hB20⟩⟩)))
        · have hs17 := if_f hc33 hs17
          refine WP_skip_seq ?_
          refine WP_seq ?_
          refine WP_region ?_
          refine XL_q rfl (qt_move rfl) rfl rfl ?_
          refine XL_q rfl (qt_assign rfl) rfl rfl ?_
          refine WL_nil_seq ?_
          refine WP_region ?_
          refine XL_q rfl (qt_move rfl) rfl rfl ?_
          refine XL_q rfl (qt_move rfl) rfl rfl ?_
          obtain ⟨x34, hx35, hs17⟩ := bind_some hs17
          refine XL_q rfl (qt_shlO rfl rfl hx35) rfl rfl ?_
          refine XL_q rfl (qt_or rfl rfl) rfl rfl ?_
          refine XL_q rfl (qt_assign rfl) rfl rfl ?_
          refine WL_nil fun a ha => ?_
          refine nrm_block (nrm_seq (WP.app ?_ ha))
          refine WP_region ?_
          refine XL_q rfl (qt_add rfl rfl) rfl rfl ?_
          refine XL_q rfl (qt_move rfl) rfl rfl ?_
          refine WL_nil fun a ha => ?_
          obtain rfl := Option.some.inj hs17
          exact ⟨rfl, ⟨ha.sub ⟨rfl, rfl, rfl, rfl, rfl, rfl, rfl, trivial⟩, hB20, hm21, hm22⟩⟩
      · have hs17 := if_f hc23 hs17
        refine WP_exit fun a ha => ?_
        obtain rfl := Option.some.inj hs17
        exact exit_seq (⟨exit_ne, rfl, ⟨ha.sub ⟨rfl, rfl, trivial⟩, hB20, hm21⟩⟩)
    · intro e a14 w36 hO37
      rcases o12 with o12 | o12
      · skip
        obtain ⟨p38, rfl⟩ : ∃ z, z = o12 := ⟨o12, rfl⟩
        obtain ⟨rfl, hO39⟩ := hO37
        obtain ⟨ha, hB40, hm41⟩ := hO39
        refine exit_block_eq (nrm_seq (WP.app ?_ ha))
        refine WP_seq ?_
        refine WP_seq ?_
        refine WP_region ?_
        refine XL_q rfl (qt_move rfl) rfl rfl ?_
        refine XL_len u22 hm41 rfl rfl rfl ?_
        refine XL_q rfl (qt_move rfl) rfl rfl ?_
        refine WL_nil_seq ?_
        refine WP_block ?_
        obtain ⟨o43, ho44, h⟩ := bind_some h
        refine fun a45 ha46 => wp_loop_fix (I := fun s a w2 => match s with | s42 => (Fr a 50 [(8, .int .i64 p38), (37, vp1), (38, .int .i64 (List.length p1 : Int)), (39, .int .i64 s42)] ∧ Below w.heap.size w w2 ∧ Rep w2 (.slice (.int .i64)) [vp1] p1 Fp1)) (O := fun o e a w2 => match o with | .inl _ => e = .exit 2 ∧ (Fr a 50 [] ∧ Below w.heap.size w w2) | .inr q6 => e = .ret ∧ (Fr a 50 [(6, .bool q6)] ∧ Below w.heap.size w w2)) ho44 ?_ ?_ ?_
        · exact ⟨ha46.sub ⟨rfl, rfl, rfl, rfl, trivial⟩, hB40, hm41⟩
        · clear ha46
          intro s o49 a w47 hs48 hI50
          obtain ⟨s42, rfl⟩ : ∃ z, z = s := ⟨s, rfl⟩
          obtain ⟨ha, hB51, hm52⟩ := hI50
          refine WP.app ?_ ha
          clear ha
          refine WP_seq ?_
          refine WP_region ?_
          refine XL_q rfl (qt_lss rfl rfl) rfl rfl ?_
          refine WL_nil_seq ?_
          refine WP_seq ?_
          refine WP_cond rfl (fun hc53 => ?_) (fun hc53 => ?_)
          · have hs48 := if_t hc53 hs48
            refine WP_skip_seq ?_
            refine WP_seq ?_
            refine WP_block ?_
            refine WP_seq ?_
            refine WP_region ?_
            obtain ⟨x54, hx55, hs48⟩ := bind_some hs48
            refine XL_index u22 i3 hm52 hx55 rfl rfl rfl rfl (fun b56 o57 F58 hat59 hsub60 hbm61 => ?_)
            refine XL_load_int u3 rfl hat59 rfl rfl rfl ?_
            refine XL_q rfl (qt_assign rfl) rfl rfl ?_
            refine WL_nil_seq ?_
            refine WP_seq ?_
            refine WP_still ?_
            refine XL_q rfl (qt_move rfl) rfl rfl ?_
            refine XL_q rfl (qt_move rfl) rfl rfl ?_
            refine XL_q rfl (qt_and rfl rfl) rfl rfl ?_
            refine XL_q rfl (qt_int u39 rfl u3) rfl rfl ?_
            obtain ⟨x62, hx63, hs48⟩ := bind_some hs48
            refine QL_call rfl rfl c53 (fun w' hb => w_bits_OnesCount w' (IntKind.wrap .u64 (iand .i64 x54 p38)) x62 hx63) (by rfl) ?_
            refine XL_q rfl (qt_gtr rfl rfl) rfl rfl ?_
            refine QL_nil fun a ha w64 hb65 => ?_
            have hm66 := hm52.below hb65
            have hB67 := bl_trans hB51 hb65
            refine nrm_seq (WP.app ?_ ha)
            refine WP_cond rfl (fun hc68 => ?_) (fun hc68 => ?_)
            · have hs48 := if_t hc68 hs48
              refine WP_seq ?_
              refine WP_region ?_
              refine XL_q rfl (qt_assign rfl) rfl rfl ?_
              refine WL_nil_seq ?_
              refine WP_ret fun a ha => ?_
              obtain rfl := Option.some.inj hs48
              exact ret_block (ret_seq (⟨ret_ne, rfl, ⟨ha.sub ⟨rfl, trivial⟩, hB67⟩⟩))
            · have hs48 := if_f hc68 hs48
              refine WP_skip fun a ha => ?_
              refine nrm_block (nrm_seq (WP.app ?_ ha))
              refine WP_region ?_
              refine XL_q rfl (qt_add rfl rfl) rfl rfl ?_
              refine XL_q rfl (qt_move rfl) rfl rfl ?_
              refine WL_nil fun a ha => ?_
              obtain rfl := Option.some.inj hs48
              exact ⟨rfl, ⟨ha.sub ⟨rfl, rfl, rfl, rfl, trivial⟩, hB67, hm66⟩⟩
          · have hs48 := if_f hc53 hs48
            refine WP_exit fun a ha => ?_
            obtain rfl := Option.some.inj hs48
            exact exit_seq (⟨exit_ne, rfl, ⟨ha.sub trivial, hB51⟩⟩)
        · intro e a45 w69 hO70
          rcases o43 with o43 | o43
          · skip
            obtain ⟨rfl, hO71⟩ := hO70
            obtain ⟨ha, hB72⟩ := hO71
            refine exit_block_eq (nrm_seq (WP.app ?_ ha))
            refine WP_seq ?_
            refine WP_region ?_
            refine XL_q rfl (qt_assign rfl) rfl rfl ?_
            refine WL_nil_seq ?_
            refine WP_ret fun a ha => ?_
            exact ret1 rfl ha rfl ⟨congrArg (fun z => Ending.returned (.bool z)) (Option.some.inj h), hB72⟩
          · skip
            obtain ⟨p73, rfl⟩ : ∃ z, z = o43 := ⟨o43, rfl⟩
            obtain ⟨rfl, hO74⟩ := hO70
            obtain ⟨ha, hB75⟩ := hO74
            exact ret_block (ret_seq (ret1 rfl ha rfl ⟨congrArg (fun z => Ending.returned (.bool z)) (Option.some.inj h), hB75⟩))
      · skip
        obtain ⟨p76, rfl⟩ : ∃ z, z = o12 := ⟨o12, rfl⟩
        obtain ⟨rfl, hO77⟩ := hO37
        obtain ⟨ha, hB78⟩ := hO77
        exact ret_block (ret_seq (ret1 rfl ha rfl ⟨congrArg (fun z => Ending.returned (.bool z)) (Option.some.inj h), hB78⟩))
theorem w_laws_FnExactApartValid (w : World) (p0 : Int) (vp1 : Value) (p1 : List Int) (Fp1 : List Nat) (hmp1 : Rep w (.slice (.int .i64)) [vp1] p1 Fp1) (vp2 : Value) (p2 : List Int) (Fp2 : List Nat) (hmp2 : Rep w (.slice (.int .i64)) [vp2] p2 Fp2) (r : Bool) (h : laws_FnExactApartValidS p0 p1 p2 = some r) : Calls Try.prog 10 #[.int .i64 p0, vp1, vp2] w fun e w' => e = .returned (.bool r) ∧ Below w.heap.size w w' := by
  refine calls_enter (args := [.int .i64 p0, vp1, vp2]) (n := 44) Try.func10 rfl rfl rfl ?_
  unfold laws_FnExactApartValidS at h
  refine WP_seq ?_
  refine WP_region ?_
  refine XL_q rfl (qt_assign rfl) rfl rfl ?_
  refine WL_nil_seq ?_
  refine WP_seq ?_
  refine WP_seq ?_
  refine WP_region ?_
  refine XL_q rfl (qt_move rfl) rfl rfl ?_
  refine XL_len u22 hmp1 rfl rfl rfl ?_
  refine XL_q rfl (qt_gtr rfl rfl) rfl rfl ?_
  refine WL_nil_seq ?_
  refine WP_cond rfl (fun hc1 => ?_) (fun hc1 => ?_)
  · have h := if_t hc1 h
    refine WP_seq ?_
    refine WP_region ?_
    refine XL_q rfl (qt_assign rfl) rfl rfl ?_
    refine WL_nil_seq ?_
    refine WP_ret fun a ha => ?_
    exact ret_seq (ret1 rfl ha rfl ⟨congrArg (fun z => Ending.returned (.bool z)) (Option.some.inj h), (Below.refl _ _)⟩)
  · have h := if_f hc1 h
    refine WP_skip_seq ?_
    refine WP_seq ?_
    refine WP_seq ?_
    refine WP_region ?_
    refine XL_q rfl (qt_move rfl) rfl rfl ?_
    refine XL_len u22 hmp2 rfl rfl rfl ?_
    refine XL_q rfl (qt_gtr rfl rfl) rfl rfl ?_
    refine WL_nil_seq ?_
    refine WP_cond rfl (fun hc2 => ?_) (fun hc2 => ?_)
    · have h := if_t hc2 h
      refine WP_seq ?_
      refine WP_region ?_
      refine XL_q rfl (qt_assign rfl) rfl rfl ?_
      refine WL_nil_seq ?_
      refine WP_ret fun a ha => ?_
      exact ret_seq (ret1 rfl ha rfl ⟨congrArg (fun z => Ending.returned (.bool z)) (Option.some.inj h), (Below.refl _ _)⟩)
    · have h := if_f hc2 h
      refine WP_skip_seq ?_
      refine WP_seq ?_
      refine WP_region ?_
      refine XL_q rfl (qt_move rfl) rfl rfl ?_
      refine XL_q rfl (qt_move rfl) rfl rfl ?_
      obtain ⟨x3, hx4, h⟩ := bind_some h
      refine WL_call rfl rfl c18 (w_laws_toIntS w vp1 p1 Fp1 hmp1 x3 hx4) (by rfl) ?_
      rintro _ w6 ⟨v5, F7, rfl, hm8, hf10, hb9⟩; refine ⟨_, rfl, ?_⟩
      have hl11 := lo_fresh (Below.refl _ _) hf10
      have hm12 := hmp1.below hb9
      have hm13 := hmp2.below hb9
      have hB14 := bl_trans (Below.refl _ _) hb9
      have hd15 : Dj F7 Fp1 := dj_fresh hf10 hmp1.lt
      have hd16 : Dj F7 Fp2 := dj_fresh hf10 hmp2.lt
      refine XL_q rfl (qt_move rfl) rfl rfl ?_
      obtain ⟨x17, hx18, h⟩ := bind_some h
      refine WL_call rfl rfl c18 (w_laws_toIntS w6 vp2 p2 Fp2 hm13 x17 hx18) (by rfl) ?_
      rintro _ w20 ⟨v19, F21, rfl, hm22, hf24, hb23⟩; refine ⟨_, rfl, ?_⟩
      have hl25 := lo_fresh hB14 hf24
      have hm26 := hm12.below hb23
      have hm27 := hm13.below hb23
      have hm28 := hm8.below hb23
      have hB29 := bl_trans hB14 hb23
      have hd30 : Dj F21 Fp1 := dj_fresh hf24 hm12.lt
      have hd31 : Dj F21 Fp2 := dj_fresh hf24 hm13.lt
      have hd32 : Dj F21 F7 := dj_fresh hf24 hm8.lt
      obtain ⟨x33, hx34, h⟩ := bind_some h
      obtain ⟨F35, hr36, hs37⟩ := Own.rep hm28
      obtain ⟨F38, hr39, hs40⟩ := Own.rep hm22
      refine WL_call rfl rfl c35 (w_spec_ApartValid w20 p0 v5 x3 F35 hr36 v19 x17 F38 hr39 x33 hx34) (by rfl) ?_
      rintro _ w41 ⟨rfl, hb42⟩; refine ⟨_, rfl, ?_⟩
      have hm43 := hm26.below hb42
      have hm44 := hm27.below hb42
      have hm45 := hm28.below hb42
      have hm46 := hm22.below hb42
      have hB47 := bl_trans hB29 hb42
      refine XL_q rfl (qt_assign rfl) rfl rfl ?_
      refine WL_nil_seq ?_
      refine WP_seq ?_
      refine WP_region ?_
      refine XL_q rfl (qt_move rfl) rfl rfl ?_
      obtain ⟨x48, hx49, h⟩ := bind_some h
      refine WL_call rfl rfl c18 (w_laws_toIntS w41 vp1 p1 Fp1 hm43 x48 hx49) (by rfl) ?_
      rintro _ w51 ⟨v50, F52, rfl, hm53, hf55, hb54⟩; refine ⟨_, rfl, ?_⟩
      have hl56 := lo_fresh hB47 hf55
      have hm57 := hm43.below hb54
      have hm58 := hm44.below hb54
      have hm59 := hm45.below hb54
      have hm60 := hm46.below hb54
      have hB61 := bl_trans hB47 hb54
      have hd62 : Dj F52 Fp1 := dj_fresh hf55 hm43.lt
      have hd63 : Dj F52 Fp2 := dj_fresh hf55 hm44.lt
      have hd64 : Dj F52 F7 := dj_fresh hf55 hm45.lt
      have hd65 : Dj F52 F21 := dj_fresh hf55 hm46.lt
      refine XL_q rfl (qt_assign rfl) rfl rfl ?_
      refine WL_nil_seq ?_
      refine WP_seq ?_
      refine WP_region ?_
      refine XL_q rfl (qt_move rfl) rfl rfl ?_
      obtain ⟨x66, hx67, h⟩ := bind_some h
      refine WL_call rfl rfl c18 (w_laws_toIntS w51 vp2 p2 Fp2 hm58 x66 hx67) (by rfl) ?_
      rintro _ w69 ⟨v68, F70, rfl, hm71, hf73, hb72⟩; refine ⟨_, rfl, ?_⟩
      have hl74 := lo_fresh hB61 hf73
      have hm75 := hm57.below hb72
      have hm76 := hm58.below hb72
      have hm77 := hm53.below hb72
      have hm78 := hm59.below hb72
      have hm79 := hm60.below hb72
      have hB80 := bl_trans hB61 hb72
      have hd81 : Dj F70 Fp1 := dj_fresh hf73 hm57.lt
      have hd82 : Dj F70 Fp2 := dj_fresh hf73 hm58.lt
      have hd83 : Dj F70 F52 := dj_fresh hf73 hm53.lt
      have hd84 : Dj F70 F7 := dj_fresh hf73 hm59.lt
      have hd85 : Dj F70 F21 := dj_fresh hf73 hm60.lt
      refine XL_q rfl (qt_assign rfl) rfl rfl ?_
      refine WL_nil_seq ?_
      refine WP_seq ?_
      refine WP_still ?_
      refine XL_q rfl (qt_move rfl) rfl rfl ?_
      refine XL_q rfl (qt_move rfl) rfl rfl ?_
      refine XL_q rfl (qt_move rfl) rfl rfl ?_
      obtain ⟨x86, hx87, h⟩ := bind_some h
      obtain ⟨F88, hr89, hs90⟩ := Own.rep hm77
      obtain ⟨F91, hr92, hs93⟩ := Own.rep hm71
      refine QL_call rfl rfl c36 (fun w' hb => w_impl_ApartValid w' p0 v50 x48 F88 (hr89.below hb) v68 x66 F91 (hr92.below hb) x86 hx87) (by rfl) ?_
      refine XL_q rfl (qt_assign rfl) rfl rfl ?_
      refine QL_nil fun a ha w94 hb95 => ?_
      have hm96 := hm75.below hb95
      have hm97 := hm76.below hb95
      have hm98 := hm77.below hb95
      have hm99 := hm71.below hb95
      have hB100 := bl_trans hB80 hb95
      refine nrm_seq (WP.app ?_ ha)
      refine WP_seq ?_
      refine WP_seq ?_
      refine WP_region ?_
      refine XL_q rfl (qt_move rfl) rfl rfl ?_
      refine XL_q rfl (qt_move rfl) rfl rfl ?_
      refine XL_q rfl (qt_bneq u4 rfl rfl) rfl rfl ?_
      refine WL_nil_seq ?_
      refine WP_cond rfl (fun hc101 => ?_) (fun hc101 => ?_)
      · have h := if_t hc101 h
        refine WP_seq ?_
        refine WP_region ?_
        refine XL_q rfl (qt_assign rfl) rfl rfl ?_
        refine WL_nil_seq ?_
        refine WP_ret fun a ha => ?_
        exact ret_seq (ret1 rfl ha rfl ⟨congrArg (fun z => Ending.returned (.bool z)) (Option.some.inj h), hB100⟩)
      · have h := if_f hc101 h
        refine WP_skip_seq ?_
        refine WP_seq ?_
        refine WP_seq ?_
        refine WP_region ?_
        refine XL_q rfl (qt_move rfl) rfl rfl ?_
        refine XL_q rfl (qt_move rfl) rfl rfl ?_
        obtain ⟨x102, hx103, h⟩ := bind_some h
        refine WL_call rfl rfl c18 (w_laws_toIntS w94 vp1 p1 Fp1 hm96 x102 hx103) (by rfl) ?_
        rintro _ w105 ⟨v104, F106, rfl, hm107, hf109, hb108⟩; refine ⟨_, rfl, ?_⟩
        have hl110 := lo_fresh hB100 hf109
        have hm111 := hm96.below hb108
        have hm112 := hm97.below hb108
        have hm113 := hm98.below hb108
        have hm114 := hm99.below hb108
        have hB115 := bl_trans hB100 hb108
        have hd116 : Dj F106 Fp1 := dj_fresh hf109 hm96.lt
        have hd117 : Dj F106 Fp2 := dj_fresh hf109 hm97.lt
        have hd118 : Dj F106 F52 := dj_fresh hf109 hm98.lt
        have hd119 : Dj F106 F70 := dj_fresh hf109 hm99.lt
        obtain ⟨x120, hx121, h⟩ := bind_some h
        obtain ⟨F122, hr123, hs124⟩ := Own.rep hm113
        obtain ⟨F125, hr126, hs127⟩ := Own.rep hm107
        refine WL_call rfl rfl c20 (w_laws_eqIntS w105 v50 x48 F122 hr123 v104 x102 F125 hr126 x120 hx121) (by rfl) ?_
        rintro _ w128 ⟨rfl, hb129⟩; refine ⟨_, rfl, ?_⟩
        have hm130 := hm111.below hb129
        have hm131 := hm112.below hb129
        have hm132 := hm113.below hb129
        have hm133 := hm114.below hb129
        have hm134 := hm107.below hb129
        have hB135 := bl_trans hB115 hb129
        refine XL_q rfl (qt_not rfl) rfl rfl ?_
        refine WL_nil_seq ?_
        refine WP_cond rfl (fun hc136 => ?_) (fun hc136 => ?_)
        · have h := if_t hc136 h
          refine WP_seq ?_
          refine WP_region ?_
          refine XL_q rfl (qt_assign rfl) rfl rfl ?_
          refine WL_nil_seq ?_
          refine WP_ret fun a ha => ?_
          exact ret_seq (ret1 rfl ha rfl ⟨congrArg (fun z => Ending.returned (.bool z)) (Option.some.inj h), hB135⟩)
        · have h := if_f hc136 h
          refine WP_skip_seq ?_
          refine WP_seq ?_
          refine WP_seq ?_
          refine WP_region ?_
          refine XL_q rfl (qt_move rfl) rfl rfl ?_
          refine XL_q rfl (qt_move rfl) rfl rfl ?_
          obtain ⟨x137, hx138, h⟩ := bind_some h
          refine WL_call rfl rfl c18 (w_laws_toIntS w128 vp2 p2 Fp2 hm131 x137 hx138) (by rfl) ?_
          rintro _ w140 ⟨v139, F141, rfl, hm142, hf144, hb143⟩; refine ⟨_, rfl, ?_⟩
          have hl145 := lo_fresh hB135 hf144
          have hm146 := hm130.below hb143
          have hm147 := hm131.below hb143
          have hm148 := hm132.below hb143
          have hm149 := hm133.below hb143
          have hm150 := hm134.below hb143
          have hB151 := bl_trans hB135 hb143
          have hd152 : Dj F141 Fp1 := dj_fresh hf144 hm130.lt
          have hd153 : Dj F141 Fp2 := dj_fresh hf144 hm131.lt
          have hd154 : Dj F141 F52 := dj_fresh hf144 hm132.lt
          have hd155 : Dj F141 F70 := dj_fresh hf144 hm133.lt
          have hd156 : Dj F141 F106 := dj_fresh hf144 hm134.lt
          obtain ⟨x157, hx158, h⟩ := bind_some h
          obtain ⟨F159, hr160, hs161⟩ := Own.rep hm149
          obtain ⟨F162, hr163, hs164⟩ := Own.rep hm142
          refine WL_call rfl rfl c20 (w_laws_eqIntS w140 v68 x66 F159 hr160 v139 x137 F162 hr163 x157 hx158) (by rfl) ?_
          rintro _ w165 ⟨rfl, hb166⟩; refine ⟨_, rfl, ?_⟩
          have hm167 := hm146.below hb166
          have hm168 := hm147.below hb166
          have hm169 := hm148.below hb166
          have hm170 := hm149.below hb166
          have hm171 := hm150.below hb166
          have hm172 := hm142.below hb166
          have hB173 := bl_trans hB151 hb166
          refine XL_q rfl (qt_not rfl) rfl rfl ?_
          refine WL_nil_seq ?_
          refine WP_cond rfl (fun hc174 => ?_) (fun hc174 => ?_)
          · have h := if_t hc174 h
            refine WP_seq ?_
            refine WP_region ?_
            refine XL_q rfl (qt_assign rfl) rfl rfl ?_
            refine WL_nil_seq ?_
            refine WP_ret fun a ha => ?_
            exact ret_seq (ret1 rfl ha rfl ⟨congrArg (fun z => Ending.returned (.bool z)) (Option.some.inj h), hB173⟩)
          · have h := if_f hc174 h
            refine WP_skip_seq ?_
            refine WP_seq ?_
            refine WP_region ?_
            refine XL_q rfl (qt_assign rfl) rfl rfl ?_
            refine WL_nil_seq ?_
            refine WP_ret fun a ha => ?_
            exact ret1 rfl ha rfl ⟨congrArg (fun z => Ending.returned (.bool z)) (Option.some.inj h), hB173⟩
theorem w_spec_l1Meet (w : World) (p0 : Int) (p1 : Int) (r : Int) (h : spec_l1MeetS p0 p1 = some r) : Calls Try.prog 56 #[.int .i64 p0, .int .i64 p1] w fun e w' => e = .returned (.int .i64 r) ∧ Below w.heap.size w w' := by
  refine calls_enter (args := [.int .i64 p0, .int .i64 p1]) (n := 12) Try.func56 rfl rfl rfl ?_
  unfold spec_l1MeetS at h
  refine WP_seq ?_
  refine WP_region ?_
  refine XL_q rfl (qt_assign rfl) rfl rfl ?_
  refine WL_nil_seq ?_
  refine WP_seq ?_
  refine WP_still ?_
  refine XL_q rfl (qt_move rfl) rfl rfl ?_
  refine XL_q rfl (qt_move rfl) rfl rfl ?_
  refine XL_q rfl (qt_add rfl rfl) rfl rfl ?_
  refine XL_q rfl (qt_move rfl) rfl rfl ?_
  refine XL_q rfl (qt_move rfl) rfl rfl ?_
  obtain ⟨x1, hx2, h⟩ := bind_some h
  refine QL_call rfl rfl c59 (fun w' hb => w_spec_l1Join w' p0 p1 x1 hx2) (by rfl) ?_
  refine XL_q rfl (qt_sub rfl rfl) rfl rfl ?_
  refine XL_q rfl (qt_assign rfl) rfl rfl ?_
  refine QL_nil fun a ha w3 hb4 => ?_
  have hB5 := bl_trans (Below.refl _ _) hb4
  refine nrm_seq (WP.app ?_ ha)
  refine WP_ret fun a ha => ?_
  exact ret1 rfl ha rfl ⟨congrArg (fun z => Ending.returned (.int .i64 z)) (Option.some.inj h), hB5⟩
theorem w_spec_CliqueMost (w : World) (p0 : Int) (vp1 : Value) (p1 : List Int) (Fp1 : List Nat) (hmp1 : Rep w (.slice (.int .i64)) [vp1] p1 Fp1) (r : Int) (h : spec_CliqueMostS p0 p1 = some r) : Calls Try.prog 37 #[.int .i64 p0, vp1] w fun e w' => e = .returned (.int .i64 r) ∧ Below w.heap.size w w' := by
  refine calls_enter (args := [.int .i64 p0, vp1]) (n := 51) Try.func37 rfl rfl rfl ?_
  unfold spec_CliqueMostS at h
  refine WP_seq ?_
  refine WP_region ?_
  refine XL_q rfl (qt_assign rfl) rfl rfl ?_
  refine WL_nil_seq ?_
  refine WP_seq ?_
  refine WP_seq ?_
  refine WP_still ?_
  refine XL_q rfl (qt_move rfl) rfl rfl ?_
  refine XL_q rfl (qt_move rfl) rfl rfl ?_
  obtain ⟨x1, hx2, h⟩ := bind_some h
  refine QL_call rfl rfl c23 (fun w' hb => w_spec_QuarrelsValid w' p0 vp1 p1 Fp1 (hmp1.below hb) x1 hx2) (by rfl) ?_
  refine XL_q rfl (qt_not rfl) rfl rfl ?_
  refine QL_nil fun a ha w3 hb4 => ?_
  have hm5 := hmp1.below hb4
  have hB6 := bl_trans (Below.refl _ _) hb4
  refine nrm_seq (WP.app ?_ ha)
  refine WP_cond rfl (fun hc7 => ?_) (fun hc7 => ?_)
  · have h := if_t hc7 h
    refine WP_seq ?_
    refine WP_region ?_
    refine XL_q rfl (qt_assign rfl) rfl rfl ?_
    refine WL_nil_seq ?_
    refine WP_ret fun a ha => ?_
    exact ret_seq (ret1 rfl ha rfl ⟨congrArg (fun z => Ending.returned (.int .i64 z)) (Option.some.inj h), hB6⟩)
  · have h := if_f hc7 h
    refine WP_skip_seq ?_
    refine WP_seq ?_
    refine WP_region ?_
    refine XL_q rfl (qt_assign rfl) rfl rfl ?_
    refine WL_nil_seq ?_
    refine WP_seq ?_
    refine WP_seq ?_
    refine WP_region ?_
    refine XL_q rfl (qt_assign rfl) rfl rfl ?_
    refine WL_nil_seq ?_
    refine WP_block ?_
    obtain ⟨o10, ho11, h⟩ := bind_some h
    refine fun a12 ha13 => wp_loop_fix (I := fun s a w2 => match s with | (s8, s9) => (Fr a 51 [(0, .int .i64 p0), (1, vp1), (5, .int .i64 s8), (6, .int .i64 s9)] ∧ Below w.heap.size w w2 ∧ Rep w2 (.slice (.int .i64)) [vp1] p1 Fp1)) (O := fun o e a w2 => match o with | q5 => e = .exit 0 ∧ (Fr a 51 [(5, .int .i64 q5)] ∧ Below w.heap.size w w2)) ho11 ?_ ?_ ?_
    · exact ⟨ha13.sub ⟨rfl, rfl, rfl, rfl, trivial⟩, hB6, hm5⟩
    · clear ha13
      intro s o16 a w14 hs15 hI17
      obtain ⟨s8, s9⟩ := s
      obtain ⟨ha, hB18, hm19⟩ := hI17
      refine WP.app ?_ ha
      clear ha
      refine WP_seq ?_
      refine WP_seq ?_
      refine WP_region ?_
      refine XL_q rfl (qt_move rfl) rfl rfl ?_
      refine XL_q rfl (qt_move rfl) rfl rfl ?_
      obtain ⟨x20, hx21, hs15⟩ := bind_some hs15
      refine XL_q rfl (qt_shlO rfl rfl hx21) rfl rfl ?_
      refine XL_q rfl (qt_lss rfl rfl) rfl rfl ?_
      refine WL_nil_seq ?_
      refine WP_cond rfl (fun hc22 => ?_) (fun hc22 => ?_)
      · have hs15 := if_t hc22 hs15
        refine WP_skip_seq ?_
        refine WP_seq ?_
        refine WP_block ?_
        refine WP_seq ?_
        refine WP_region ?_
        refine XL_q rfl (qt_assign rfl) rfl rfl ?_
        refine WL_nil_seq ?_
        refine WP_seq ?_
        refine WP_seq ?_
        refine WP_region ?_
        refine XL_q rfl (qt_assign rfl) rfl rfl ?_
        refine WL_nil_seq ?_
        refine WP_block ?_
        obtain ⟨o25, ho26, hs15⟩ := bind_some hs15
        refine fun a27 ha28 => wp_loop_fix (I := fun s a w2 => match s with | (s23, s24) => (Fr a 51 [(0, .int .i64 p0), (1, vp1), (5, .int .i64 s8), (6, .int .i64 s9), (7, .bool s23), (8, .int .i64 s24)] ∧ Below w.heap.size w w2 ∧ Rep w2 (.slice (.int .i64)) [vp1] p1 Fp1)) (O := fun o e a w2 => match o with | q7 => e = .exit 2 ∧ (Fr a 51 [(0, .int .i64 p0), (1, vp1), (5, .int .i64 s8), (6, .int .i64 s9), (7, .bool q7)] ∧ Below w.heap.size w w2 ∧ Rep w2 (.slice (.int .i64)) [vp1] p1 Fp1)) ho26 ?_ ?_ ?_
        · exact ⟨ha28.sub ⟨rfl, rfl, rfl, rfl, rfl, rfl, trivial⟩, hB18, hm19⟩
        · clear ha28
          intro s o31 a w29 hs30 hI32
          obtain ⟨s23, s24⟩ := s
          obtain ⟨ha, hB33, hm34⟩ := hI32
          refine WP.app ?_ ha
          clear ha
          refine WP_seq ?_
          refine WP_seq ?_
          refine WP_region ?_
          refine XL_q rfl (qt_move rfl) rfl rfl ?_
          refine XL_q rfl (qt_move rfl) rfl rfl ?_
          refine XL_q rfl (qt_lss rfl rfl) rfl rfl ?_
          refine WL_nil_seq ?_
          refine WP_cond rfl (fun hc35 => ?_) (fun hc35 => ?_)
          · have hs30 := if_t hc35 hs30
            refine WP_skip_seq ?_
            refine WP_seq ?_
            refine WP_block ?_
            refine WP_quiet (by kernel_rfl) (by kernel_rfl) ?_
            refine XL_q rfl (qt_move rfl) rfl rfl ?_
            refine XL_q rfl (qt_move rfl) rfl rfl ?_
            obtain ⟨b36, hg37, hs30⟩ := bind_some hs30
            refine XL_join 19 44 (.bool b36) ?_ (fun md hmd hk => ?_)
            rotate_left
            · obtain ⟨K, rfl⟩ := Md.quiet_of hmd
              rcases btf s23 with hc38 | hc38
              · skip
                have hg37 := if_t hc38 hg37
                refine XL_q (w_take rfl hc38) (qt_move rfl) rfl rfl ?_
                refine XL_q (w_take rfl hc38) (qt_move rfl) rfl rfl ?_
                obtain ⟨x39, hx40, hg37⟩ := bind_some hg37
                refine XL_q (w_take rfl hc38) (qt_shrO rfl rfl hx40) rfl rfl ?_
                refine XL_q (w_take rfl hc38) (qt_rem rfl rfl (by decide)) rfl rfl ?_
                refine XL_q (w_take rfl hc38) (qt_eql rfl rfl) rfl rfl ?_
                refine XL_q (w_take rfl hc38) (qt_move rfl) rfl rfl ?_
                obtain ⟨b41, hg42, hg37⟩ := bind_some hg37
                refine XL_join 12 43 (.bool b41) ?_ (fun md hmd hk => ?_)
                rotate_left
                · obtain ⟨K, rfl⟩ := Md.quiet_of hmd
                  rcases btf ((Int.tmod x39 2) == 0) with hc43 | hc43
                  · skip
                    refine XL_skip (w_skip rfl hc43) rfl rfl ?_
                    refine XL_skip (w_skip rfl hc43) rfl rfl ?_
                    refine XL_skip (w_skip rfl hc43) rfl rfl ?_
                    refine XL_skip (w_skip rfl hc43) rfl rfl ?_
                    refine XL_skip (w_skip rfl hc43) rfl rfl ?_
                    refine XL_skip (w_skip rfl hc43) rfl rfl ?_
                    refine XL_skip (w_skip rfl hc43) rfl rfl ?_
                    refine XL_skip (w_skip rfl hc43) rfl rfl ?_
                    refine XL_skip (w_skip rfl hc43) rfl rfl ?_
                    refine XL_skip (w_skip rfl hc43) rfl rfl ?_
                    refine XL_skip (w_skip rfl hc43) rfl rfl ?_
                    refine XL_q (w_take rfl hc38) (qt_pickT rfl hc43 rfl) rfl rfl ?_
                    exact hk _ (Cov.same (vb (if_t hc43 hg42)) (Cov.fresh rfl (Cov.fresh rfl (Cov.fresh rfl (Cov.fresh rfl (Cov.fresh rfl (Cov.fresh rfl (Cov.fresh rfl (Cov.fresh rfl (Cov.fresh rfl (Cov.fresh rfl (Cov.fresh rfl (Cov.refl)))))))))))))
                  · skip
                    have hg42 := if_f hc43 hg42
                    refine XL_q (w_take rfl hc43) (qt_move rfl) rfl rfl ?_
                    refine XL_q (w_take rfl hc43) (qt_move rfl) rfl rfl ?_
                    obtain ⟨x44, hx45, hg42⟩ := bind_some hg42
                    refine XL_index u22 i3 hm34 hx45 (w_take rfl hc43) rfl rfl rfl (fun b46 o47 F48 hat49 hsub50 hbm51 => ?_)
                    refine XL_load_int u3 rfl hat49 (w_take rfl hc43) rfl rfl ?_
                    refine XL_q (w_take rfl hc43) (qt_move rfl) rfl rfl ?_
                    obtain ⟨x52, hx53, hg42⟩ := bind_some hg42
                    refine QL_call (w_take rfl hc43) rfl c56 (fun w' hb => w_spec_l1Meet w' x44 s9 x52 hx53) (by rfl) ?_
                    refine XL_q (w_take rfl hc43) (qt_move rfl) rfl rfl ?_
                    refine XL_q (w_take rfl hc43) (qt_move rfl) rfl rfl ?_
                    obtain ⟨x54, hx55, hg42⟩ := bind_some hg42
                    refine XL_q (w_take rfl hc43) (qt_shlO rfl rfl hx55) rfl rfl ?_
                    refine XL_q (w_take rfl hc43) (qt_sub rfl rfl) rfl rfl ?_
                    refine XL_q (w_take rfl hc43) (qt_eql rfl rfl) rfl rfl ?_
                    refine XL_q (w_take rfl hc38) (qt_pickF rfl hc43 rfl) rfl rfl ?_
                    exact hk _ (Cov.same (vb hg42) (Cov.fresh rfl (Cov.fresh rfl (Cov.fresh rfl (Cov.fresh rfl (Cov.fresh rfl (Cov.fresh rfl (Cov.fresh rfl (Cov.fresh rfl (Cov.fresh rfl (Cov.fresh rfl (Cov.fresh rfl (Cov.refl)))))))))))))
                refine XL_q rfl (qt_pickT rfl hc38 rfl) rfl rfl ?_
                exact hk _ (Cov.same (vb hg37) (Cov.fresh rfl (Cov.fresh rfl (Cov.fresh rfl (Cov.fresh rfl (Cov.fresh rfl (Cov.fresh rfl (Cov.fresh rfl (Cov.refl)))))))))
              · skip
                refine XL_skip (w_skip rfl hc38) rfl rfl ?_
                refine XL_skip (w_skip rfl hc38) rfl rfl ?_
                refine XL_skip (w_skip rfl hc38) rfl rfl ?_
                refine XL_skip (w_skip rfl hc38) rfl rfl ?_
                refine XL_skip (w_skip rfl hc38) rfl rfl ?_
                refine XL_skip (w_skip rfl hc38) rfl rfl ?_
                refine XL_skip rfl rfl rfl ?_
                refine XL_skip rfl rfl rfl ?_
                refine XL_skip rfl rfl rfl ?_
                refine XL_skip rfl rfl rfl ?_
                refine XL_skip rfl rfl rfl ?_
                refine XL_skip rfl rfl rfl ?_
                refine XL_skip rfl rfl rfl ?_
                refine XL_skip rfl rfl rfl ?_
                refine XL_skip rfl rfl rfl ?_
                refine XL_skip rfl rfl rfl ?_
                refine XL_skip rfl rfl rfl ?_
                refine XL_skip (w_skip rfl hc38) rfl rfl ?_
                refine XL_q rfl (qt_pickF rfl hc38 rfl) rfl rfl ?_
                exact hk _ (Cov.same (vb (if_f hc38 hg37)) (Cov.fresh rfl (Cov.fresh rfl (Cov.fresh rfl (Cov.fresh rfl (Cov.fresh rfl (Cov.fresh rfl (Cov.fresh rfl (Cov.fresh rfl (Cov.fresh rfl (Cov.fresh rfl (Cov.fresh rfl (Cov.fresh rfl (Cov.fresh rfl (Cov.fresh rfl (Cov.fresh rfl (Cov.fresh rfl (Cov.fresh rfl (Cov.fresh rfl (Cov.refl))))))))))))))))))))
            refine XL_q rfl (qt_assign rfl) rfl rfl ?_
            refine QL_nil fun a ha w56 hb57 => ?_
            have hm58 := hm34.below hb57
            have hB59 := bl_trans hB33 hb57
            refine nrm_block (nrm_seq (WP.app ?_ ha))
            refine WP_region ?_
            refine XL_q rfl (qt_move rfl) rfl rfl ?_
            refine XL_q rfl (qt_add rfl rfl) rfl rfl ?_
            refine XL_q rfl (qt_assign rfl) rfl rfl ?_
            refine WL_nil fun a ha => ?_
            obtain rfl := Option.some.inj hs30
            exact ⟨rfl, ⟨ha.sub ⟨rfl, rfl, rfl, rfl, rfl, rfl, trivial⟩, hB59, hm58⟩⟩
          · have hs30 := if_f hc35 hs30
            refine WP_exit fun a ha => ?_
            obtain rfl := Option.some.inj hs30
            exact exit_seq (⟨exit_ne, rfl, ⟨ha.sub ⟨rfl, rfl, rfl, rfl, rfl, trivial⟩, hB33, hm34⟩⟩)
        · intro e a27 w60 hO61
          obtain ⟨p62, rfl⟩ : ∃ z, z = o25 := ⟨o25, rfl⟩
          obtain ⟨rfl, hO63⟩ := hO61
          obtain ⟨ha, hB64, hm65⟩ := hO63
          refine exit_block_eq (nrm_seq (WP.app ?_ ha))
          refine WP_seq ?_
          refine WP_region ?_
          refine XL_q rfl (qt_move rfl) rfl rfl ?_
          refine WL_nil_seq ?_
          refine WP_cond rfl (fun hc66 => ?_) (fun hc66 => ?_)
          · have hs15 := if_t hc66 hs15
            refine WP_still ?_
            refine XL_q rfl (qt_move rfl) rfl rfl ?_
            refine XL_q rfl (qt_move rfl) rfl rfl ?_
            obtain ⟨x67, hx68, hs15⟩ := bind_some hs15
            refine QL_call rfl rfl c52 (fun w' hb => w_spec_l6Count w' s9 x67 hx68) (by rfl) ?_
            refine XL_q rfl (qt_max rfl rfl) rfl rfl ?_
            refine XL_q rfl (qt_assign rfl) rfl rfl ?_
            refine QL_nil fun a ha w69 hb70 => ?_
            have hm71 := hm65.below hb70
            have hB72 := bl_trans hB64 hb70
            refine nrm_block (nrm_seq (WP.app ?_ ha))
            refine WP_region ?_
            refine XL_q rfl (qt_move rfl) rfl rfl ?_
            refine XL_q rfl (qt_add rfl rfl) rfl rfl ?_
            refine XL_q rfl (qt_assign rfl) rfl rfl ?_
            refine WL_nil fun a ha => ?_
            obtain rfl := Option.some.inj hs15
            exact ⟨rfl, ⟨ha.sub ⟨rfl, rfl, rfl, rfl, trivial⟩, hB72, hm71⟩⟩
          · have hs15 := if_f hc66 hs15
            refine WP_skip fun a ha => ?_
            refine nrm_block (nrm_seq (WP.app ?_ ha))
            refine WP_region ?_
            refine XL_q rfl (qt_move rfl) rfl rfl ?_
            refine XL_q rfl (qt_add rfl rfl) rfl rfl ?_
            refine XL_q rfl (qt_assign rfl) rfl rfl ?_
            refine WL_nil fun a ha => ?_
            obtain rfl := Option.some.inj hs15
            exact ⟨rfl, ⟨ha.sub ⟨rfl, rfl, rfl, rfl, trivial⟩, hB64, hm65⟩⟩
      · have hs15 := if_f hc22 hs15
        refine WP_exit fun a ha => ?_
        obtain rfl := Option.some.inj hs15
        exact exit_seq (⟨exit_ne, rfl, ⟨ha.sub ⟨rfl, trivial⟩, hB18⟩⟩)
    · intro e a12 w73 hO74
      obtain ⟨p75, rfl⟩ : ∃ z, z = o10 := ⟨o10, rfl⟩
      obtain ⟨rfl, hO76⟩ := hO74
      obtain ⟨ha, hB77⟩ := hO76
      refine exit_block_eq (nrm_seq (WP.app ?_ ha))
      refine WP_seq ?_
      refine WP_region ?_
      refine XL_q rfl (qt_move rfl) rfl rfl ?_
      refine XL_q rfl (qt_assign rfl) rfl rfl ?_
      refine WL_nil_seq ?_
      refine WP_ret fun a ha => ?_
      exact ret1 rfl ha rfl ⟨congrArg (fun z => Ending.returned (.int .i64 z)) (Option.some.inj h), hB77⟩
theorem w_impl_CliqueMost (w : World) (p0 : Int) (vp1 : Value) (p1 : List Int) (Fp1 : List Nat) (hmp1 : Rep w (.slice (.int .i64)) [vp1] p1 Fp1) (r : Int) (h : impl_CliqueMostS p0 p1 = some r) : Calls Try.prog 38 #[.int .i64 p0, vp1] w fun e w' => e = .returned (.int .i64 r) ∧ Below w.heap.size w w' := by
  refine calls_enter (args := [.int .i64 p0, vp1]) (n := 46) Try.func38 rfl rfl rfl ?_
  unfold impl_CliqueMostS at h
  refine WP_seq ?_
  refine WP_region ?_
  refine XL_q rfl (qt_assign rfl) rfl rfl ?_
  refine WL_nil_seq ?_
  refine WP_seq ?_
  refine WP_seq ?_
  refine WP_still ?_
  refine XL_q rfl (qt_move rfl) rfl rfl ?_
  refine XL_q rfl (qt_move rfl) rfl rfl ?_
  obtain ⟨x1, hx2, h⟩ := bind_some h
  refine QL_call rfl rfl c24 (fun w' hb => w_impl_QuarrelsValid w' p0 vp1 p1 Fp1 (hmp1.below hb) x1 hx2) (by rfl) ?_
  refine XL_q rfl (qt_not rfl) rfl rfl ?_
  refine QL_nil fun a ha w3 hb4 => ?_
  have hm5 := hmp1.below hb4
  have hB6 := bl_trans (Below.refl _ _) hb4
  refine nrm_seq (WP.app ?_ ha)
  refine WP_cond rfl (fun hc7 => ?_) (fun hc7 => ?_)
  · have h := if_t hc7 h
    refine WP_seq ?_
    refine WP_region ?_
    refine XL_q rfl (qt_assign rfl) rfl rfl ?_
    refine WL_nil_seq ?_
    refine WP_ret fun a ha => ?_
    exact ret_seq (ret1 rfl ha rfl ⟨congrArg (fun z => Ending.returned (.int .i64 z)) (Option.some.inj h), hB6⟩)
  · have h := if_f hc7 h
    refine WP_skip_seq ?_
    refine WP_seq ?_
    refine WP_region ?_
    refine XL_q rfl (qt_assign rfl) rfl rfl ?_
    refine WL_nil_seq ?_
    refine WP_seq ?_
    refine WP_seq ?_
    refine WP_region ?_
    refine XL_q rfl (qt_assign rfl) rfl rfl ?_
    refine WL_nil_seq ?_
    refine WP_block ?_
    obtain ⟨o10, ho11, h⟩ := bind_some h
    refine fun a12 ha13 => wp_loop_fix (I := fun s a w2 => match s with | (s8, s9) => (Fr a 46 [(0, .int .i64 p0), (1, vp1), (5, .int .i64 s8), (6, .int .i64 s9)] ∧ Below w.heap.size w w2 ∧ Rep w2 (.slice (.int .i64)) [vp1] p1 Fp1)) (O := fun o e a w2 => match o with | q5 => e = .exit 0 ∧ (Fr a 46 [(5, .int .i64 q5)] ∧ Below w.heap.size w w2)) ho11 ?_ ?_ ?_
    · exact ⟨ha13.sub ⟨rfl, rfl, rfl, rfl, trivial⟩, hB6, hm5⟩
    · clear ha13
      intro s o16 a w14 hs15 hI17
      obtain ⟨s8, s9⟩ := s
      obtain ⟨ha, hB18, hm19⟩ := hI17
      refine WP.app ?_ ha
      clear ha
      refine WP_seq ?_
      refine WP_seq ?_
      refine WP_region ?_
      refine XL_q rfl (qt_move rfl) rfl rfl ?_
      refine XL_q rfl (qt_move rfl) rfl rfl ?_
      obtain ⟨x20, hx21, hs15⟩ := bind_some hs15
      refine XL_q rfl (qt_shlO rfl rfl hx21) rfl rfl ?_
      refine XL_q rfl (qt_lss rfl rfl) rfl rfl ?_
      refine WL_nil_seq ?_
      refine WP_cond rfl (fun hc22 => ?_) (fun hc22 => ?_)
      · have hs15 := if_t hc22 hs15
        refine WP_skip_seq ?_
        refine WP_seq ?_
        refine WP_block ?_
        refine WP_seq ?_
        refine WP_region ?_
        refine XL_q rfl (qt_move rfl) rfl rfl ?_
        obtain ⟨x23, hx24, hs15⟩ := bind_some hs15
        refine WL_call rfl rfl c54 (w_impl_membersOf w14 s9 x23 hx24) (by rfl) ?_
        rintro _ w26 ⟨v25, F27, rfl, hm28, hf30, hb29⟩; refine ⟨_, rfl, ?_⟩
        have hl31 := lo_fresh hB18 hf30
        have hm32 := hm19.below hb29
        have hB33 := bl_trans hB18 hb29
        have hd34 : Dj F27 Fp1 := dj_fresh hf30 hm19.lt
        refine XL_q rfl (qt_assign rfl) rfl rfl ?_
        refine WL_nil_seq ?_
        refine WP_seq ?_
        refine WP_region ?_
        refine XL_q rfl (qt_assign rfl) rfl rfl ?_
        refine WL_nil_seq ?_
        refine WP_seq ?_
        refine WP_seq ?_
        refine WP_region ?_
        refine XL_q rfl (qt_move rfl) rfl rfl ?_
        obtain ⟨F35, hr36, hs37⟩ := Own.rep hm28
        refine XL_len u22 hr36 rfl rfl rfl ?_
        refine XL_q rfl (qt_move rfl) rfl rfl ?_
        refine WL_nil_seq ?_
        refine WP_block ?_
        obtain ⟨o40, ho41, hs15⟩ := bind_some hs15
        refine fun a42 ha43 => wp_loop_fix (I := fun s a w2 => match s with | (s38, s39) => (Fr a 46 [(0, .int .i64 p0), (1, vp1), (5, .int .i64 s8), (6, .int .i64 s9), (7, v25), (8, .bool s38), (23, v25), (24, .int .i64 (List.length x23 : Int)), (25, .int .i64 s39)] ∧ Below w.heap.size w w2 ∧ Rep w2 (.slice (.int .i64)) [vp1] p1 Fp1 ∧ Own w2 3 (.int .i64) v25 x23 F27 ∧ (∀ k ∈ F27, w.heap.size ≤ k) ∧ Dj F27 Fp1)) (O := fun o e a w2 => match o with | q8 => e = .exit 2 ∧ (Fr a 46 [(0, .int .i64 p0), (1, vp1), (5, .int .i64 s8), (6, .int .i64 s9), (7, v25), (8, .bool q8)] ∧ Below w.heap.size w w2 ∧ Rep w2 (.slice (.int .i64)) [vp1] p1 Fp1 ∧ Own w2 3 (.int .i64) v25 x23 F27 ∧ (∀ k ∈ F27, w.heap.size ≤ k) ∧ Dj F27 Fp1)) ho41 ?_ ?_ ?_
        · exact ⟨ha43.sub ⟨rfl, rfl, rfl, rfl, rfl, rfl, rfl, rfl, rfl, trivial⟩, hB33, hm32, hm28, hl31, hd34⟩
        · clear ha43
          intro s o46 a w44 hs45 hI47
          obtain ⟨s38, s39⟩ := s
          obtain ⟨ha, hB48, hm49, hm50, hl51, hd52⟩ := hI47
          refine WP.app ?_ ha
          clear ha
          refine WP_seq ?_
          refine WP_region ?_
          refine XL_q rfl (qt_lss rfl rfl) rfl rfl ?_
          refine WL_nil_seq ?_
          refine WP_seq ?_
          refine WP_cond rfl (fun hc53 => ?_) (fun hc53 => ?_)
          · have hs45 := if_t hc53 hs45
            refine WP_skip_seq ?_
            refine WP_seq ?_
            refine WP_block ?_
            refine WP_seq ?_
            refine WP_region ?_
            obtain ⟨x54, hx55, hs45⟩ := bind_some hs45
            refine XL_indexO u22 i3 hm50 hx55 rfl rfl rfl rfl (fun b56 cap57 F58 hv59 hbm60 hat61 hsub62 => ?_)
            have ho63 := hm50; rw [hv59] at ho63
            have hk64 := (geti_lt hx55).2
            refine XL_load_int u3 rfl hat61 rfl rfl rfl ?_
            refine XL_q rfl (qt_assign rfl) rfl rfl ?_
            refine WL_nil_seq ?_
            refine WP_seq ?_
            refine WP_quiet (by kernel_rfl) (by kernel_rfl) ?_
            refine XL_q rfl (qt_move rfl) rfl rfl ?_
            refine XL_q rfl (qt_move rfl) rfl rfl ?_
            refine XL_q rfl (qt_move rfl) rfl rfl ?_
            obtain ⟨x65, hx66, hs45⟩ := bind_some hs45
            refine XL_index u22 i3 hm49 hx66 rfl rfl rfl rfl (fun b67 o68 F69 hat70 hsub71 hbm72 => ?_)
            refine XL_load_int u3 rfl hat70 rfl rfl rfl ?_
            refine XL_q rfl (qt_move rfl) rfl rfl ?_
            obtain ⟨x73, hx74, hs45⟩ := bind_some hs45
            refine XL_q rfl (qt_shlO rfl rfl hx74) rfl rfl ?_
            refine XL_q rfl (qt_or rfl rfl) rfl rfl ?_
            refine XL_q rfl (qt_andNot rfl rfl) rfl rfl ?_
            refine XL_q rfl (qt_neq rfl rfl) rfl rfl ?_
            refine QL_nil fun a ha w75 hb76 => ?_
            have hm77 := hm49.below hb76
            have hm78 := hm50.below hb76
            have hB79 := bl_trans hB48 hb76
            refine nrm_seq (WP.app ?_ ha)
            refine WP_cond rfl (fun hc80 => ?_) (fun hc80 => ?_)
            · have hs45 := if_t hc80 hs45
              refine WP_region ?_
              refine XL_q rfl (qt_assign rfl) rfl rfl ?_
              refine WL_nil fun a ha => ?_
              refine nrm_block (nrm_seq (WP.app ?_ ha))
              refine WP_region ?_
              refine XL_q rfl (qt_add rfl rfl) rfl rfl ?_
              refine XL_q rfl (qt_move rfl) rfl rfl ?_
              refine WL_nil fun a ha => ?_
              obtain rfl := Option.some.inj hs45
              exact ⟨rfl, ⟨ha.sub ⟨rfl, rfl, rfl, rfl, rfl, rfl, rfl, rfl, rfl, trivial⟩, hB79, hm77, hm78, hl51, hd52⟩⟩
            · have hs45 := if_f hc80 hs45
              refine WP_skip fun a ha => ?_
              refine nrm_block (nrm_seq (WP.app ?_ ha))
              refine WP_region ?_
              refine XL_q rfl (qt_add rfl rfl) rfl rfl ?_
              refine XL_q rfl (qt_move rfl) rfl rfl ?_
              refine WL_nil fun a ha => ?_
              obtain rfl := Option.some.inj hs45
              exact ⟨rfl, ⟨ha.sub ⟨rfl, rfl, rfl, rfl, rfl, rfl, rfl, rfl, rfl, trivial⟩, hB79, hm77, hm78, hl51, hd52⟩⟩
          · have hs45 := if_f hc53 hs45
            refine WP_exit fun a ha => ?_
            obtain rfl := Option.some.inj hs45
            exact exit_seq (⟨exit_ne, rfl, ⟨ha.sub ⟨rfl, rfl, rfl, rfl, rfl, rfl, trivial⟩, hB48, hm49, hm50, hl51, hd52⟩⟩)
        · intro e a42 w81 hO82
          obtain ⟨p83, rfl⟩ : ∃ z, z = o40 := ⟨o40, rfl⟩
          obtain ⟨rfl, hO84⟩ := hO82
          obtain ⟨ha, hB85, hm86, hm87, hl88, hd89⟩ := hO84
          refine exit_block_eq (nrm_seq (WP.app ?_ ha))
          refine WP_seq ?_
          refine WP_region ?_
          refine XL_q rfl (qt_move rfl) rfl rfl ?_
          refine WL_nil_seq ?_
          refine WP_cond rfl (fun hc90 => ?_) (fun hc90 => ?_)
          · have hs15 := if_t hc90 hs15
            refine WP_region ?_
            refine XL_q rfl (qt_move rfl) rfl rfl ?_
            refine XL_q rfl (qt_move rfl) rfl rfl ?_
            obtain ⟨F91, hr92, hs93⟩ := Own.rep hm87
            refine XL_len u22 hr92 rfl rfl rfl ?_
            refine XL_q rfl (qt_max rfl rfl) rfl rfl ?_
            refine XL_q rfl (qt_assign rfl) rfl rfl ?_
            refine WL_nil fun a ha => ?_
            refine nrm_block (nrm_seq (WP.app ?_ ha))
            refine WP_region ?_
            refine XL_q rfl (qt_move rfl) rfl rfl ?_
            refine XL_q rfl (qt_add rfl rfl) rfl rfl ?_
            refine XL_q rfl (qt_assign rfl) rfl rfl ?_
            refine WL_nil fun a ha => ?_
            obtain rfl := Option.some.inj hs15
            exact ⟨rfl, ⟨ha.sub ⟨rfl, rfl, rfl, rfl, trivial⟩, hB85, hm86⟩⟩
          · have hs15 := if_f hc90 hs15
            refine WP_skip fun a ha => ?_
            refine nrm_block (nrm_seq (WP.app ?_ ha))
            refine WP_region ?_
            refine XL_q rfl (qt_move rfl) rfl rfl ?_
            refine XL_q rfl (qt_add rfl rfl) rfl rfl ?_
            refine XL_q rfl (qt_assign rfl) rfl rfl ?_
            refine WL_nil fun a ha => ?_
            obtain rfl := Option.some.inj hs15
            exact ⟨rfl, ⟨ha.sub ⟨rfl, rfl, rfl, rfl, trivial⟩, hB85, hm86⟩⟩
      · have hs15 := if_f hc22 hs15
        refine WP_exit fun a ha => ?_
        obtain rfl := Option.some.inj hs15
        exact exit_seq (⟨exit_ne, rfl, ⟨ha.sub ⟨rfl, trivial⟩, hB18⟩⟩)
    · intro e a12 w94 hO95
      obtain ⟨p96, rfl⟩ : ∃ z, z = o10 := ⟨o10, rfl⟩
      obtain ⟨rfl, hO97⟩ := hO95
      obtain ⟨ha, hB98⟩ := hO97
      refine exit_block_eq (nrm_seq (WP.app ?_ ha))
      refine WP_seq ?_
      refine WP_region ?_
      refine XL_q rfl (qt_move rfl) rfl rfl ?_
      refine XL_q rfl (qt_assign rfl) rfl rfl ?_
      refine WL_nil_seq ?_
      refine WP_ret fun a ha => ?_
      exact ret1 rfl ha rfl ⟨congrArg (fun z => Ending.returned (.int .i64 z)) (Option.some.inj h), hB98⟩
theorem w_laws_FnExactCliqueMost (w : World) (p0 : Int) (vp1 : Value) (p1 : List Int) (Fp1 : List Nat) (hmp1 : Rep w (.slice (.int .i64)) [vp1] p1 Fp1) (r : Bool) (h : laws_FnExactCliqueMostS p0 p1 = some r) : Calls Try.prog 11 #[.int .i64 p0, vp1] w fun e w' => e = .returned (.bool r) ∧ Below w.heap.size w w' := by
  refine calls_enter (args := [.int .i64 p0, vp1]) (n := 28) Try.func11 rfl rfl rfl ?_
  unfold laws_FnExactCliqueMostS at h
  refine WP_seq ?_
  refine WP_region ?_
  refine XL_q rfl (qt_assign rfl) rfl rfl ?_
  refine WL_nil_seq ?_
  refine WP_seq ?_
  refine WP_seq ?_
  refine WP_region ?_
  refine XL_q rfl (qt_move rfl) rfl rfl ?_
  refine XL_len u22 hmp1 rfl rfl rfl ?_
  refine XL_q rfl (qt_gtr rfl rfl) rfl rfl ?_
  refine WL_nil_seq ?_
  refine WP_cond rfl (fun hc1 => ?_) (fun hc1 => ?_)
  · have h := if_t hc1 h
    refine WP_seq ?_
    refine WP_region ?_
    refine XL_q rfl (qt_assign rfl) rfl rfl ?_
    refine WL_nil_seq ?_
    refine WP_ret fun a ha => ?_
    exact ret_seq (ret1 rfl ha rfl ⟨congrArg (fun z => Ending.returned (.bool z)) (Option.some.inj h), (Below.refl _ _)⟩)
  · have h := if_f hc1 h
    refine WP_skip_seq ?_
    refine WP_seq ?_
    refine WP_region ?_
    refine XL_q rfl (qt_move rfl) rfl rfl ?_
    refine XL_q rfl (qt_move rfl) rfl rfl ?_
    obtain ⟨x2, hx3, h⟩ := bind_some h
    refine WL_call rfl rfl c18 (w_laws_toIntS w vp1 p1 Fp1 hmp1 x2 hx3) (by rfl) ?_
    rintro _ w5 ⟨v4, F6, rfl, hm7, hf9, hb8⟩; refine ⟨_, rfl, ?_⟩
    have hl10 := lo_fresh (Below.refl _ _) hf9
    have hm11 := hmp1.below hb8
    have hB12 := bl_trans (Below.refl _ _) hb8
    have hd13 : Dj F6 Fp1 := dj_fresh hf9 hmp1.lt
    obtain ⟨x14, hx15, h⟩ := bind_some h
    obtain ⟨F16, hr17, hs18⟩ := Own.rep hm7
    refine WL_call rfl rfl c37 (w_spec_CliqueMost w5 p0 v4 x2 F16 hr17 x14 hx15) (by rfl) ?_
    rintro _ w19 ⟨rfl, hb20⟩; refine ⟨_, rfl, ?_⟩
    have hm21 := hm11.below hb20
    have hm22 := hm7.below hb20
    have hB23 := bl_trans hB12 hb20
    refine XL_q rfl (qt_assign rfl) rfl rfl ?_
    refine WL_nil_seq ?_
    refine WP_seq ?_
    refine WP_region ?_
    refine XL_q rfl (qt_move rfl) rfl rfl ?_
    obtain ⟨x24, hx25, h⟩ := bind_some h
    refine WL_call rfl rfl c18 (w_laws_toIntS w19 vp1 p1 Fp1 hm21 x24 hx25) (by rfl) ?_
    rintro _ w27 ⟨v26, F28, rfl, hm29, hf31, hb30⟩; refine ⟨_, rfl, ?_⟩
    have hl32 := lo_fresh hB23 hf31
    have hm33 := hm21.below hb30
    have hm34 := hm22.below hb30
    have hB35 := bl_trans hB23 hb30
    have hd36 : Dj F28 Fp1 := dj_fresh hf31 hm21.lt
    have hd37 : Dj F28 F6 := dj_fresh hf31 hm22.lt
    refine XL_q rfl (qt_assign rfl) rfl rfl ?_
    refine WL_nil_seq ?_
    refine WP_seq ?_
    refine WP_still ?_
    refine XL_q rfl (qt_move rfl) rfl rfl ?_
    refine XL_q rfl (qt_move rfl) rfl rfl ?_
    obtain ⟨x38, hx39, h⟩ := bind_some h
    obtain ⟨F40, hr41, hs42⟩ := Own.rep hm29
    refine QL_call rfl rfl c38 (fun w' hb => w_impl_CliqueMost w' p0 v26 x24 F40 (hr41.below hb) x38 hx39) (by rfl) ?_
    refine XL_q rfl (qt_assign rfl) rfl rfl ?_
    refine QL_nil fun a ha w43 hb44 => ?_
    have hm45 := hm33.below hb44
    have hm46 := hm29.below hb44
    have hB47 := bl_trans hB35 hb44
    refine nrm_seq (WP.app ?_ ha)
    refine WP_seq ?_
    refine WP_seq ?_
    refine WP_region ?_
    refine XL_q rfl (qt_move rfl) rfl rfl ?_
    refine XL_q rfl (qt_move rfl) rfl rfl ?_
    refine XL_q rfl (qt_neq rfl rfl) rfl rfl ?_
    refine WL_nil_seq ?_
    refine WP_cond rfl (fun hc48 => ?_) (fun hc48 => ?_)
    · have h := if_t hc48 h
      refine WP_seq ?_
      refine WP_region ?_
      refine XL_q rfl (qt_assign rfl) rfl rfl ?_
      refine WL_nil_seq ?_
      refine WP_ret fun a ha => ?_
      exact ret_seq (ret1 rfl ha rfl ⟨congrArg (fun z => Ending.returned (.bool z)) (Option.some.inj h), hB47⟩)
    · have h := if_f hc48 h
      refine WP_skip_seq ?_
      refine WP_seq ?_
      refine WP_seq ?_
      refine WP_region ?_
      refine XL_q rfl (qt_move rfl) rfl rfl ?_
      refine XL_q rfl (qt_move rfl) rfl rfl ?_
      obtain ⟨x49, hx50, h⟩ := bind_some h
      refine WL_call rfl rfl c18 (w_laws_toIntS w43 vp1 p1 Fp1 hm45 x49 hx50) (by rfl) ?_
      rintro _ w52 ⟨v51, F53, rfl, hm54, hf56, hb55⟩; refine ⟨_, rfl, ?_⟩
      have hl57 := lo_fresh hB47 hf56
      have hm58 := hm45.below hb55
      have hm59 := hm46.below hb55
      have hB60 := bl_trans hB47 hb55
      have hd61 : Dj F53 Fp1 := dj_fresh hf56 hm45.lt
      have hd62 : Dj F53 F28 := dj_fresh hf56 hm46.lt
      obtain ⟨x63, hx64, h⟩ := bind_some h
      obtain ⟨F65, hr66, hs67⟩ := Own.rep hm59
      obtain ⟨F68, hr69, hs70⟩ := Own.rep hm54
      refine WL_call rfl rfl c20 (w_laws_eqIntS w52 v26 x24 F65 hr66 v51 x49 F68 hr69 x63 hx64) (by rfl) ?_
      rintro _ w71 ⟨rfl, hb72⟩; refine ⟨_, rfl, ?_⟩
      have hm73 := hm58.below hb72
      have hm74 := hm59.below hb72
      have hm75 := hm54.below hb72
      have hB76 := bl_trans hB60 hb72
      refine XL_q rfl (qt_not rfl) rfl rfl ?_
      refine WL_nil_seq ?_
      refine WP_cond rfl (fun hc77 => ?_) (fun hc77 => ?_)
      · have h := if_t hc77 h
        refine WP_seq ?_
        refine WP_region ?_
        refine XL_q rfl (qt_assign rfl) rfl rfl ?_
        refine WL_nil_seq ?_
        refine WP_ret fun a ha => ?_
        exact ret_seq (ret1 rfl ha rfl ⟨congrArg (fun z => Ending.returned (.bool z)) (Option.some.inj h), hB76⟩)
      · have h := if_f hc77 h
        refine WP_skip_seq ?_
        refine WP_seq ?_
        refine WP_region ?_
        refine XL_q rfl (qt_assign rfl) rfl rfl ?_
        refine WL_nil_seq ?_
        refine WP_ret fun a ha => ?_
        exact ret1 rfl ha rfl ⟨congrArg (fun z => Ending.returned (.bool z)) (Option.some.inj h), hB76⟩
theorem w_spec_l6Free (w : World) (vp0 : Value) (p0 : List Int) (Fp0 : List Nat) (hmp0 : Rep w (.slice (.int .i64)) [vp0] p0 Fp0) (p1 : Int) (r : Bool) (h : spec_l6FreeS p0 p1 = some r) : Calls Try.prog 57 #[vp0, .int .i64 p1] w fun e w' => e = .returned (.bool r) ∧ Below w.heap.size w w' := by
  refine calls_enter (args := [vp0, .int .i64 p1]) (n := 26) Try.func57 rfl rfl rfl ?_
  unfold spec_l6FreeS at h
  refine WP_seq ?_
  refine WP_region ?_
  refine XL_q rfl (qt_assign rfl) rfl rfl ?_
  refine WL_nil_seq ?_
  refine WP_seq ?_
  refine WP_seq ?_
  refine WP_region ?_
  refine XL_q rfl (qt_assign rfl) rfl rfl ?_
  refine WL_nil_seq ?_
  refine WP_block ?_
  obtain ⟨o2, ho3, h⟩ := bind_some h
  refine fun a4 ha5 => wp_loop_fix (I := fun s a w2 => match s with | s1 => (Fr a 26 [(0, vp0), (1, .int .i64 p1), (5, .int .i64 s1)] ∧ Below w.heap.size w w2 ∧ Rep w2 (.slice (.int .i64)) [vp0] p0 Fp0)) (O := fun o e a w2 => match o with | .inl _ => e = .exit 0 ∧ (Fr a 26 [] ∧ Below w.heap.size w w2) | .inr q4 => e = .ret ∧ (Fr a 26 [(4, .bool q4)] ∧ Below w.heap.size w w2)) ho3 ?_ ?_ ?_
  · exact ⟨ha5.sub ⟨rfl, rfl, rfl, trivial⟩, (Below.refl _ _), hmp0⟩
  · clear ha5
    intro s o8 a w6 hs7 hI9
    obtain ⟨s1, rfl⟩ : ∃ z, z = s := ⟨s, rfl⟩
    obtain ⟨ha, hB10, hm11⟩ := hI9
    refine WP.app ?_ ha
    clear ha
    refine WP_seq ?_
    refine WP_seq ?_
    refine WP_region ?_
    refine XL_q rfl (qt_move rfl) rfl rfl ?_
    refine XL_q rfl (qt_move rfl) rfl rfl ?_
    refine XL_len u22 hm11 rfl rfl rfl ?_
    refine XL_q rfl (qt_lss rfl rfl) rfl rfl ?_
    refine WL_nil_seq ?_
    refine WP_cond rfl (fun hc12 => ?_) (fun hc12 => ?_)
    · have hs7 := if_t hc12 hs7
      refine WP_skip_seq ?_
      refine WP_seq ?_
      refine WP_block ?_
      refine WP_seq ?_
      refine WP_still ?_
      refine XL_q rfl (qt_move rfl) rfl rfl ?_
      refine XL_q rfl (qt_move rfl) rfl rfl ?_
      obtain ⟨x13, hx14, hs7⟩ := bind_some hs7
      refine XL_q rfl (qt_shrO rfl rfl hx14) rfl rfl ?_
      refine XL_q rfl (qt_rem rfl rfl (by decide)) rfl rfl ?_
      refine XL_q rfl (qt_eql rfl rfl) rfl rfl ?_
      refine XL_q rfl (qt_move rfl) rfl rfl ?_
      obtain ⟨b15, hg16, hs7⟩ := bind_some hs7
      refine XL_join 8 25 (.bool b15) ?_ (fun md hmd hk => ?_)
      rotate_left
      · obtain ⟨K, rfl⟩ := Md.quiet_of hmd
        rcases btf ((Int.tmod x13 2) == 1) with hc17 | hc17
        · skip
          have hg16 := if_t hc17 hg16
          refine XL_q (w_take rfl hc17) (qt_move rfl) rfl rfl ?_
          refine XL_q (w_take rfl hc17) (qt_move rfl) rfl rfl ?_
          obtain ⟨x18, hx19, hg16⟩ := bind_some hg16
          refine XL_index u22 i3 hm11 hx19 (w_take rfl hc17) rfl rfl rfl (fun b20 o21 F22 hat23 hsub24 hbm25 => ?_)
          refine XL_load_int u3 rfl hat23 (w_take rfl hc17) rfl rfl ?_
          refine XL_q (w_take rfl hc17) (qt_move rfl) rfl rfl ?_
          obtain ⟨x26, hx27, hg16⟩ := bind_some hg16
          refine QL_call (w_take rfl hc17) rfl c56 (fun w' hb => w_spec_l1Meet w' x18 p1 x26 hx27) (by rfl) ?_
          refine XL_q (w_take rfl hc17) (qt_gtr rfl rfl) rfl rfl ?_
          refine XL_q rfl (qt_pickT rfl hc17 rfl) rfl rfl ?_
          exact hk _ (Cov.same (vb hg16) (Cov.fresh rfl (Cov.fresh rfl (Cov.fresh rfl (Cov.fresh rfl (Cov.fresh rfl (Cov.fresh rfl (Cov.fresh rfl (Cov.refl)))))))))
        · skip
          refine XL_skip (w_skip rfl hc17) rfl rfl ?_
          refine XL_skip (w_skip rfl hc17) rfl rfl ?_
          refine XL_skip (w_skip rfl hc17) rfl rfl ?_
          refine XL_skip (w_skip rfl hc17) rfl rfl ?_
          refine XL_skip (w_skip rfl hc17) rfl rfl ?_
          refine XL_skip (w_skip rfl hc17) rfl rfl ?_
          refine XL_skip (w_skip rfl hc17) rfl rfl ?_
          refine XL_q rfl (qt_pickF rfl hc17 rfl) rfl rfl ?_
          exact hk _ (Cov.same (vb (if_f hc17 hg16)) (Cov.fresh rfl (Cov.fresh rfl (Cov.fresh rfl (Cov.fresh rfl (Cov.fresh rfl (Cov.fresh rfl (Cov.fresh rfl (Cov.refl)))))))))
      refine QL_nil fun a ha w28 hb29 => ?_
      have hm30 := hm11.below hb29
      have hB31 := bl_trans hB10 hb29
      refine nrm_seq (WP.app ?_ ha)
      refine WP_cond rfl (fun hc32 => ?_) (fun hc32 => ?_)
      · have hs7 := if_t hc32 hs7
        refine WP_seq ?_
        refine WP_region ?_
        refine XL_q rfl (qt_assign rfl) rfl rfl ?_
        refine WL_nil_seq ?_
        refine WP_ret fun a ha => ?_
        obtain rfl := Option.some.inj hs7
        exact ret_block (ret_seq (⟨ret_ne, rfl, ⟨ha.sub ⟨rfl, trivial⟩, hB31⟩⟩))
      · have hs7 := if_f hc32 hs7
        refine WP_skip fun a ha => ?_
        refine nrm_block (nrm_seq (WP.app ?_ ha))
        refine WP_region ?_
        refine XL_q rfl (qt_move rfl) rfl rfl ?_
        refine XL_q rfl (qt_add rfl rfl) rfl rfl ?_
        refine XL_q rfl (qt_assign rfl) rfl rfl ?_
        refine WL_nil fun a ha => ?_
        obtain rfl := Option.some.inj hs7
        exact ⟨rfl, ⟨ha.sub ⟨rfl, rfl, rfl, trivial⟩, hB31, hm30⟩⟩
    · have hs7 := if_f hc12 hs7
      refine WP_exit fun a ha => ?_
      obtain rfl := Option.some.inj hs7
      exact exit_seq (⟨exit_ne, rfl, ⟨ha.sub trivial, hB10⟩⟩)
  · intro e a4 w33 hO34
    rcases o2 with o2 | o2
    · skip
      obtain ⟨rfl, hO35⟩ := hO34
      obtain ⟨ha, hB36⟩ := hO35
      refine exit_block_eq (nrm_seq (WP.app ?_ ha))
      refine WP_seq ?_
      refine WP_region ?_
      refine XL_q rfl (qt_assign rfl) rfl rfl ?_
      refine WL_nil_seq ?_
      refine WP_ret fun a ha => ?_
      exact ret1 rfl ha rfl ⟨congrArg (fun z => Ending.returned (.bool z)) (Option.some.inj h), hB36⟩
    · skip
      obtain ⟨p37, rfl⟩ : ∃ z, z = o2 := ⟨o2, rfl⟩
      obtain ⟨rfl, hO38⟩ := hO34
      obtain ⟨ha, hB39⟩ := hO38
      exact ret_block (ret_seq (ret1 rfl ha rfl ⟨congrArg (fun z => Ending.returned (.bool z)) (Option.some.inj h), hB39⟩))
theorem w_spec_SeatsLeast (w : World) (p0 : Int) (vp1 : Value) (p1 : List Int) (Fp1 : List Nat) (hmp1 : Rep w (.slice (.int .i64)) [vp1] p1 Fp1) (r : Int) (h : spec_SeatsLeastS p0 p1 = some r) : Calls Try.prog 39 #[.int .i64 p0, vp1] w fun e w' => e = .returned (.int .i64 r) ∧ Below w.heap.size w w' := by
  refine calls_enter (args := [.int .i64 p0, vp1]) (n := 55) Try.func39 rfl rfl rfl ?_
  unfold spec_SeatsLeastS at h
  refine WP_seq ?_
  refine WP_region ?_
  refine XL_q rfl (qt_assign rfl) rfl rfl ?_
  refine WL_nil_seq ?_
  refine WP_seq ?_
  refine WP_seq ?_
  refine WP_still ?_
  refine XL_q rfl (qt_move rfl) rfl rfl ?_
  refine XL_q rfl (qt_move rfl) rfl rfl ?_
  obtain ⟨x1, hx2, h⟩ := bind_some h
  refine QL_call rfl rfl c23 (fun w' hb => w_spec_QuarrelsValid w' p0 vp1 p1 Fp1 (hmp1.below hb) x1 hx2) (by rfl) ?_
  refine XL_q rfl (qt_not rfl) rfl rfl ?_
  refine QL_nil fun a ha w3 hb4 => ?_
  have hm5 := hmp1.below hb4
  have hB6 := bl_trans (Below.refl _ _) hb4
  refine nrm_seq (WP.app ?_ ha)
  refine WP_cond rfl (fun hc7 => ?_) (fun hc7 => ?_)
  · have h := if_t hc7 h
    refine WP_seq ?_
    refine WP_region ?_
    refine XL_q rfl (qt_assign rfl) rfl rfl ?_
    refine WL_nil_seq ?_
    refine WP_ret fun a ha => ?_
    exact ret_seq (ret1 rfl ha rfl ⟨congrArg (fun z => Ending.returned (.int .i64 z)) (Option.some.inj h), hB6⟩)
  · have h := if_f hc7 h
    refine WP_skip_seq ?_
    refine WP_seq ?_
    refine WP_region ?_
    refine WL_buildSlice (t := (.int .i64)) (args := [.const (.int .i64 0)]) (xs := ([0] : List Int)) (F := []) u22 j3 rfl rfl rfl ⟨[], [], rfl, ⟨rfl, rfl⟩, rfl⟩ rfl rfl rfl (fun v8 w9 F10 hm11 hb12 hf13 => ?_)
    have hf14 : ∀ k ∈ F10, w3.heap.size ≤ k := fun k hk => (hf13 k hk).resolve_left (fun h => by cases h)
    have hl15 := lo_fresh hB6 hf14
    have hm16 := hm5.below hb12
    have hB17 := bl_trans hB6 hb12
    have hd18 : Dj F10 Fp1 := dj_fresh hf14 hm5.lt
    refine XL_q rfl (qt_assign rfl) rfl rfl ?_
    refine WL_nil_seq ?_
    refine WP_seq ?_
    refine WP_seq ?_
    refine WP_region ?_
    refine XL_q rfl (qt_assign rfl) rfl rfl ?_
    refine WL_nil_seq ?_
    refine WP_block ?_
    obtain ⟨o21, ho22, h⟩ := bind_some h
    refine fun a23 ha24 => wp_loop_fix (I := fun s a w2 => match s with | (s19, s20) => ∃ vs19 Fs19, Fr a 55 [(0, .int .i64 p0), (1, vp1), (5, vs19), (6, .int .i64 s20)] ∧ Below w.heap.size w w2 ∧ Rep w2 (.slice (.int .i64)) [vp1] p1 Fp1 ∧ Own w2 3 (.int .i64) vs19 s19 Fs19 ∧ (∀ k ∈ Fs19, w.heap.size ≤ k) ∧ Dj Fs19 Fp1) (O := fun o e a w2 => match o with | q5 => e = .exit 0 ∧ ∃ vq5 Fq5, Fr a 55 [(5, vq5)] ∧ Below w.heap.size w w2 ∧ Own w2 3 (.int .i64) vq5 q5 Fq5 ∧ (∀ k ∈ Fq5, w.heap.size ≤ k)) ho22 ?_ ?_ ?_
    · exact ⟨v8, F10, ha24.sub ⟨rfl, rfl, rfl, rfl, trivial⟩, hB17, hm16, hm11, hl15, hd18⟩
    · clear ha24
      intro s o27 a w25 hs26 hI28
      obtain ⟨s19, s20⟩ := s
      obtain ⟨vs19, Fs19, ha, hB29, hm30, hm31, hl32, hd33⟩ := hI28
      refine WP.app ?_ ha
      clear ha
      refine WP_seq ?_
      refine WP_seq ?_
      refine WP_region ?_
      refine XL_q rfl (qt_move rfl) rfl rfl ?_
      refine XL_q rfl (qt_move rfl) rfl rfl ?_
      obtain ⟨x34, hx35, hs26⟩ := bind_some hs26
      refine XL_q rfl (qt_shlO rfl rfl hx35) rfl rfl ?_
      refine XL_q rfl (qt_lss rfl rfl) rfl rfl ?_
      refine WL_nil_seq ?_
      refine WP_cond rfl (fun hc36 => ?_) (fun hc36 => ?_)
      · have hs26 := if_t hc36 hs26
        refine WP_skip_seq ?_
        refine WP_seq ?_
        refine WP_block ?_
        refine WP_seq ?_
        refine WP_region ?_
        refine XL_q rfl (qt_move rfl) rfl rfl ?_
        refine XL_q rfl (qt_assign rfl) rfl rfl ?_
        refine WL_nil_seq ?_
        refine WP_seq ?_
        refine WP_seq ?_
        refine WP_region ?_
        refine XL_q rfl (qt_assign rfl) rfl rfl ?_
        refine WL_nil_seq ?_
        refine WP_block ?_
        obtain ⟨o39, ho40, hs26⟩ := bind_some hs26
        refine fun a41 ha42 => wp_loop_fix (I := fun s a w2 => match s with | (s37, s38) => (Fr a 55 [(0, .int .i64 p0), (1, vp1), (5, vs19), (6, .int .i64 s20), (7, .int .i64 s37), (8, .int .i64 s38)] ∧ Below w.heap.size w w2 ∧ Rep w2 (.slice (.int .i64)) [vp1] p1 Fp1 ∧ Own w2 3 (.int .i64) vs19 s19 Fs19 ∧ (∀ k ∈ Fs19, w.heap.size ≤ k) ∧ Dj Fs19 Fp1)) (O := fun o e a w2 => match o with | q7 => e = .exit 2 ∧ (Fr a 55 [(0, .int .i64 p0), (1, vp1), (5, vs19), (6, .int .i64 s20), (7, .int .i64 q7)] ∧ Below w.heap.size w w2 ∧ Rep w2 (.slice (.int .i64)) [vp1] p1 Fp1 ∧ Own w2 3 (.int .i64) vs19 s19 Fs19 ∧ (∀ k ∈ Fs19, w.heap.size ≤ k) ∧ Dj Fs19 Fp1)) ho40 ?_ ?_ ?_
        · exact ⟨ha42.sub ⟨rfl, rfl, rfl, rfl, rfl, rfl, trivial⟩, hB29, hm30, hm31, hl32, hd33⟩
        · clear ha42
          intro s o45 a w43 hs44 hI46
          obtain ⟨s37, s38⟩ := s
          obtain ⟨ha, hB47, hm48, hm49, hl50, hd51⟩ := hI46
          refine WP.app ?_ ha
          clear ha
          refine WP_seq ?_
          refine WP_seq ?_
          refine WP_region ?_
          refine XL_q rfl (qt_move rfl) rfl rfl ?_
          refine XL_q rfl (qt_move rfl) rfl rfl ?_
          refine XL_q rfl (qt_leq rfl rfl) rfl rfl ?_
          refine WL_nil_seq ?_
          refine WP_cond rfl (fun hc52 => ?_) (fun hc52 => ?_)
          · have hs44 := if_t hc52 hs44
            refine WP_skip_seq ?_
            refine WP_seq ?_
            refine WP_block ?_
            refine WP_seq ?_
            refine WP_still ?_
            refine XL_q rfl (qt_move rfl) rfl rfl ?_
            refine XL_q rfl (qt_move rfl) rfl rfl ?_
            obtain ⟨x53, hx54, hs44⟩ := bind_some hs44
            refine QL_call rfl rfl c56 (fun w' hb => w_spec_l1Meet w' s38 s20 x53 hx54) (by rfl) ?_
            refine XL_q rfl (qt_move rfl) rfl rfl ?_
            refine XL_q rfl (qt_eql rfl rfl) rfl rfl ?_
            refine XL_q rfl (qt_move rfl) rfl rfl ?_
            obtain ⟨b55, hg56, hs44⟩ := bind_some hs44
            refine XL_join 4 35 (.bool b55) ?_ (fun md hmd hk => ?_)
            rotate_left
            · obtain ⟨K, rfl⟩ := Md.quiet_of hmd
              rcases btf (x53 == s38) with hc57 | hc57
              · skip
                have hg56 := if_t hc57 hg56
                refine XL_q (w_take rfl hc57) (qt_move rfl) rfl rfl ?_
                refine XL_q (w_take rfl hc57) (qt_move rfl) rfl rfl ?_
                obtain ⟨x58, hx59, hg56⟩ := bind_some hg56
                refine QL_call (w_take rfl hc57) rfl c57 (fun w' hb => w_spec_l6Free w' vp1 p1 Fp1 (hm48.below hb) s38 x58 hx59) (by rfl) ?_
                refine XL_q rfl (qt_pickT rfl hc57 rfl) rfl rfl ?_
                exact hk _ (Cov.same (vb hg56) (Cov.fresh rfl (Cov.fresh rfl (Cov.fresh rfl (Cov.refl)))))
              · skip
                refine XL_skip (w_skip rfl hc57) rfl rfl ?_
                refine XL_skip (w_skip rfl hc57) rfl rfl ?_
                refine XL_skip (w_skip rfl hc57) rfl rfl ?_
                refine XL_q rfl (qt_pickF rfl hc57 rfl) rfl rfl ?_
                exact hk _ (Cov.same (vb (if_f hc57 hg56)) (Cov.fresh rfl (Cov.fresh rfl (Cov.fresh rfl (Cov.refl)))))
            refine QL_nil fun a ha w60 hb61 => ?_
            have hm62 := hm48.below hb61
            have hm63 := hm49.below hb61
            have hB64 := bl_trans hB47 hb61
            refine nrm_seq (WP.app ?_ ha)
            refine WP_cond rfl (fun hc65 => ?_) (fun hc65 => ?_)
            · have hs44 := if_t hc65 hs44
              refine WP_region ?_
              refine XL_q rfl (qt_move rfl) rfl rfl ?_
              refine XL_q rfl (qt_move rfl) rfl rfl ?_
              refine XL_q rfl (qt_move rfl) rfl rfl ?_
              refine XL_q rfl (qt_move rfl) rfl rfl ?_
              refine XL_q rfl (qt_sub rfl rfl) rfl rfl ?_
              obtain ⟨x66, hx67, hs44⟩ := bind_some hs44
              refine XL_indexO u22 i3 hm63 hx67 rfl rfl rfl rfl (fun b68 cap69 F70 hv71 hbm72 hat73 hsub74 => ?_)
              have ho75 := hm63; rw [hv71] at ho75
              have hk76 := (geti_lt hx67).2
              refine XL_load_int u3 rfl hat73 rfl rfl rfl ?_
              refine XL_q rfl (qt_add rfl rfl) rfl rfl ?_
              refine XL_q rfl (qt_min rfl rfl) rfl rfl ?_
              refine XL_q rfl (qt_assign rfl) rfl rfl ?_
              refine WL_nil fun a ha => ?_
              refine nrm_block (nrm_seq (WP.app ?_ ha))
              refine WP_region ?_
              refine XL_q rfl (qt_move rfl) rfl rfl ?_
              refine XL_q rfl (qt_add rfl rfl) rfl rfl ?_
              refine XL_q rfl (qt_assign rfl) rfl rfl ?_
              refine WL_nil fun a ha => ?_
              obtain rfl := Option.some.inj hs44
              exact ⟨rfl, ⟨ha.sub ⟨rfl, rfl, rfl, rfl, rfl, rfl, trivial⟩, hB64, hm62, hm63, hl50, hd51⟩⟩
            · have hs44 := if_f hc65 hs44
              refine WP_skip fun a ha => ?_
              refine nrm_block (nrm_seq (WP.app ?_ ha))
              refine WP_region ?_
              refine XL_q rfl (qt_move rfl) rfl rfl ?_
              refine XL_q rfl (qt_add rfl rfl) rfl rfl ?_
              refine XL_q rfl (qt_assign rfl) rfl rfl ?_
              refine WL_nil fun a ha => ?_
              obtain rfl := Option.some.inj hs44
              exact ⟨rfl, ⟨ha.sub ⟨rfl, rfl, rfl, rfl, rfl, rfl, trivial⟩, hB64, hm62, hm63, hl50, hd51⟩⟩
          · have hs44 := if_f hc52 hs44
            refine WP_exit fun a ha => ?_
            obtain rfl := Option.some.inj hs44
            exact exit_seq (⟨exit_ne, rfl, ⟨ha.sub ⟨rfl, rfl, rfl, rfl, rfl, trivial⟩, hB47, hm48, hm49, hl50, hd51⟩⟩)
        · intro e a41 w77 hO78
          obtain ⟨p79, rfl⟩ : ∃ z, z = o39 := ⟨o39, rfl⟩
          obtain ⟨rfl, hO80⟩ := hO78
          obtain ⟨ha, hB81, hm82, hm83, hl84, hd85⟩ := hO80
          refine exit_block_eq (nrm_seq (WP.app ?_ ha))
          refine WP_region ?_
          refine XL_q rfl (qt_move rfl) rfl rfl ?_
          refine XL_q rfl (qt_move rfl) rfl rfl ?_
          refine WL_buildSlice (t := (.int .i64)) (args := [.tmp 46]) (xs := ([p79] : List Int)) (F := []) u22 j3 rfl rfl rfl ⟨[], [], rfl, ⟨rfl, rfl⟩, rfl⟩ rfl rfl rfl (fun v86 w87 F88 hm89 hb90 hf91 => ?_)
          have hf92 : ∀ k ∈ F88, w77.heap.size ≤ k := fun k hk => (hf91 k hk).resolve_left (fun h => by cases h)
          have hl93 := lo_fresh hB81 hf92
          have hm94 := hm82.below hb90
          have hm95 := hm83.below hb90
          have hB96 := bl_trans hB81 hb90
          have hd97 : Dj F88 Fp1 := dj_fresh hf92 hm82.lt
          have hd98 : Dj F88 Fs19 := dj_fresh hf92 hm83.lt
          obtain ⟨x99, hx100, hs26⟩ := bind_some hs26
          obtain ⟨F101, hr102, hs103⟩ := Own.rep hm89
          refine WL_appendF rfl u22 j3 rfl rfl hm95 hr102 (Dj.symm (dj_sub (Dj.symm (Dj.symm hd98)) hs103)) hx100 rfl rfl rfl rfl (fun v104 w105 F106 hm107 hc108 hf109 => ?_)
          have hl110 := lo_app hB96 hf109 hl84
          have hm111 := hm94.chg hc108 hd85
          have hm112 := hm89.chg hc108 (Dj.symm hd98)
          have hB113 := Chg.below hc108 hB96 hl84
          have hd114 := dj_app hf109 hd85 hm94.lt
          have hd115 := dj_app hf109 (Dj.symm hd98) hm89.lt
          refine XL_q rfl (qt_assign rfl) rfl rfl ?_
          refine WL_nil fun a ha => ?_
          refine nrm_block (nrm_seq (WP.app ?_ ha))
          refine WP_region ?_
          refine XL_q rfl (qt_move rfl) rfl rfl ?_
          refine XL_q rfl (qt_add rfl rfl) rfl rfl ?_
          refine XL_q rfl (qt_assign rfl) rfl rfl ?_
          refine WL_nil fun a ha => ?_
          obtain rfl := Option.some.inj hs26
          exact ⟨rfl, ⟨v104, F106, ha.sub ⟨rfl, rfl, rfl, rfl, trivial⟩, hB113, hm111, hm107, hl110, hd114⟩⟩
      · have hs26 := if_f hc36 hs26
        refine WP_exit fun a ha => ?_
        obtain rfl := Option.some.inj hs26
        exact exit_seq (⟨exit_ne, rfl, ⟨vs19, Fs19, ha.sub ⟨rfl, trivial⟩, hB29, hm31, hl32⟩⟩)
    · intro e a23 w116 hO117
      obtain ⟨p118, rfl⟩ : ∃ z, z = o21 := ⟨o21, rfl⟩
      obtain ⟨rfl, hO119⟩ := hO117
      obtain ⟨vp118, Fp118, ha, hB120, hm121, hl122⟩ := hO119
      refine exit_block_eq (nrm_seq (WP.app ?_ ha))
      refine WP_seq ?_
      refine WP_region ?_
      refine XL_q rfl (qt_move rfl) rfl rfl ?_
      refine XL_q rfl (qt_move rfl) rfl rfl ?_
      obtain ⟨F123, hr124, hs125⟩ := Own.rep hm121
      refine XL_len u22 hr124 rfl rfl rfl ?_
      refine XL_q rfl (qt_sub rfl rfl) rfl rfl ?_
      obtain ⟨x126, hx127, h⟩ := bind_some h
      refine XL_indexO u22 i3 hm121 hx127 rfl rfl rfl rfl (fun b128 cap129 F130 hv131 hbm132 hat133 hsub134 => ?_)
      have ho135 := hm121; rw [hv131] at ho135
      have hk136 := (geti_lt hx127).2
      refine XL_load_int u3 rfl hat133 rfl rfl rfl ?_
      refine XL_q rfl (qt_assign rfl) rfl rfl ?_
      refine WL_nil_seq ?_
      refine WP_ret fun a ha => ?_
      exact ret1 rfl ha rfl ⟨congrArg (fun z => Ending.returned (.int .i64 z)) (Option.some.inj h), hB120⟩
theorem w_impl_atPeace (w : World) (vp0 : Value) (p0 : List Int) (Fp0 : List Nat) (hmp0 : Rep w (.slice (.int .i64)) [vp0] p0 Fp0) (p1 : Int) (r : Bool) (h : impl_atPeaceS p0 p1 = some r) : Calls Try.prog 58 #[vp0, .int .i64 p1] w fun e w' => e = .returned (.bool r) ∧ Below w.heap.size w w' := by
  refine calls_enter (args := [vp0, .int .i64 p1]) (n := 22) Try.func58 rfl rfl rfl ?_
  unfold impl_atPeaceS at h
  refine WP_seq ?_
  refine WP_region ?_
  refine XL_q rfl (qt_assign rfl) rfl rfl ?_
  refine WL_nil_seq ?_
  refine WP_seq ?_
  refine WP_seq ?_
  refine WP_region ?_
  refine XL_q rfl (qt_move rfl) rfl rfl ?_
  obtain ⟨x1, hx2, h⟩ := bind_some h
  refine WL_call rfl rfl c54 (w_impl_membersOf w p1 x1 hx2) (by rfl) ?_
  rintro _ w4 ⟨v3, F5, rfl, hm6, hf8, hb7⟩; refine ⟨_, rfl, ?_⟩
  have hl9 := lo_fresh (Below.refl _ _) hf8
  have hm10 := hmp0.below hb7
  have hB11 := bl_trans (Below.refl _ _) hb7
  have hd12 : Dj F5 Fp0 := dj_fresh hf8 hmp0.lt
  obtain ⟨F13, hr14, hs15⟩ := Own.rep hm6
  refine XL_len u22 hr14 rfl rfl rfl ?_
  refine XL_q rfl (qt_move rfl) rfl rfl ?_
  refine WL_nil_seq ?_
  refine WP_block ?_
  obtain ⟨o17, ho18, h⟩ := bind_some h
  refine fun a19 ha20 => wp_loop_fix (I := fun s a w2 => match s with | s16 => (Fr a 22 [(0, vp0), (1, .int .i64 p1), (8, v3), (9, .int .i64 (List.length x1 : Int)), (10, .int .i64 s16)] ∧ Below w.heap.size w w2 ∧ Rep w2 (.slice (.int .i64)) [vp0] p0 Fp0 ∧ Own w2 3 (.int .i64) v3 x1 F5 ∧ (∀ k ∈ F5, w.heap.size ≤ k) ∧ Dj F5 Fp0)) (O := fun o e a w2 => match o with | .inl _ => e = .exit 0 ∧ (Fr a 22 [] ∧ Below w.heap.size w w2) | .inr q4 => e = .ret ∧ (Fr a 22 [(4, .bool q4)] ∧ Below w.heap.size w w2)) ho18 ?_ ?_ ?_
  · exact ⟨ha20.sub ⟨rfl, rfl, rfl, rfl, rfl, trivial⟩, hB11, hm10, hm6, hl9, hd12⟩
  · clear ha20
    intro s o23 a w21 hs22 hI24
    obtain ⟨s16, rfl⟩ : ∃ z, z = s := ⟨s, rfl⟩
    obtain ⟨ha, hB25, hm26, hm27, hl28, hd29⟩ := hI24
    refine WP.app ?_ ha
    clear ha
    refine WP_seq ?_
    refine WP_region ?_
    refine XL_q rfl (qt_lss rfl rfl) rfl rfl ?_
    refine WL_nil_seq ?_
    refine WP_seq ?_
    refine WP_cond rfl (fun hc30 => ?_) (fun hc30 => ?_)
    · have hs22 := if_t hc30 hs22
      refine WP_skip_seq ?_
      refine WP_seq ?_
      refine WP_block ?_
      refine WP_seq ?_
      refine WP_region ?_
      obtain ⟨x31, hx32, hs22⟩ := bind_some hs22
      refine XL_indexO u22 i3 hm27 hx32 rfl rfl rfl rfl (fun b33 cap34 F35 hv36 hbm37 hat38 hsub39 => ?_)
      have ho40 := hm27; rw [hv36] at ho40
      have hk41 := (geti_lt hx32).2
      refine XL_load_int u3 rfl hat38 rfl rfl rfl ?_
      refine XL_q rfl (qt_assign rfl) rfl rfl ?_
      refine WL_nil_seq ?_
      refine WP_seq ?_
      refine WP_region ?_
      refine XL_q rfl (qt_move rfl) rfl rfl ?_
      refine XL_q rfl (qt_move rfl) rfl rfl ?_
      obtain ⟨x42, hx43, hs22⟩ := bind_some hs22
      refine XL_index u22 i3 hm26 hx43 rfl rfl rfl rfl (fun b44 o45 F46 hat47 hsub48 hbm49 => ?_)
      refine XL_load_int u3 rfl hat47 rfl rfl rfl ?_
      refine XL_q rfl (qt_move rfl) rfl rfl ?_
      refine XL_q rfl (qt_and rfl rfl) rfl rfl ?_
      refine XL_q rfl (qt_neq rfl rfl) rfl rfl ?_
      refine WL_nil_seq ?_
      refine WP_cond rfl (fun hc50 => ?_) (fun hc50 => ?_)
      · have hs22 := if_t hc50 hs22
        refine WP_seq ?_
        refine WP_region ?_
        refine XL_q rfl (qt_assign rfl) rfl rfl ?_
        refine WL_nil_seq ?_
        refine WP_ret fun a ha => ?_
        obtain rfl := Option.some.inj hs22
        exact ret_block (ret_seq (⟨ret_ne, rfl, ⟨ha.sub ⟨rfl, trivial⟩, hB25⟩⟩))
      · have hs22 := if_f hc50 hs22
        refine WP_skip fun a ha => ?_
        refine nrm_block (nrm_seq (WP.app ?_ ha))
        refine WP_region ?_
        refine XL_q rfl (qt_add rfl rfl) rfl rfl ?_
        refine XL_q rfl (qt_move rfl) rfl rfl ?_
        refine WL_nil fun a ha => ?_
        obtain rfl := Option.some.inj hs22
        exact ⟨rfl, ⟨ha.sub ⟨rfl, rfl, rfl, rfl, rfl, trivial⟩, hB25, hm26, hm27, hl28, hd29⟩⟩
    · have hs22 := if_f hc30 hs22
      refine WP_exit fun a ha => ?_
      obtain rfl := Option.some.inj hs22
      exact exit_seq (⟨exit_ne, rfl, ⟨ha.sub trivial, hB25⟩⟩)
  · intro e a19 w51 hO52
    rcases o17 with o17 | o17
    · skip
      obtain ⟨rfl, hO53⟩ := hO52
      obtain ⟨ha, hB54⟩ := hO53
      refine exit_block_eq (nrm_seq (WP.app ?_ ha))
      refine WP_seq ?_
      refine WP_region ?_
      refine XL_q rfl (qt_assign rfl) rfl rfl ?_
      refine WL_nil_seq ?_
      refine WP_ret fun a ha => ?_
      exact ret1 rfl ha rfl ⟨congrArg (fun z => Ending.returned (.bool z)) (Option.some.inj h), hB54⟩
    · skip
      obtain ⟨p55, rfl⟩ : ∃ z, z = o17 := ⟨o17, rfl⟩
      obtain ⟨rfl, hO56⟩ := hO52
      obtain ⟨ha, hB57⟩ := hO56
      exact ret_block (ret_seq (ret1 rfl ha rfl ⟨congrArg (fun z => Ending.returned (.bool z)) (Option.some.inj h), hB57⟩))
theorem w_impl_SeatsLeast (w : World) (p0 : Int) (vp1 : Value) (p1 : List Int) (Fp1 : List Nat) (hmp1 : Rep w (.slice (.int .i64)) [vp1] p1 Fp1) (r : Int) (h : impl_SeatsLeastS p0 p1 = some r) : Calls Try.prog 40 #[.int .i64 p0, vp1] w fun e w' => e = .returned (.int .i64 r) ∧ Below w.heap.size w w' := by
  refine calls_enter (args := [.int .i64 p0, vp1]) (n := 55) Try.func40 rfl rfl rfl ?_
  unfold impl_SeatsLeastS at h
  refine WP_seq ?_
  refine WP_region ?_
  refine XL_q rfl (qt_assign rfl) rfl rfl ?_
  refine WL_nil_seq ?_
  refine WP_seq ?_
  refine WP_seq ?_
  refine WP_still ?_
  refine XL_q rfl (qt_move rfl) rfl rfl ?_
  refine XL_q rfl (qt_move rfl) rfl rfl ?_
  obtain ⟨x1, hx2, h⟩ := bind_some h
  refine QL_call rfl rfl c24 (fun w' hb => w_impl_QuarrelsValid w' p0 vp1 p1 Fp1 (hmp1.below hb) x1 hx2) (by rfl) ?_
  refine XL_q rfl (qt_not rfl) rfl rfl ?_
  refine QL_nil fun a ha w3 hb4 => ?_
  have hm5 := hmp1.below hb4
  have hB6 := bl_trans (Below.refl _ _) hb4
  refine nrm_seq (WP.app ?_ ha)
  refine WP_cond rfl (fun hc7 => ?_) (fun hc7 => ?_)
  · have h := if_t hc7 h
    refine WP_seq ?_
    refine WP_region ?_
    refine XL_q rfl (qt_assign rfl) rfl rfl ?_
    refine WL_nil_seq ?_
    refine WP_ret fun a ha => ?_
    exact ret_seq (ret1 rfl ha rfl ⟨congrArg (fun z => Ending.returned (.int .i64 z)) (Option.some.inj h), hB6⟩)
  · have h := if_f hc7 h
    refine WP_skip_seq ?_
    refine WP_seq ?_
    refine WP_region ?_
    refine XL_q rfl (qt_move rfl) rfl rfl ?_
    obtain ⟨x8, hx9, h⟩ := bind_some h
    refine XL_q rfl (qt_shlO rfl rfl hx9) rfl rfl ?_
    obtain ⟨x10, hx11, h⟩ := bind_some h
    refine WL_make u22 j3 rfl rfl (fun _ => ⟨rfl, rfl⟩) rfl hx11 rfl rfl rfl rfl (fun v12 w13 F14 hm15 hb16 hf17 => ?_)
    have hl18 := lo_fresh hB6 hf17
    have hm19 := hm5.below hb16
    have hB20 := bl_trans hB6 hb16
    have hd21 : Dj F14 Fp1 := dj_fresh hf17 hm5.lt
    refine XL_q rfl (qt_assign rfl) rfl rfl ?_
    refine WL_nil_seq ?_
    refine WP_seq ?_
    refine WP_seq ?_
    refine WP_region ?_
    refine XL_q rfl (qt_assign rfl) rfl rfl ?_
    refine WL_nil_seq ?_
    refine WP_block ?_
    obtain ⟨o24, ho25, h⟩ := bind_some h
    refine fun a26 ha27 => wp_loop_fix (I := fun s a w2 => match s with | (s22, s23) => ∃ vs22 Fs22, Fr a 55 [(0, .int .i64 p0), (1, vp1), (5, vs22), (6, .int .i64 s23)] ∧ Below w.heap.size w w2 ∧ Rep w2 (.slice (.int .i64)) [vp1] p1 Fp1 ∧ Own w2 3 (.int .i64) vs22 s22 Fs22 ∧ (∀ k ∈ Fs22, w.heap.size ≤ k) ∧ Dj Fs22 Fp1) (O := fun o e a w2 => match o with | q5 => e = .exit 0 ∧ ∃ vq5 Fq5, Fr a 55 [(0, .int .i64 p0), (5, vq5)] ∧ Below w.heap.size w w2 ∧ Own w2 3 (.int .i64) vq5 q5 Fq5 ∧ (∀ k ∈ Fq5, w.heap.size ≤ k)) ho25 ?_ ?_ ?_
    · exact ⟨v12, F14, ha27.sub ⟨rfl, rfl, rfl, rfl, trivial⟩, hB20, hm19, hm15, hl18, hd21⟩
    · clear ha27
      intro s o30 a w28 hs29 hI31
      obtain ⟨s22, s23⟩ := s
      obtain ⟨vs22, Fs22, ha, hB32, hm33, hm34, hl35, hd36⟩ := hI31
      refine WP.app ?_ ha
      clear ha
      refine WP_seq ?_
      refine WP_seq ?_
      refine WP_region ?_
      refine XL_q rfl (qt_move rfl) rfl rfl ?_
      refine XL_q rfl (qt_move rfl) rfl rfl ?_
      obtain ⟨F37, hr38, hs39⟩ := Own.rep hm34
      refine XL_len u22 hr38 rfl rfl rfl ?_
      refine XL_q rfl (qt_lss rfl rfl) rfl rfl ?_
      refine WL_nil_seq ?_
      refine WP_cond rfl (fun hc40 => ?_) (fun hc40 => ?_)
      · have hs29 := if_t hc40 hs29
        refine WP_skip_seq ?_
        refine WP_seq ?_
        refine WP_block ?_
        refine WP_seq ?_
        refine WP_region ?_
        refine XL_q rfl (qt_move rfl) rfl rfl ?_
        refine XL_q rfl (qt_move rfl) rfl rfl ?_
        refine XL_q rfl (qt_move rfl) rfl rfl ?_
        obtain ⟨x41, hx42, hs29⟩ := bind_some hs29
        refine XL_indexO u22 i3 hm34 hx42 rfl rfl rfl rfl (fun b43 cap44 F45 hv46 hbm47 hat48 hsub49 => ?_)
        have ho50 := hm34; rw [hv46] at ho50
        have hk51 := (geti_lt hx42).2
        refine WL_store rfl i3 ho50 (⟨rfl, rfl⟩) rfl rfl rfl hk51 (fun w52 hm53 hc54 => ?_)
        have hm55 := hm33.chg hc54 hd36
        have hB56 := Chg.below hc54 hB32 hl35
        rw [← hv46] at hm53
        refine WL_nil_seq ?_
        refine WP_seq ?_
        refine WP_region ?_
        refine XL_q rfl (qt_move rfl) rfl rfl ?_
        refine XL_q rfl (qt_assign rfl) rfl rfl ?_
        refine WL_nil_seq ?_
        refine WP_block ?_
        obtain ⟨o59, ho60, hs29⟩ := bind_some hs29
        refine fun a61 ha62 => wp_loop_fix (I := fun s a w2 => match s with | (s57, s58) => ∃ vs57 Fs57, Fr a 55 [(0, .int .i64 p0), (1, vp1), (5, vs57), (6, .int .i64 s23), (7, .int .i64 s58)] ∧ Below w.heap.size w w2 ∧ Rep w2 (.slice (.int .i64)) [vp1] p1 Fp1 ∧ Own w2 3 (.int .i64) vs57 s57 Fs57 ∧ (∀ k ∈ Fs57, w.heap.size ≤ k) ∧ Dj Fs57 Fp1) (O := fun o e a w2 => match o with | q5 => e = .exit 2 ∧ ∃ vq5 Fq5, Fr a 55 [(0, .int .i64 p0), (1, vp1), (5, vq5), (6, .int .i64 s23)] ∧ Below w.heap.size w w2 ∧ Rep w2 (.slice (.int .i64)) [vp1] p1 Fp1 ∧ Own w2 3 (.int .i64) vq5 q5 Fq5 ∧ (∀ k ∈ Fq5, w.heap.size ≤ k) ∧ Dj Fq5 Fp1) ho60 ?_ ?_ ?_
        · exact ⟨vs22, Fs22, ha62.sub ⟨rfl, rfl, rfl, rfl, rfl, trivial⟩, hB56, hm55, hm53, hl35, hd36⟩
        · clear ha62
          intro s o65 a w63 hs64 hI66
          obtain ⟨s57, s58⟩ := s
          obtain ⟨vs57, Fs57, ha, hB67, hm68, hm69, hl70, hd71⟩ := hI66
          refine WP.app ?_ ha
          clear ha
          refine WP_seq ?_
          refine WP_seq ?_
          refine WP_region ?_
          refine XL_q rfl (qt_move rfl) rfl rfl ?_
          refine XL_q rfl (qt_gtr rfl rfl) rfl rfl ?_
          refine WL_nil_seq ?_
          refine WP_cond rfl (fun hc72 => ?_) (fun hc72 => ?_)
          · have hs64 := if_t hc72 hs64
            refine WP_skip_seq ?_
            refine WP_seq ?_
            refine WP_block ?_
            refine WP_seq ?_
            refine WP_still ?_
            refine XL_q rfl (qt_move rfl) rfl rfl ?_
            refine XL_q rfl (qt_move rfl) rfl rfl ?_
            obtain ⟨x73, hx74, hs64⟩ := bind_some hs64
            refine QL_call rfl rfl c58 (fun w' hb => w_impl_atPeace w' vp1 p1 Fp1 (hm68.below hb) s58 x73 hx74) (by rfl) ?_
            refine QL_nil fun a ha w75 hb76 => ?_
            have hm77 := hm68.below hb76
            have hm78 := hm69.below hb76
            have hB79 := bl_trans hB67 hb76
            refine nrm_seq (WP.app ?_ ha)
            refine WP_cond rfl (fun hc80 => ?_) (fun hc80 => ?_)
            · have hs64 := if_t hc80 hs64
              refine WP_tail 14 (by kernel_rfl) (by kernel_rfl) (fun w81 hb82 => ?_)
              have hm83 := hm77.below hb82
              have hm84 := hm78.below hb82
              have hB85 := bl_trans hB79 hb82
              refine XL_q rfl (qt_move rfl) rfl rfl ?_
              refine XL_q rfl (qt_move rfl) rfl rfl ?_
              refine XL_q rfl (qt_move rfl) rfl rfl ?_
              refine XL_q rfl (qt_move rfl) rfl rfl ?_
              obtain ⟨x86, hx87, hs64⟩ := bind_some hs64
              refine XL_indexO u22 i3 hm84 hx87 rfl rfl rfl rfl (fun b88 cap89 F90 hv91 hbm92 hat93 hsub94 => ?_)
              have ho95 := hm84; rw [hv91] at ho95
              have hk96 := (geti_lt hx87).2
              refine XL_load_int u3 rfl hat93 rfl rfl rfl ?_
              refine XL_q rfl (qt_move rfl) rfl rfl ?_
              refine XL_q rfl (qt_move rfl) rfl rfl ?_
              refine XL_q rfl (qt_move rfl) rfl rfl ?_
              refine XL_q rfl (qt_andNot rfl rfl) rfl rfl ?_
              obtain ⟨x97, hx98, hs64⟩ := bind_some hs64
              refine XL_indexO u22 i3 hm84 hx98 rfl rfl rfl rfl (fun b99 cap100 F101 hv102 hbm103 hat104 hsub105 => ?_)
              have ho106 := hm84; rw [hv102] at ho106
              have hk107 := (geti_lt hx98).2
              refine XL_load_int u3 rfl hat104 rfl rfl rfl ?_
              refine XL_q rfl (qt_add rfl rfl) rfl rfl ?_
              refine XL_q rfl (qt_min rfl rfl) rfl rfl ?_
              refine SL_nil ?_
              obtain ⟨x108, hx109, hs64⟩ := bind_some hs64
              refine XL_indexO u22 i3 hm84 hx109 rfl rfl rfl rfl (fun b110 cap111 F112 hv113 hbm114 hat115 hsub116 => ?_)
              have ho117 := hm84; rw [hv113] at ho117
              have hk118 := (geti_lt hx109).2
              refine WL_store rfl i3 ho117 (⟨rfl, rfl⟩) rfl rfl rfl hk118 (fun w119 hm120 hc121 => ?_)
              have hm122 := hm83.chg hc121 hd71
              have hB123 := Chg.below hc121 hB85 hl70
              rw [← hv113] at hm120
              refine WL_nil fun a ha => ?_
              refine nrm_block (nrm_seq (WP.app ?_ ha))
              refine WP_region ?_
              refine XL_q rfl (qt_move rfl) rfl rfl ?_
              refine XL_q rfl (qt_sub rfl rfl) rfl rfl ?_
              refine XL_q rfl (qt_move rfl) rfl rfl ?_
              refine XL_q rfl (qt_and rfl rfl) rfl rfl ?_
              refine XL_q rfl (qt_assign rfl) rfl rfl ?_
              refine WL_nil fun a ha => ?_
              obtain rfl := Option.some.inj hs64
              exact ⟨rfl, ⟨vs57, Fs57, ha.sub ⟨rfl, rfl, rfl, rfl, rfl, trivial⟩, hB123, hm122, hm120, hl70, hd71⟩⟩
            · have hs64 := if_f hc80 hs64
              refine WP_skip fun a ha => ?_
              refine nrm_block (nrm_seq (WP.app ?_ ha))
              refine WP_region ?_
              refine XL_q rfl (qt_move rfl) rfl rfl ?_
              refine XL_q rfl (qt_sub rfl rfl) rfl rfl ?_
              refine XL_q rfl (qt_move rfl) rfl rfl ?_
              refine XL_q rfl (qt_and rfl rfl) rfl rfl ?_
              refine XL_q rfl (qt_assign rfl) rfl rfl ?_
              refine WL_nil fun a ha => ?_
              obtain rfl := Option.some.inj hs64
              exact ⟨rfl, ⟨vs57, Fs57, ha.sub ⟨rfl, rfl, rfl, rfl, rfl, trivial⟩, hB79, hm77, hm78, hl70, hd71⟩⟩
          · have hs64 := if_f hc72 hs64
            refine WP_exit fun a ha => ?_
            obtain rfl := Option.some.inj hs64
            exact exit_seq (⟨exit_ne, rfl, ⟨vs57, Fs57, ha.sub ⟨rfl, rfl, rfl, rfl, trivial⟩, hB67, hm68, hm69, hl70, hd71⟩⟩)
        · intro e a61 w124 hO125
          obtain ⟨p126, rfl⟩ : ∃ z, z = o59 := ⟨o59, rfl⟩
          obtain ⟨rfl, hO127⟩ := hO125
          obtain ⟨vp126, Fp126, ha, hB128, hm129, hm130, hl131, hd132⟩ := hO127
          refine exit_block_eq (nrm_block (nrm_seq (WP.app ?_ ha)))
          refine WP_region ?_
          refine XL_q rfl (qt_move rfl) rfl rfl ?_
          refine XL_q rfl (qt_add rfl rfl) rfl rfl ?_
          refine XL_q rfl (qt_assign rfl) rfl rfl ?_
          refine WL_nil fun a ha => ?_
          obtain rfl := Option.some.inj hs29
          exact ⟨rfl, ⟨vp126, Fp126, ha.sub ⟨rfl, rfl, rfl, rfl, trivial⟩, hB128, hm129, hm130, hl131, hd132⟩⟩
      · have hs29 := if_f hc40 hs29
        refine WP_exit fun a ha => ?_
        obtain rfl := Option.some.inj hs29
        exact exit_seq (⟨exit_ne, rfl, ⟨vs22, Fs22, ha.sub ⟨rfl, rfl, trivial⟩, hB32, hm34, hl35⟩⟩)
    · intro e a26 w133 hO134
      obtain ⟨p135, rfl⟩ : ∃ z, z = o24 := ⟨o24, rfl⟩
      obtain ⟨rfl, hO136⟩ := hO134
      obtain ⟨vp135, Fp135, ha, hB137, hm138, hl139⟩ := hO136
      refine exit_block_eq (nrm_seq (WP.app ?_ ha))
      refine WP_seq ?_
      refine WP_still ?_
      refine XL_q rfl (qt_move rfl) rfl rfl ?_
      refine XL_q rfl (qt_move rfl) rfl rfl ?_
      obtain ⟨x140, hx141, h⟩ := bind_some h
      refine QL_call rfl rfl c51 (fun w' hb => w_impl_everybody w' p0 x140 hx141) (by rfl) ?_
      obtain ⟨x142, hx143, h⟩ := bind_some h
      refine XL_indexO u22 i3 hm138 hx143 rfl rfl rfl rfl (fun b144 cap145 F146 hv147 hbm148 hat149 hsub150 => ?_)
      have ho151 := hm138; rw [hv147] at ho151
      have hk152 := (geti_lt hx143).2
      refine XL_load_int u3 rfl hat149 rfl rfl rfl ?_
      refine XL_q rfl (qt_assign rfl) rfl rfl ?_
      refine QL_nil fun a ha w153 hb154 => ?_
      have hB155 := bl_trans hB137 hb154
      refine nrm_seq (WP.app ?_ ha)
      refine WP_ret fun a ha => ?_
      exact ret1 rfl ha rfl ⟨congrArg (fun z => Ending.returned (.int .i64 z)) (Option.some.inj h), hB155⟩
theorem w_laws_FnExactSeatsLeast (w : World) (p0 : Int) (vp1 : Value) (p1 : List Int) (Fp1 : List Nat) (hmp1 : Rep w (.slice (.int .i64)) [vp1] p1 Fp1) (r : Bool) (h : laws_FnExactSeatsLeastS p0 p1 = some r) : Calls Try.prog 12 #[.int .i64 p0, vp1] w fun e w' => e = .returned (.bool r) ∧ Below w.heap.size w w' := by
  refine calls_enter (args := [.int .i64 p0, vp1]) (n := 28) Try.func12 rfl rfl rfl ?_
  unfold laws_FnExactSeatsLeastS at h
  refine WP_seq ?_
  refine WP_region ?_
  refine XL_q rfl (qt_assign rfl) rfl rfl ?_
  refine WL_nil_seq ?_
  refine WP_seq ?_
  refine WP_seq ?_
  refine WP_region ?_
  refine XL_q rfl (qt_move rfl) rfl rfl ?_
  refine XL_len u22 hmp1 rfl rfl rfl ?_
  refine XL_q rfl (qt_gtr rfl rfl) rfl rfl ?_
  refine WL_nil_seq ?_
  refine WP_cond rfl (fun hc1 => ?_) (fun hc1 => ?_)
  · have h := if_t hc1 h
    refine WP_seq ?_
    refine WP_region ?_
    refine XL_q rfl (qt_assign rfl) rfl rfl ?_
    refine WL_nil_seq ?_
    refine WP_ret fun a ha => ?_
    exact ret_seq (ret1 rfl ha rfl ⟨congrArg (fun z => Ending.returned (.bool z)) (Option.some.inj h), (Below.refl _ _)⟩)
  · have h := if_f hc1 h
    refine WP_skip_seq ?_
    refine WP_seq ?_
    refine WP_region ?_
    refine XL_q rfl (qt_move rfl) rfl rfl ?_
    refine XL_q rfl (qt_move rfl) rfl rfl ?_
    obtain ⟨x2, hx3, h⟩ := bind_some h
    refine WL_call rfl rfl c18 (w_laws_toIntS w vp1 p1 Fp1 hmp1 x2 hx3) (by rfl) ?_
    rintro _ w5 ⟨v4, F6, rfl, hm7, hf9, hb8⟩; refine ⟨_, rfl, ?_⟩
    have hl10 := lo_fresh (Below.refl _ _) hf9
    have hm11 := hmp1.below hb8
    have hB12 := bl_trans (Below.refl _ _) hb8
    have hd13 : Dj F6 Fp1 := dj_fresh hf9 hmp1.lt
    obtain ⟨x14, hx15, h⟩ := bind_some h
    obtain ⟨F16, hr17, hs18⟩ := Own.rep hm7
    refine WL_call rfl rfl c39 (w_spec_SeatsLeast w5 p0 v4 x2 F16 hr17 x14 hx15) (by rfl) ?_
    rintro _ w19 ⟨rfl, hb20⟩; refine ⟨_, rfl, ?_⟩
    have hm21 := hm11.below hb20
    have hm22 := hm7.below hb20
    have hB23 := bl_trans hB12 hb20
    refine XL_q rfl (qt_assign rfl) rfl rfl ?_
    refine WL_nil_seq ?_
    refine WP_seq ?_
    refine WP_region ?_
    refine XL_q rfl (qt_move rfl) rfl rfl ?_
    obtain ⟨x24, hx25, h⟩ := bind_some h
    refine WL_call rfl rfl c18 (w_laws_toIntS w19 vp1 p1 Fp1 hm21 x24 hx25) (by rfl) ?_
    rintro _ w27 ⟨v26, F28, rfl, hm29, hf31, hb30⟩; refine ⟨_, rfl, ?_⟩
    have hl32 := lo_fresh hB23 hf31
    have hm33 := hm21.below hb30
    have hm34 := hm22.below hb30
    have hB35 := bl_trans hB23 hb30
    have hd36 : Dj F28 Fp1 := dj_fresh hf31 hm21.lt
    have hd37 : Dj F28 F6 := dj_fresh hf31 hm22.lt
    refine XL_q rfl (qt_assign rfl) rfl rfl ?_
    refine WL_nil_seq ?_
    refine WP_seq ?_
    refine WP_still ?_
    refine XL_q rfl (qt_move rfl) rfl rfl ?_
    refine XL_q rfl (qt_move rfl) rfl rfl ?_
    obtain ⟨x38, hx39, h⟩ := bind_some h
    obtain ⟨F40, hr41, hs42⟩ := Own.rep hm29
    refine QL_call rfl rfl c40 (fun w' hb => w_impl_SeatsLeast w' p0 v26 x24 F40 (hr41.below hb) x38 hx39) (by rfl) ?_
    refine XL_q rfl (qt_assign rfl) rfl rfl ?_
    refine QL_nil fun a ha w43 hb44 => ?_
    have hm45 := hm33.below hb44
    have hm46 := hm29.below hb44
    have hB47 := bl_trans hB35 hb44
    refine nrm_seq (WP.app ?_ ha)
    refine WP_seq ?_
    refine WP_seq ?_
    refine WP_region ?_
    refine XL_q rfl (qt_move rfl) rfl rfl ?_
    refine XL_q rfl (qt_move rfl) rfl rfl ?_
    refine XL_q rfl (qt_neq rfl rfl) rfl rfl ?_
    refine WL_nil_seq ?_
    refine WP_cond rfl (fun hc48 => ?_) (fun hc48 => ?_)
    · have h := if_t hc48 h
      refine WP_seq ?_
      refine WP_region ?_
      refine XL_q rfl (qt_assign rfl) rfl rfl ?_
      refine WL_nil_seq ?_
      refine WP_ret fun a ha => ?_
      exact ret_seq (ret1 rfl ha rfl ⟨congrArg (fun z => Ending.returned (.bool z)) (Option.some.inj h), hB47⟩)
    · have h := if_f hc48 h
      refine WP_skip_seq ?_
      refine WP_seq ?_
      refine WP_seq ?_
      refine WP_region ?_
      refine XL_q rfl (qt_move rfl) rfl rfl ?_
      refine XL_q rfl (qt_move rfl) rfl rfl ?_
      obtain ⟨x49, hx50, h⟩ := bind_some h
      refine WL_call rfl rfl c18 (w_laws_toIntS w43 vp1 p1 Fp1 hm45 x49 hx50) (by rfl) ?_
      rintro _ w52 ⟨v51, F53, rfl, hm54, hf56, hb55⟩; refine ⟨_, rfl, ?_⟩
      have hl57 := lo_fresh hB47 hf56
      have hm58 := hm45.below hb55
      have hm59 := hm46.below hb55
      have hB60 := bl_trans hB47 hb55
      have hd61 : Dj F53 Fp1 := dj_fresh hf56 hm45.lt
      have hd62 : Dj F53 F28 := dj_fresh hf56 hm46.lt
      obtain ⟨x63, hx64, h⟩ := bind_some h
      obtain ⟨F65, hr66, hs67⟩ := Own.rep hm59
      obtain ⟨F68, hr69, hs70⟩ := Own.rep hm54
      refine WL_call rfl rfl c20 (w_laws_eqIntS w52 v26 x24 F65 hr66 v51 x49 F68 hr69 x63 hx64) (by rfl) ?_
      rintro _ w71 ⟨rfl, hb72⟩; refine ⟨_, rfl, ?_⟩
      have hm73 := hm58.below hb72
      have hm74 := hm59.below hb72
      have hm75 := hm54.below hb72
      have hB76 := bl_trans hB60 hb72
      refine XL_q rfl (qt_not rfl) rfl rfl ?_
      refine WL_nil_seq ?_
      refine WP_cond rfl (fun hc77 => ?_) (fun hc77 => ?_)
      · have h := if_t hc77 h
        refine WP_seq ?_
        refine WP_region ?_
        refine XL_q rfl (qt_assign rfl) rfl rfl ?_
        refine WL_nil_seq ?_
        refine WP_ret fun a ha => ?_
        exact ret_seq (ret1 rfl ha rfl ⟨congrArg (fun z => Ending.returned (.bool z)) (Option.some.inj h), hB76⟩)
      · have h := if_f hc77 h
        refine WP_skip_seq ?_
        refine WP_seq ?_
        refine WP_region ?_
        refine XL_q rfl (qt_assign rfl) rfl rfl ?_
        refine WL_nil_seq ?_
        refine WP_ret fun a ha => ?_
        exact ret1 rfl ha rfl ⟨congrArg (fun z => Ending.returned (.bool z)) (Option.some.inj h), hB76⟩
theorem w_spec_ApartMost (w : World) (p0 : Int) (vp1 : Value) (p1 : List Int) (Fp1 : List Nat) (hmp1 : Rep w (.slice (.int .i64)) [vp1] p1 Fp1) (r : Int) (h : spec_ApartMostS p0 p1 = some r) : Calls Try.prog 41 #[.int .i64 p0, vp1] w fun e w' => e = .returned (.int .i64 r) ∧ Below w.heap.size w w' := by
  refine calls_enter (args := [.int .i64 p0, vp1]) (n := 43) Try.func41 rfl rfl rfl ?_
  unfold spec_ApartMostS at h
  refine WP_seq ?_
  refine WP_region ?_
  refine XL_q rfl (qt_assign rfl) rfl rfl ?_
  refine WL_nil_seq ?_
  refine WP_seq ?_
  refine WP_seq ?_
  refine WP_still ?_
  refine XL_q rfl (qt_move rfl) rfl rfl ?_
  refine XL_q rfl (qt_move rfl) rfl rfl ?_
  obtain ⟨x1, hx2, h⟩ := bind_some h
  refine QL_call rfl rfl c17 (fun w' hb => w_spec_MenuValid w' p0 vp1 p1 Fp1 (hmp1.below hb) x1 hx2) (by rfl) ?_
  refine XL_q rfl (qt_not rfl) rfl rfl ?_
  refine QL_nil fun a ha w3 hb4 => ?_
  have hm5 := hmp1.below hb4
  have hB6 := bl_trans (Below.refl _ _) hb4
  refine nrm_seq (WP.app ?_ ha)
  refine WP_cond rfl (fun hc7 => ?_) (fun hc7 => ?_)
  · have h := if_t hc7 h
    refine WP_seq ?_
    refine WP_region ?_
    refine XL_q rfl (qt_assign rfl) rfl rfl ?_
    refine WL_nil_seq ?_
    refine WP_ret fun a ha => ?_
    exact ret_seq (ret1 rfl ha rfl ⟨congrArg (fun z => Ending.returned (.int .i64 z)) (Option.some.inj h), hB6⟩)
  · have h := if_f hc7 h
    refine WP_skip_seq ?_
    refine WP_seq ?_
    refine WP_region ?_
    refine XL_q rfl (qt_assign rfl) rfl rfl ?_
    refine WL_nil_seq ?_
    refine WP_seq ?_
    refine WP_seq ?_
    refine WP_region ?_
    refine XL_q rfl (qt_assign rfl) rfl rfl ?_
    refine WL_nil_seq ?_
    refine WP_block ?_
    obtain ⟨o10, ho11, h⟩ := bind_some h
    refine fun a12 ha13 => wp_loop_fix (I := fun s a w2 => match s with | (s8, s9) => (Fr a 43 [(0, .int .i64 p0), (1, vp1), (5, .int .i64 s8), (6, .int .i64 s9)] ∧ Below w.heap.size w w2 ∧ Rep w2 (.slice (.int .i64)) [vp1] p1 Fp1)) (O := fun o e a w2 => match o with | q5 => e = .exit 0 ∧ (Fr a 43 [(5, .int .i64 q5)] ∧ Below w.heap.size w w2)) ho11 ?_ ?_ ?_
    · exact ⟨ha13.sub ⟨rfl, rfl, rfl, rfl, trivial⟩, hB6, hm5⟩
    · clear ha13
      intro s o16 a w14 hs15 hI17
      obtain ⟨s8, s9⟩ := s
      obtain ⟨ha, hB18, hm19⟩ := hI17
      refine WP.app ?_ ha
      clear ha
      refine WP_seq ?_
      refine WP_seq ?_
      refine WP_region ?_
      refine XL_q rfl (qt_move rfl) rfl rfl ?_
      refine XL_q rfl (qt_move rfl) rfl rfl ?_
      obtain ⟨x20, hx21, hs15⟩ := bind_some hs15
      refine XL_q rfl (qt_shlO rfl rfl hx21) rfl rfl ?_
      refine XL_q rfl (qt_lss rfl rfl) rfl rfl ?_
      refine WL_nil_seq ?_
      refine WP_cond rfl (fun hc22 => ?_) (fun hc22 => ?_)
      · have hs15 := if_t hc22 hs15
        refine WP_skip_seq ?_
        refine WP_seq ?_
        refine WP_block ?_
        refine WP_seq ?_
        refine WP_region ?_
        refine WL_buildSlice (t := (.int .i64)) (args := []) (xs := ([] : List Int)) (F := []) u22 j3 rfl rfl rfl rfl rfl rfl rfl (fun v23 w24 F25 hm26 hb27 hf28 => ?_)
        have hf29 : ∀ k ∈ F25, w14.heap.size ≤ k := fun k hk => (hf28 k hk).resolve_left (fun h => by cases h)
        have hl30 := lo_fresh hB18 hf29
        have hm31 := hm19.below hb27
        have hB32 := bl_trans hB18 hb27
        have hd33 : Dj F25 Fp1 := dj_fresh hf29 hm19.lt
        refine XL_q rfl (qt_assign rfl) rfl rfl ?_
        refine WL_nil_seq ?_
        refine WP_seq ?_
        refine WP_seq ?_
        refine WP_region ?_
        refine XL_q rfl (qt_assign rfl) rfl rfl ?_
        refine WL_nil_seq ?_
        refine WP_block ?_
        obtain ⟨o36, ho37, hs15⟩ := bind_some hs15
        refine fun a38 ha39 => wp_loop_fix (I := fun s a w2 => match s with | (s34, s35) => ∃ vs34 Fs34, Fr a 43 [(0, .int .i64 p0), (1, vp1), (5, .int .i64 s8), (6, .int .i64 s9), (7, vs34), (8, .int .i64 s35)] ∧ Below w.heap.size w w2 ∧ Rep w2 (.slice (.int .i64)) [vp1] p1 Fp1 ∧ Own w2 3 (.int .i64) vs34 s34 Fs34 ∧ (∀ k ∈ Fs34, w.heap.size ≤ k) ∧ Dj Fs34 Fp1) (O := fun o e a w2 => match o with | q7 => e = .exit 2 ∧ ∃ vq7 Fq7, Fr a 43 [(0, .int .i64 p0), (1, vp1), (5, .int .i64 s8), (6, .int .i64 s9), (7, vq7)] ∧ Below w.heap.size w w2 ∧ Rep w2 (.slice (.int .i64)) [vp1] p1 Fp1 ∧ Own w2 3 (.int .i64) vq7 q7 Fq7 ∧ (∀ k ∈ Fq7, w.heap.size ≤ k) ∧ Dj Fq7 Fp1) ho37 ?_ ?_ ?_
        · exact ⟨v23, F25, ha39.sub ⟨rfl, rfl, rfl, rfl, rfl, rfl, trivial⟩, hB32, hm31, hm26, hl30, hd33⟩
        · clear ha39
          intro s o42 a w40 hs41 hI43
          obtain ⟨s34, s35⟩ := s
          obtain ⟨vs34, Fs34, ha, hB44, hm45, hm46, hl47, hd48⟩ := hI43
          refine WP.app ?_ ha
          clear ha
          refine WP_seq ?_
          refine WP_seq ?_
          refine WP_region ?_
          refine XL_q rfl (qt_move rfl) rfl rfl ?_
          refine XL_q rfl (qt_move rfl) rfl rfl ?_
          refine XL_q rfl (qt_lss rfl rfl) rfl rfl ?_
          refine WL_nil_seq ?_
          refine WP_cond rfl (fun hc49 => ?_) (fun hc49 => ?_)
          · have hs41 := if_t hc49 hs41
            refine WP_skip_seq ?_
            refine WP_seq ?_
            refine WP_block ?_
            refine WP_seq ?_
            refine WP_region ?_
            refine XL_q rfl (qt_move rfl) rfl rfl ?_
            refine XL_q rfl (qt_move rfl) rfl rfl ?_
            obtain ⟨x50, hx51, hs41⟩ := bind_some hs41
            refine XL_q rfl (qt_shrO rfl rfl hx51) rfl rfl ?_
            refine XL_q rfl (qt_rem rfl rfl (by decide)) rfl rfl ?_
            refine XL_q rfl (qt_eql rfl rfl) rfl rfl ?_
            refine WL_nil_seq ?_
            refine WP_cond rfl (fun hc52 => ?_) (fun hc52 => ?_)
            · have hs41 := if_t hc52 hs41
              refine WP_region ?_
              refine XL_q rfl (qt_move rfl) rfl rfl ?_
              refine XL_q rfl (qt_move rfl) rfl rfl ?_
              refine WL_buildSlice (t := (.int .i64)) (args := [.tmp 31]) (xs := ([s35] : List Int)) (F := []) u22 j3 rfl rfl rfl ⟨[], [], rfl, ⟨rfl, rfl⟩, rfl⟩ rfl rfl rfl (fun v53 w54 F55 hm56 hb57 hf58 => ?_)
              have hf59 : ∀ k ∈ F55, w40.heap.size ≤ k := fun k hk => (hf58 k hk).resolve_left (fun h => by cases h)
              have hl60 := lo_fresh hB44 hf59
              have hm61 := hm45.below hb57
              have hm62 := hm46.below hb57
              have hB63 := bl_trans hB44 hb57
              have hd64 : Dj F55 Fp1 := dj_fresh hf59 hm45.lt
              have hd65 : Dj F55 Fs34 := dj_fresh hf59 hm46.lt
              obtain ⟨x66, hx67, hs41⟩ := bind_some hs41
              obtain ⟨F68, hr69, hs70⟩ := Own.rep hm56
              refine WL_appendF rfl u22 j3 rfl rfl hm62 hr69 (Dj.symm (dj_sub (Dj.symm (Dj.symm hd65)) hs70)) hx67 rfl rfl rfl rfl (fun v71 w72 F73 hm74 hc75 hf76 => ?_)
              have hl77 := lo_app hB63 hf76 hl47
              have hm78 := hm61.chg hc75 hd48
              have hm79 := hm56.chg hc75 (Dj.symm hd65)
              have hB80 := Chg.below hc75 hB63 hl47
              have hd81 := dj_app hf76 hd48 hm61.lt
              have hd82 := dj_app hf76 (Dj.symm hd65) hm56.lt
              refine XL_q rfl (qt_assign rfl) rfl rfl ?_
              refine WL_nil fun a ha => ?_
              refine nrm_block (nrm_seq (WP.app ?_ ha))
              refine WP_region ?_
              refine XL_q rfl (qt_move rfl) rfl rfl ?_
              refine XL_q rfl (qt_add rfl rfl) rfl rfl ?_
              refine XL_q rfl (qt_assign rfl) rfl rfl ?_
              refine WL_nil fun a ha => ?_
              obtain rfl := Option.some.inj hs41
              exact ⟨rfl, ⟨v71, F73, ha.sub ⟨rfl, rfl, rfl, rfl, rfl, rfl, trivial⟩, hB80, hm78, hm74, hl77, hd81⟩⟩
            · have hs41 := if_f hc52 hs41
              refine WP_skip fun a ha => ?_
              refine nrm_block (nrm_seq (WP.app ?_ ha))
              refine WP_region ?_
              refine XL_q rfl (qt_move rfl) rfl rfl ?_
              refine XL_q rfl (qt_add rfl rfl) rfl rfl ?_
              refine XL_q rfl (qt_assign rfl) rfl rfl ?_
              refine WL_nil fun a ha => ?_
              obtain rfl := Option.some.inj hs41
              exact ⟨rfl, ⟨vs34, Fs34, ha.sub ⟨rfl, rfl, rfl, rfl, rfl, rfl, trivial⟩, hB44, hm45, hm46, hl47, hd48⟩⟩
          · have hs41 := if_f hc49 hs41
            refine WP_exit fun a ha => ?_
            obtain rfl := Option.some.inj hs41
            exact exit_seq (⟨exit_ne, rfl, ⟨vs34, Fs34, ha.sub ⟨rfl, rfl, rfl, rfl, rfl, trivial⟩, hB44, hm45, hm46, hl47, hd48⟩⟩)
        · intro e a38 w83 hO84
          obtain ⟨p85, rfl⟩ : ∃ z, z = o36 := ⟨o36, rfl⟩
          obtain ⟨rfl, hO86⟩ := hO84
          obtain ⟨vp85, Fp85, ha, hB87, hm88, hm89, hl90, hd91⟩ := hO86
          refine exit_block_eq (nrm_seq (WP.app ?_ ha))
          refine WP_seq ?_
          refine WP_still ?_
          refine XL_q rfl (qt_move rfl) rfl rfl ?_
          refine XL_q rfl (qt_move rfl) rfl rfl ?_
          refine XL_q rfl (qt_move rfl) rfl rfl ?_
          obtain ⟨x92, hx93, hs15⟩ := bind_some hs15
          obtain ⟨F94, hr95, hs96⟩ := Own.rep hm89
          refine QL_call rfl rfl c35 (fun w' hb => w_spec_ApartValid w' p0 vp1 p1 Fp1 (hm88.below hb) vp85 p85 F94 (hr95.below hb) x92 hx93) (by rfl) ?_
          refine QL_nil fun a ha w97 hb98 => ?_
          have hm99 := hm88.below hb98
          have hm100 := hm89.below hb98
          have hB101 := bl_trans hB87 hb98
          refine nrm_seq (WP.app ?_ ha)
          refine WP_cond rfl (fun hc102 => ?_) (fun hc102 => ?_)
          · have hs15 := if_t hc102 hs15
            refine WP_region ?_
            refine XL_q rfl (qt_move rfl) rfl rfl ?_
            refine XL_q rfl (qt_move rfl) rfl rfl ?_
            obtain ⟨F103, hr104, hs105⟩ := Own.rep hm100
            refine XL_len u22 hr104 rfl rfl rfl ?_
            refine XL_q rfl (qt_max rfl rfl) rfl rfl ?_
            refine XL_q rfl (qt_assign rfl) rfl rfl ?_
            refine WL_nil fun a ha => ?_
            refine nrm_block (nrm_seq (WP.app ?_ ha))
            refine WP_region ?_
            refine XL_q rfl (qt_move rfl) rfl rfl ?_
            refine XL_q rfl (qt_add rfl rfl) rfl rfl ?_
            refine XL_q rfl (qt_assign rfl) rfl rfl ?_
            refine WL_nil fun a ha => ?_
            obtain rfl := Option.some.inj hs15
            exact ⟨rfl, ⟨ha.sub ⟨rfl, rfl, rfl, rfl, trivial⟩, hB101, hm99⟩⟩
          · have hs15 := if_f hc102 hs15
            refine WP_skip fun a ha => ?_
            refine nrm_block (nrm_seq (WP.app ?_ ha))
            refine WP_region ?_
            refine XL_q rfl (qt_move rfl) rfl rfl ?_
            refine XL_q rfl (qt_add rfl rfl) rfl rfl ?_
            refine XL_q rfl (qt_assign rfl) rfl rfl ?_
            refine WL_nil fun a ha => ?_
            obtain rfl := Option.some.inj hs15
            exact ⟨rfl, ⟨ha.sub ⟨rfl, rfl, rfl, rfl, trivial⟩, hB101, hm99⟩⟩
      · have hs15 := if_f hc22 hs15
        refine WP_exit fun a ha => ?_
        obtain rfl := Option.some.inj hs15
        exact exit_seq (⟨exit_ne, rfl, ⟨ha.sub ⟨rfl, trivial⟩, hB18⟩⟩)
    · intro e a12 w106 hO107
      obtain ⟨p108, rfl⟩ : ∃ z, z = o10 := ⟨o10, rfl⟩
      obtain ⟨rfl, hO109⟩ := hO107
      obtain ⟨ha, hB110⟩ := hO109
      refine exit_block_eq (nrm_seq (WP.app ?_ ha))
      refine WP_seq ?_
      refine WP_region ?_
      refine XL_q rfl (qt_move rfl) rfl rfl ?_
      refine XL_q rfl (qt_assign rfl) rfl rfl ?_
      refine WL_nil_seq ?_
      refine WP_ret fun a ha => ?_
      exact ret1 rfl ha rfl ⟨congrArg (fun z => Ending.returned (.int .i64 z)) (Option.some.inj h), hB110⟩
theorem w_impl_ApartMost (w : World) (p0 : Int) (vp1 : Value) (p1 : List Int) (Fp1 : List Nat) (hmp1 : Rep w (.slice (.int .i64)) [vp1] p1 Fp1) (r : Int) (h : impl_ApartMostS p0 p1 = some r) : Calls Try.prog 42 #[.int .i64 p0, vp1] w fun e w' => e = .returned (.int .i64 r) ∧ Below w.heap.size w w' := by
  refine calls_enter (args := [.int .i64 p0, vp1]) (n := 29) Try.func42 rfl rfl rfl ?_
  unfold impl_ApartMostS at h
  refine WP_seq ?_
  refine WP_region ?_
  refine XL_q rfl (qt_assign rfl) rfl rfl ?_
  refine WL_nil_seq ?_
  refine WP_seq ?_
  refine WP_seq ?_
  refine WP_still ?_
  refine XL_q rfl (qt_move rfl) rfl rfl ?_
  refine XL_q rfl (qt_move rfl) rfl rfl ?_
  obtain ⟨x1, hx2, h⟩ := bind_some h
  refine QL_call rfl rfl c19 (fun w' hb => w_impl_MenuValid w' p0 vp1 p1 Fp1 (hmp1.below hb) x1 hx2) (by rfl) ?_
  refine XL_q rfl (qt_not rfl) rfl rfl ?_
  refine QL_nil fun a ha w3 hb4 => ?_
  have hm5 := hmp1.below hb4
  have hB6 := bl_trans (Below.refl _ _) hb4
  refine nrm_seq (WP.app ?_ ha)
  refine WP_cond rfl (fun hc7 => ?_) (fun hc7 => ?_)
  · have h := if_t hc7 h
    refine WP_seq ?_
    refine WP_region ?_
    refine XL_q rfl (qt_assign rfl) rfl rfl ?_
    refine WL_nil_seq ?_
    refine WP_ret fun a ha => ?_
    exact ret_seq (ret1 rfl ha rfl ⟨congrArg (fun z => Ending.returned (.int .i64 z)) (Option.some.inj h), hB6⟩)
  · have h := if_f hc7 h
    refine WP_skip_seq ?_
    refine WP_seq ?_
    refine WP_region ?_
    refine XL_q rfl (qt_assign rfl) rfl rfl ?_
    refine WL_nil_seq ?_
    refine WP_seq ?_
    refine WP_seq ?_
    refine WP_region ?_
    refine XL_q rfl (qt_assign rfl) rfl rfl ?_
    refine WL_nil_seq ?_
    refine WP_block ?_
    obtain ⟨o10, ho11, h⟩ := bind_some h
    refine fun a12 ha13 => wp_loop_fix (I := fun s a w2 => match s with | (s8, s9) => (Fr a 29 [(0, .int .i64 p0), (1, vp1), (5, .int .i64 s8), (6, .int .i64 s9)] ∧ Below w.heap.size w w2 ∧ Rep w2 (.slice (.int .i64)) [vp1] p1 Fp1)) (O := fun o e a w2 => match o with | q5 => e = .exit 0 ∧ (Fr a 29 [(5, .int .i64 q5)] ∧ Below w.heap.size w w2)) ho11 ?_ ?_ ?_
    · exact ⟨ha13.sub ⟨rfl, rfl, rfl, rfl, trivial⟩, hB6, hm5⟩
    · clear ha13
      intro s o16 a w14 hs15 hI17
      obtain ⟨s8, s9⟩ := s
      obtain ⟨ha, hB18, hm19⟩ := hI17
      refine WP.app ?_ ha
      clear ha
      refine WP_seq ?_
      refine WP_seq ?_
      refine WP_region ?_
      refine XL_q rfl (qt_move rfl) rfl rfl ?_
      refine XL_q rfl (qt_move rfl) rfl rfl ?_
      obtain ⟨x20, hx21, hs15⟩ := bind_some hs15
      refine XL_q rfl (qt_shlO rfl rfl hx21) rfl rfl ?_
      refine XL_q rfl (qt_lss rfl rfl) rfl rfl ?_
      refine WL_nil_seq ?_
      refine WP_cond rfl (fun hc22 => ?_) (fun hc22 => ?_)
      · have hs15 := if_t hc22 hs15
        refine WP_skip_seq ?_
        refine WP_seq ?_
        refine WP_block ?_
        refine WP_seq ?_
        refine WP_region ?_
        refine XL_q rfl (qt_move rfl) rfl rfl ?_
        obtain ⟨x23, hx24, hs15⟩ := bind_some hs15
        refine WL_call rfl rfl c54 (w_impl_membersOf w14 s9 x23 hx24) (by rfl) ?_
        rintro _ w26 ⟨v25, F27, rfl, hm28, hf30, hb29⟩; refine ⟨_, rfl, ?_⟩
        have hl31 := lo_fresh hB18 hf30
        have hm32 := hm19.below hb29
        have hB33 := bl_trans hB18 hb29
        have hd34 : Dj F27 Fp1 := dj_fresh hf30 hm19.lt
        refine XL_q rfl (qt_assign rfl) rfl rfl ?_
        refine WL_nil_seq ?_
        refine WP_seq ?_
        refine WP_still ?_
        refine XL_q rfl (qt_move rfl) rfl rfl ?_
        refine XL_q rfl (qt_move rfl) rfl rfl ?_
        refine XL_q rfl (qt_move rfl) rfl rfl ?_
        obtain ⟨x35, hx36, hs15⟩ := bind_some hs15
        obtain ⟨F37, hr38, hs39⟩ := Own.rep hm28
        refine QL_call rfl rfl c36 (fun w' hb => w_impl_ApartValid w' p0 vp1 p1 Fp1 (hm32.below hb) v25 x23 F37 (hr38.below hb) x35 hx36) (by rfl) ?_
        refine QL_nil fun a ha w40 hb41 => ?_
        have hm42 := hm32.below hb41
        have hm43 := hm28.below hb41
        have hB44 := bl_trans hB33 hb41
        refine nrm_seq (WP.app ?_ ha)
        refine WP_cond rfl (fun hc45 => ?_) (fun hc45 => ?_)
        · have hs15 := if_t hc45 hs15
          refine WP_region ?_
          refine XL_q rfl (qt_move rfl) rfl rfl ?_
          refine XL_q rfl (qt_move rfl) rfl rfl ?_
          obtain ⟨F46, hr47, hs48⟩ := Own.rep hm43
          refine XL_len u22 hr47 rfl rfl rfl ?_
          refine XL_q rfl (qt_max rfl rfl) rfl rfl ?_
          refine XL_q rfl (qt_assign rfl) rfl rfl ?_
          refine WL_nil fun a ha => ?_
          refine nrm_block (nrm_seq (WP.app ?_ ha))
          refine WP_region ?_
          refine XL_q rfl (qt_move rfl) rfl rfl ?_
          refine XL_q rfl (qt_add rfl rfl) rfl rfl ?_
          refine XL_q rfl (qt_assign rfl) rfl rfl ?_
          refine WL_nil fun a ha => ?_
          obtain rfl := Option.some.inj hs15
          exact ⟨rfl, ⟨ha.sub ⟨rfl, rfl, rfl, rfl, trivial⟩, hB44, hm42⟩⟩
        · have hs15 := if_f hc45 hs15
          refine WP_skip fun a ha => ?_
          refine nrm_block (nrm_seq (WP.app ?_ ha))
          refine WP_region ?_
          refine XL_q rfl (qt_move rfl) rfl rfl ?_
          refine XL_q rfl (qt_add rfl rfl) rfl rfl ?_
          refine XL_q rfl (qt_assign rfl) rfl rfl ?_
          refine WL_nil fun a ha => ?_
          obtain rfl := Option.some.inj hs15
          exact ⟨rfl, ⟨ha.sub ⟨rfl, rfl, rfl, rfl, trivial⟩, hB44, hm42⟩⟩
      · have hs15 := if_f hc22 hs15
        refine WP_exit fun a ha => ?_
        obtain rfl := Option.some.inj hs15
        exact exit_seq (⟨exit_ne, rfl, ⟨ha.sub ⟨rfl, trivial⟩, hB18⟩⟩)
    · intro e a12 w49 hO50
      obtain ⟨p51, rfl⟩ : ∃ z, z = o10 := ⟨o10, rfl⟩
      obtain ⟨rfl, hO52⟩ := hO50
      obtain ⟨ha, hB53⟩ := hO52
      refine exit_block_eq (nrm_seq (WP.app ?_ ha))
      refine WP_seq ?_
      refine WP_region ?_
      refine XL_q rfl (qt_move rfl) rfl rfl ?_
      refine XL_q rfl (qt_assign rfl) rfl rfl ?_
      refine WL_nil_seq ?_
      refine WP_ret fun a ha => ?_
      exact ret1 rfl ha rfl ⟨congrArg (fun z => Ending.returned (.int .i64 z)) (Option.some.inj h), hB53⟩
theorem w_laws_FnExactApartMost (w : World) (p0 : Int) (vp1 : Value) (p1 : List Int) (Fp1 : List Nat) (hmp1 : Rep w (.slice (.int .i64)) [vp1] p1 Fp1) (r : Bool) (h : laws_FnExactApartMostS p0 p1 = some r) : Calls Try.prog 13 #[.int .i64 p0, vp1] w fun e w' => e = .returned (.bool r) ∧ Below w.heap.size w w' := by
  refine calls_enter (args := [.int .i64 p0, vp1]) (n := 28) Try.func13 rfl rfl rfl ?_
  unfold laws_FnExactApartMostS at h
  refine WP_seq ?_
  refine WP_region ?_
  refine XL_q rfl (qt_assign rfl) rfl rfl ?_
  refine WL_nil_seq ?_
  refine WP_seq ?_
  refine WP_seq ?_
  refine WP_region ?_
  refine XL_q rfl (qt_move rfl) rfl rfl ?_
  refine XL_len u22 hmp1 rfl rfl rfl ?_
  refine XL_q rfl (qt_gtr rfl rfl) rfl rfl ?_
  refine WL_nil_seq ?_
  refine WP_cond rfl (fun hc1 => ?_) (fun hc1 => ?_)
  · have h := if_t hc1 h
    refine WP_seq ?_
    refine WP_region ?_
    refine XL_q rfl (qt_assign rfl) rfl rfl ?_
    refine WL_nil_seq ?_
    refine WP_ret fun a ha => ?_
    exact ret_seq (ret1 rfl ha rfl ⟨congrArg (fun z => Ending.returned (.bool z)) (Option.some.inj h), (Below.refl _ _)⟩)
  · have h := if_f hc1 h
    refine WP_skip_seq ?_
    refine WP_seq ?_
    refine WP_region ?_
    refine XL_q rfl (qt_move rfl) rfl rfl ?_
    refine XL_q rfl (qt_move rfl) rfl rfl ?_
    obtain ⟨x2, hx3, h⟩ := bind_some h
    refine WL_call rfl rfl c18 (w_laws_toIntS w vp1 p1 Fp1 hmp1 x2 hx3) (by rfl) ?_
    rintro _ w5 ⟨v4, F6, rfl, hm7, hf9, hb8⟩; refine ⟨_, rfl, ?_⟩
    have hl10 := lo_fresh (Below.refl _ _) hf9
    have hm11 := hmp1.below hb8
    have hB12 := bl_trans (Below.refl _ _) hb8
    have hd13 : Dj F6 Fp1 := dj_fresh hf9 hmp1.lt
    obtain ⟨x14, hx15, h⟩ := bind_some h
    obtain ⟨F16, hr17, hs18⟩ := Own.rep hm7
    refine WL_call rfl rfl c41 (w_spec_ApartMost w5 p0 v4 x2 F16 hr17 x14 hx15) (by rfl) ?_
    rintro _ w19 ⟨rfl, hb20⟩; refine ⟨_, rfl, ?_⟩
    have hm21 := hm11.below hb20
    have hm22 := hm7.below hb20
    have hB23 := bl_trans hB12 hb20
    refine XL_q rfl (qt_assign rfl) rfl rfl ?_
    refine WL_nil_seq ?_
    refine WP_seq ?_
    refine WP_region ?_
    refine XL_q rfl (qt_move rfl) rfl rfl ?_
    obtain ⟨x24, hx25, h⟩ := bind_some h
    refine WL_call rfl rfl c18 (w_laws_toIntS w19 vp1 p1 Fp1 hm21 x24 hx25) (by rfl) ?_
    rintro _ w27 ⟨v26, F28, rfl, hm29, hf31, hb30⟩; refine ⟨_, rfl, ?_⟩
    have hl32 := lo_fresh hB23 hf31
    have hm33 := hm21.below hb30
    have hm34 := hm22.below hb30
    have hB35 := bl_trans hB23 hb30
    have hd36 : Dj F28 Fp1 := dj_fresh hf31 hm21.lt
    have hd37 : Dj F28 F6 := dj_fresh hf31 hm22.lt
    refine XL_q rfl (qt_assign rfl) rfl rfl ?_
    refine WL_nil_seq ?_
    refine WP_seq ?_
    refine WP_still ?_
    refine XL_q rfl (qt_move rfl) rfl rfl ?_
    refine XL_q rfl (qt_move rfl) rfl rfl ?_
    obtain ⟨x38, hx39, h⟩ := bind_some h
    obtain ⟨F40, hr41, hs42⟩ := Own.rep hm29
    refine QL_call rfl rfl c42 (fun w' hb => w_impl_ApartMost w' p0 v26 x24 F40 (hr41.below hb) x38 hx39) (by rfl) ?_
    refine XL_q rfl (qt_assign rfl) rfl rfl ?_
    refine QL_nil fun a ha w43 hb44 => ?_
    have hm45 := hm33.below hb44
    have hm46 := hm29.below hb44
    have hB47 := bl_trans hB35 hb44
    refine nrm_seq (WP.app ?_ ha)
    refine WP_seq ?_
    refine WP_seq ?_
    refine WP_region ?_
    refine XL_q rfl (qt_move rfl) rfl rfl ?_
    refine XL_q rfl (qt_move rfl) rfl rfl ?_
    refine XL_q rfl (qt_neq rfl rfl) rfl rfl ?_
    refine WL_nil_seq ?_
    refine WP_cond rfl (fun hc48 => ?_) (fun hc48 => ?_)
    · have h := if_t hc48 h
      refine WP_seq ?_
      refine WP_region ?_
      refine XL_q rfl (qt_assign rfl) rfl rfl ?_
      refine WL_nil_seq ?_
      refine WP_ret fun a ha => ?_
      exact ret_seq (ret1 rfl ha rfl ⟨congrArg (fun z => Ending.returned (.bool z)) (Option.some.inj h), hB47⟩)
    · have h := if_f hc48 h
      refine WP_skip_seq ?_
      refine WP_seq ?_
      refine WP_seq ?_
      refine WP_region ?_
      refine XL_q rfl (qt_move rfl) rfl rfl ?_
      refine XL_q rfl (qt_move rfl) rfl rfl ?_
      obtain ⟨x49, hx50, h⟩ := bind_some h
      refine WL_call rfl rfl c18 (w_laws_toIntS w43 vp1 p1 Fp1 hm45 x49 hx50) (by rfl) ?_
      rintro _ w52 ⟨v51, F53, rfl, hm54, hf56, hb55⟩; refine ⟨_, rfl, ?_⟩
      have hl57 := lo_fresh hB47 hf56
      have hm58 := hm45.below hb55
      have hm59 := hm46.below hb55
      have hB60 := bl_trans hB47 hb55
      have hd61 : Dj F53 Fp1 := dj_fresh hf56 hm45.lt
      have hd62 : Dj F53 F28 := dj_fresh hf56 hm46.lt
      obtain ⟨x63, hx64, h⟩ := bind_some h
      obtain ⟨F65, hr66, hs67⟩ := Own.rep hm59
      obtain ⟨F68, hr69, hs70⟩ := Own.rep hm54
      refine WL_call rfl rfl c20 (w_laws_eqIntS w52 v26 x24 F65 hr66 v51 x49 F68 hr69 x63 hx64) (by rfl) ?_
      rintro _ w71 ⟨rfl, hb72⟩; refine ⟨_, rfl, ?_⟩
      have hm73 := hm58.below hb72
      have hm74 := hm59.below hb72
      have hm75 := hm54.below hb72
      have hB76 := bl_trans hB60 hb72
      refine XL_q rfl (qt_not rfl) rfl rfl ?_
      refine WL_nil_seq ?_
      refine WP_cond rfl (fun hc77 => ?_) (fun hc77 => ?_)
      · have h := if_t hc77 h
        refine WP_seq ?_
        refine WP_region ?_
        refine XL_q rfl (qt_assign rfl) rfl rfl ?_
        refine WL_nil_seq ?_
        refine WP_ret fun a ha => ?_
        exact ret_seq (ret1 rfl ha rfl ⟨congrArg (fun z => Ending.returned (.bool z)) (Option.some.inj h), hB76⟩)
      · have h := if_f hc77 h
        refine WP_skip_seq ?_
        refine WP_seq ?_
        refine WP_region ?_
        refine XL_q rfl (qt_assign rfl) rfl rfl ?_
        refine WL_nil_seq ?_
        refine WP_ret fun a ha => ?_
        exact ret1 rfl ha rfl ⟨congrArg (fun z => Ending.returned (.bool z)) (Option.some.inj h), hB76⟩
theorem w_spec_DishesGreedy (w : World) (p0 : Int) (vp1 : Value) (p1 : List Int) (Fp1 : List Nat) (hmp1 : Rep w (.slice (.int .i64)) [vp1] p1 Fp1) (r : (List Int)) (h : spec_DishesGreedyS p0 p1 = some r) : Calls Try.prog 43 #[.int .i64 p0, vp1] w fun e w' => ∃ v F, e = .returned v ∧ Own w' 3 (.int .i64) v r F ∧ (∀ k ∈ F, w.heap.size ≤ k) ∧ Below w.heap.size w w' := by
  refine calls_enter (args := [.int .i64 p0, vp1]) (n := 53) Try.func43 rfl rfl rfl ?_
  unfold spec_DishesGreedyS at h
  refine WP_seq ?_
  refine WP_region ?_
  refine XL_q rfl (qt_assign rfl) rfl rfl ?_
  have hm1 := Own.nil w 3 (.int .i64)
  have hl2 := @lo_nil w
  refine WL_nil_seq ?_
  refine WP_seq ?_
  refine WP_region ?_
  refine WL_buildSlice (t := (.int .i64)) (args := []) (xs := ([] : List Int)) (F := []) u22 j3 rfl rfl rfl rfl rfl rfl rfl (fun v3 w4 F5 hm6 hb7 hf8 => ?_)
  have hf9 : ∀ k ∈ F5, w.heap.size ≤ k := fun k hk => (hf8 k hk).resolve_left (fun h => by cases h)
  have hl10 := lo_fresh (Below.refl _ _) hf9
  have hm11 := hmp1.below hb7
  have hm12 := hm1.below hb7
  have hB13 := bl_trans (Below.refl _ _) hb7
  have hd14 : Dj F5 Fp1 := dj_fresh hf9 hmp1.lt
  have hd15 : Dj F5 ([]) := dj_fresh hf9 hm1.lt
  refine XL_q rfl (qt_assign rfl) rfl rfl ?_
  refine WL_nil_seq ?_
  refine WP_seq ?_
  refine WP_region ?_
  refine XL_q rfl (qt_assign rfl) rfl rfl ?_
  refine WL_nil_seq ?_
  refine WP_seq ?_
  refine WP_block ?_
  obtain ⟨o18, ho19, h⟩ := bind_some h
  refine fun a20 ha21 => wp_loop_fix (I := fun s a w2 => match s with | (s16, s17) => ∃ vs16 Fs16, Fr a 53 [(0, .int .i64 p0), (1, vp1), (5, vs16), (6, .int .i64 s17)] ∧ Below w.heap.size w w2 ∧ Rep w2 (.slice (.int .i64)) [vp1] p1 Fp1 ∧ Own w2 3 (.int .i64) vs16 s16 Fs16 ∧ (∀ k ∈ Fs16, w.heap.size ≤ k) ∧ Dj Fs16 Fp1) (O := fun o e a w2 => match o with | .inl q5 => e = .exit 0 ∧ ∃ vq5 Fq5, Fr a 53 [(5, vq5)] ∧ Below w.heap.size w w2 ∧ Own w2 3 (.int .i64) vq5 q5 Fq5 ∧ (∀ k ∈ Fq5, w.heap.size ≤ k) | .inr q4 => e = .ret ∧ ∃ vq4 Fq4, Fr a 53 [(4, vq4)] ∧ Below w.heap.size w w2 ∧ Own w2 3 (.int .i64) vq4 q4 Fq4 ∧ (∀ k ∈ Fq4, w.heap.size ≤ k)) ho19 ?_ ?_ ?_
  · exact ⟨v3, F5, ha21.sub ⟨rfl, rfl, rfl, rfl, trivial⟩, hB13, hm11, hm6, hl10, hd14⟩
  · clear ha21
    intro s o24 a w22 hs23 hI25
    obtain ⟨s16, s17⟩ := s
    obtain ⟨vs16, Fs16, ha, hB26, hm27, hm28, hl29, hd30⟩ := hI25
    refine WP.app ?_ ha
    clear ha
    refine WP_seq ?_
    refine WP_seq ?_
    refine WP_still ?_
    refine XL_q rfl (qt_move rfl) rfl rfl ?_
    refine XL_q rfl (qt_move rfl) rfl rfl ?_
    obtain ⟨x31, hx32, hs23⟩ := bind_some hs23
    refine QL_call rfl rfl c17 (fun w' hb => w_spec_MenuValid w' p0 vp1 p1 Fp1 (hm27.below hb) x31 hx32) (by rfl) ?_
    refine QL_nil fun a ha w33 hb34 => ?_
    have hm35 := hm27.below hb34
    have hm36 := hm28.below hb34
    have hB37 := bl_trans hB26 hb34
    refine nrm_seq (WP.app ?_ ha)
    refine WP_cond rfl (fun hc38 => ?_) (fun hc38 => ?_)
    · have hs23 := if_t hc38 hs23
      refine WP_skip_seq ?_
      refine WP_block ?_
      refine WP_seq ?_
      refine WP_region ?_
      refine XL_q rfl (qt_assign rfl) rfl rfl ?_
      refine WL_nil_seq ?_
      refine WP_seq ?_
      refine WP_region ?_
      refine XL_q rfl (qt_assign rfl) rfl rfl ?_
      refine WL_nil_seq ?_
      refine WP_seq ?_
      refine WP_seq ?_
      refine WP_region ?_
      refine XL_q rfl (qt_assign rfl) rfl rfl ?_
      refine WL_nil_seq ?_
      refine WP_block ?_
      obtain ⟨o42, ho43, hs23⟩ := bind_some hs23
      refine fun a44 ha45 => wp_loop_fix (I := fun s a w2 => match s with | (s39, s40, s41) => (Fr a 53 [(0, .int .i64 p0), (1, vp1), (5, vs16), (6, .int .i64 s17), (7, .int .i64 s39), (8, .int .i64 s40), (9, .int .i64 s41)] ∧ Below w.heap.size w w2 ∧ Rep w2 (.slice (.int .i64)) [vp1] p1 Fp1 ∧ Own w2 3 (.int .i64) vs16 s16 Fs16 ∧ (∀ k ∈ Fs16, w.heap.size ≤ k) ∧ Dj Fs16 Fp1)) (O := fun o e a w2 => match o with | q7 => e = .exit 2 ∧ (Fr a 53 [(0, .int .i64 p0), (1, vp1), (5, vs16), (6, .int .i64 s17), (7, .int .i64 q7)] ∧ Below w.heap.size w w2 ∧ Rep w2 (.slice (.int .i64)) [vp1] p1 Fp1 ∧ Own w2 3 (.int .i64) vs16 s16 Fs16 ∧ (∀ k ∈ Fs16, w.heap.size ≤ k) ∧ Dj Fs16 Fp1)) ho43 ?_ ?_ ?_
      · exact ⟨ha45.sub ⟨rfl, rfl, rfl, rfl, rfl, rfl, rfl, trivial⟩, hB37, hm35, hm36, hl29, hd30⟩
      · clear ha45
        intro s o48 a w46 hs47 hI49
        obtain ⟨s39, s40, s41⟩ := s
        obtain ⟨ha, hB50, hm51, hm52, hl53, hd54⟩ := hI49
        refine WP.app ?_ ha
        clear ha
        refine WP_seq ?_
        refine WP_seq ?_
        refine WP_region ?_
        refine XL_q rfl (qt_move rfl) rfl rfl ?_
        refine XL_q rfl (qt_move rfl) rfl rfl ?_
        refine XL_len u22 hm51 rfl rfl rfl ?_
        refine XL_q rfl (qt_lss rfl rfl) rfl rfl ?_
        refine WL_nil_seq ?_
        refine WP_cond rfl (fun hc55 => ?_) (fun hc55 => ?_)
        · have hs47 := if_t hc55 hs47
          refine WP_skip_seq ?_
          refine WP_seq ?_
          refine WP_block ?_
          refine WP_seq ?_
          refine WP_quiet (by kernel_rfl) (by kernel_rfl) ?_
          refine XL_q rfl (qt_move rfl) rfl rfl ?_
          refine XL_q rfl (qt_move rfl) rfl rfl ?_
          obtain ⟨x56, hx57, hs47⟩ := bind_some hs47
          refine XL_index u22 i3 hm51 hx57 rfl rfl rfl rfl (fun b58 o59 F60 hat61 hsub62 hbm63 => ?_)
          refine XL_load_int u3 rfl hat61 rfl rfl rfl ?_
          obtain ⟨x64, hx65, hs47⟩ := bind_some hs47
          refine QL_call rfl rfl c52 (fun w' hb => w_spec_l6Count w' x56 x64 hx65) (by rfl) ?_
          refine XL_q rfl (qt_move rfl) rfl rfl ?_
          refine XL_q rfl (qt_move rfl) rfl rfl ?_
          obtain ⟨x66, hx67, hs47⟩ := bind_some hs47
          refine XL_index u22 i3 hm51 hx67 rfl rfl rfl rfl (fun b68 o69 F70 hat71 hsub72 hbm73 => ?_)
          refine XL_load_int u3 rfl hat71 rfl rfl rfl ?_
          refine XL_q rfl (qt_move rfl) rfl rfl ?_
          obtain ⟨x74, hx75, hs47⟩ := bind_some hs47
          refine QL_call rfl rfl c56 (fun w' hb => w_spec_l1Meet w' x66 s17 x74 hx75) (by rfl) ?_
          obtain ⟨x76, hx77, hs47⟩ := bind_some hs47
          refine QL_call rfl rfl c52 (fun w' hb => w_spec_l6Count w' x74 x76 hx77) (by rfl) ?_
          refine XL_q rfl (qt_sub rfl rfl) rfl rfl ?_
          refine XL_q rfl (qt_assign rfl) rfl rfl ?_
          refine QL_nil fun a ha w78 hb79 => ?_
          have hm80 := hm51.below hb79
          have hm81 := hm52.below hb79
          have hB82 := bl_trans hB50 hb79
          refine nrm_seq (WP.app ?_ ha)
          refine WP_seq ?_
          refine WP_region ?_
          refine XL_q rfl (qt_move rfl) rfl rfl ?_
          refine XL_q rfl (qt_move rfl) rfl rfl ?_
          refine XL_q rfl (qt_gtr rfl rfl) rfl rfl ?_
          refine WL_nil_seq ?_
          refine WP_cond rfl (fun hc83 => ?_) (fun hc83 => ?_)
          · have hs47 := if_t hc83 hs47
            refine WP_seq ?_
            refine WP_region ?_
            refine XL_q rfl (qt_move rfl) rfl rfl ?_
            refine XL_q rfl (qt_assign rfl) rfl rfl ?_
            refine WL_nil_seq ?_
            refine WP_region ?_
            refine XL_q rfl (qt_move rfl) rfl rfl ?_
            refine XL_q rfl (qt_assign rfl) rfl rfl ?_
            refine WL_nil fun a ha => ?_
            refine nrm_block (nrm_seq (WP.app ?_ ha))
            refine WP_region ?_
            refine XL_q rfl (qt_move rfl) rfl rfl ?_
            refine XL_q rfl (qt_add rfl rfl) rfl rfl ?_
            refine XL_q rfl (qt_assign rfl) rfl rfl ?_
            refine WL_nil fun a ha => ?_
            obtain rfl := Option.some.inj hs47
            exact ⟨rfl, ⟨ha.sub ⟨rfl, rfl, rfl, rfl, rfl, rfl, rfl, trivial⟩, hB82, hm80, hm81, hl53, hd54⟩⟩
          · have hs47 := if_f hc83 hs47
            refine WP_skip fun a ha => ?_
            refine nrm_block (nrm_seq (WP.app ?_ ha))
            refine WP_region ?_
            refine XL_q rfl (qt_move rfl) rfl rfl ?_
            refine XL_q rfl (qt_add rfl rfl) rfl rfl ?_
            refine XL_q rfl (qt_assign rfl) rfl rfl ?_
            refine WL_nil fun a ha => ?_
            obtain rfl := Option.some.inj hs47
            exact ⟨rfl, ⟨ha.sub ⟨rfl, rfl, rfl, rfl, rfl, rfl, rfl, trivial⟩, hB82, hm80, hm81, hl53, hd54⟩⟩
        · have hs47 := if_f hc55 hs47
          refine WP_exit fun a ha => ?_
          obtain rfl := Option.some.inj hs47
          exact exit_seq (⟨exit_ne, rfl, ⟨ha.sub ⟨rfl, rfl, rfl, rfl, rfl, trivial⟩, hB50, hm51, hm52, hl53, hd54⟩⟩)
      · intro e a44 w84 hO85
        obtain ⟨p86, rfl⟩ : ∃ z, z = o42 := ⟨o42, rfl⟩
        obtain ⟨rfl, hO87⟩ := hO85
        obtain ⟨ha, hB88, hm89, hm90, hl91, hd92⟩ := hO87
        refine exit_block_eq (nrm_seq (WP.app ?_ ha))
        refine WP_seq ?_
        refine WP_seq ?_
        refine WP_region ?_
        refine XL_q rfl (qt_move rfl) rfl rfl ?_
        refine XL_q rfl (qt_lss rfl rfl) rfl rfl ?_
        refine WL_nil_seq ?_
        refine WP_cond rfl (fun hc93 => ?_) (fun hc93 => ?_)
        · have hs23 := if_t hc93 hs23
          refine WP_seq ?_
          refine WP_region ?_
          refine XL_q rfl (qt_move rfl) rfl rfl ?_
          refine XL_q rfl (qt_assign rfl) rfl rfl ?_
          refine WL_nil_seq ?_
          refine WP_ret fun a ha => ?_
          obtain rfl := Option.some.inj hs23
          exact ret_seq (ret_block (⟨ret_ne, rfl, ⟨vs16, Fs16, ha.sub ⟨rfl, trivial⟩, hB88, hm90, hl91⟩⟩))
        · have hs23 := if_f hc93 hs23
          refine WP_skip_seq ?_
          refine WP_seq ?_
          refine WP_region ?_
          refine XL_q rfl (qt_move rfl) rfl rfl ?_
          refine XL_q rfl (qt_move rfl) rfl rfl ?_
          refine WL_buildSlice (t := (.int .i64)) (args := [.tmp 43]) (xs := ([p86] : List Int)) (F := []) u22 j3 rfl rfl rfl ⟨[], [], rfl, ⟨rfl, rfl⟩, rfl⟩ rfl rfl rfl (fun v94 w95 F96 hm97 hb98 hf99 => ?_)
          have hf100 : ∀ k ∈ F96, w84.heap.size ≤ k := fun k hk => (hf99 k hk).resolve_left (fun h => by cases h)
          have hl101 := lo_fresh hB88 hf100
          have hm102 := hm89.below hb98
          have hm103 := hm90.below hb98
          have hB104 := bl_trans hB88 hb98
          have hd105 : Dj F96 Fp1 := dj_fresh hf100 hm89.lt
          have hd106 : Dj F96 Fs16 := dj_fresh hf100 hm90.lt
          obtain ⟨x107, hx108, hs23⟩ := bind_some hs23
          obtain ⟨F109, hr110, hs111⟩ := Own.rep hm97
          refine WL_appendF rfl u22 j3 rfl rfl hm103 hr110 (Dj.symm (dj_sub (Dj.symm (Dj.symm hd106)) hs111)) hx108 rfl rfl rfl rfl (fun v112 w113 F114 hm115 hc116 hf117 => ?_)
          have hl118 := lo_app hB104 hf117 hl91
          have hm119 := hm102.chg hc116 hd92
          have hm120 := hm97.chg hc116 (Dj.symm hd106)
          have hB121 := Chg.below hc116 hB104 hl91
          have hd122 := dj_app hf117 hd92 hm102.lt
          have hd123 := dj_app hf117 (Dj.symm hd106) hm97.lt
          refine XL_q rfl (qt_assign rfl) rfl rfl ?_
          refine WL_nil_seq ?_
          refine WP_still ?_
          refine XL_q rfl (qt_move rfl) rfl rfl ?_
          refine XL_q rfl (qt_move rfl) rfl rfl ?_
          refine XL_q rfl (qt_move rfl) rfl rfl ?_
          obtain ⟨x124, hx125, hs23⟩ := bind_some hs23
          refine XL_index u22 i3 hm119 hx125 rfl rfl rfl rfl (fun b126 o127 F128 hat129 hsub130 hbm131 => ?_)
          refine XL_load_int u3 rfl hat129 rfl rfl rfl ?_
          obtain ⟨x132, hx133, hs23⟩ := bind_some hs23
          refine QL_call rfl rfl c59 (fun w' hb => w_spec_l1Join w' s17 x124 x132 hx133) (by rfl) ?_
          refine XL_q rfl (qt_assign rfl) rfl rfl ?_
          refine QL_nil fun a ha w134 hb135 => ?_
          have hm136 := hm119.below hb135
          have hm137 := hm115.below hb135
          have hB138 := bl_trans hB121 hb135
          obtain rfl := Option.some.inj hs23
          exact nrm_block (⟨rfl, ⟨v112, F114, ha.sub ⟨rfl, rfl, rfl, rfl, trivial⟩, hB138, hm136, hm137, hl118, hd122⟩⟩)
    · have hs23 := if_f hc38 hs23
      refine WP_exit fun a ha => ?_
      obtain rfl := Option.some.inj hs23
      exact exit_seq (⟨exit_ne, rfl, ⟨vs16, Fs16, ha.sub ⟨rfl, trivial⟩, hB37, hm36, hl29⟩⟩)
  · intro e a20 w139 hO140
    rcases o18 with o18 | o18
    · skip
      obtain ⟨p141, rfl⟩ : ∃ z, z = o18 := ⟨o18, rfl⟩
      obtain ⟨rfl, hO142⟩ := hO140
      obtain ⟨vp141, Fp141, ha, hB143, hm144, hl145⟩ := hO142
      refine exit_block_eq (nrm_seq (WP.app ?_ ha))
      refine WP_seq ?_
      refine WP_region ?_
      refine XL_q rfl (qt_move rfl) rfl rfl ?_
      refine XL_q rfl (qt_assign rfl) rfl rfl ?_
      refine WL_nil_seq ?_
      refine WP_ret fun a ha => ?_
      obtain rfl := Option.some.inj h
      exact ret1 rfl ha rfl ⟨_, _, rfl, hm144, hl145, hB143⟩
    · skip
      obtain ⟨p146, rfl⟩ : ∃ z, z = o18 := ⟨o18, rfl⟩
      obtain ⟨rfl, hO147⟩ := hO140
      obtain ⟨vp146, Fp146, ha, hB148, hm149, hl150⟩ := hO147
      obtain rfl := Option.some.inj h
      exact ret_block (ret_seq (ret1 rfl ha rfl ⟨_, _, rfl, hm149, hl150, hB148⟩))
theorem w_impl_DishesGreedy (w : World) (p0 : Int) (vp1 : Value) (p1 : List Int) (Fp1 : List Nat) (hmp1 : Rep w (.slice (.int .i64)) [vp1] p1 Fp1) (r : (List Int)) (h : impl_DishesGreedyS p0 p1 = some r) : Calls Try.prog 44 #[.int .i64 p0, vp1] w fun e w' => ∃ v F, e = .returned v ∧ Own w' 3 (.int .i64) v r F ∧ (∀ k ∈ F, w.heap.size ≤ k) ∧ Below w.heap.size w w' := by
  refine calls_enter (args := [.int .i64 p0, vp1]) (n := 49) Try.func44 rfl rfl rfl ?_
  unfold impl_DishesGreedyS at h
  refine WP_seq ?_
  refine WP_region ?_
  refine XL_q rfl (qt_assign rfl) rfl rfl ?_
  have hm1 := Own.nil w 3 (.int .i64)
  have hl2 := @lo_nil w
  refine WL_nil_seq ?_
  refine WP_seq ?_
  refine WP_seq ?_
  refine WP_still ?_
  refine XL_q rfl (qt_move rfl) rfl rfl ?_
  refine XL_q rfl (qt_move rfl) rfl rfl ?_
  obtain ⟨x3, hx4, h⟩ := bind_some h
  refine QL_call rfl rfl c19 (fun w' hb => w_impl_MenuValid w' p0 vp1 p1 Fp1 (hmp1.below hb) x3 hx4) (by rfl) ?_
  refine XL_q rfl (qt_not rfl) rfl rfl ?_
  refine QL_nil fun a ha w5 hb6 => ?_
  have hm7 := hmp1.below hb6
  have hB8 := bl_trans (Below.refl _ _) hb6
  refine nrm_seq (WP.app ?_ ha)
  refine WP_cond rfl (fun hc9 => ?_) (fun hc9 => ?_)
  · have h := if_t hc9 h
    refine WP_seq ?_
    refine WP_region ?_
    refine XL_q rfl (qt_assign rfl) rfl rfl ?_
    have hm10 := Own.nil w5 3 (.int .i64)
    have hl11 := @lo_nil w
    refine WL_nil_seq ?_
    refine WP_ret fun a ha => ?_
    obtain rfl := Option.some.inj h
    exact ret_seq (ret1 rfl ha rfl ⟨_, _, rfl, hm10, hl11, hB8⟩)
  · have h := if_f hc9 h
    refine WP_skip_seq ?_
    refine WP_seq ?_
    refine WP_still ?_
    refine XL_q rfl (qt_move rfl) rfl rfl ?_
    obtain ⟨x12, hx13, h⟩ := bind_some h
    refine QL_call rfl rfl c51 (fun w' hb => w_impl_everybody w' p0 x12 hx13) (by rfl) ?_
    refine XL_q rfl (qt_assign rfl) rfl rfl ?_
    refine QL_nil fun a ha w14 hb15 => ?_
    have hm16 := hm7.below hb15
    have hB17 := bl_trans hB8 hb15
    refine nrm_seq (WP.app ?_ ha)
    refine WP_seq ?_
    refine WP_region ?_
    refine XL_q rfl (qt_assign rfl) rfl rfl ?_
    have hm18 := Own.nil w14 3 (.int .i64)
    have hl19 := @lo_nil w
    refine WL_nil_seq ?_
    refine WP_block ?_
    obtain ⟨o22, ho23, h⟩ := bind_some h
    refine fun a24 ha25 => wp_loop_fix (I := fun s a w2 => match s with | (s20, s21) => ∃ vs21 Fs21, Fr a 49 [(1, vp1), (5, .int .i64 s20), (6, vs21)] ∧ Below w.heap.size w w2 ∧ Rep w2 (.slice (.int .i64)) [vp1] p1 Fp1 ∧ Own w2 3 (.int .i64) vs21 s21 Fs21 ∧ (∀ k ∈ Fs21, w.heap.size ≤ k) ∧ Dj Fs21 Fp1) (O := fun o e a w2 => match o with | q4 => e = .ret ∧ ∃ vq4 Fq4, Fr a 49 [(4, vq4)] ∧ Below w.heap.size w w2 ∧ Own w2 3 (.int .i64) vq4 q4 Fq4 ∧ (∀ k ∈ Fq4, w.heap.size ≤ k)) ho23 ?_ ?_ ?_
    · exact ⟨(.slice none 0 0), [], ha25.sub ⟨rfl, rfl, rfl, trivial⟩, hB17, hm16, hm18, hl19, dj_nil⟩
    · clear ha25
      intro s o28 a w26 hs27 hI29
      obtain ⟨s20, s21⟩ := s
      obtain ⟨vs21, Fs21, ha, hB30, hm31, hm32, hl33, hd34⟩ := hI29
      refine WP.app ?_ ha
      clear ha
      refine WP_block ?_
      refine WP_seq ?_
      refine WP_region ?_
      refine XL_q rfl (qt_assign rfl) rfl rfl ?_
      refine XL_q rfl (qt_assign rfl) rfl rfl ?_
      refine WL_nil_seq ?_
      refine WP_seq ?_
      refine WP_seq ?_
      refine WP_region ?_
      refine XL_q rfl (qt_move rfl) rfl rfl ?_
      refine XL_len u22 hm31 rfl rfl rfl ?_
      refine XL_q rfl (qt_move rfl) rfl rfl ?_
      refine WL_nil_seq ?_
      refine WP_block ?_
      obtain ⟨o38, ho39, hs27⟩ := bind_some hs27
      refine fun a40 ha41 => wp_loop_fix (I := fun s a w2 => match s with | (s35, s36, s37) => (Fr a 49 [(1, vp1), (5, .int .i64 s20), (6, vs21), (7, .int .i64 s35), (8, .int .i64 s36), (18, vp1), (19, .int .i64 (List.length p1 : Int)), (20, .int .i64 s37)] ∧ Below w.heap.size w w2 ∧ Rep w2 (.slice (.int .i64)) [vp1] p1 Fp1 ∧ Own w2 3 (.int .i64) vs21 s21 Fs21 ∧ (∀ k ∈ Fs21, w.heap.size ≤ k) ∧ Dj Fs21 Fp1)) (O := fun o e a w2 => match o with | q7 => e = .exit 2 ∧ (Fr a 49 [(1, vp1), (5, .int .i64 s20), (6, vs21), (7, .int .i64 q7)] ∧ Below w.heap.size w w2 ∧ Rep w2 (.slice (.int .i64)) [vp1] p1 Fp1 ∧ Own w2 3 (.int .i64) vs21 s21 Fs21 ∧ (∀ k ∈ Fs21, w.heap.size ≤ k) ∧ Dj Fs21 Fp1)) ho39 ?_ ?_ ?_
      · exact ⟨ha41.sub ⟨rfl, rfl, rfl, rfl, rfl, rfl, rfl, rfl, trivial⟩, hB30, hm31, hm32, hl33, hd34⟩
      · clear ha41
        intro s o44 a w42 hs43 hI45
        obtain ⟨s35, s36, s37⟩ := s
        obtain ⟨ha, hB46, hm47, hm48, hl49, hd50⟩ := hI45
        refine WP.app ?_ ha
        clear ha
        refine WP_seq ?_
        refine WP_region ?_
        refine XL_q rfl (qt_lss rfl rfl) rfl rfl ?_
        refine WL_nil_seq ?_
        refine WP_seq ?_
        refine WP_cond rfl (fun hc51 => ?_) (fun hc51 => ?_)
        · have hs43 := if_t hc51 hs43
          refine WP_skip_seq ?_
          refine WP_seq ?_
          refine WP_block ?_
          refine WP_seq ?_
          refine WP_region ?_
          refine XL_q rfl (qt_move rfl) rfl rfl ?_
          obtain ⟨x52, hx53, hs43⟩ := bind_some hs43
          refine XL_index u22 i3 hm47 hx53 rfl rfl rfl rfl (fun b54 o55 F56 hat57 hsub58 hbm59 => ?_)
          refine XL_load_int u3 rfl hat57 rfl rfl rfl ?_
          refine XL_q rfl (qt_assign rfl) rfl rfl ?_
          refine XL_q rfl (qt_assign rfl) rfl rfl ?_
          refine WL_nil_seq ?_
          refine WP_seq ?_
          refine WP_still ?_
          refine XL_q rfl (qt_move rfl) rfl rfl ?_
          refine XL_q rfl (qt_move rfl) rfl rfl ?_
          refine XL_q rfl (qt_and rfl rfl) rfl rfl ?_
          refine XL_q rfl (qt_int u39 rfl u3) rfl rfl ?_
          obtain ⟨x60, hx61, hs43⟩ := bind_some hs43
          refine QL_call rfl rfl c53 (fun w' hb => w_bits_OnesCount w' (IntKind.wrap .u64 (iand .i64 x52 s20)) x60 hx61) (by rfl) ?_
          refine XL_q rfl (qt_assign rfl) rfl rfl ?_
          refine QL_nil fun a ha w62 hb63 => ?_
          have hm64 := hm47.below hb63
          have hm65 := hm48.below hb63
          have hB66 := bl_trans hB46 hb63
          refine nrm_seq (WP.app ?_ ha)
          refine WP_seq ?_
          refine WP_region ?_
          refine XL_q rfl (qt_move rfl) rfl rfl ?_
          refine XL_q rfl (qt_move rfl) rfl rfl ?_
          refine XL_q rfl (qt_gtr rfl rfl) rfl rfl ?_
          refine WL_nil_seq ?_
          refine WP_cond rfl (fun hc67 => ?_) (fun hc67 => ?_)
          · have hs43 := if_t hc67 hs43
            refine WP_region ?_
            refine XL_q rfl (qt_move rfl) rfl rfl ?_
            refine XL_q rfl (qt_move rfl) rfl rfl ?_
            refine XL_q rfl (qt_assign rfl) rfl rfl ?_
            refine XL_q rfl (qt_assign rfl) rfl rfl ?_
            refine WL_nil fun a ha => ?_
            refine nrm_block (nrm_seq (WP.app ?_ ha))
            refine WP_region ?_
            refine XL_q rfl (qt_add rfl rfl) rfl rfl ?_
            refine XL_q rfl (qt_move rfl) rfl rfl ?_
            refine WL_nil fun a ha => ?_
            obtain rfl := Option.some.inj hs43
            exact ⟨rfl, ⟨ha.sub ⟨rfl, rfl, rfl, rfl, rfl, rfl, rfl, rfl, trivial⟩, hB66, hm64, hm65, hl49, hd50⟩⟩
          · have hs43 := if_f hc67 hs43
            refine WP_skip fun a ha => ?_
            refine nrm_block (nrm_seq (WP.app ?_ ha))
            refine WP_region ?_
            refine XL_q rfl (qt_add rfl rfl) rfl rfl ?_
            refine XL_q rfl (qt_move rfl) rfl rfl ?_
            refine WL_nil fun a ha => ?_
            obtain rfl := Option.some.inj hs43
            exact ⟨rfl, ⟨ha.sub ⟨rfl, rfl, rfl, rfl, rfl, rfl, rfl, rfl, trivial⟩, hB66, hm64, hm65, hl49, hd50⟩⟩
        · have hs43 := if_f hc51 hs43
          refine WP_exit fun a ha => ?_
          obtain rfl := Option.some.inj hs43
          exact exit_seq (⟨exit_ne, rfl, ⟨ha.sub ⟨rfl, rfl, rfl, rfl, trivial⟩, hB46, hm47, hm48, hl49, hd50⟩⟩)
      · intro e a40 w68 hO69
        obtain ⟨p70, rfl⟩ : ∃ z, z = o38 := ⟨o38, rfl⟩
        obtain ⟨rfl, hO71⟩ := hO69
        obtain ⟨ha, hB72, hm73, hm74, hl75, hd76⟩ := hO71
        refine exit_block_eq (nrm_seq (WP.app ?_ ha))
        refine WP_seq ?_
        refine WP_seq ?_
        refine WP_region ?_
        refine XL_q rfl (qt_move rfl) rfl rfl ?_
        refine XL_q rfl (qt_lss rfl rfl) rfl rfl ?_
        refine WL_nil_seq ?_
        refine WP_cond rfl (fun hc77 => ?_) (fun hc77 => ?_)
        · have hs27 := if_t hc77 hs27
          refine WP_seq ?_
          refine WP_region ?_
          refine XL_q rfl (qt_move rfl) rfl rfl ?_
          refine XL_q rfl (qt_assign rfl) rfl rfl ?_
          refine WL_nil_seq ?_
          refine WP_ret fun a ha => ?_
          obtain rfl := Option.some.inj hs27
          exact ret_seq (ret_block (⟨ret_ne, rfl, ⟨vs21, Fs21, ha.sub ⟨rfl, trivial⟩, hB72, hm74, hl75⟩⟩))
        · have hs27 := if_f hc77 hs27
          refine WP_skip_seq ?_
          refine WP_seq ?_
          refine WP_region ?_
          refine XL_q rfl (qt_move rfl) rfl rfl ?_
          refine XL_q rfl (qt_move rfl) rfl rfl ?_
          refine WL_buildSlice (t := (.int .i64)) (args := [.tmp 40]) (xs := ([p70] : List Int)) (F := []) u22 j3 rfl rfl rfl ⟨[], [], rfl, ⟨rfl, rfl⟩, rfl⟩ rfl rfl rfl (fun v78 w79 F80 hm81 hb82 hf83 => ?_)
          have hf84 : ∀ k ∈ F80, w68.heap.size ≤ k := fun k hk => (hf83 k hk).resolve_left (fun h => by cases h)
          have hl85 := lo_fresh hB72 hf84
          have hm86 := hm73.below hb82
          have hm87 := hm74.below hb82
          have hB88 := bl_trans hB72 hb82
          have hd89 : Dj F80 Fp1 := dj_fresh hf84 hm73.lt
          have hd90 : Dj F80 Fs21 := dj_fresh hf84 hm74.lt
          obtain ⟨x91, hx92, hs27⟩ := bind_some hs27
          obtain ⟨F93, hr94, hs95⟩ := Own.rep hm81
          refine WL_appendF rfl u22 j3 rfl rfl hm87 hr94 (Dj.symm (dj_sub (Dj.symm (Dj.symm hd90)) hs95)) hx92 rfl rfl rfl rfl (fun v96 w97 F98 hm99 hc100 hf101 => ?_)
          have hl102 := lo_app hB88 hf101 hl75
          have hm103 := hm86.chg hc100 hd76
          have hm104 := hm81.chg hc100 (Dj.symm hd90)
          have hB105 := Chg.below hc100 hB88 hl75
          have hd106 := dj_app hf101 hd76 hm86.lt
          have hd107 := dj_app hf101 (Dj.symm hd90) hm81.lt
          refine XL_q rfl (qt_assign rfl) rfl rfl ?_
          refine WL_nil_seq ?_
          refine WP_region ?_
          refine XL_q rfl (qt_move rfl) rfl rfl ?_
          refine XL_q rfl (qt_move rfl) rfl rfl ?_
          refine XL_q rfl (qt_move rfl) rfl rfl ?_
          obtain ⟨x108, hx109, hs27⟩ := bind_some hs27
          refine XL_index u22 i3 hm103 hx109 rfl rfl rfl rfl (fun b110 o111 F112 hat113 hsub114 hbm115 => ?_)
          refine XL_load_int u3 rfl hat113 rfl rfl rfl ?_
          refine XL_q rfl (qt_andNot rfl rfl) rfl rfl ?_
          refine XL_q rfl (qt_assign rfl) rfl rfl ?_
          refine WL_nil fun a ha => ?_
          obtain rfl := Option.some.inj hs27
          exact nrm_block (⟨rfl, ⟨v96, F98, ha.sub ⟨rfl, rfl, rfl, trivial⟩, hB105, hm103, hm99, hl102, hd106⟩⟩)
    · intro e a24 w116 hO117
      obtain ⟨p118, rfl⟩ : ∃ z, z = o22 := ⟨o22, rfl⟩
      obtain ⟨rfl, hO119⟩ := hO117
      obtain ⟨vp118, Fp118, ha, hB120, hm121, hl122⟩ := hO119
      obtain rfl := Option.some.inj h
      exact ret_block (ret1 rfl ha rfl ⟨_, _, rfl, hm121, hl122, hB120⟩)
theorem w_laws_FnExactDishesGreedy (w : World) (p0 : Int) (vp1 : Value) (p1 : List Int) (Fp1 : List Nat) (hmp1 : Rep w (.slice (.int .i64)) [vp1] p1 Fp1) (r : Bool) (h : laws_FnExactDishesGreedyS p0 p1 = some r) : Calls Try.prog 14 #[.int .i64 p0, vp1] w fun e w' => e = .returned (.bool r) ∧ Below w.heap.size w w' := by
  refine calls_enter (args := [.int .i64 p0, vp1]) (n := 71) Try.func14 rfl rfl rfl ?_
  unfold laws_FnExactDishesGreedyS at h
  refine WP_seq ?_
  refine WP_region ?_
  refine XL_q rfl (qt_assign rfl) rfl rfl ?_
  refine WL_nil_seq ?_
  refine WP_seq ?_
  refine WP_seq ?_
  refine WP_region ?_
  refine XL_q rfl (qt_move rfl) rfl rfl ?_
  refine XL_len u22 hmp1 rfl rfl rfl ?_
  refine XL_q rfl (qt_gtr rfl rfl) rfl rfl ?_
  refine WL_nil_seq ?_
  refine WP_cond rfl (fun hc1 => ?_) (fun hc1 => ?_)
  · have h := if_t hc1 h
    refine WP_seq ?_
    refine WP_region ?_
    refine XL_q rfl (qt_assign rfl) rfl rfl ?_
    refine WL_nil_seq ?_
    refine WP_ret fun a ha => ?_
    exact ret_seq (ret1 rfl ha rfl ⟨congrArg (fun z => Ending.returned (.bool z)) (Option.some.inj h), (Below.refl _ _)⟩)
  · have h := if_f hc1 h
    refine WP_skip_seq ?_
    refine WP_seq ?_
    refine WP_region ?_
    refine XL_q rfl (qt_move rfl) rfl rfl ?_
    refine XL_q rfl (qt_move rfl) rfl rfl ?_
    obtain ⟨x2, hx3, h⟩ := bind_some h
    refine WL_call rfl rfl c18 (w_laws_toIntS w vp1 p1 Fp1 hmp1 x2 hx3) (by rfl) ?_
    rintro _ w5 ⟨v4, F6, rfl, hm7, hf9, hb8⟩; refine ⟨_, rfl, ?_⟩
    have hl10 := lo_fresh (Below.refl _ _) hf9
    have hm11 := hmp1.below hb8
    have hB12 := bl_trans (Below.refl _ _) hb8
    have hd13 : Dj F6 Fp1 := dj_fresh hf9 hmp1.lt
    obtain ⟨x14, hx15, h⟩ := bind_some h
    obtain ⟨F16, hr17, hs18⟩ := Own.rep hm7
    refine WL_call rfl rfl c43 (w_spec_DishesGreedy w5 p0 v4 x2 F16 hr17 x14 hx15) (by rfl) ?_
    rintro _ w20 ⟨v19, F21, rfl, hm22, hf24, hb23⟩; refine ⟨_, rfl, ?_⟩
    have hl25 := lo_fresh hB12 hf24
    have hm26 := hm11.below hb23
    have hm27 := hm7.below hb23
    have hB28 := bl_trans hB12 hb23
    have hd29 : Dj F21 Fp1 := dj_fresh hf24 hm11.lt
    have hd30 : Dj F21 F6 := dj_fresh hf24 hm7.lt
    refine XL_q rfl (qt_assign rfl) rfl rfl ?_
    refine WL_nil_seq ?_
    refine WP_seq ?_
    refine WP_region ?_
    refine XL_q rfl (qt_move rfl) rfl rfl ?_
    obtain ⟨x31, hx32, h⟩ := bind_some h
    refine WL_call rfl rfl c18 (w_laws_toIntS w20 vp1 p1 Fp1 hm26 x31 hx32) (by rfl) ?_
    rintro _ w34 ⟨v33, F35, rfl, hm36, hf38, hb37⟩; refine ⟨_, rfl, ?_⟩
    have hl39 := lo_fresh hB28 hf38
    have hm40 := hm26.below hb37
    have hm41 := hm22.below hb37
    have hm42 := hm27.below hb37
    have hB43 := bl_trans hB28 hb37
    have hd44 : Dj F35 Fp1 := dj_fresh hf38 hm26.lt
    have hd45 : Dj F35 F21 := dj_fresh hf38 hm22.lt
    have hd46 : Dj F35 F6 := dj_fresh hf38 hm27.lt
    refine XL_q rfl (qt_assign rfl) rfl rfl ?_
    refine WL_nil_seq ?_
    refine WP_seq ?_
    refine WP_region ?_
    refine XL_q rfl (qt_move rfl) rfl rfl ?_
    refine XL_q rfl (qt_move rfl) rfl rfl ?_
    obtain ⟨x47, hx48, h⟩ := bind_some h
    obtain ⟨F49, hr50, hs51⟩ := Own.rep hm36
    refine WL_call rfl rfl c44 (w_impl_DishesGreedy w34 p0 v33 x31 F49 hr50 x47 hx48) (by rfl) ?_
    rintro _ w53 ⟨v52, F54, rfl, hm55, hf57, hb56⟩; refine ⟨_, rfl, ?_⟩
    have hl58 := lo_fresh hB43 hf57
    have hm59 := hm40.below hb56
    have hm60 := hm41.below hb56
    have hm61 := hm36.below hb56
    have hm62 := hm42.below hb56
    have hB63 := bl_trans hB43 hb56
    have hd64 : Dj F54 Fp1 := dj_fresh hf57 hm40.lt
    have hd65 : Dj F54 F21 := dj_fresh hf57 hm41.lt
    have hd66 : Dj F54 F35 := dj_fresh hf57 hm36.lt
    have hd67 : Dj F54 F6 := dj_fresh hf57 hm42.lt
    refine XL_q rfl (qt_assign rfl) rfl rfl ?_
    refine WL_nil_seq ?_
    refine WP_seq ?_
    refine WP_seq ?_
    refine WP_still ?_
    refine XL_q rfl (qt_move rfl) rfl rfl ?_
    refine XL_q rfl (qt_move rfl) rfl rfl ?_
    obtain ⟨x68, hx69, h⟩ := bind_some h
    obtain ⟨F70, hr71, hs72⟩ := Own.rep hm55
    obtain ⟨F73, hr74, hs75⟩ := Own.rep hm60
    refine QL_call rfl rfl c20 (fun w' hb => w_laws_eqIntS w' v52 x47 F70 (hr71.below hb) v19 x14 F73 (hr74.below hb) x68 hx69) (by rfl) ?_
    refine XL_q rfl (qt_not rfl) rfl rfl ?_
    refine QL_nil fun a ha w76 hb77 => ?_
    have hm78 := hm59.below hb77
    have hm79 := hm60.below hb77
    have hm80 := hm61.below hb77
    have hm81 := hm55.below hb77
    have hB82 := bl_trans hB63 hb77
    refine nrm_seq (WP.app ?_ ha)
    refine WP_cond rfl (fun hc83 => ?_) (fun hc83 => ?_)
    · have h := if_t hc83 h
      refine WP_seq ?_
      refine WP_region ?_
      refine XL_q rfl (qt_assign rfl) rfl rfl ?_
      refine WL_nil_seq ?_
      refine WP_ret fun a ha => ?_
      exact ret_seq (ret1 rfl ha rfl ⟨congrArg (fun z => Ending.returned (.bool z)) (Option.some.inj h), hB82⟩)
    · have h := if_f hc83 h
      refine WP_skip_seq ?_
      refine WP_seq ?_
      refine WP_seq ?_
      refine WP_region ?_
      refine XL_q rfl (qt_move rfl) rfl rfl ?_
      refine XL_q rfl (qt_move rfl) rfl rfl ?_
      obtain ⟨x84, hx85, h⟩ := bind_some h
      refine WL_call rfl rfl c18 (w_laws_toIntS w76 vp1 p1 Fp1 hm78 x84 hx85) (by rfl) ?_
      rintro _ w87 ⟨v86, F88, rfl, hm89, hf91, hb90⟩; refine ⟨_, rfl, ?_⟩
      have hl92 := lo_fresh hB82 hf91
      have hm93 := hm78.below hb90
      have hm94 := hm79.below hb90
      have hm95 := hm80.below hb90
      have hm96 := hm81.below hb90
      have hB97 := bl_trans hB82 hb90
      have hd98 : Dj F88 Fp1 := dj_fresh hf91 hm78.lt
      have hd99 : Dj F88 F21 := dj_fresh hf91 hm79.lt
      have hd100 : Dj F88 F35 := dj_fresh hf91 hm80.lt
      have hd101 : Dj F88 F54 := dj_fresh hf91 hm81.lt
      obtain ⟨x102, hx103, h⟩ := bind_some h
      obtain ⟨F104, hr105, hs106⟩ := Own.rep hm95
      obtain ⟨F107, hr108, hs109⟩ := Own.rep hm89
      refine WL_call rfl rfl c20 (w_laws_eqIntS w87 v33 x31 F104 hr105 v86 x84 F107 hr108 x102 hx103) (by rfl) ?_
      rintro _ w110 ⟨rfl, hb111⟩; refine ⟨_, rfl, ?_⟩
      have hm112 := hm93.below hb111
      have hm113 := hm94.below hb111
      have hm114 := hm95.below hb111
      have hm115 := hm96.below hb111
      have hm116 := hm89.below hb111
      have hB117 := bl_trans hB97 hb111
      refine XL_q rfl (qt_not rfl) rfl rfl ?_
      refine WL_nil_seq ?_
      refine WP_cond rfl (fun hc118 => ?_) (fun hc118 => ?_)
      · have h := if_t hc118 h
        refine WP_seq ?_
        refine WP_region ?_
        refine XL_q rfl (qt_assign rfl) rfl rfl ?_
        refine WL_nil_seq ?_
        refine WP_ret fun a ha => ?_
        exact ret_seq (ret1 rfl ha rfl ⟨congrArg (fun z => Ending.returned (.bool z)) (Option.some.inj h), hB117⟩)
      · have h := if_f hc118 h
        refine WP_skip_seq ?_
        refine WP_seq ?_
        refine WP_region ?_
        refine XL_q rfl (qt_assign rfl) rfl rfl ?_
        refine WL_nil_seq ?_
        refine WP_seq ?_
        refine WP_region ?_
        refine XL_q rfl (qt_move rfl) rfl rfl ?_
        refine XL_q rfl (qt_move rfl) rfl rfl ?_
        obtain ⟨x119, hx120, h⟩ := bind_some h
        refine WL_call rfl rfl c33 (w_laws_markIntS w110 v33 x31 F35 hm114 1 x119 hx120) (by rfl) ?_
        rintro _ w121 ⟨rfl, hm122, hc123⟩; refine ⟨_, rfl, ?_⟩
        have hm124 := hm112.chg hc123 hd44
        have hm125 := hm113.chg hc123 hd45
        have hm126 := hm115.chg hc123 (Dj.symm hd66)
        have hm127 := hm116.chg hc123 (Dj.symm hd100)
        have hB128 := Chg.below hc123 hB117 hl39
        refine XL_q rfl (qt_assign rfl) rfl rfl ?_
        refine WL_nil_seq ?_
        refine WP_seq ?_
        refine WP_seq ?_
        refine WP_still ?_
        refine XL_q rfl (qt_move rfl) rfl rfl ?_
        refine XL_q rfl (qt_lss rfl rfl) rfl rfl ?_
        refine XL_q rfl (qt_move rfl) rfl rfl ?_
        obtain ⟨b129, hg130, h⟩ := bind_some h
        refine XL_join 5 43 (.bool b129) ?_ (fun md hmd hk => ?_)
        rotate_left
        · obtain ⟨K, rfl⟩ := Md.quiet_of hmd
          rcases btf (decide (x119.2 < 0)) with hc131 | hc131
          · skip
            refine XL_skip (w_skip rfl hc131) rfl rfl ?_
            refine XL_skip (w_skip rfl hc131) rfl rfl ?_
            refine XL_skip (w_skip rfl hc131) rfl rfl ?_
            refine XL_skip (w_skip rfl hc131) rfl rfl ?_
            refine XL_q rfl (qt_pickT rfl hc131 rfl) rfl rfl ?_
            exact hk _ (Cov.same (vb (if_t hc131 hg130)) (Cov.fresh rfl (Cov.fresh rfl (Cov.fresh rfl (Cov.fresh rfl (Cov.refl))))))
          · skip
            have hg130 := if_f hc131 hg130
            refine XL_q (w_take rfl hc131) (qt_move rfl) rfl rfl ?_
            refine XL_q (w_take rfl hc131) (qt_move rfl) rfl rfl ?_
            obtain ⟨x132, hx133, hg130⟩ := bind_some hg130
            obtain ⟨F134, hr135, hs136⟩ := Own.rep hm126
            obtain ⟨F137, hr138, hs139⟩ := Own.rep hm125
            refine QL_call (w_take rfl hc131) rfl c20 (fun w' hb => w_laws_eqIntS w' v52 x47 F134 (hr135.below hb) v19 x14 F137 (hr138.below hb) x132 hx133) (by rfl) ?_
            refine XL_q (w_take rfl hc131) (qt_not rfl) rfl rfl ?_
            refine XL_q rfl (qt_pickF rfl hc131 rfl) rfl rfl ?_
            exact hk _ (Cov.same (vb hg130) (Cov.fresh rfl (Cov.fresh rfl (Cov.fresh rfl (Cov.fresh rfl (Cov.refl))))))
        refine QL_nil fun a ha w140 hb141 => ?_
        have hm142 := hm124.below hb141
        have hm143 := hm125.below hb141
        have hm144 := hm126.below hb141
        have hB145 := bl_trans hB128 hb141
        refine nrm_seq (WP.app ?_ ha)
        refine WP_cond rfl (fun hc146 => ?_) (fun hc146 => ?_)
        · have h := if_t hc146 h
          refine WP_seq ?_
          refine WP_region ?_
          refine XL_q rfl (qt_assign rfl) rfl rfl ?_
          refine WL_nil_seq ?_
          refine WP_ret fun a ha => ?_
          exact ret_seq (ret1 rfl ha rfl ⟨congrArg (fun z => Ending.returned (.bool z)) (Option.some.inj h), hB145⟩)
        · have h := if_f hc146 h
          refine WP_skip_seq ?_
          refine WP_seq ?_
          refine WP_region ?_
          refine XL_q rfl (qt_assign rfl) rfl rfl ?_
          refine WL_nil_seq ?_
          refine WP_seq ?_
          refine WP_region ?_
          refine XL_q rfl (qt_move rfl) rfl rfl ?_
          refine XL_q rfl (qt_move rfl) rfl rfl ?_
          obtain ⟨x147, hx148, h⟩ := bind_some h
          refine WL_call rfl rfl c33 (w_laws_markIntS w140 v52 x47 F54 hm144 1 x147 hx148) (by rfl) ?_
          rintro _ w149 ⟨rfl, hm150, hc151⟩; refine ⟨_, rfl, ?_⟩
          have hm152 := hm142.chg hc151 hd64
          have hm153 := hm143.chg hc151 hd65
          have hB154 := Chg.below hc151 hB145 hl58
          refine XL_q rfl (qt_assign rfl) rfl rfl ?_
          refine WL_nil_seq ?_
          refine WP_seq ?_
          refine WP_region ?_
          refine XL_q rfl (qt_assign rfl) rfl rfl ?_
          refine WL_nil_seq ?_
          refine WP_seq ?_
          refine WP_still ?_
          refine XL_q rfl (qt_move rfl) rfl rfl ?_
          refine XL_q rfl (qt_move rfl) rfl rfl ?_
          obtain ⟨x155, hx156, h⟩ := bind_some h
          obtain ⟨F157, hr158, hs159⟩ := Own.rep hm150
          refine QL_call rfl rfl c34 (fun w' hb => w_laws_heldIntS w' v52 x147.1 F157 (hr158.below hb) 1 x155 hx156) (by rfl) ?_
          refine XL_q rfl (qt_assign rfl) rfl rfl ?_
          refine QL_nil fun a ha w160 hb161 => ?_
          have hm162 := hm152.below hb161
          have hm163 := hm153.below hb161
          have hm164 := hm150.below hb161
          have hB165 := bl_trans hB154 hb161
          refine nrm_seq (WP.app ?_ ha)
          refine WP_seq ?_
          refine WP_seq ?_
          refine WP_region ?_
          refine XL_q rfl (qt_move rfl) rfl rfl ?_
          refine XL_q rfl (qt_lss rfl rfl) rfl rfl ?_
          refine WL_nil_seq ?_
          refine WP_cond rfl (fun hc166 => ?_) (fun hc166 => ?_)
          · have h := if_t hc166 h
            refine WP_seq ?_
            refine WP_region ?_
            refine XL_q rfl (qt_assign rfl) rfl rfl ?_
            refine WL_nil_seq ?_
            refine WP_ret fun a ha => ?_
            exact ret_seq (ret1 rfl ha rfl ⟨congrArg (fun z => Ending.returned (.bool z)) (Option.some.inj h), hB165⟩)
          · have h := if_f hc166 h
            refine WP_skip_seq ?_
            refine WP_seq ?_
            refine WP_seq ?_
            refine WP_region ?_
            refine XL_q rfl (qt_move rfl) rfl rfl ?_
            refine XL_q rfl (qt_move rfl) rfl rfl ?_
            refine XL_q rfl (qt_neq rfl rfl) rfl rfl ?_
            refine WL_nil_seq ?_
            refine WP_cond rfl (fun hc167 => ?_) (fun hc167 => ?_)
            · have h := if_t hc167 h
              refine WP_seq ?_
              refine WP_region ?_
              refine XL_q rfl (qt_assign rfl) rfl rfl ?_
              refine WL_nil_seq ?_
              refine WP_ret fun a ha => ?_
              exact ret_seq (ret1 rfl ha rfl ⟨congrArg (fun z => Ending.returned (.bool z)) (Option.some.inj h), hB165⟩)
            · have h := if_f hc167 h
              refine WP_skip_seq ?_
              refine WP_seq ?_
              refine WP_region ?_
              refine XL_q rfl (qt_move rfl) rfl rfl ?_
              refine XL_q rfl (qt_move rfl) rfl rfl ?_
              obtain ⟨x168, hx169, h⟩ := bind_some h
              refine WL_call rfl rfl c18 (w_laws_toIntS w160 vp1 p1 Fp1 hm162 x168 hx169) (by rfl) ?_
              rintro _ w171 ⟨v170, F172, rfl, hm173, hf175, hb174⟩; refine ⟨_, rfl, ?_⟩
              have hl176 := lo_fresh hB165 hf175
              have hm177 := hm162.below hb174
              have hm178 := hm163.below hb174
              have hm179 := hm164.below hb174
              have hB180 := bl_trans hB165 hb174
              have hd181 : Dj F172 Fp1 := dj_fresh hf175 hm162.lt
              have hd182 : Dj F172 F21 := dj_fresh hf175 hm163.lt
              have hd183 : Dj F172 F54 := dj_fresh hf175 hm164.lt
              obtain ⟨x184, hx185, h⟩ := bind_some h
              obtain ⟨F186, hr187, hs188⟩ := Own.rep hm173
              refine WL_call rfl rfl c44 (w_impl_DishesGreedy w171 p0 v170 x168 F186 hr187 x184 hx185) (by rfl) ?_
              rintro _ w190 ⟨v189, F191, rfl, hm192, hf194, hb193⟩; refine ⟨_, rfl, ?_⟩
              have hl195 := lo_fresh hB180 hf194
              have hm196 := hm177.below hb193
              have hm197 := hm178.below hb193
              have hm198 := hm179.below hb193
              have hm199 := hm173.below hb193
              have hB200 := bl_trans hB180 hb193
              have hd201 : Dj F191 Fp1 := dj_fresh hf194 hm177.lt
              have hd202 : Dj F191 F21 := dj_fresh hf194 hm178.lt
              have hd203 : Dj F191 F54 := dj_fresh hf194 hm179.lt
              have hd204 : Dj F191 F172 := dj_fresh hf194 hm173.lt
              refine XL_q rfl (qt_assign rfl) rfl rfl ?_
              refine WL_nil_seq ?_
              refine WP_seq ?_
              refine WP_seq ?_
              refine WP_still ?_
              refine XL_q rfl (qt_move rfl) rfl rfl ?_
              refine XL_q rfl (qt_move rfl) rfl rfl ?_
              obtain ⟨x205, hx206, h⟩ := bind_some h
              obtain ⟨F207, hr208, hs209⟩ := Own.rep hm192
              obtain ⟨F210, hr211, hs212⟩ := Own.rep hm197
              refine QL_call rfl rfl c20 (fun w' hb => w_laws_eqIntS w' v189 x184 F207 (hr208.below hb) v19 x14 F210 (hr211.below hb) x205 hx206) (by rfl) ?_
              refine XL_q rfl (qt_not rfl) rfl rfl ?_
              refine QL_nil fun a ha w213 hb214 => ?_
              have hm215 := hm198.below hb214
              have hB216 := bl_trans hB200 hb214
              refine nrm_seq (WP.app ?_ ha)
              refine WP_cond rfl (fun hc217 => ?_) (fun hc217 => ?_)
              · have h := if_t hc217 h
                refine WP_seq ?_
                refine WP_region ?_
                refine XL_q rfl (qt_assign rfl) rfl rfl ?_
                refine WL_nil_seq ?_
                refine WP_ret fun a ha => ?_
                exact ret_seq (ret1 rfl ha rfl ⟨congrArg (fun z => Ending.returned (.bool z)) (Option.some.inj h), hB216⟩)
              · have h := if_f hc217 h
                refine WP_skip_seq ?_
                refine WP_seq ?_
                refine WP_region ?_
                refine XL_q rfl (qt_assign rfl) rfl rfl ?_
                refine WL_nil_seq ?_
                refine WP_seq ?_
                refine WP_still ?_
                refine XL_q rfl (qt_move rfl) rfl rfl ?_
                refine XL_q rfl (qt_move rfl) rfl rfl ?_
                obtain ⟨x218, hx219, h⟩ := bind_some h
                obtain ⟨F220, hr221, hs222⟩ := Own.rep hm215
                refine QL_call rfl rfl c34 (fun w' hb => w_laws_heldIntS w' v52 x147.1 F220 (hr221.below hb) 1 x218 hx219) (by rfl) ?_
                refine XL_q rfl (qt_assign rfl) rfl rfl ?_
                refine QL_nil fun a ha w223 hb224 => ?_
                have hB225 := bl_trans hB216 hb224
                refine nrm_seq (WP.app ?_ ha)
                refine WP_seq ?_
                refine WP_seq ?_
                refine WP_region ?_
                refine XL_q rfl (qt_move rfl) rfl rfl ?_
                refine XL_q rfl (qt_lss rfl rfl) rfl rfl ?_
                refine WL_nil_seq ?_
                refine WP_cond rfl (fun hc226 => ?_) (fun hc226 => ?_)
                · have h := if_t hc226 h
                  refine WP_seq ?_
                  refine WP_region ?_
                  refine XL_q rfl (qt_assign rfl) rfl rfl ?_
                  refine WL_nil_seq ?_
                  refine WP_ret fun a ha => ?_
                  exact ret_seq (ret1 rfl ha rfl ⟨congrArg (fun z => Ending.returned (.bool z)) (Option.some.inj h), hB225⟩)
                · have h := if_f hc226 h
                  refine WP_skip_seq ?_
                  refine WP_seq ?_
                  refine WP_seq ?_
                  refine WP_region ?_
                  refine XL_q rfl (qt_move rfl) rfl rfl ?_
                  refine XL_q rfl (qt_move rfl) rfl rfl ?_
                  refine XL_q rfl (qt_neq rfl rfl) rfl rfl ?_
                  refine WL_nil_seq ?_
                  refine WP_cond rfl (fun hc227 => ?_) (fun hc227 => ?_)
                  · have h := if_t hc227 h
                    refine WP_seq ?_
                    refine WP_region ?_
                    refine XL_q rfl (qt_assign rfl) rfl rfl ?_
                    refine WL_nil_seq ?_
                    refine WP_ret fun a ha => ?_
                    exact ret_seq (ret1 rfl ha rfl ⟨congrArg (fun z => Ending.returned (.bool z)) (Option.some.inj h), hB225⟩)
                  · have h := if_f hc227 h
                    refine WP_skip_seq ?_
                    refine WP_seq ?_
                    refine WP_region ?_
                    refine XL_q rfl (qt_assign rfl) rfl rfl ?_
                    refine WL_nil_seq ?_
                    refine WP_ret fun a ha => ?_
                    exact ret1 rfl ha rfl ⟨congrArg (fun z => Ending.returned (.bool z)) (Option.some.inj h), hB225⟩
theorem w_spec_DishesLeast (w : World) (p0 : Int) (vp1 : Value) (p1 : List Int) (Fp1 : List Nat) (hmp1 : Rep w (.slice (.int .i64)) [vp1] p1 Fp1) (r : Int) (h : spec_DishesLeastS p0 p1 = some r) : Calls Try.prog 45 #[.int .i64 p0, vp1] w fun e w' => e = .returned (.int .i64 r) ∧ Below w.heap.size w w' := by
  refine calls_enter (args := [.int .i64 p0, vp1]) (n := 36) Try.func45 rfl rfl rfl ?_
  unfold spec_DishesLeastS at h
  refine WP_seq ?_
  refine WP_region ?_
  refine XL_q rfl (qt_assign rfl) rfl rfl ?_
  refine WL_nil_seq ?_
  refine WP_seq ?_
  refine WP_region ?_
  refine XL_q rfl (qt_assign rfl) rfl rfl ?_
  refine WL_nil_seq ?_
  refine WP_seq ?_
  refine WP_seq ?_
  refine WP_region ?_
  refine XL_q rfl (qt_assign rfl) rfl rfl ?_
  refine WL_nil_seq ?_
  refine WP_block ?_
  obtain ⟨o3, ho4, h⟩ := bind_some h
  refine fun a5 ha6 => wp_loop_fix (I := fun s a w2 => match s with | (s1, s2) => (Fr a 36 [(0, .int .i64 p0), (1, vp1), (5, .int .i64 s1), (6, .int .i64 s2)] ∧ Below w.heap.size w w2 ∧ Rep w2 (.slice (.int .i64)) [vp1] p1 Fp1)) (O := fun o e a w2 => match o with | q5 => e = .exit 0 ∧ (Fr a 36 [(5, .int .i64 q5)] ∧ Below w.heap.size w w2)) ho4 ?_ ?_ ?_
  · exact ⟨ha6.sub ⟨rfl, rfl, rfl, rfl, trivial⟩, (Below.refl _ _), hmp1⟩
  · clear ha6
    intro s o9 a w7 hs8 hI10
    obtain ⟨s1, s2⟩ := s
    obtain ⟨ha, hB11, hm12⟩ := hI10
    refine WP.app ?_ ha
    clear ha
    refine WP_seq ?_
    refine WP_seq ?_
    refine WP_still ?_
    refine XL_q rfl (qt_move rfl) rfl rfl ?_
    refine XL_q rfl (qt_move rfl) rfl rfl ?_
    refine XL_len u22 hm12 rfl rfl rfl ?_
    obtain ⟨x13, hx14, hs8⟩ := bind_some hs8
    refine XL_q rfl (qt_shlO rfl rfl hx14) rfl rfl ?_
    refine XL_q rfl (qt_lss rfl rfl) rfl rfl ?_
    refine XL_q rfl (qt_move rfl) rfl rfl ?_
    obtain ⟨b15, hg16, hs8⟩ := bind_some hs8
    refine XL_join 4 16 (.bool b15) ?_ (fun md hmd hk => ?_)
    rotate_left
    · obtain ⟨K, rfl⟩ := Md.quiet_of hmd
      rcases btf (decide (s2 < x13)) with hc17 | hc17
      · skip
        have hg16 := if_t hc17 hg16
        refine XL_q (w_take rfl hc17) (qt_move rfl) rfl rfl ?_
        refine XL_q (w_take rfl hc17) (qt_move rfl) rfl rfl ?_
        obtain ⟨x18, hx19, hg16⟩ := bind_some hg16
        refine QL_call (w_take rfl hc17) rfl c17 (fun w' hb => w_spec_MenuValid w' p0 vp1 p1 Fp1 (hm12.below hb) x18 hx19) (by rfl) ?_
        refine XL_q rfl (qt_pickT rfl hc17 rfl) rfl rfl ?_
        exact hk _ (Cov.same (vb hg16) (Cov.fresh rfl (Cov.fresh rfl (Cov.fresh rfl (Cov.refl)))))
      · skip
        refine XL_skip (w_skip rfl hc17) rfl rfl ?_
        refine XL_skip (w_skip rfl hc17) rfl rfl ?_
        refine XL_skip (w_skip rfl hc17) rfl rfl ?_
        refine XL_q rfl (qt_pickF rfl hc17 rfl) rfl rfl ?_
        exact hk _ (Cov.same (vb (if_f hc17 hg16)) (Cov.fresh rfl (Cov.fresh rfl (Cov.fresh rfl (Cov.refl)))))
    refine QL_nil fun a ha w20 hb21 => ?_
    have hm22 := hm12.below hb21
    have hB23 := bl_trans hB11 hb21
    refine nrm_seq (WP.app ?_ ha)
    refine WP_cond rfl (fun hc24 => ?_) (fun hc24 => ?_)
    · have hs8 := if_t hc24 hs8
      refine WP_skip_seq ?_
      refine WP_seq ?_
      refine WP_block ?_
      refine WP_seq ?_
      refine WP_still ?_
      refine XL_q rfl (qt_move rfl) rfl rfl ?_
      refine XL_q rfl (qt_move rfl) rfl rfl ?_
      refine XL_q rfl (qt_move rfl) rfl rfl ?_
      obtain ⟨x25, hx26, hs8⟩ := bind_some hs8
      refine QL_call rfl rfl c27 (fun w' hb => w_spec_FeedsAll w' p0 vp1 p1 Fp1 (hm22.below hb) s2 x25 hx26) (by rfl) ?_
      refine XL_q rfl (qt_move rfl) rfl rfl ?_
      obtain ⟨b27, hg28, hs8⟩ := bind_some hs8
      refine XL_join 10 33 (.bool b27) ?_ (fun md hmd hk => ?_)
      rotate_left
      · obtain ⟨K, rfl⟩ := Md.quiet_of hmd
        rcases btf x25 with hc29 | hc29
        · skip
          have hg28 := if_t hc29 hg28
          refine XL_q (w_take rfl hc29) (qt_move rfl) rfl rfl ?_
          refine XL_q (w_take rfl hc29) (qt_lss rfl rfl) rfl rfl ?_
          refine XL_q (w_take rfl hc29) (qt_move rfl) rfl rfl ?_
          obtain ⟨b30, hg31, hg28⟩ := bind_some hg28
          refine XL_join 6 32 (.bool b30) ?_ (fun md hmd hk => ?_)
          rotate_left
          · obtain ⟨K, rfl⟩ := Md.quiet_of hmd
            rcases btf (decide (s1 < 0)) with hc32 | hc32
            · skip
              refine XL_skip (w_skip rfl hc32) rfl rfl ?_
              refine XL_skip (w_skip rfl hc32) rfl rfl ?_
              refine XL_skip (w_skip rfl hc32) rfl rfl ?_
              refine XL_skip (w_skip rfl hc32) rfl rfl ?_
              refine XL_skip (w_skip rfl hc32) rfl rfl ?_
              refine XL_q (w_take rfl hc29) (qt_pickT rfl hc32 rfl) rfl rfl ?_
              exact hk _ (Cov.same (vb (if_t hc32 hg31)) (Cov.fresh rfl (Cov.fresh rfl (Cov.fresh rfl (Cov.fresh rfl (Cov.fresh rfl (Cov.refl)))))))
            · skip
              have hg31 := if_f hc32 hg31
              refine XL_q (w_take rfl hc32) (qt_move rfl) rfl rfl ?_
              obtain ⟨x33, hx34, hg31⟩ := bind_some hg31
              refine QL_call (w_take rfl hc32) rfl c52 (fun w' hb => w_spec_l6Count w' s2 x33 hx34) (by rfl) ?_
              refine XL_q (w_take rfl hc32) (qt_move rfl) rfl rfl ?_
              obtain ⟨x35, hx36, hg31⟩ := bind_some hg31
              refine QL_call (w_take rfl hc32) rfl c52 (fun w' hb => w_spec_l6Count w' s1 x35 hx36) (by rfl) ?_
              refine XL_q (w_take rfl hc32) (qt_lss rfl rfl) rfl rfl ?_
              refine XL_q (w_take rfl hc29) (qt_pickF rfl hc32 rfl) rfl rfl ?_
              exact hk _ (Cov.same (vb hg31) (Cov.fresh rfl (Cov.fresh rfl (Cov.fresh rfl (Cov.fresh rfl (Cov.fresh rfl (Cov.refl)))))))
          refine XL_q rfl (qt_pickT rfl hc29 rfl) rfl rfl ?_
          exact hk _ (Cov.same (vb hg28) (Cov.fresh rfl (Cov.fresh rfl (Cov.fresh rfl (Cov.fresh rfl (Cov.refl))))))
        · skip
          refine XL_skip (w_skip rfl hc29) rfl rfl ?_
          refine XL_skip (w_skip rfl hc29) rfl rfl ?_
          refine XL_skip (w_skip rfl hc29) rfl rfl ?_
          refine XL_skip rfl rfl rfl ?_
          refine XL_skip rfl rfl rfl ?_
          refine XL_skip rfl rfl rfl ?_
          refine XL_skip rfl rfl rfl ?_
          refine XL_skip rfl rfl rfl ?_
          refine XL_skip (w_skip rfl hc29) rfl rfl ?_
          refine XL_q rfl (qt_pickF rfl hc29 rfl) rfl rfl ?_
          exact hk _ (Cov.same (vb (if_f hc29 hg28)) (Cov.fresh rfl (Cov.fresh rfl (Cov.fresh rfl (Cov.fresh rfl (Cov.fresh rfl (Cov.fresh rfl (Cov.fresh rfl (Cov.fresh rfl (Cov.fresh rfl (Cov.refl)))))))))))
      refine QL_nil fun a ha w37 hb38 => ?_
      have hm39 := hm22.below hb38
      have hB40 := bl_trans hB23 hb38
      refine nrm_seq (WP.app ?_ ha)
      refine WP_cond rfl (fun hc41 => ?_) (fun hc41 => ?_)
      · have hs8 := if_t hc41 hs8
        refine WP_region ?_
        refine XL_q rfl (qt_move rfl) rfl rfl ?_
        refine XL_q rfl (qt_assign rfl) rfl rfl ?_
        refine WL_nil fun a ha => ?_
        refine nrm_block (nrm_seq (WP.app ?_ ha))
        refine WP_region ?_
        refine XL_q rfl (qt_move rfl) rfl rfl ?_
        refine XL_q rfl (qt_add rfl rfl) rfl rfl ?_
        refine XL_q rfl (qt_assign rfl) rfl rfl ?_
        refine WL_nil fun a ha => ?_
        obtain rfl := Option.some.inj hs8
        exact ⟨rfl, ⟨ha.sub ⟨rfl, rfl, rfl, rfl, trivial⟩, hB40, hm39⟩⟩
      · have hs8 := if_f hc41 hs8
        refine WP_skip fun a ha => ?_
        refine nrm_block (nrm_seq (WP.app ?_ ha))
        refine WP_region ?_
        refine XL_q rfl (qt_move rfl) rfl rfl ?_
        refine XL_q rfl (qt_add rfl rfl) rfl rfl ?_
        refine XL_q rfl (qt_assign rfl) rfl rfl ?_
        refine WL_nil fun a ha => ?_
        obtain rfl := Option.some.inj hs8
        exact ⟨rfl, ⟨ha.sub ⟨rfl, rfl, rfl, rfl, trivial⟩, hB40, hm39⟩⟩
    · have hs8 := if_f hc24 hs8
      refine WP_exit fun a ha => ?_
      obtain rfl := Option.some.inj hs8
      exact exit_seq (⟨exit_ne, rfl, ⟨ha.sub ⟨rfl, trivial⟩, hB23⟩⟩)
  · intro e a5 w42 hO43
    obtain ⟨p44, rfl⟩ : ∃ z, z = o3 := ⟨o3, rfl⟩
    obtain ⟨rfl, hO45⟩ := hO43
    obtain ⟨ha, hB46⟩ := hO45
    refine exit_block_eq (nrm_seq (WP.app ?_ ha))
    refine WP_seq ?_
    refine WP_region ?_
    refine XL_q rfl (qt_move rfl) rfl rfl ?_
    refine XL_q rfl (qt_assign rfl) rfl rfl ?_
    refine WL_nil_seq ?_
    refine WP_ret fun a ha => ?_
    exact ret1 rfl ha rfl ⟨congrArg (fun z => Ending.returned (.int .i64 z)) (Option.some.inj h), hB46⟩
theorem w_impl_DishesLeast (w : World) (p0 : Int) (vp1 : Value) (p1 : List Int) (Fp1 : List Nat) (hmp1 : Rep w (.slice (.int .i64)) [vp1] p1 Fp1) (r : Int) (h : impl_DishesLeastS p0 p1 = some r) : Calls Try.prog 46 #[.int .i64 p0, vp1] w fun e w' => e = .returned (.int .i64 r) ∧ Below w.heap.size w w' := by
  refine calls_enter (args := [.int .i64 p0, vp1]) (n := 34) Try.func46 rfl rfl rfl ?_
  unfold impl_DishesLeastS at h
  refine WP_seq ?_
  refine WP_region ?_
  refine XL_q rfl (qt_assign rfl) rfl rfl ?_
  refine WL_nil_seq ?_
  refine WP_seq ?_
  refine WP_seq ?_
  refine WP_still ?_
  refine XL_q rfl (qt_move rfl) rfl rfl ?_
  refine XL_q rfl (qt_move rfl) rfl rfl ?_
  obtain ⟨x1, hx2, h⟩ := bind_some h
  refine QL_call rfl rfl c19 (fun w' hb => w_impl_MenuValid w' p0 vp1 p1 Fp1 (hmp1.below hb) x1 hx2) (by rfl) ?_
  refine XL_q rfl (qt_not rfl) rfl rfl ?_
  refine QL_nil fun a ha w3 hb4 => ?_
  have hm5 := hmp1.below hb4
  have hB6 := bl_trans (Below.refl _ _) hb4
  refine nrm_seq (WP.app ?_ ha)
  refine WP_cond rfl (fun hc7 => ?_) (fun hc7 => ?_)
  · have h := if_t hc7 h
    refine WP_seq ?_
    refine WP_region ?_
    refine XL_q rfl (qt_assign rfl) rfl rfl ?_
    refine WL_nil_seq ?_
    refine WP_ret fun a ha => ?_
    exact ret_seq (ret1 rfl ha rfl ⟨congrArg (fun z => Ending.returned (.int .i64 z)) (Option.some.inj h), hB6⟩)
  · have h := if_f hc7 h
    refine WP_skip_seq ?_
    refine WP_seq ?_
    refine WP_region ?_
    refine XL_q rfl (qt_assign rfl) rfl rfl ?_
    refine WL_nil_seq ?_
    refine WP_seq ?_
    refine WP_seq ?_
    refine WP_region ?_
    refine XL_q rfl (qt_assign rfl) rfl rfl ?_
    refine WL_nil_seq ?_
    refine WP_block ?_
    obtain ⟨o10, ho11, h⟩ := bind_some h
    refine fun a12 ha13 => wp_loop_fix (I := fun s a w2 => match s with | (s8, s9) => (Fr a 34 [(0, .int .i64 p0), (1, vp1), (5, .int .i64 s8), (6, .int .i64 s9)] ∧ Below w.heap.size w w2 ∧ Rep w2 (.slice (.int .i64)) [vp1] p1 Fp1)) (O := fun o e a w2 => match o with | q5 => e = .exit 0 ∧ (Fr a 34 [(5, .int .i64 q5)] ∧ Below w.heap.size w w2)) ho11 ?_ ?_ ?_
    · exact ⟨ha13.sub ⟨rfl, rfl, rfl, rfl, trivial⟩, hB6, hm5⟩
    · clear ha13
      intro s o16 a w14 hs15 hI17
      obtain ⟨s8, s9⟩ := s
      obtain ⟨ha, hB18, hm19⟩ := hI17
      refine WP.app ?_ ha
      clear ha
      refine WP_seq ?_
      refine WP_seq ?_
      refine WP_region ?_
      refine XL_q rfl (qt_move rfl) rfl rfl ?_
      refine XL_q rfl (qt_move rfl) rfl rfl ?_
      refine XL_len u22 hm19 rfl rfl rfl ?_
      obtain ⟨x20, hx21, hs15⟩ := bind_some hs15
      refine XL_q rfl (qt_shlO rfl rfl hx21) rfl rfl ?_
      refine XL_q rfl (qt_lss rfl rfl) rfl rfl ?_
      refine WL_nil_seq ?_
      refine WP_cond rfl (fun hc22 => ?_) (fun hc22 => ?_)
      · have hs15 := if_t hc22 hs15
        refine WP_skip_seq ?_
        refine WP_seq ?_
        refine WP_block ?_
        refine WP_seq ?_
        refine WP_seq ?_
        refine WP_still ?_
        refine XL_q rfl (qt_move rfl) rfl rfl ?_
        refine XL_q rfl (qt_move rfl) rfl rfl ?_
        refine XL_q rfl (qt_move rfl) rfl rfl ?_
        obtain ⟨x23, hx24, hs15⟩ := bind_some hs15
        refine QL_call rfl rfl c28 (fun w' hb => w_impl_FeedsAll w' p0 vp1 p1 Fp1 (hm19.below hb) s9 x23 hx24) (by rfl) ?_
        refine XL_q rfl (qt_not rfl) rfl rfl ?_
        refine QL_nil fun a ha w25 hb26 => ?_
        have hm27 := hm19.below hb26
        have hB28 := bl_trans hB18 hb26
        refine nrm_seq (WP.app ?_ ha)
        refine WP_cond rfl (fun hc29 => ?_) (fun hc29 => ?_)
        · have hs15 := if_t hc29 hs15
          refine WP_exit fun a ha => ?_
          refine exit_seq (exit_block_eq (nrm_seq (WP.app ?_ ha)))
          refine WP_region ?_
          refine XL_q rfl (qt_move rfl) rfl rfl ?_
          refine XL_q rfl (qt_add rfl rfl) rfl rfl ?_
          refine XL_q rfl (qt_assign rfl) rfl rfl ?_
          refine WL_nil fun a ha => ?_
          obtain rfl := Option.some.inj hs15
          exact ⟨rfl, ⟨ha.sub ⟨rfl, rfl, rfl, rfl, trivial⟩, hB28, hm27⟩⟩
        · have hs15 := if_f hc29 hs15
          refine WP_skip_seq ?_
          refine WP_seq ?_
          refine WP_still ?_
          refine XL_q rfl (qt_move rfl) rfl rfl ?_
          refine XL_q rfl (qt_lss rfl rfl) rfl rfl ?_
          refine XL_q rfl (qt_move rfl) rfl rfl ?_
          obtain ⟨b30, hg31, hs15⟩ := bind_some hs15
          refine XL_join 6 31 (.bool b30) ?_ (fun md hmd hk => ?_)
          rotate_left
          · obtain ⟨K, rfl⟩ := Md.quiet_of hmd
            rcases btf (decide (s8 < 0)) with hc32 | hc32
            · skip
              refine XL_skip (w_skip rfl hc32) rfl rfl ?_
              refine XL_skip (w_skip rfl hc32) rfl rfl ?_
              refine XL_skip (w_skip rfl hc32) rfl rfl ?_
              refine XL_skip (w_skip rfl hc32) rfl rfl ?_
              refine XL_skip (w_skip rfl hc32) rfl rfl ?_
              refine XL_q rfl (qt_pickT rfl hc32 rfl) rfl rfl ?_
              exact hk _ (Cov.same (vb (if_t hc32 hg31)) (Cov.fresh rfl (Cov.fresh rfl (Cov.fresh rfl (Cov.fresh rfl (Cov.fresh rfl (Cov.refl)))))))
            · skip
              have hg31 := if_f hc32 hg31
              refine XL_q (w_take rfl hc32) (qt_move rfl) rfl rfl ?_
              obtain ⟨x33, hx34, hg31⟩ := bind_some hg31
              refine QL_call (w_take rfl hc32) rfl c22 (fun w' hb => w_impl_DishesMany w' s9 x33 hx34) (by rfl) ?_
              refine XL_q (w_take rfl hc32) (qt_move rfl) rfl rfl ?_
              obtain ⟨x35, hx36, hg31⟩ := bind_some hg31
              refine QL_call (w_take rfl hc32) rfl c22 (fun w' hb => w_impl_DishesMany w' s8 x35 hx36) (by rfl) ?_
              refine XL_q (w_take rfl hc32) (qt_lss rfl rfl) rfl rfl ?_
              refine XL_q rfl (qt_pickF rfl hc32 rfl) rfl rfl ?_
              exact hk _ (Cov.same (vb hg31) (Cov.fresh rfl (Cov.fresh rfl (Cov.fresh rfl (Cov.fresh rfl (Cov.fresh rfl (Cov.refl)))))))
          refine QL_nil fun a ha w37 hb38 => ?_
          have hm39 := hm27.below hb38
          have hB40 := bl_trans hB28 hb38
          refine nrm_seq (WP.app ?_ ha)
          refine WP_cond rfl (fun hc41 => ?_) (fun hc41 => ?_)
          · have hs15 := if_t hc41 hs15
            refine WP_region ?_
            refine XL_q rfl (qt_move rfl) rfl rfl ?_
            refine XL_q rfl (qt_assign rfl) rfl rfl ?_
            refine WL_nil fun a ha => ?_
            refine nrm_block (nrm_seq (WP.app ?_ ha))
            refine WP_region ?_
            refine XL_q rfl (qt_move rfl) rfl rfl ?_
            refine XL_q rfl (qt_add rfl rfl) rfl rfl ?_
            refine XL_q rfl (qt_assign rfl) rfl rfl ?_
            refine WL_nil fun a ha => ?_
            obtain rfl := Option.some.inj hs15
            exact ⟨rfl, ⟨ha.sub ⟨rfl, rfl, rfl, rfl, trivial⟩, hB40, hm39⟩⟩
          · have hs15 := if_f hc41 hs15
            refine WP_skip fun a ha => ?_
            refine nrm_block (nrm_seq (WP.app ?_ ha))
            refine WP_region ?_
            refine XL_q rfl (qt_move rfl) rfl rfl ?_
            refine XL_q rfl (qt_add rfl rfl) rfl rfl ?_
            refine XL_q rfl (qt_assign rfl) rfl rfl ?_
            refine WL_nil fun a ha => ?_
            obtain rfl := Option.some.inj hs15
            exact ⟨rfl, ⟨ha.sub ⟨rfl, rfl, rfl, rfl, trivial⟩, hB40, hm39⟩⟩
      · have hs15 := if_f hc22 hs15
        refine WP_exit fun a ha => ?_
        obtain rfl := Option.some.inj hs15
        exact exit_seq (⟨exit_ne, rfl, ⟨ha.sub ⟨rfl, trivial⟩, hB18⟩⟩)
    · intro e a12 w42 hO43
      obtain ⟨p44, rfl⟩ : ∃ z, z = o10 := ⟨o10, rfl⟩
      obtain ⟨rfl, hO45⟩ := hO43
      obtain ⟨ha, hB46⟩ := hO45
      refine exit_block_eq (nrm_seq (WP.app ?_ ha))
      refine WP_seq ?_
      refine WP_region ?_
      refine XL_q rfl (qt_move rfl) rfl rfl ?_
      refine XL_q rfl (qt_assign rfl) rfl rfl ?_
      refine WL_nil_seq ?_
      refine WP_ret fun a ha => ?_
      exact ret1 rfl ha rfl ⟨congrArg (fun z => Ending.returned (.int .i64 z)) (Option.some.inj h), hB46⟩
theorem w_laws_FnExactDishesLeast (w : World) (p0 : Int) (vp1 : Value) (p1 : List Int) (Fp1 : List Nat) (hmp1 : Rep w (.slice (.int .i64)) [vp1] p1 Fp1) (r : Bool) (h : laws_FnExactDishesLeastS p0 p1 = some r) : Calls Try.prog 15 #[.int .i64 p0, vp1] w fun e w' => e = .returned (.bool r) ∧ Below w.heap.size w w' := by
  refine calls_enter (args := [.int .i64 p0, vp1]) (n := 28) Try.func15 rfl rfl rfl ?_
  unfold laws_FnExactDishesLeastS at h
  refine WP_seq ?_
  refine WP_region ?_
  refine XL_q rfl (qt_assign rfl) rfl rfl ?_
  refine WL_nil_seq ?_
  refine WP_seq ?_
  refine WP_seq ?_
  refine WP_region ?_
  refine XL_q rfl (qt_move rfl) rfl rfl ?_
  refine XL_len u22 hmp1 rfl rfl rfl ?_
  refine XL_q rfl (qt_gtr rfl rfl) rfl rfl ?_
  refine WL_nil_seq ?_
  refine WP_cond rfl (fun hc1 => ?_) (fun hc1 => ?_)
  · have h := if_t hc1 h
    refine WP_seq ?_
    refine WP_region ?_
    refine XL_q rfl (qt_assign rfl) rfl rfl ?_
    refine WL_nil_seq ?_
    refine WP_ret fun a ha => ?_
    exact ret_seq (ret1 rfl ha rfl ⟨congrArg (fun z => Ending.returned (.bool z)) (Option.some.inj h), (Below.refl _ _)⟩)
  · have h := if_f hc1 h
    refine WP_skip_seq ?_
    refine WP_seq ?_
    refine WP_region ?_
    refine XL_q rfl (qt_move rfl) rfl rfl ?_
    refine XL_q rfl (qt_move rfl) rfl rfl ?_
    obtain ⟨x2, hx3, h⟩ := bind_some h
    refine WL_call rfl rfl c18 (w_laws_toIntS w vp1 p1 Fp1 hmp1 x2 hx3) (by rfl) ?_
    rintro _ w5 ⟨v4, F6, rfl, hm7, hf9, hb8⟩; refine ⟨_, rfl, ?_⟩
    have hl10 := lo_fresh (Below.refl _ _) hf9
    have hm11 := hmp1.below hb8
    have hB12 := bl_trans (Below.refl _ _) hb8
    have hd13 : Dj F6 Fp1 := dj_fresh hf9 hmp1.lt
    obtain ⟨x14, hx15, h⟩ := bind_some h
    obtain ⟨F16, hr17, hs18⟩ := Own.rep hm7
    refine WL_call rfl rfl c45 (w_spec_DishesLeast w5 p0 v4 x2 F16 hr17 x14 hx15) (by rfl) ?_
    rintro _ w19 ⟨rfl, hb20⟩; refine ⟨_, rfl, ?_⟩
    have hm21 := hm11.below hb20
    have hm22 := hm7.below hb20
    have hB23 := bl_trans hB12 hb20
    refine XL_q rfl (qt_assign rfl) rfl rfl ?_
    refine WL_nil_seq ?_
    refine WP_seq ?_
    refine WP_region ?_
    refine XL_q rfl (qt_move rfl) rfl rfl ?_
    obtain ⟨x24, hx25, h⟩ := bind_some h
    refine WL_call rfl rfl c18 (w_laws_toIntS w19 vp1 p1 Fp1 hm21 x24 hx25) (by rfl) ?_
    rintro _ w27 ⟨v26, F28, rfl, hm29, hf31, hb30⟩; refine ⟨_, rfl, ?_⟩
    have hl32 := lo_fresh hB23 hf31
    have hm33 := hm21.below hb30
    have hm34 := hm22.below hb30
    have hB35 := bl_trans hB23 hb30
    have hd36 : Dj F28 Fp1 := dj_fresh hf31 hm21.lt
    have hd37 : Dj F28 F6 := dj_fresh hf31 hm22.lt
    refine XL_q rfl (qt_assign rfl) rfl rfl ?_
    refine WL_nil_seq ?_
    refine WP_seq ?_
    refine WP_still ?_
    refine XL_q rfl (qt_move rfl) rfl rfl ?_
    refine XL_q rfl (qt_move rfl) rfl rfl ?_
    obtain ⟨x38, hx39, h⟩ := bind_some h
    obtain ⟨F40, hr41, hs42⟩ := Own.rep hm29
    refine QL_call rfl rfl c46 (fun w' hb => w_impl_DishesLeast w' p0 v26 x24 F40 (hr41.below hb) x38 hx39) (by rfl) ?_
    refine XL_q rfl (qt_assign rfl) rfl rfl ?_
    refine QL_nil fun a ha w43 hb44 => ?_
    have hm45 := hm33.below hb44
    have hm46 := hm29.below hb44
    have hB47 := bl_trans hB35 hb44
    refine nrm_seq (WP.app ?_ ha)
    refine WP_seq ?_
    refine WP_seq ?_
    refine WP_region ?_
    refine XL_q rfl (qt_move rfl) rfl rfl ?_
    refine XL_q rfl (qt_move rfl) rfl rfl ?_
    refine XL_q rfl (qt_neq rfl rfl) rfl rfl ?_
    refine WL_nil_seq ?_
    refine WP_cond rfl (fun hc48 => ?_) (fun hc48 => ?_)
    · have h := if_t hc48 h
      refine WP_seq ?_
      refine WP_region ?_
      refine XL_q rfl (qt_assign rfl) rfl rfl ?_
      refine WL_nil_seq ?_
      refine WP_ret fun a ha => ?_
      exact ret_seq (ret1 rfl ha rfl ⟨congrArg (fun z => Ending.returned (.bool z)) (Option.some.inj h), hB47⟩)
    · have h := if_f hc48 h
      refine WP_skip_seq ?_
      refine WP_seq ?_
      refine WP_seq ?_
      refine WP_region ?_
      refine XL_q rfl (qt_move rfl) rfl rfl ?_
      refine XL_q rfl (qt_move rfl) rfl rfl ?_
      obtain ⟨x49, hx50, h⟩ := bind_some h
      refine WL_call rfl rfl c18 (w_laws_toIntS w43 vp1 p1 Fp1 hm45 x49 hx50) (by rfl) ?_
      rintro _ w52 ⟨v51, F53, rfl, hm54, hf56, hb55⟩; refine ⟨_, rfl, ?_⟩
      have hl57 := lo_fresh hB47 hf56
      have hm58 := hm45.below hb55
      have hm59 := hm46.below hb55
      have hB60 := bl_trans hB47 hb55
      have hd61 : Dj F53 Fp1 := dj_fresh hf56 hm45.lt
      have hd62 : Dj F53 F28 := dj_fresh hf56 hm46.lt
      obtain ⟨x63, hx64, h⟩ := bind_some h
      obtain ⟨F65, hr66, hs67⟩ := Own.rep hm59
      obtain ⟨F68, hr69, hs70⟩ := Own.rep hm54
      refine WL_call rfl rfl c20 (w_laws_eqIntS w52 v26 x24 F65 hr66 v51 x49 F68 hr69 x63 hx64) (by rfl) ?_
      rintro _ w71 ⟨rfl, hb72⟩; refine ⟨_, rfl, ?_⟩
      have hm73 := hm58.below hb72
      have hm74 := hm59.below hb72
      have hm75 := hm54.below hb72
      have hB76 := bl_trans hB60 hb72
      refine XL_q rfl (qt_not rfl) rfl rfl ?_
      refine WL_nil_seq ?_
      refine WP_cond rfl (fun hc77 => ?_) (fun hc77 => ?_)
      · have h := if_t hc77 h
        refine WP_seq ?_
        refine WP_region ?_
        refine XL_q rfl (qt_assign rfl) rfl rfl ?_
        refine WL_nil_seq ?_
        refine WP_ret fun a ha => ?_
        exact ret_seq (ret1 rfl ha rfl ⟨congrArg (fun z => Ending.returned (.bool z)) (Option.some.inj h), hB76⟩)
      · have h := if_f hc77 h
        refine WP_skip_seq ?_
        refine WP_seq ?_
        refine WP_region ?_
        refine XL_q rfl (qt_assign rfl) rfl rfl ?_
        refine WL_nil_seq ?_
        refine WP_ret fun a ha => ?_
        exact ret1 rfl ha rfl ⟨congrArg (fun z => Ending.returned (.bool z)) (Option.some.inj h), hB76⟩
end Go.Proofs.Ytefgdbldkdgogaa
