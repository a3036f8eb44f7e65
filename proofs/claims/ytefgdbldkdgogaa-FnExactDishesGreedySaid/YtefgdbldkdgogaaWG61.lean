/- The walks: each Go function computes its shallow function. Printed by a program. -/
import Derived.Test.YtefgdbldkdgogaaChecked
import Derived.Test.YtefgdbldkdgogaaShG6
set_option linter.unusedVariables false
set_option maxRecDepth 10000
namespace Go.Proofs.Ytefgdbldkdgogaa
open Go Go.RowKit
theorem u3 : Try.prog.underlying 3 = some (.int .i64) := by kernel_rfl
theorem u4 : Try.prog.underlying 4 = some (.bool) := by kernel_rfl
theorem u22 : Try.prog.underlying 22 = some (.slice 3) := by kernel_rfl
theorem u39 : Try.prog.underlying 39 = some (.int .u64) := by kernel_rfl
theorem u47 : Try.prog.underlying 47 = some (.int .u64) := by kernel_rfl
theorem i3 : (Try.prog.info? 3).map (·.size) = some (Ty.size (.int .i64)) := by kernel_rfl
theorem j3 : (Try.prog.info? 3).map (fun i => (i.zero, i.size, i.bytes)) = some (some (.int .i64 0), Ty.size (.int .i64), 8) := by kernel_rfl
theorem c17 : Callable Try.prog 17 := ⟨Try.f17, Try.func17, by kernel_rfl, by kernel_rfl⟩
theorem c18 : Callable Try.prog 18 := ⟨Try.f18, Try.func18, by kernel_rfl, by kernel_rfl⟩
theorem c19 : Callable Try.prog 19 := ⟨Try.f19, Try.func19, by kernel_rfl, by kernel_rfl⟩
theorem c20 : Callable Try.prog 20 := ⟨Try.f20, Try.func20, by kernel_rfl, by kernel_rfl⟩
theorem c21 : Callable Try.prog 21 := ⟨Try.f21, Try.func21, by kernel_rfl, by kernel_rfl⟩
theorem c22 : Callable Try.prog 22 := ⟨Try.f22, Try.func22, by kernel_rfl, by kernel_rfl⟩
theorem c23 : Callable Try.prog 23 := ⟨Try.f23, Try.func23, by kernel_rfl, by kernel_rfl⟩
theorem c24 : Callable Try.prog 24 := ⟨Try.f24, Try.func24, by kernel_rfl, by kernel_rfl⟩
theorem c25 : Callable Try.prog 25 := ⟨Try.f25, Try.func25, by kernel_rfl, by kernel_rfl⟩
theorem c26 : Callable Try.prog 26 := ⟨Try.f26, Try.func26, by kernel_rfl, by kernel_rfl⟩
theorem c27 : Callable Try.prog 27 := ⟨Try.f27, Try.func27, by kernel_rfl, by kernel_rfl⟩
theorem c28 : Callable Try.prog 28 := ⟨Try.f28, Try.func28, by kernel_rfl, by kernel_rfl⟩
theorem c29 : Callable Try.prog 29 := ⟨Try.f29, Try.func29, by kernel_rfl, by kernel_rfl⟩
theorem c30 : Callable Try.prog 30 := ⟨Try.f30, Try.func30, by kernel_rfl, by kernel_rfl⟩
theorem c31 : Callable Try.prog 31 := ⟨Try.f31, Try.func31, by kernel_rfl, by kernel_rfl⟩
theorem c32 : Callable Try.prog 32 := ⟨Try.f32, Try.func32, by kernel_rfl, by kernel_rfl⟩
theorem c33 : Callable Try.prog 33 := ⟨Try.f33, Try.func33, by kernel_rfl, by kernel_rfl⟩
theorem c34 : Callable Try.prog 34 := ⟨Try.f34, Try.func34, by kernel_rfl, by kernel_rfl⟩
theorem c35 : Callable Try.prog 35 := ⟨Try.f35, Try.func35, by kernel_rfl, by kernel_rfl⟩
theorem c36 : Callable Try.prog 36 := ⟨Try.f36, Try.func36, by kernel_rfl, by kernel_rfl⟩
theorem c37 : Callable Try.prog 37 := ⟨Try.f37, Try.func37, by kernel_rfl, by kernel_rfl⟩
theorem c38 : Callable Try.prog 38 := ⟨Try.f38, Try.func38, by kernel_rfl, by kernel_rfl⟩
theorem c39 : Callable Try.prog 39 := ⟨Try.f39, Try.func39, by kernel_rfl, by kernel_rfl⟩
theorem c40 : Callable Try.prog 40 := ⟨Try.f40, Try.func40, by kernel_rfl, by kernel_rfl⟩
theorem c41 : Callable Try.prog 41 := ⟨Try.f41, Try.func41, by kernel_rfl, by kernel_rfl⟩
theorem c42 : Callable Try.prog 42 := ⟨Try.f42, Try.func42, by kernel_rfl, by kernel_rfl⟩
theorem c43 : Callable Try.prog 43 := ⟨Try.f43, Try.func43, by kernel_rfl, by kernel_rfl⟩
theorem c44 : Callable Try.prog 44 := ⟨Try.f44, Try.func44, by kernel_rfl, by kernel_rfl⟩
theorem c45 : Callable Try.prog 45 := ⟨Try.f45, Try.func45, by kernel_rfl, by kernel_rfl⟩
theorem c46 : Callable Try.prog 46 := ⟨Try.f46, Try.func46, by kernel_rfl, by kernel_rfl⟩
theorem c49 : Callable Try.prog 49 := ⟨Try.f49, Try.func49, by kernel_rfl, by kernel_rfl⟩
theorem c50 : Callable Try.prog 50 := ⟨Try.f50, Try.func50, by kernel_rfl, by kernel_rfl⟩
theorem c51 : Callable Try.prog 51 := ⟨Try.f51, Try.func51, by kernel_rfl, by kernel_rfl⟩
theorem c52 : Callable Try.prog 52 := ⟨Try.f52, Try.func52, by kernel_rfl, by kernel_rfl⟩
theorem c53 : Callable Try.prog 53 := ⟨Try.f53, Try.func53, by kernel_rfl, by kernel_rfl⟩
theorem c54 : Callable Try.prog 54 := ⟨Try.f54, Try.func54, by kernel_rfl, by kernel_rfl⟩
theorem c55 : Callable Try.prog 55 := ⟨Try.f55, Try.func55, by kernel_rfl, by kernel_rfl⟩
theorem c56 : Callable Try.prog 56 := ⟨Try.f56, Try.func56, by kernel_rfl, by kernel_rfl⟩
theorem c57 : Callable Try.prog 57 := ⟨Try.f57, Try.func57, by kernel_rfl, by kernel_rfl⟩
theorem c58 : Callable Try.prog 58 := ⟨Try.f58, Try.func58, by kernel_rfl, by kernel_rfl⟩
theorem c59 : Callable Try.prog 59 := ⟨Try.f59, Try.func59, by kernel_rfl, by kernel_rfl⟩
theorem c65 : Callable Try.prog 65 := ⟨Try.f65, Try.func65, by kernel_rfl, by kernel_rfl⟩
theorem w_laws_toIntS (w : World) (vp0 : Value) (p0 : List Int) (Fp0 : List Nat) (hmp0 : Rep w (.slice (.int .i64)) [vp0] p0 Fp0) (r : (List Int)) (h : laws_toIntSS p0 = some r) : Calls Try.prog 18 #[vp0] w fun e w' => ∃ v F, e = .returned v ∧ Own w' 3 (.int .i64) v r F ∧ (∀ k ∈ F, w.heap.size ≤ k) ∧ Below w.heap.size w w' := by
  refine calls_enter (args := [vp0]) (n := 22) Try.func18 rfl rfl rfl ?_
  unfold laws_toIntSS at h
  refine WP_seq ?_
  refine WP_region ?_
  refine XL_q rfl (qt_assign rfl) rfl rfl ?_
  have hm1 := Own.nil w 3 (.int .i64)
  have hl2 := @lo_nil w
  refine WL_nil_seq ?_
  refine WP_seq ?_
  refine WP_region ?_
  refine XL_q rfl (qt_move rfl) rfl rfl ?_
  refine XL_len u22 hmp0 rfl rfl rfl ?_
  obtain ⟨x3, hx4, h⟩ := bind_some h
  refine WL_make u22 j3 rfl rfl (fun _ => ⟨rfl, rfl⟩) rfl hx4 rfl rfl rfl rfl (fun v5 w6 F7 hm8 hb9 hf10 => ?_)
  have hl11 := lo_fresh (Below.refl _ _) hf10
  have hm12 := hmp0.below hb9
  have hm13 := hm1.below hb9
  have hB14 := bl_trans (Below.refl _ _) hb9
  have hd15 : Dj F7 Fp0 := dj_fresh hf10 hmp0.lt
  have hd16 : Dj F7 ([]) := dj_fresh hf10 hm1.lt
  refine XL_q rfl (qt_assign rfl) rfl rfl ?_
  refine WL_nil_seq ?_
  refine WP_seq ?_
  refine WP_seq ?_
  refine WP_region ?_
  refine XL_q rfl (qt_assign rfl) rfl rfl ?_
  refine WL_nil_seq ?_
  refine WP_block ?_
  obtain ⟨o19, ho20, h⟩ := bind_some h
  refine fun a21 ha22 => wp_loop_fix (I := fun s a w2 => match s with | (s17, s18) => ∃ vs17 Fs17, Fr a 22 [(0, vp0), (3, vs17), (4, .int .i64 s18)] ∧ Below w.heap.size w w2 ∧ Rep w2 (.slice (.int .i64)) [vp0] p0 Fp0 ∧ Own w2 3 (.int .i64) vs17 s17 Fs17 ∧ (∀ k ∈ Fs17, w.heap.size ≤ k) ∧ Dj Fs17 Fp0) (O := fun o e a w2 => match o with | q3 => e = .exit 0 ∧ ∃ vq3 Fq3, Fr a 22 [(3, vq3)] ∧ Below w.heap.size w w2 ∧ Own w2 3 (.int .i64) vq3 q3 Fq3 ∧ (∀ k ∈ Fq3, w.heap.size ≤ k)) ho20 ?_ ?_ ?_
  · exact ⟨v5, F7, ha22.sub ⟨rfl, rfl, rfl, trivial⟩, hB14, hm12, hm8, hl11, hd15⟩
  · clear ha22
    intro s o25 a w23 hs24 hI26
    obtain ⟨s17, s18⟩ := s
    obtain ⟨vs17, Fs17, ha, hB27, hm28, hm29, hl30, hd31⟩ := hI26
    refine WP.app ?_ ha
    clear ha
    refine WP_seq ?_
    refine WP_seq ?_
    refine WP_region ?_
    refine XL_q rfl (qt_move rfl) rfl rfl ?_
    refine XL_q rfl (qt_move rfl) rfl rfl ?_
    refine XL_len u22 hm28 rfl rfl rfl ?_
    refine XL_q rfl (qt_lss rfl rfl) rfl rfl ?_
    refine WL_nil_seq ?_
    refine WP_cond rfl (fun hc32 => ?_) (fun hc32 => ?_)
    · have hs24 := if_t hc32 hs24
      refine WP_skip_seq ?_
      refine WP_seq ?_
      refine WP_block ?_
      refine WP_region ?_
      refine XL_q rfl (qt_move rfl) rfl rfl ?_
      refine XL_q rfl (qt_move rfl) rfl rfl ?_
      refine XL_q rfl (qt_move rfl) rfl rfl ?_
      refine XL_q rfl (qt_move rfl) rfl rfl ?_
      obtain ⟨x33, hx34, hs24⟩ := bind_some hs24
      refine XL_index u22 i3 hm28 hx34 rfl rfl rfl rfl (fun b35 o36 F37 hat38 hsub39 hbm40 => ?_)
      refine XL_load_int u3 rfl hat38 rfl rfl rfl ?_
      obtain ⟨x41, hx42, hs24⟩ := bind_some hs24
      refine XL_indexO u22 i3 hm29 hx42 rfl rfl rfl rfl (fun b43 cap44 F45 hv46 hbm47 hat48 hsub49 => ?_)
      have ho50 := hm29; rw [hv46] at ho50
      have hk51 := (geti_lt hx42).2
      refine WL_store rfl i3 ho50 (⟨rfl, rfl⟩) rfl rfl rfl hk51 (fun w52 hm53 hc54 => ?_)
      have hm55 := hm28.chg hc54 hd31
      have hB56 := Chg.below hc54 hB27 hl30
      rw [← hv46] at hm53
      refine WL_nil fun a ha => ?_
      refine nrm_block (nrm_seq (WP.app ?_ ha))
      refine WP_region ?_
      refine XL_q rfl (qt_move rfl) rfl rfl ?_
      refine XL_q rfl (qt_add rfl rfl) rfl rfl ?_
      refine XL_q rfl (qt_assign rfl) rfl rfl ?_
      refine WL_nil fun a ha => ?_
      obtain rfl := Option.some.inj hs24
      exact ⟨rfl, ⟨vs17, Fs17, ha.sub ⟨rfl, rfl, rfl, trivial⟩, hB56, hm55, hm53, hl30, hd31⟩⟩
    · have hs24 := if_f hc32 hs24
      refine WP_exit fun a ha => ?_
      obtain rfl := Option.some.inj hs24
      exact exit_seq (⟨exit_ne, rfl, ⟨vs17, Fs17, ha.sub ⟨rfl, trivial⟩, hB27, hm29, hl30⟩⟩)
  · intro e a21 w57 hO58
    obtain ⟨p59, rfl⟩ : ∃ z, z = o19 := ⟨o19, rfl⟩
    obtain ⟨rfl, hO60⟩ := hO58
    obtain ⟨vp59, Fp59, ha, hB61, hm62, hl63⟩ := hO60
    refine exit_block_eq (nrm_seq (WP.app ?_ ha))
    refine WP_seq ?_
    refine WP_region ?_
    refine XL_q rfl (qt_move rfl) rfl rfl ?_
    refine XL_q rfl (qt_assign rfl) rfl rfl ?_
    refine WL_nil_seq ?_
    refine WP_ret fun a ha => ?_
    obtain rfl := Option.some.inj h
    exact ret1 rfl ha rfl ⟨_, _, rfl, hm62, hl63, hB61⟩
theorem w_spec_l1In (w : World) (p0 : Int) (p1 : Int) (p2 : Int) (r : Bool) (h : spec_l1InS p0 p1 p2 = some r) : Calls Try.prog 49 #[.int .i64 p0, .int .i64 p1, .int .i64 p2] w fun e w' => e = .returned (.bool r) ∧ Below w.heap.size w w' := by
  refine calls_enter (args := [.int .i64 p0, .int .i64 p1, .int .i64 p2]) (n := 15) Try.func49 rfl rfl rfl ?_
  unfold spec_l1InS at h
  refine WP_seq ?_
  refine WP_region ?_
  refine XL_q rfl (qt_assign rfl) rfl rfl ?_
  refine WL_nil_seq ?_
  refine WP_seq ?_
  refine WP_region ?_
  refine XL_q rfl (qt_move rfl) rfl rfl ?_
  refine XL_q rfl (qt_move rfl) rfl rfl ?_
  refine XL_q rfl (qt_geq rfl rfl) rfl rfl ?_
  refine XL_q rfl (qt_move rfl) rfl rfl ?_
  refine XL_join 4 14 (.bool ((decide (p0 ≥ p1)) && (decide (p0 ≤ p2)))) ?_ (fun md hmd hk => ?_)
  rotate_left
  · obtain ⟨Q, rfl⟩ := Md.seq_of hmd
    rcases btf (decide (p0 ≥ p1)) with hc1 | hc1
    · skip
      refine XL_q (w_take rfl hc1) (qt_move rfl) rfl rfl ?_
      refine XL_q (w_take rfl hc1) (qt_move rfl) rfl rfl ?_
      refine XL_q (w_take rfl hc1) (qt_leq rfl rfl) rfl rfl ?_
      refine XL_q rfl (qt_pickT rfl hc1 rfl) rfl rfl ?_
      exact hk _ (Cov.same (by rw [hc1]; rfl) (Cov.fresh rfl (Cov.fresh rfl (Cov.fresh rfl (Cov.refl)))))
    · skip
      refine XL_skip (w_skip rfl hc1) rfl rfl ?_
      refine XL_skip (w_skip rfl hc1) rfl rfl ?_
      refine XL_skip (w_skip rfl hc1) rfl rfl ?_
      refine XL_q rfl (qt_pickF rfl hc1 rfl) rfl rfl ?_
      exact hk _ (Cov.same (by rw [hc1]; rfl) (Cov.fresh rfl (Cov.fresh rfl (Cov.fresh rfl (Cov.refl)))))
  refine XL_q rfl (qt_assign rfl) rfl rfl ?_
  refine WL_nil_seq ?_
  refine WP_ret fun a ha => ?_
  exact ret1 rfl ha rfl ⟨congrArg (fun z => Ending.returned (.bool z)) (Option.some.inj h), (Below.refl _ _)⟩
theorem w_spec_MenuValid (w : World) (p0 : Int) (vp1 : Value) (p1 : List Int) (Fp1 : List Nat) (hmp1 : Rep w (.slice (.int .i64)) [vp1] p1 Fp1) (r : Bool) (h : spec_MenuValidS p0 p1 = some r) : Calls Try.prog 17 #[.int .i64 p0, vp1] w fun e w' => e = .returned (.bool r) ∧ Below w.heap.size w w' := by
  refine calls_enter (args := [.int .i64 p0, vp1]) (n := 27) Try.func17 rfl rfl rfl ?_
  unfold spec_MenuValidS at h
  refine WP_seq ?_
  refine WP_region ?_
  refine XL_q rfl (qt_assign rfl) rfl rfl ?_
  refine WL_nil_seq ?_
  refine WP_seq ?_
  refine WP_seq ?_
  refine WP_still ?_
  refine XL_q rfl (qt_move rfl) rfl rfl ?_
  obtain ⟨x1, hx2, h⟩ := bind_some h
  refine QL_call rfl rfl c49 (fun w' hb => w_spec_l1In w' p0 0 6 x1 hx2) (by rfl) ?_
  refine XL_q rfl (qt_not rfl) rfl rfl ?_
  refine QL_nil fun a ha w3 hb4 => ?_
  have hm5 := hmp1.below hb4
  have hB6 := bl_trans (Below.refl _ _) hb4
  refine nrm_seq (WP.app ?_ ha)
  refine WP_cond rfl (fun hc7 => ?_) (fun hc7 => ?_)
  · have h := if_t hc7 h
    refine WP_seq ?_
    refine WP_region ?_
    refine XL_q rfl (qt_assign rfl) rfl rfl ?_
    refine WL_nil_seq ?_
    refine WP_ret fun a ha => ?_
    exact ret_seq (ret1 rfl ha rfl ⟨congrArg (fun z => Ending.returned (.bool z)) (Option.some.inj h), hB6⟩)
  · have h := if_f hc7 h
    refine WP_skip_seq ?_
    refine WP_seq ?_
    refine WP_seq ?_
    refine WP_region ?_
    refine XL_q rfl (qt_assign rfl) rfl rfl ?_
    refine WL_nil_seq ?_
    refine WP_block ?_
    obtain ⟨o9, ho10, h⟩ := bind_some h
    refine fun a11 ha12 => wp_loop_fix (I := fun s a w2 => match s with | s8 => (Fr a 27 [(0, .int .i64 p0), (1, vp1), (5, .int .i64 s8)] ∧ Below w.heap.size w w2 ∧ Rep w2 (.slice (.int .i64)) [vp1] p1 Fp1)) (O := fun o e a w2 => match o with | .inl _ => e = .exit 0 ∧ (Fr a 27 [(1, vp1)] ∧ Below w.heap.size w w2 ∧ Rep w2 (.slice (.int .i64)) [vp1] p1 Fp1) | .inr q4 => e = .ret ∧ (Fr a 27 [(4, .bool q4)] ∧ Below w.heap.size w w2)) ho10 ?_ ?_ ?_
    · exact ⟨ha12.sub ⟨rfl, rfl, rfl, trivial⟩, hB6, hm5⟩
    · clear ha12
      intro s o15 a w13 hs14 hI16
      obtain ⟨s8, rfl⟩ : ∃ z, z = s := ⟨s, rfl⟩
      obtain ⟨ha, hB17, hm18⟩ := hI16
      refine WP.app ?_ ha
      clear ha
      refine WP_seq ?_
      refine WP_seq ?_
      refine WP_region ?_
      refine XL_q rfl (qt_move rfl) rfl rfl ?_
      refine XL_q rfl (qt_move rfl) rfl rfl ?_
      refine XL_len u22 hm18 rfl rfl rfl ?_
      refine XL_q rfl (qt_lss rfl rfl) rfl rfl ?_
      refine WL_nil_seq ?_
      refine WP_cond rfl (fun hc19 => ?_) (fun hc19 => ?_)
      · have hs14 := if_t hc19 hs14
        refine WP_skip_seq ?_
        refine WP_seq ?_
        refine WP_block ?_
        refine WP_seq ?_
        refine WP_quiet (by kernel_rfl) (by kernel_rfl) ?_
        refine XL_q rfl (qt_move rfl) rfl rfl ?_
        refine XL_q rfl (qt_move rfl) rfl rfl ?_
        obtain ⟨x20, hx21, hs14⟩ := bind_some hs14
        refine XL_index u22 i3 hm18 hx21 rfl rfl rfl rfl (fun b22 o23 F24 hat25 hsub26 hbm27 => ?_)
        refine XL_load_int u3 rfl hat25 rfl rfl rfl ?_
        refine XL_q rfl (qt_move rfl) rfl rfl ?_
        obtain ⟨x28, hx29, hs14⟩ := bind_some hs14
        refine XL_q rfl (qt_shlO rfl rfl hx29) rfl rfl ?_
        refine XL_q rfl (qt_sub rfl rfl) rfl rfl ?_
        obtain ⟨x30, hx31, hs14⟩ := bind_some hs14
        refine QL_call rfl rfl c49 (fun w' hb => w_spec_l1In w' x20 0 (IntKind.wrap .i64 (x28 - 1)) x30 hx31) (by rfl) ?_
        refine XL_q rfl (qt_not rfl) rfl rfl ?_
        refine QL_nil fun a ha w32 hb33 => ?_
        have hm34 := hm18.below hb33
        have hB35 := bl_trans hB17 hb33
        refine nrm_seq (WP.app ?_ ha)
        refine WP_cond rfl (fun hc36 => ?_) (fun hc36 => ?_)
        · have hs14 := if_t hc36 hs14
          refine WP_seq ?_
          refine WP_region ?_
          refine XL_q rfl (qt_assign rfl) rfl rfl ?_
          refine WL_nil_seq ?_
          refine WP_ret fun a ha => ?_
          obtain rfl := Option.some.inj hs14
          exact ret_block (ret_seq (⟨ret_ne, rfl, ⟨ha.sub ⟨rfl, trivial⟩, hB35⟩⟩))
        · have hs14 := if_f hc36 hs14
          refine WP_skip fun a ha => ?_
          refine nrm_block (nrm_seq (WP.app ?_ ha))
          refine WP_region ?_
          refine XL_q rfl (qt_move rfl) rfl rfl ?_
          refine XL_q rfl (qt_add rfl rfl) rfl rfl ?_
          refine XL_q rfl (qt_assign rfl) rfl rfl ?_
          refine WL_nil fun a ha => ?_
          obtain rfl := Option.some.inj hs14
          exact ⟨rfl, ⟨ha.sub ⟨rfl, rfl, rfl, trivial⟩, hB35, hm34⟩⟩
      · have hs14 := if_f hc19 hs14
        refine WP_exit fun a ha => ?_
        obtain rfl := Option.some.inj hs14
        exact exit_seq (⟨exit_ne, rfl, ⟨ha.sub ⟨rfl, trivial⟩, hB17, hm18⟩⟩)
    · intro e a11 w37 hO38
      rcases o9 with o9 | o9
      · skip
        obtain ⟨rfl, hO39⟩ := hO38
        obtain ⟨ha, hB40, hm41⟩ := hO39
        refine exit_block_eq (nrm_seq (WP.app ?_ ha))
        refine WP_seq ?_
        refine WP_region ?_
        refine XL_q rfl (qt_move rfl) rfl rfl ?_
        refine XL_len u22 hm41 rfl rfl rfl ?_
        refine XL_q rfl (qt_leq rfl rfl) rfl rfl ?_
        refine XL_q rfl (qt_assign rfl) rfl rfl ?_
        refine WL_nil_seq ?_
        refine WP_ret fun a ha => ?_
        exact ret1 rfl ha rfl ⟨congrArg (fun z => Ending.returned (.bool z)) (Option.some.inj h), hB40⟩
      · skip
        obtain ⟨p42, rfl⟩ : ∃ z, z = o9 := ⟨o9, rfl⟩
        obtain ⟨rfl, hO43⟩ := hO38
        obtain ⟨ha, hB44⟩ := hO43
        exact ret_block (ret_seq (ret1 rfl ha rfl ⟨congrArg (fun z => Ending.returned (.bool z)) (Option.some.inj h), hB44⟩))
theorem w_impl_everybody (w : World) (p0 : Int) (r : Int) (h : impl_everybodyS p0 = some r) : Calls Try.prog 51 #[.int .i64 p0] w fun e w' => e = .returned (.int .i64 r) ∧ Below w.heap.size w w' := by
  refine calls_enter (args := [.int .i64 p0]) (n := 6) Try.func51 rfl rfl rfl ?_
  unfold impl_everybodyS at h
  refine WP_seq ?_
  refine WP_region ?_
  refine XL_q rfl (qt_assign rfl) rfl rfl ?_
  refine WL_nil_seq ?_
  refine WP_seq ?_
  refine WP_region ?_
  refine XL_q rfl (qt_move rfl) rfl rfl ?_
  obtain ⟨x1, hx2, h⟩ := bind_some h
  refine XL_q rfl (qt_shlO rfl rfl hx2) rfl rfl ?_
  refine XL_q rfl (qt_sub rfl rfl) rfl rfl ?_
  refine XL_q rfl (qt_assign rfl) rfl rfl ?_
  refine WL_nil_seq ?_
  refine WP_ret fun a ha => ?_
  exact ret1 rfl ha rfl ⟨congrArg (fun z => Ending.returned (.int .i64 z)) (Option.some.inj h), (Below.refl _ _)⟩
theorem w_impl_amountsOk (w : World) (vp0 : Value) (p0 : List Int) (Fp0 : List Nat) (hmp0 : Rep w (.slice (.int .i64)) [vp0] p0 Fp0) (p1 : Int) (p2 : Int) (r : Bool) (h : impl_amountsOkS p0 p1 p2 = some r) : Calls Try.prog 50 #[vp0, .int .i64 p1, .int .i64 p2] w fun e w' => e = .returned (.bool r) ∧ Below w.heap.size w w' := by
  refine calls_enter (args := [vp0, .int .i64 p1, .int .i64 p2]) (n := 27) Try.func50 rfl rfl rfl ?_
  unfold impl_amountsOkS at h
  refine WP_seq ?_
  refine WP_region ?_
  refine XL_q rfl (qt_assign rfl) rfl rfl ?_
  refine WL_nil_seq ?_
  refine WP_seq ?_
  refine WP_seq ?_
  refine WP_region ?_
  refine XL_q rfl (qt_move rfl) rfl rfl ?_
  refine XL_len u22 hmp0 rfl rfl rfl ?_
  refine XL_q rfl (qt_move rfl) rfl rfl ?_
  refine XL_q rfl (qt_neq rfl rfl) rfl rfl ?_
  refine WL_nil_seq ?_
  refine WP_cond rfl (fun hc1 => ?_) (fun hc1 => ?_)
  · have h := if_t hc1 h
    refine WP_seq ?_
    refine WP_region ?_
    refine XL_q rfl (qt_assign rfl) rfl rfl ?_
    refine WL_nil_seq ?_
    refine WP_ret fun a ha => ?_
    exact ret_seq (ret1 rfl ha rfl ⟨congrArg (fun z => Ending.returned (.bool z)) (Option.some.inj h), (Below.refl _ _)⟩)
  · have h := if_f hc1 h
    refine WP_skip_seq ?_
    refine WP_seq ?_
    refine WP_seq ?_
    refine WP_region ?_
    refine XL_q rfl (qt_move rfl) rfl rfl ?_
    refine XL_len u22 hmp0 rfl rfl rfl ?_
    refine XL_q rfl (qt_move rfl) rfl rfl ?_
    refine WL_nil_seq ?_
    refine WP_block ?_
    obtain ⟨o3, ho4, h⟩ := bind_some h
    refine fun a5 ha6 => wp_loop_fix (I := fun s a w2 => match s with | s2 => (Fr a 27 [(2, .int .i64 p2), (13, vp0), (14, .int .i64 (List.length p0 : Int)), (15, .int .i64 s2)] ∧ Below w.heap.size w w2 ∧ Rep w2 (.slice (.int .i64)) [vp0] p0 Fp0)) (O := fun o e a w2 => match o with | .inl _ => e = .exit 0 ∧ (Fr a 27 [] ∧ Below w.heap.size w w2) | .inr q6 => e = .ret ∧ (Fr a 27 [(6, .bool q6)] ∧ Below w.heap.size w w2)) ho4 ?_ ?_ ?_
    · exact ⟨ha6.sub ⟨rfl, rfl, rfl, rfl, trivial⟩, (Below.refl _ _), hmp0⟩
    · clear ha6
      intro s o9 a w7 hs8 hI10
      obtain ⟨s2, rfl⟩ : ∃ z, z = s := ⟨s, rfl⟩
      obtain ⟨ha, hB11, hm12⟩ := hI10
      refine WP.app ?_ ha
      clear ha
      refine WP_seq ?_
      refine WP_region ?_
      refine XL_q rfl (qt_lss rfl rfl) rfl rfl ?_
      refine WL_nil_seq ?_
      refine WP_seq ?_
      refine WP_cond rfl (fun hc13 => ?_) (fun hc13 => ?_)
      · have hs8 := if_t hc13 hs8
        refine WP_skip_seq ?_
        refine WP_seq ?_
        refine WP_block ?_
        refine WP_seq ?_
        refine WP_region ?_
        obtain ⟨x14, hx15, hs8⟩ := bind_some hs8
        refine XL_index u22 i3 hm12 hx15 rfl rfl rfl rfl (fun b16 o17 F18 hat19 hsub20 hbm21 => ?_)
        refine XL_load_int u3 rfl hat19 rfl rfl rfl ?_
        refine XL_q rfl (qt_assign rfl) rfl rfl ?_
        refine WL_nil_seq ?_
        refine WP_seq ?_
        refine WP_region ?_
        refine XL_q rfl (qt_move rfl) rfl rfl ?_
        refine XL_q rfl (qt_lss rfl rfl) rfl rfl ?_
        refine XL_q rfl (qt_move rfl) rfl rfl ?_
        refine XL_join 4 25 (.bool ((decide (x14 < 0)) || (decide (x14 > p2)))) ?_ (fun md hmd hk => ?_)
        rotate_left
        · obtain ⟨Q, rfl⟩ := Md.seq_of hmd
          rcases btf (decide (x14 < 0)) with hc22 | hc22
          · skip
            refine XL_skip (w_skip rfl hc22) rfl rfl ?_
            refine XL_skip (w_skip rfl hc22) rfl rfl ?_
            refine XL_skip (w_skip rfl hc22) rfl rfl ?_
            refine XL_q rfl (qt_pickT rfl hc22 rfl) rfl rfl ?_
            exact hk _ (Cov.same (by rw [hc22]; rfl) (Cov.fresh rfl (Cov.fresh rfl (Cov.fresh rfl (Cov.refl)))))
          · skip
            refine XL_q (w_take rfl hc22) (qt_move rfl) rfl rfl ?_
            refine XL_q (w_take rfl hc22) (qt_move rfl) rfl rfl ?_
            refine XL_q (w_take rfl hc22) (qt_gtr rfl rfl) rfl rfl ?_
            refine XL_q rfl (qt_pickF rfl hc22 rfl) rfl rfl ?_
            exact hk _ (Cov.same (by rw [hc22]; rfl) (Cov.fresh rfl (Cov.fresh rfl (Cov.fresh rfl (Cov.refl)))))
        refine WL_nil_seq ?_
        refine WP_cond rfl (fun hc23 => ?_) (fun hc23 => ?_)
        · have hs8 := if_t hc23 hs8
          refine WP_seq ?_
          refine WP_region ?_
          refine XL_q rfl (qt_assign rfl) rfl rfl ?_
          refine WL_nil_seq ?_
          refine WP_ret fun a ha => ?_
          obtain rfl := Option.some.inj hs8
          exact ret_block (ret_seq (⟨ret_ne, rfl, ⟨ha.sub ⟨rfl, trivial⟩, hB11⟩⟩))
        · have hs8 := if_f hc23 hs8
          refine WP_skip fun a ha => ?_
          refine nrm_block (nrm_seq (WP.app ?_ ha))
          refine WP_region ?_
          refine XL_q rfl (qt_add rfl rfl) rfl rfl ?_
          refine XL_q rfl (qt_move rfl) rfl rfl ?_
          refine WL_nil fun a ha => ?_
          obtain rfl := Option.some.inj hs8
          exact ⟨rfl, ⟨ha.sub ⟨rfl, rfl, rfl, rfl, trivial⟩, hB11, hm12⟩⟩
      · have hs8 := if_f hc13 hs8
        refine WP_exit fun a ha => ?_
        obtain rfl := Option.some.inj hs8
        exact exit_seq (⟨exit_ne, rfl, ⟨ha.sub trivial, hB11⟩⟩)
    · intro e a5 w24 hO25
      rcases o3 with o3 | o3
      · skip
        obtain ⟨rfl, hO26⟩ := hO25
        obtain ⟨ha, hB27⟩ := hO26
        refine exit_block_eq (nrm_seq (WP.app ?_ ha))
        refine WP_seq ?_
        refine WP_region ?_
        refine XL_q rfl (qt_assign rfl) rfl rfl ?_
        refine WL_nil_seq ?_
        refine WP_ret fun a ha => ?_
        exact ret1 rfl ha rfl ⟨congrArg (fun z => Ending.returned (.bool z)) (Option.some.inj h), hB27⟩
      · skip
        obtain ⟨p28, rfl⟩ : ∃ z, z = o3 := ⟨o3, rfl⟩
        obtain ⟨rfl, hO29⟩ := hO25
        obtain ⟨ha, hB30⟩ := hO29
        exact ret_block (ret_seq (ret1 rfl ha rfl ⟨congrArg (fun z => Ending.returned (.bool z)) (Option.some.inj h), hB30⟩))
theorem w_impl_MenuValid (w : World) (p0 : Int) (vp1 : Value) (p1 : List Int) (Fp1 : List Nat) (hmp1 : Rep w (.slice (.int .i64)) [vp1] p1 Fp1) (r : Bool) (h : impl_MenuValidS p0 p1 = some r) : Calls Try.prog 19 #[.int .i64 p0, vp1] w fun e w' => e = .returned (.bool r) ∧ Below w.heap.size w w' := by
  refine calls_enter (args := [.int .i64 p0, vp1]) (n := 22) Try.func19 rfl rfl rfl ?_
  unfold impl_MenuValidS at h
  refine WP_seq ?_
  refine WP_region ?_
  refine XL_q rfl (qt_assign rfl) rfl rfl ?_
  refine WL_nil_seq ?_
  refine WP_seq ?_
  refine WP_seq ?_
  refine WP_region ?_
  refine XL_q rfl (qt_move rfl) rfl rfl ?_
  refine XL_q rfl (qt_lss rfl rfl) rfl rfl ?_
  refine XL_q rfl (qt_move rfl) rfl rfl ?_
  refine XL_join 3 10 (.bool ((decide (p0 < 0)) || (decide (p0 > 6)))) ?_ (fun md hmd hk => ?_)
  rotate_left
  · obtain ⟨Q, rfl⟩ := Md.seq_of hmd
    rcases btf (decide (p0 < 0)) with hc1 | hc1
    · skip
      refine XL_skip (w_skip rfl hc1) rfl rfl ?_
      refine XL_skip (w_skip rfl hc1) rfl rfl ?_
      refine XL_q rfl (qt_pickT rfl hc1 rfl) rfl rfl ?_
      exact hk _ (Cov.same (by rw [hc1]; rfl) (Cov.fresh rfl (Cov.fresh rfl (Cov.refl))))
    · skip
      refine XL_q (w_take rfl hc1) (qt_move rfl) rfl rfl ?_
      refine XL_q (w_take rfl hc1) (qt_gtr rfl rfl) rfl rfl ?_
      refine XL_q rfl (qt_pickF rfl hc1 rfl) rfl rfl ?_
      exact hk _ (Cov.same (by rw [hc1]; rfl) (Cov.fresh rfl (Cov.fresh rfl (Cov.refl))))
  refine XL_q rfl (qt_move rfl) rfl rfl ?_
  refine XL_join 4 15 (.bool (((decide (p0 < 0)) || (decide (p0 > 6))) || (decide ((List.length p1 : Int) > 6)))) ?_ (fun md hmd hk => ?_)
  rotate_left
  · obtain ⟨Q, rfl⟩ := Md.seq_of hmd
    rcases btf ((decide (p0 < 0)) || (decide (p0 > 6))) with hc2 | hc2
    · skip
      refine XL_skip (w_skip rfl hc2) rfl rfl ?_
      refine XL_skip (w_skip rfl hc2) rfl rfl ?_
      refine XL_skip (w_skip rfl hc2) rfl rfl ?_
      refine XL_q rfl (qt_pickT rfl hc2 rfl) rfl rfl ?_
      exact hk _ (Cov.same (by rw [hc2]; rfl) (Cov.fresh rfl (Cov.fresh rfl (Cov.fresh rfl (Cov.refl)))))
    · skip
      refine XL_q (w_take rfl hc2) (qt_move rfl) rfl rfl ?_
      refine XL_len u22 hmp1 (w_take rfl hc2) rfl rfl ?_
      refine XL_q (w_take rfl hc2) (qt_gtr rfl rfl) rfl rfl ?_
      refine XL_q rfl (qt_pickF rfl hc2 rfl) rfl rfl ?_
      exact hk _ (Cov.same (by rw [hc2]; rfl) (Cov.fresh rfl (Cov.fresh rfl (Cov.fresh rfl (Cov.refl)))))
  refine WL_nil_seq ?_
  refine WP_cond rfl (fun hc3 => ?_) (fun hc3 => ?_)
  · have h := if_t hc3 h
    refine WP_seq ?_
    refine WP_region ?_
    refine XL_q rfl (qt_assign rfl) rfl rfl ?_
    refine WL_nil_seq ?_
    refine WP_ret fun a ha => ?_
    exact ret_seq (ret1 rfl ha rfl ⟨congrArg (fun z => Ending.returned (.bool z)) (Option.some.inj h), (Below.refl _ _)⟩)
  · have h := if_f hc3 h
    refine WP_skip_seq ?_
    refine WP_seq ?_
    refine WP_still ?_
    refine XL_q rfl (qt_move rfl) rfl rfl ?_
    refine XL_q rfl (qt_move rfl) rfl rfl ?_
    refine XL_len u22 hmp1 rfl rfl rfl ?_
    refine XL_q rfl (qt_move rfl) rfl rfl ?_
    obtain ⟨x4, hx5, h⟩ := bind_some h
    refine QL_call rfl rfl c51 (fun w' hb => w_impl_everybody w' p0 x4 hx5) (by rfl) ?_
    obtain ⟨x6, hx7, h⟩ := bind_some h
    refine QL_call rfl rfl c50 (fun w' hb => w_impl_amountsOk w' vp1 p1 Fp1 (hmp1.below hb) (List.length p1 : Int) x4 x6 hx7) (by rfl) ?_
    refine XL_q rfl (qt_assign rfl) rfl rfl ?_
    refine QL_nil fun a ha w8 hb9 => ?_
    have hB10 := bl_trans (Below.refl _ _) hb9
    refine nrm_seq (WP.app ?_ ha)
    refine WP_ret fun a ha => ?_
    exact ret1 rfl ha rfl ⟨congrArg (fun z => Ending.returned (.bool z)) (Option.some.inj h), hB10⟩
theorem w_laws_eqIntS (w : World) (vp0 : Value) (p0 : List Int) (Fp0 : List Nat) (hmp0 : Rep w (.slice (.int .i64)) [vp0] p0 Fp0) (vp1 : Value) (p1 : List Int) (Fp1 : List Nat) (hmp1 : Rep w (.slice (.int .i64)) [vp1] p1 Fp1) (r : Bool) (h : laws_eqIntSS p0 p1 = some r) : Calls Try.prog 20 #[vp0, vp1] w fun e w' => e = .returned (.bool r) ∧ Below w.heap.size w w' := by
  refine calls_enter (args := [vp0, vp1]) (n := 26) Try.func20 rfl rfl rfl ?_
  unfold laws_eqIntSS at h
  refine WP_seq ?_
  refine WP_region ?_
  refine XL_q rfl (qt_assign rfl) rfl rfl ?_
  refine WL_nil_seq ?_
  refine WP_seq ?_
  refine WP_seq ?_
  refine WP_region ?_
  refine XL_q rfl (qt_move rfl) rfl rfl ?_
  refine XL_len u22 hmp0 rfl rfl rfl ?_
  refine XL_q rfl (qt_move rfl) rfl rfl ?_
  refine XL_len u22 hmp1 rfl rfl rfl ?_
  refine XL_q rfl (qt_neq rfl rfl) rfl rfl ?_
  refine WL_nil_seq ?_
  refine WP_cond rfl (fun hc1 => ?_) (fun hc1 => ?_)
  · have h := if_t hc1 h
    refine WP_seq ?_
    refine WP_region ?_
    refine XL_q rfl (qt_assign rfl) rfl rfl ?_
    refine WL_nil_seq ?_
    refine WP_ret fun a ha => ?_
    exact ret_seq (ret1 rfl ha rfl ⟨congrArg (fun z => Ending.returned (.bool z)) (Option.some.inj h), (Below.refl _ _)⟩)
  · have h := if_f hc1 h
    refine WP_skip_seq ?_
    refine WP_seq ?_
    refine WP_seq ?_
    refine WP_region ?_
    refine XL_q rfl (qt_assign rfl) rfl rfl ?_
    refine WL_nil_seq ?_
    refine WP_block ?_
    obtain ⟨o3, ho4, h⟩ := bind_some h
    refine fun a5 ha6 => wp_loop_fix (I := fun s a w2 => match s with | s2 => (Fr a 26 [(0, vp0), (1, vp1), (5, .int .i64 s2)] ∧ Below w.heap.size w w2 ∧ Rep w2 (.slice (.int .i64)) [vp0] p0 Fp0 ∧ Rep w2 (.slice (.int .i64)) [vp1] p1 Fp1)) (O := fun o e a w2 => match o with | .inl _ => e = .exit 0 ∧ (Fr a 26 [] ∧ Below w.heap.size w w2) | .inr q4 => e = .ret ∧ (Fr a 26 [(4, .bool q4)] ∧ Below w.heap.size w w2)) ho4 ?_ ?_ ?_
    · exact ⟨ha6.sub ⟨rfl, rfl, rfl, trivial⟩, (Below.refl _ _), hmp0, hmp1⟩
    · clear ha6
      intro s o9 a w7 hs8 hI10
      obtain ⟨s2, rfl⟩ : ∃ z, z = s := ⟨s, rfl⟩
      obtain ⟨ha, hB11, hm12, hm13⟩ := hI10
      refine WP.app ?_ ha
      clear ha
      refine WP_seq ?_
      refine WP_seq ?_
      refine WP_region ?_
      refine XL_q rfl (qt_move rfl) rfl rfl ?_
      refine XL_q rfl (qt_move rfl) rfl rfl ?_
      refine XL_len u22 hm12 rfl rfl rfl ?_
      refine XL_q rfl (qt_lss rfl rfl) rfl rfl ?_
      refine WL_nil_seq ?_
      refine WP_cond rfl (fun hc14 => ?_) (fun hc14 => ?_)
      · have hs8 := if_t hc14 hs8
        refine WP_skip_seq ?_
        refine WP_seq ?_
        refine WP_block ?_
        refine WP_seq ?_
        refine WP_quiet (by kernel_rfl) (by kernel_rfl) ?_
        refine XL_q rfl (qt_move rfl) rfl rfl ?_
        refine XL_q rfl (qt_move rfl) rfl rfl ?_
        obtain ⟨x15, hx16, hs8⟩ := bind_some hs8
        refine XL_index u22 i3 hm12 hx16 rfl rfl rfl rfl (fun b17 o18 F19 hat20 hsub21 hbm22 => ?_)
        refine XL_load_int u3 rfl hat20 rfl rfl rfl ?_
        refine XL_q rfl (qt_move rfl) rfl rfl ?_
        refine XL_q rfl (qt_move rfl) rfl rfl ?_
        obtain ⟨x23, hx24, hs8⟩ := bind_some hs8
        refine XL_index u22 i3 hm13 hx24 rfl rfl rfl rfl (fun b25 o26 F27 hat28 hsub29 hbm30 => ?_)
        refine XL_load_int u3 rfl hat28 rfl rfl rfl ?_
        refine XL_q rfl (qt_neq rfl rfl) rfl rfl ?_
        refine QL_nil fun a ha w31 hb32 => ?_
        have hm33 := hm12.below hb32
        have hm34 := hm13.below hb32
        have hB35 := bl_trans hB11 hb32
        refine nrm_seq (WP.app ?_ ha)
        refine WP_cond rfl (fun hc36 => ?_) (fun hc36 => ?_)
        · have hs8 := if_t hc36 hs8
          refine WP_seq ?_
          refine WP_region ?_
          refine XL_q rfl (qt_assign rfl) rfl rfl ?_
          refine WL_nil_seq ?_
          refine WP_ret fun a ha => ?_
          obtain rfl := Option.some.inj hs8
          exact ret_block (ret_seq (⟨ret_ne, rfl, ⟨ha.sub ⟨rfl, trivial⟩, hB35⟩⟩))
        · have hs8 := if_f hc36 hs8
          refine WP_skip fun a ha => ?_
          refine nrm_block (nrm_seq (WP.app ?_ ha))
          refine WP_region ?_
          refine XL_q rfl (qt_move rfl) rfl rfl ?_
          refine XL_q rfl (qt_add rfl rfl) rfl rfl ?_
          refine XL_q rfl (qt_assign rfl) rfl rfl ?_
          refine WL_nil fun a ha => ?_
          obtain rfl := Option.some.inj hs8
          exact ⟨rfl, ⟨ha.sub ⟨rfl, rfl, rfl, trivial⟩, hB35, hm33, hm34⟩⟩
      · have hs8 := if_f hc14 hs8
        refine WP_exit fun a ha => ?_
        obtain rfl := Option.some.inj hs8
        exact exit_seq (⟨exit_ne, rfl, ⟨ha.sub trivial, hB11⟩⟩)
    · intro e a5 w37 hO38
      rcases o3 with o3 | o3
      · skip
        obtain ⟨rfl, hO39⟩ := hO38
        obtain ⟨ha, hB40⟩ := hO39
        refine exit_block_eq (nrm_seq (WP.app ?_ ha))
        refine WP_seq ?_
        refine WP_region ?_
        refine XL_q rfl (qt_assign rfl) rfl rfl ?_
        refine WL_nil_seq ?_
        refine WP_ret fun a ha => ?_
        exact ret1 rfl ha rfl ⟨congrArg (fun z => Ending.returned (.bool z)) (Option.some.inj h), hB40⟩
      · skip
        obtain ⟨p41, rfl⟩ : ∃ z, z = o3 := ⟨o3, rfl⟩
        obtain ⟨rfl, hO42⟩ := hO38
        obtain ⟨ha, hB43⟩ := hO42
        exact ret_block (ret_seq (ret1 rfl ha rfl ⟨congrArg (fun z => Ending.returned (.bool z)) (Option.some.inj h), hB43⟩))
theorem w_laws_FnExactMenuValid (w : World) (p0 : Int) (vp1 : Value) (p1 : List Int) (Fp1 : List Nat) (hmp1 : Rep w (.slice (.int .i64)) [vp1] p1 Fp1) (r : Bool) (h : laws_FnExactMenuValidS p0 p1 = some r) : Calls Try.prog 3 #[.int .i64 p0, vp1] w fun e w' => e = .returned (.bool r) ∧ Below w.heap.size w w' := by
  refine calls_enter (args := [.int .i64 p0, vp1]) (n := 28) Try.func3 rfl rfl rfl ?_
  unfold laws_FnExactMenuValidS at h
  refine WP_seq ?_
  refine WP_region ?_
  refine XL_q rfl (qt_assign rfl) rfl rfl ?_
  refine WL_nil_seq ?_
  refine WP_seq ?_
  refine WP_seq ?_
  refine WP_region ?_
  refine XL_q rfl (qt_move rfl) rfl rfl ?_
  refine XL_len u22 hmp1 rfl rfl rfl ?_
  refine XL_q rfl (qt_gtr rfl rfl) rfl rfl ?_
  refine WL_nil_seq ?_
  refine WP_cond rfl (fun hc1 => ?_) (fun hc1 => ?_)
  · have h := if_t hc1 h
    refine WP_seq ?_
    refine WP_region ?_
    refine XL_q rfl (qt_assign rfl) rfl rfl ?_
    refine WL_nil_seq ?_
    refine WP_ret fun a ha => ?_
    exact ret_seq (ret1 rfl ha rfl ⟨congrArg (fun z => Ending.returned (.bool z)) (Option.some.inj h), (Below.refl _ _)⟩)
  · have h := if_f hc1 h
    refine WP_skip_seq ?_
    refine WP_seq ?_
    refine WP_region ?_
    refine XL_q rfl (qt_move rfl) rfl rfl ?_
    refine XL_q rfl (qt_move rfl) rfl rfl ?_
    obtain ⟨x2, hx3, h⟩ := bind_some h
    refine WL_call rfl rfl c18 (w_laws_toIntS w vp1 p1 Fp1 hmp1 x2 hx3) (by rfl) ?_
    rintro _ w5 ⟨v4, F6, rfl, hm7, hf9, hb8⟩; refine ⟨_, rfl, ?_⟩
    have hl10 := lo_fresh (Below.refl _ _) hf9
    have hm11 := hmp1.below hb8
    have hB12 := bl_trans (Below.refl _ _) hb8
    have hd13 : Dj F6 Fp1 := dj_fresh hf9 hmp1.lt
    obtain ⟨x14, hx15, h⟩ := bind_some h
    obtain ⟨F16, hr17, hs18⟩ := Own.rep hm7
    refine WL_call rfl rfl c17 (w_spec_MenuValid w5 p0 v4 x2 F16 hr17 x14 hx15) (by rfl) ?_
    rintro _ w19 ⟨rfl, hb20⟩; refine ⟨_, rfl, ?_⟩
    have hm21 := hm11.below hb20
    have hm22 := hm7.below hb20
    have hB23 := bl_trans hB12 hb20
    refine XL_q rfl (qt_assign rfl) rfl rfl ?_
    refine WL_nil_seq ?_
    refine WP_seq ?_
    refine WP_region ?_
    refine XL_q rfl (qt_move rfl) rfl rfl ?_
    obtain ⟨x24, hx25, h⟩ := bind_some h
    refine WL_call rfl rfl c18 (w_laws_toIntS w19 vp1 p1 Fp1 hm21 x24 hx25) (by rfl) ?_
    rintro _ w27 ⟨v26, F28, rfl, hm29, hf31, hb30⟩; refine ⟨_, rfl, ?_⟩
    have hl32 := lo_fresh hB23 hf31
    have hm33 := hm21.below hb30
    have hm34 := hm22.below hb30
    have hB35 := bl_trans hB23 hb30
    have hd36 : Dj F28 Fp1 := dj_fresh hf31 hm21.lt
    have hd37 : Dj F28 F6 := dj_fresh hf31 hm22.lt
    refine XL_q rfl (qt_assign rfl) rfl rfl ?_
    refine WL_nil_seq ?_
    refine WP_seq ?_
    refine WP_still ?_
    refine XL_q rfl (qt_move rfl) rfl rfl ?_
    refine XL_q rfl (qt_move rfl) rfl rfl ?_
    obtain ⟨x38, hx39, h⟩ := bind_some h
    obtain ⟨F40, hr41, hs42⟩ := Own.rep hm29
    refine QL_call rfl rfl c19 (fun w' hb => w_impl_MenuValid w' p0 v26 x24 F40 (hr41.below hb) x38 hx39) (by rfl) ?_
    refine XL_q rfl (qt_assign rfl) rfl rfl ?_
    refine QL_nil fun a ha w43 hb44 => ?_
    have hm45 := hm33.below hb44
    have hm46 := hm29.below hb44
    have hB47 := bl_trans hB35 hb44
    refine nrm_seq (WP.app ?_ ha)
    refine WP_seq ?_
    refine WP_seq ?_
    refine WP_region ?_
    refine XL_q rfl (qt_move rfl) rfl rfl ?_
    refine XL_q rfl (qt_move rfl) rfl rfl ?_
    refine XL_q rfl (qt_bneq u4 rfl rfl) rfl rfl ?_
    refine WL_nil_seq ?_
    refine WP_cond rfl (fun hc48 => ?_) (fun hc48 => ?_)
    · have h := if_t hc48 h
      refine WP_seq ?_
      refine WP_region ?_
      refine XL_q rfl (qt_assign rfl) rfl rfl ?_
      refine WL_nil_seq ?_
      refine WP_ret fun a ha => ?_
      exact ret_seq (ret1 rfl ha rfl ⟨congrArg (fun z => Ending.returned (.bool z)) (Option.some.inj h), hB47⟩)
    · have h := if_f hc48 h
      refine WP_skip_seq ?_
      refine WP_seq ?_
      refine WP_seq ?_
      refine WP_region ?_
      refine XL_q rfl (qt_move rfl) rfl rfl ?_
      refine XL_q rfl (qt_move rfl) rfl rfl ?_
      obtain ⟨x49, hx50, h⟩ := bind_some h
      refine WL_call rfl rfl c18 (w_laws_toIntS w43 vp1 p1 Fp1 hm45 x49 hx50) (by rfl) ?_
      rintro _ w52 ⟨v51, F53, rfl, hm54, hf56, hb55⟩; refine ⟨_, rfl, ?_⟩
      have hl57 := lo_fresh hB47 hf56
      have hm58 := hm45.below hb55
      have hm59 := hm46.below hb55
      have hB60 := bl_trans hB47 hb55
      have hd61 : Dj F53 Fp1 := dj_fresh hf56 hm45.lt
      have hd62 : Dj F53 F28 := dj_fresh hf56 hm46.lt
      obtain ⟨x63, hx64, h⟩ := bind_some h
      obtain ⟨F65, hr66, hs67⟩ := Own.rep hm59
      obtain ⟨F68, hr69, hs70⟩ := Own.rep hm54
      refine WL_call rfl rfl c20 (w_laws_eqIntS w52 v26 x24 F65 hr66 v51 x49 F68 hr69 x63 hx64) (by rfl) ?_
      rintro _ w71 ⟨rfl, hb72⟩; refine ⟨_, rfl, ?_⟩
      have hm73 := hm58.below hb72
      have hm74 := hm59.below hb72
      have hm75 := hm54.below hb72
      have hB76 := bl_trans hB60 hb72
      refine XL_q rfl (qt_not rfl) rfl rfl ?_
      refine WL_nil_seq ?_
      refine WP_cond rfl (fun hc77 => ?_) (fun hc77 => ?_)
      · have h := if_t hc77 h
        refine WP_seq ?_
        refine WP_region ?_
        refine XL_q rfl (qt_assign rfl) rfl rfl ?_
        refine WL_nil_seq ?_
        refine WP_ret fun a ha => ?_
        exact ret_seq (ret1 rfl ha rfl ⟨congrArg (fun z => Ending.returned (.bool z)) (Option.some.inj h), hB76⟩)
      · have h := if_f hc77 h
        refine WP_skip_seq ?_
        refine WP_seq ?_
        refine WP_region ?_
        refine XL_q rfl (qt_assign rfl) rfl rfl ?_
        refine WL_nil_seq ?_
        refine WP_ret fun a ha => ?_
        exact ret1 rfl ha rfl ⟨congrArg (fun z => Ending.returned (.bool z)) (Option.some.inj h), hB76⟩
theorem w_spec_l6Count (w : World) (p0 : Int) (r : Int) (h : spec_l6CountS p0 = some r) : Calls Try.prog 52 #[.int .i64 p0] w fun e w' => e = .returned (.int .i64 r) ∧ Below w.heap.size w w' := by
  refine calls_enter (args := [.int .i64 p0]) (n := 13) Try.func52 rfl rfl rfl ?_
  unfold spec_l6CountS at h
  refine WP_seq ?_
  refine WP_region ?_
  refine XL_q rfl (qt_assign rfl) rfl rfl ?_
  refine WL_nil_seq ?_
  refine WP_seq ?_
  refine WP_region ?_
  refine XL_q rfl (qt_assign rfl) rfl rfl ?_
  refine WL_nil_seq ?_
  refine WP_seq ?_
  refine WP_block ?_
  obtain ⟨o3, ho4, h⟩ := bind_some h
  refine fun a5 ha6 => wp_loop_fix (I := fun s a w2 => match s with | (s1, s2) => (Fr a 13 [(0, .int .i64 s1), (3, .int .i64 s2)] ∧ Below w.heap.size w w2)) (O := fun o e a w2 => match o with | q3 => e = .exit 0 ∧ (Fr a 13 [(3, .int .i64 q3)] ∧ Below w.heap.size w w2)) ho4 ?_ ?_ ?_
  · exact ⟨ha6.sub ⟨rfl, rfl, trivial⟩, (Below.refl _ _)⟩
  · clear ha6
    intro s o9 a w7 hs8 hI10
    obtain ⟨s1, s2⟩ := s
    obtain ⟨ha, hB11⟩ := hI10
    refine WP.app ?_ ha
    clear ha
    refine WP_seq ?_
    refine WP_seq ?_
    refine WP_region ?_
    refine XL_q rfl (qt_move rfl) rfl rfl ?_
    refine XL_q rfl (qt_gtr rfl rfl) rfl rfl ?_
    refine WL_nil_seq ?_
    refine WP_cond rfl (fun hc12 => ?_) (fun hc12 => ?_)
    · have hs8 := if_t hc12 hs8
      refine WP_skip_seq ?_
      refine WP_block ?_
      refine WP_seq ?_
      refine WP_region ?_
      refine XL_q rfl (qt_move rfl) rfl rfl ?_
      refine XL_q rfl (qt_move rfl) rfl rfl ?_
      refine XL_q rfl (qt_rem rfl rfl (by decide)) rfl rfl ?_
      refine XL_q rfl (qt_add rfl rfl) rfl rfl ?_
      refine XL_q rfl (qt_assign rfl) rfl rfl ?_
      refine WL_nil_seq ?_
      refine WP_region ?_
      refine XL_q rfl (qt_move rfl) rfl rfl ?_
      refine XL_q rfl (qt_quo rfl rfl (by decide)) rfl rfl ?_
      refine XL_q rfl (qt_assign rfl) rfl rfl ?_
      refine WL_nil fun a ha => ?_
      obtain rfl := Option.some.inj hs8
      exact nrm_block (⟨rfl, ⟨ha.sub ⟨rfl, rfl, trivial⟩, hB11⟩⟩)
    · have hs8 := if_f hc12 hs8
      refine WP_exit fun a ha => ?_
      obtain rfl := Option.some.inj hs8
      exact exit_seq (⟨exit_ne, rfl, ⟨ha.sub ⟨rfl, trivial⟩, hB11⟩⟩)
  · intro e a5 w13 hO14
    obtain ⟨p15, rfl⟩ : ∃ z, z = o3 := ⟨o3, rfl⟩
    obtain ⟨rfl, hO16⟩ := hO14
    obtain ⟨ha, hB17⟩ := hO16
    refine exit_block_eq (nrm_seq (WP.app ?_ ha))
    refine WP_seq ?_
    refine WP_region ?_
    refine XL_q rfl (qt_move rfl) rfl rfl ?_
    refine XL_q rfl (qt_assign rfl) rfl rfl ?_
    refine WL_nil_seq ?_
    refine WP_ret fun a ha => ?_
    exact ret1 rfl ha rfl ⟨congrArg (fun z => Ending.returned (.int .i64 z)) (Option.some.inj h), hB17⟩
theorem w_spec_DishesMany (w : World) (p0 : Int) (r : Int) (h : spec_DishesManyS p0 = some r) : Calls Try.prog 21 #[.int .i64 p0] w fun e w' => e = .returned (.int .i64 r) ∧ Below w.heap.size w w' := by
  refine calls_enter (args := [.int .i64 p0]) (n := 7) Try.func21 rfl rfl rfl ?_
  unfold spec_DishesManyS at h
  refine WP_seq ?_
  refine WP_region ?_
  refine XL_q rfl (qt_assign rfl) rfl rfl ?_
  refine WL_nil_seq ?_
  refine WP_seq ?_
  refine WP_seq ?_
  refine WP_region ?_
  refine XL_q rfl (qt_move rfl) rfl rfl ?_
  refine XL_q rfl (qt_lss rfl rfl) rfl rfl ?_
  refine WL_nil_seq ?_
  refine WP_cond rfl (fun hc1 => ?_) (fun hc1 => ?_)
  · have h := if_t hc1 h
    refine WP_seq ?_
    refine WP_region ?_
    refine XL_q rfl (qt_assign rfl) rfl rfl ?_
    refine WL_nil_seq ?_
    refine WP_ret fun a ha => ?_
    exact ret_seq (ret1 rfl ha rfl ⟨congrArg (fun z => Ending.returned (.int .i64 z)) (Option.some.inj h), (Below.refl _ _)⟩)
  · have h := if_f hc1 h
    refine WP_skip_seq ?_
    refine WP_seq ?_
    refine WP_still ?_
    refine XL_q rfl (qt_move rfl) rfl rfl ?_
    obtain ⟨x2, hx3, h⟩ := bind_some h
    refine QL_call rfl rfl c52 (fun w' hb => w_spec_l6Count w' p0 x2 hx3) (by rfl) ?_
    refine XL_q rfl (qt_assign rfl) rfl rfl ?_
    refine QL_nil fun a ha w4 hb5 => ?_
    have hB6 := bl_trans (Below.refl _ _) hb5
    refine nrm_seq (WP.app ?_ ha)
    refine WP_ret fun a ha => ?_
    exact ret1 rfl ha rfl ⟨congrArg (fun z => Ending.returned (.int .i64 z)) (Option.some.inj h), hB6⟩
theorem w_bits_OnesCount64 (w : World) (p0 : Int) (r : Int) (h : bits_OnesCount64S p0 = some r) : Calls Try.prog 65 #[.int .u64 p0] w fun e w' => e = .returned (.int .i64 r) ∧ Below w.heap.size w w' := by
  refine calls_enter (args := [.int .u64 p0]) (n := 35) Try.func65 rfl rfl rfl ?_
  unfold bits_OnesCount64S at h
  refine WP_seq ?_
  refine WP_region ?_
  refine XL_q rfl (qt_assign rfl) rfl rfl ?_
  refine WL_nil_seq ?_
  refine WP_seq ?_
  refine WP_region ?_
  refine XL_q rfl (qt_move rfl) rfl rfl ?_
  refine XL_q rfl (qt_shr rfl rfl (by decide)) rfl rfl ?_
  refine XL_q rfl (qt_and rfl rfl) rfl rfl ?_
  refine XL_q rfl (qt_move rfl) rfl rfl ?_
  refine XL_q rfl (qt_and rfl rfl) rfl rfl ?_
  refine XL_q rfl (qt_add rfl rfl) rfl rfl ?_
  refine XL_q rfl (qt_assign rfl) rfl rfl ?_
  refine WL_nil_seq ?_
  refine WP_seq ?_
  refine WP_region ?_
  refine XL_q rfl (qt_move rfl) rfl rfl ?_
  refine XL_q rfl (qt_shr rfl rfl (by decide)) rfl rfl ?_
  refine XL_q rfl (qt_and rfl rfl) rfl rfl ?_
  refine XL_q rfl (qt_move rfl) rfl rfl ?_
  refine XL_q rfl (qt_and rfl rfl) rfl rfl ?_
  obtain ⟨x1, hx2, h⟩ := bind_some h
  refine XL_qe rfl (qt_add rfl rfl) (vi hx2) rfl rfl ?_
  refine XL_q rfl (qt_assign rfl) rfl rfl ?_
  refine WL_nil_seq ?_
  refine WP_seq ?_
  refine WP_region ?_
  refine XL_q rfl (qt_move rfl) rfl rfl ?_
  refine XL_q rfl (qt_shr rfl rfl (by decide)) rfl rfl ?_
  refine XL_q rfl (qt_move rfl) rfl rfl ?_
  refine XL_q rfl (qt_add rfl rfl) rfl rfl ?_
  refine XL_q rfl (qt_and rfl rfl) rfl rfl ?_
  refine XL_q rfl (qt_assign rfl) rfl rfl ?_
  refine WL_nil_seq ?_
  refine WP_seq ?_
  refine WP_region ?_
  refine XL_q rfl (qt_move rfl) rfl rfl ?_
  refine XL_q rfl (qt_move rfl) rfl rfl ?_
  refine XL_q rfl (qt_shr rfl rfl (by decide)) rfl rfl ?_
  obtain ⟨x3, hx4, h⟩ := bind_some h
  refine XL_qe rfl (qt_add rfl rfl) (vi hx4) rfl rfl ?_
  refine XL_q rfl (qt_assign rfl) rfl rfl ?_
  refine WL_nil_seq ?_
  refine WP_seq ?_
  refine WP_region ?_
  refine XL_q rfl (qt_move rfl) rfl rfl ?_
  refine XL_q rfl (qt_move rfl) rfl rfl ?_
  refine XL_q rfl (qt_shr rfl rfl (by decide)) rfl rfl ?_
  refine XL_q rfl (qt_add rfl rfl) rfl rfl ?_
  refine XL_q rfl (qt_assign rfl) rfl rfl ?_
  refine WL_nil_seq ?_
  refine WP_seq ?_
  refine WP_region ?_
  refine XL_q rfl (qt_move rfl) rfl rfl ?_
  refine XL_q rfl (qt_move rfl) rfl rfl ?_
  refine XL_q rfl (qt_shr rfl rfl (by decide)) rfl rfl ?_
  refine XL_q rfl (qt_add rfl rfl) rfl rfl ?_
  refine XL_q rfl (qt_assign rfl) rfl rfl ?_
  refine WL_nil_seq ?_
  refine WP_seq ?_
  refine WP_region ?_
  refine XL_q rfl (qt_move rfl) rfl rfl ?_
  refine XL_q rfl (qt_int u3 rfl u47) rfl rfl ?_
  obtain ⟨x5, hx6, h⟩ := bind_some h
  refine XL_qe rfl (qt_and rfl rfl) (vi hx6) rfl rfl ?_
  refine XL_q rfl (qt_assign rfl) rfl rfl ?_
  refine WL_nil_seq ?_
  refine WP_ret fun a ha => ?_
  exact ret1 rfl ha rfl ⟨congrArg (fun z => Ending.returned (.int .i64 z)) (Option.some.inj h), (Below.refl _ _)⟩
theorem w_bits_OnesCount (w : World) (p0 : Int) (r : Int) (h : bits_OnesCountS p0 = some r) : Calls Try.prog 53 #[.int .u64 p0] w fun e w' => e = .returned (.int .i64 r) ∧ Below w.heap.size w w' := by
  refine calls_enter (args := [.int .u64 p0]) (n := 8) Try.func53 rfl rfl rfl ?_
  unfold bits_OnesCountS at h
  refine WP_seq ?_
  refine WP_region ?_
  refine XL_q rfl (qt_assign rfl) rfl rfl ?_
  refine WL_nil_seq ?_
  refine WP_seq ?_
  refine WP_cond_false rfl ?_
  refine WP_skip_seq ?_
  refine WP_seq ?_
  refine WP_still ?_
  refine XL_q rfl (qt_move rfl) rfl rfl ?_
  obtain ⟨x1, hx2, h⟩ := bind_some h
  refine QL_call rfl rfl c65 (fun w' hb => w_bits_OnesCount64 w' p0 x1 hx2) (by rfl) ?_
  refine XL_q rfl (qt_assign rfl) rfl rfl ?_
  refine QL_nil fun a ha w3 hb4 => ?_
  have hB5 := bl_trans (Below.refl _ _) hb4
  refine nrm_seq (WP.app ?_ ha)
  refine WP_ret fun a ha => ?_
  exact ret1 rfl ha rfl ⟨congrArg (fun z => Ending.returned (.int .i64 z)) (Option.some.inj h), hB5⟩
theorem w_impl_DishesMany (w : World) (p0 : Int) (r : Int) (h : impl_DishesManyS p0 = some r) : Calls Try.prog 22 #[.int .i64 p0] w fun e w' => e = .returned (.int .i64 r) ∧ Below w.heap.size w w' := by
  refine calls_enter (args := [.int .i64 p0]) (n := 8) Try.func22 rfl rfl rfl ?_
  unfold impl_DishesManyS at h
  refine WP_seq ?_
  refine WP_region ?_
  refine XL_q rfl (qt_assign rfl) rfl rfl ?_
  refine WL_nil_seq ?_
  refine WP_seq ?_
  refine WP_seq ?_
  refine WP_region ?_
  refine XL_q rfl (qt_move rfl) rfl rfl ?_
  refine XL_q rfl (qt_lss rfl rfl) rfl rfl ?_
  refine WL_nil_seq ?_
  refine WP_cond rfl (fun hc1 => ?_) (fun hc1 => ?_)
  · have h := if_t hc1 h
    refine WP_seq ?_
    refine WP_region ?_
    refine XL_q rfl (qt_assign rfl) rfl rfl ?_
    refine WL_nil_seq ?_
    refine WP_ret fun a ha => ?_
    exact ret_seq (ret1 rfl ha rfl ⟨congrArg (fun z => Ending.returned (.int .i64 z)) (Option.some.inj h), (Below.refl _ _)⟩)
  · have h := if_f hc1 h
    refine WP_skip_seq ?_
    refine WP_seq ?_
    refine WP_still ?_
    refine XL_q rfl (qt_move rfl) rfl rfl ?_
    refine XL_q rfl (qt_int u39 rfl u3) rfl rfl ?_
    obtain ⟨x2, hx3, h⟩ := bind_some h
    refine QL_call rfl rfl c53 (fun w' hb => w_bits_OnesCount w' (IntKind.wrap .u64 p0) x2 hx3) (by rfl) ?_
    refine XL_q rfl (qt_assign rfl) rfl rfl ?_
    refine QL_nil fun a ha w4 hb5 => ?_
    have hB6 := bl_trans (Below.refl _ _) hb5
    refine nrm_seq (WP.app ?_ ha)
    refine WP_ret fun a ha => ?_
    exact ret1 rfl ha rfl ⟨congrArg (fun z => Ending.returned (.int .i64 z)) (Option.some.inj h), hB6⟩
theorem w_laws_FnExactDishesMany (w : World) (p0 : Int) (r : Bool) (h : laws_FnExactDishesManyS p0 = some r) : Calls Try.prog 4 #[.int .i64 p0] w fun e w' => e = .returned (.bool r) ∧ Below w.heap.size w w' := by
  refine calls_enter (args := [.int .i64 p0]) (n := 12) Try.func4 rfl rfl rfl ?_
  unfold laws_FnExactDishesManyS at h
  refine WP_seq ?_
  refine WP_region ?_
  refine XL_q rfl (qt_assign rfl) rfl rfl ?_
  refine WL_nil_seq ?_
  refine WP_seq ?_
  refine WP_still ?_
  refine XL_q rfl (qt_move rfl) rfl rfl ?_
  obtain ⟨x1, hx2, h⟩ := bind_some h
  refine QL_call rfl rfl c21 (fun w' hb => w_spec_DishesMany w' p0 x1 hx2) (by rfl) ?_
  refine XL_q rfl (qt_assign rfl) rfl rfl ?_
  refine QL_nil fun a ha w3 hb4 => ?_
  have hB5 := bl_trans (Below.refl _ _) hb4
  refine nrm_seq (WP.app ?_ ha)
  refine WP_seq ?_
  refine WP_still ?_
  refine XL_q rfl (qt_move rfl) rfl rfl ?_
  obtain ⟨x6, hx7, h⟩ := bind_some h
  refine QL_call rfl rfl c22 (fun w' hb => w_impl_DishesMany w' p0 x6 hx7) (by rfl) ?_
  refine XL_q rfl (qt_assign rfl) rfl rfl ?_
  refine QL_nil fun a ha w8 hb9 => ?_
  have hB10 := bl_trans hB5 hb9
  refine nrm_seq (WP.app ?_ ha)
  refine WP_seq ?_
  refine WP_seq ?_
  refine WP_region ?_
  refine XL_q rfl (qt_move rfl) rfl rfl ?_
  refine XL_q rfl (qt_move rfl) rfl rfl ?_
  refine XL_q rfl (qt_neq rfl rfl) rfl rfl ?_
  refine WL_nil_seq ?_
  refine WP_cond rfl (fun hc11 => ?_) (fun hc11 => ?_)
  · have h := if_t hc11 h
    refine WP_seq ?_
    refine WP_region ?_
    refine XL_q rfl (qt_assign rfl) rfl rfl ?_
    refine WL_nil_seq ?_
    refine WP_ret fun a ha => ?_
    exact ret_seq (ret1 rfl ha rfl ⟨congrArg (fun z => Ending.returned (.bool z)) (Option.some.inj h), hB10⟩)
  · have h := if_f hc11 h
    refine WP_skip_seq ?_
    refine WP_seq ?_
    refine WP_region ?_
    refine XL_q rfl (qt_assign rfl) rfl rfl ?_
    refine WL_nil_seq ?_
    refine WP_ret fun a ha => ?_
    exact ret1 rfl ha rfl ⟨congrArg (fun z => Ending.returned (.bool z)) (Option.some.inj h), hB10⟩
theorem w_spec_QuarrelsValid (w : World) (p0 : Int) (vp1 : Value) (p1 : List Int) (Fp1 : List Nat) (hmp1 : Rep w (.slice (.int .i64)) [vp1] p1 Fp1) (r : Bool) (h : spec_QuarrelsValidS p0 p1 = some r) : Calls Try.prog 23 #[.int .i64 p0, vp1] w fun e w' => e = .returned (.bool r) ∧ Below w.heap.size w w' := by
  refine calls_enter (args := [.int .i64 p0, vp1]) (n := 71) Try.func23 rfl rfl rfl ?_
  unfold spec_QuarrelsValidS at h
  refine WP_seq ?_
  refine WP_region ?_
  refine XL_q rfl (qt_assign rfl) rfl rfl ?_
  refine WL_nil_seq ?_
  refine WP_seq ?_
  refine WP_seq ?_
  refine WP_still ?_
  refine XL_q rfl (qt_move rfl) rfl rfl ?_
  obtain ⟨x1, hx2, h⟩ := bind_some h
  refine QL_call rfl rfl c49 (fun w' hb => w_spec_l1In w' p0 0 6 x1 hx2) (by rfl) ?_
  refine XL_q rfl (qt_not rfl) rfl rfl ?_
  refine XL_q rfl (qt_move rfl) rfl rfl ?_
  refine XL_join 5 15 (.bool ((!x1) || ((List.length p1 : Int) != p0))) ?_ (fun md hmd hk => ?_)
  rotate_left
  · obtain ⟨K, rfl⟩ := Md.quiet_of hmd
    rcases btf (!x1) with hc3 | hc3
    · skip
      refine XL_skip (w_skip rfl hc3) rfl rfl ?_
      refine XL_skip (w_skip rfl hc3) rfl rfl ?_
      refine XL_skip (w_skip rfl hc3) rfl rfl ?_
      refine XL_skip (w_skip rfl hc3) rfl rfl ?_
      refine XL_q rfl (qt_pickT rfl hc3 rfl) rfl rfl ?_
      exact hk _ (Cov.same (by rw [hc3]; rfl) (Cov.fresh rfl (Cov.fresh rfl (Cov.fresh rfl (Cov.fresh rfl (Cov.refl))))))
    · skip
      refine XL_q (w_take rfl hc3) (qt_move rfl) rfl rfl ?_
      refine XL_len u22 hmp1 (w_take rfl hc3) rfl rfl ?_
      refine XL_q (w_take rfl hc3) (qt_move rfl) rfl rfl ?_
      refine XL_q (w_take rfl hc3) (qt_neq rfl rfl) rfl rfl ?_
      refine XL_q rfl (qt_pickF rfl hc3 rfl) rfl rfl ?_
      exact hk _ (Cov.same (by rw [hc3]; rfl) (Cov.fresh rfl (Cov.fresh rfl (Cov.fresh rfl (Cov.fresh rfl (Cov.refl))))))
  refine QL_nil fun a ha w4 hb5 => ?_
  have hm6 := hmp1.below hb5
  have hB7 := bl_trans (Below.refl _ _) hb5
  refine nrm_seq (WP.app ?_ ha)
  refine WP_cond rfl (fun hc8 => ?_) (fun hc8 => ?_)
  · have h := if_t hc8 h
    refine WP_seq ?_
    refine WP_region ?_
    refine XL_q rfl (qt_assign rfl) rfl rfl ?_
    refine WL_nil_seq ?_
    refine WP_ret fun a ha => ?_
    exact ret_seq (ret1 rfl ha rfl ⟨congrArg (fun z => Ending.returned (.bool z)) (Option.some.inj h), hB7⟩)
  · have h := if_f hc8 h
    refine WP_skip_seq ?_
    refine WP_seq ?_
    refine WP_seq ?_
    refine WP_region ?_
    refine XL_q rfl (qt_assign rfl) rfl rfl ?_
    refine WL_nil_seq ?_
    refine WP_block ?_
    obtain ⟨o10, ho11, h⟩ := bind_some h
    refine fun a12 ha13 => wp_loop_fix (I := fun s a w2 => match s with | s9 => (Fr a 71 [(0, .int .i64 p0), (1, vp1), (5, .int .i64 s9)] ∧ Below w.heap.size w w2 ∧ Rep w2 (.slice (.int .i64)) [vp1] p1 Fp1)) (O := fun o e a w2 => match o with | .inl _ => e = .exit 0 ∧ (Fr a 71 [] ∧ Below w.heap.size w w2) | .inr q4 => e = .ret ∧ (Fr a 71 [(4, .bool q4)] ∧ Below w.heap.size w w2)) ho11 ?_ ?_ ?_
    · exact ⟨ha13.sub ⟨rfl, rfl, rfl, trivial⟩, hB7, hm6⟩
    · clear ha13
      intro s o16 a w14 hs15 hI17
      obtain ⟨s9, rfl⟩ : ∃ z, z = s := ⟨s, rfl⟩
      obtain ⟨ha, hB18, hm19⟩ := hI17
      refine WP.app ?_ ha
      clear ha
      refine WP_seq ?_
      refine WP_seq ?_
      refine WP_region ?_
      refine XL_q rfl (qt_move rfl) rfl rfl ?_
      refine XL_q rfl (qt_move rfl) rfl rfl ?_
      refine XL_q rfl (qt_lss rfl rfl) rfl rfl ?_
      refine WL_nil_seq ?_
      refine WP_cond rfl (fun hc20 => ?_) (fun hc20 => ?_)
      · have hs15 := if_t hc20 hs15
        refine WP_skip_seq ?_
        refine WP_seq ?_
        refine WP_block ?_
        refine WP_seq ?_
        refine WP_seq ?_
        refine WP_quiet (by kernel_rfl) (by kernel_rfl) ?_
        refine XL_q rfl (qt_move rfl) rfl rfl ?_
        refine XL_q rfl (qt_move rfl) rfl rfl ?_
        obtain ⟨x21, hx22, hs15⟩ := bind_some hs15
        refine XL_index u22 i3 hm19 hx22 rfl rfl rfl rfl (fun b23 o24 F25 hat26 hsub27 hbm28 => ?_)
        refine XL_load_int u3 rfl hat26 rfl rfl rfl ?_
        refine XL_q rfl (qt_move rfl) rfl rfl ?_
        obtain ⟨x29, hx30, hs15⟩ := bind_some hs15
        refine XL_q rfl (qt_shlO rfl rfl hx30) rfl rfl ?_
        refine XL_q rfl (qt_sub rfl rfl) rfl rfl ?_
        obtain ⟨x31, hx32, hs15⟩ := bind_some hs15
        refine QL_call rfl rfl c49 (fun w' hb => w_spec_l1In w' x21 0 (IntKind.wrap .i64 (x29 - 1)) x31 hx32) (by rfl) ?_
        refine XL_q rfl (qt_not rfl) rfl rfl ?_
        refine XL_q rfl (qt_move rfl) rfl rfl ?_
        obtain ⟨b33, hg34, hs15⟩ := bind_some hs15
        refine XL_join 9 39 (.bool b33) ?_ (fun md hmd hk => ?_)
        rotate_left
        · obtain ⟨K, rfl⟩ := Md.quiet_of hmd
          rcases btf (!x31) with hc35 | hc35
          · skip
            refine XL_skip (w_skip rfl hc35) rfl rfl ?_
            refine XL_skip (w_skip rfl hc35) rfl rfl ?_
            refine XL_skip (w_skip rfl hc35) rfl rfl ?_
            refine XL_skip (w_skip rfl hc35) rfl rfl ?_
            refine XL_skip (w_skip rfl hc35) rfl rfl ?_
            refine XL_skip (w_skip rfl hc35) rfl rfl ?_
            refine XL_skip (w_skip rfl hc35) rfl rfl ?_
            refine XL_skip (w_skip rfl hc35) rfl rfl ?_
            refine XL_q rfl (qt_pickT rfl hc35 rfl) rfl rfl ?_
            exact hk _ (Cov.same (vb (if_t hc35 hg34)) (Cov.fresh rfl (Cov.fresh rfl (Cov.fresh rfl (Cov.fresh rfl (Cov.fresh rfl (Cov.fresh rfl (Cov.fresh rfl (Cov.fresh rfl (Cov.refl))))))))))
          · skip
            have hg34 := if_f hc35 hg34
            refine XL_q (w_take rfl hc35) (qt_move rfl) rfl rfl ?_
            refine XL_q (w_take rfl hc35) (qt_move rfl) rfl rfl ?_
            obtain ⟨x36, hx37, hg34⟩ := bind_some hg34
            refine XL_index u22 i3 hm19 hx37 (w_take rfl hc35) rfl rfl rfl (fun b38 o39 F40 hat41 hsub42 hbm43 => ?_)
            refine XL_load_int u3 rfl hat41 (w_take rfl hc35) rfl rfl ?_
            refine XL_q (w_take rfl hc35) (qt_move rfl) rfl rfl ?_
            obtain ⟨x44, hx45, hg34⟩ := bind_some hg34
            refine XL_q (w_take rfl hc35) (qt_shrO rfl rfl hx45) rfl rfl ?_
            refine XL_q (w_take rfl hc35) (qt_rem rfl rfl (by decide)) rfl rfl ?_
            refine XL_q (w_take rfl hc35) (qt_eql rfl rfl) rfl rfl ?_
            refine XL_q rfl (qt_pickF rfl hc35 rfl) rfl rfl ?_
            exact hk _ (Cov.same (vb hg34) (Cov.fresh rfl (Cov.fresh rfl (Cov.fresh rfl (Cov.fresh rfl (Cov.fresh rfl (Cov.fresh rfl (Cov.fresh rfl (Cov.fresh rfl (Cov.refl))))))))))
        refine QL_nil fun a ha w46 hb47 => ?_
        have hm48 := hm19.below hb47
        have hB49 := bl_trans hB18 hb47
        refine nrm_seq (WP.app ?_ ha)
        refine WP_cond rfl (fun hc50 => ?_) (fun hc50 => ?_)
        · have hs15 := if_t hc50 hs15
          refine WP_seq ?_
          refine WP_region ?_
          refine XL_q rfl (qt_assign rfl) rfl rfl ?_
          refine WL_nil_seq ?_
          refine WP_ret fun a ha => ?_
          obtain rfl := Option.some.inj hs15
          exact ret_seq (ret_block (ret_seq (⟨ret_ne, rfl, ⟨ha.sub ⟨rfl, trivial⟩, hB49⟩⟩)))
        · have hs15 := if_f hc50 hs15
          refine WP_skip_seq ?_
          refine WP_seq ?_
          refine WP_region ?_
          refine XL_q rfl (qt_assign rfl) rfl rfl ?_
          refine WL_nil_seq ?_
          refine WP_block ?_
          obtain ⟨o52, ho53, hs15⟩ := bind_some hs15
          refine fun a54 ha55 => wp_loop_fix (I := fun s a w2 => match s with | s51 => (Fr a 71 [(0, .int .i64 p0), (1, vp1), (5, .int .i64 s9), (6, .int .i64 s51)] ∧ Below w.heap.size w w2 ∧ Rep w2 (.slice (.int .i64)) [vp1] p1 Fp1)) (O := fun o e a w2 => match o with | .inl _ => e = .exit 2 ∧ (Fr a 71 [(0, .int .i64 p0), (1, vp1), (5, .int .i64 s9)] ∧ Below w.heap.size w w2 ∧ Rep w2 (.slice (.int .i64)) [vp1] p1 Fp1) | .inr q4 => e = .ret ∧ (Fr a 71 [(4, .bool q4)] ∧ Below w.heap.size w w2)) ho53 ?_ ?_ ?_
          · exact ⟨ha55.sub ⟨rfl, rfl, rfl, rfl, trivial⟩, hB49, hm48⟩
          · clear ha55
            intro s o58 a w56 hs57 hI59
            obtain ⟨s51, rfl⟩ : ∃ z, z = s := ⟨s, rfl⟩
            obtain ⟨ha, hB60, hm61⟩ := hI59
            refine WP.app ?_ ha
            clear ha
            refine WP_seq ?_
            refine WP_seq ?_
            refine WP_region ?_
            refine XL_q rfl (qt_move rfl) rfl rfl ?_
            refine XL_q rfl (qt_move rfl) rfl rfl ?_
            refine XL_q rfl (qt_lss rfl rfl) rfl rfl ?_
            refine WL_nil_seq ?_
            refine WP_cond rfl (fun hc62 => ?_) (fun hc62 => ?_)
            · have hs57 := if_t hc62 hs57
              refine WP_skip_seq ?_
              refine WP_seq ?_
              refine WP_block ?_
              refine WP_seq ?_
              refine WP_quiet (by kernel_rfl) (by kernel_rfl) ?_
              refine XL_q rfl (qt_move rfl) rfl rfl ?_
              refine XL_q rfl (qt_move rfl) rfl rfl ?_
              obtain ⟨x63, hx64, hs57⟩ := bind_some hs57
              refine XL_index u22 i3 hm61 hx64 rfl rfl rfl rfl (fun b65 o66 F67 hat68 hsub69 hbm70 => ?_)
              refine XL_load_int u3 rfl hat68 rfl rfl rfl ?_
              refine XL_q rfl (qt_move rfl) rfl rfl ?_
              obtain ⟨x71, hx72, hs57⟩ := bind_some hs57
              refine XL_q rfl (qt_shlO rfl rfl hx72) rfl rfl ?_
              refine XL_q rfl (qt_sub rfl rfl) rfl rfl ?_
              obtain ⟨x73, hx74, hs57⟩ := bind_some hs57
              refine QL_call rfl rfl c49 (fun w' hb => w_spec_l1In w' x63 0 (IntKind.wrap .i64 (x71 - 1)) x73 hx74) (by rfl) ?_
              refine XL_q rfl (qt_not rfl) rfl rfl ?_
              refine XL_q rfl (qt_move rfl) rfl rfl ?_
              obtain ⟨b75, hg76, hs57⟩ := bind_some hs57
              refine XL_join 16 70 (.bool b75) ?_ (fun md hmd hk => ?_)
              rotate_left
              · obtain ⟨K, rfl⟩ := Md.quiet_of hmd
                rcases btf (!x73) with hc77 | hc77
                · skip
                  refine XL_skip (w_skip rfl hc77) rfl rfl ?_
                  refine XL_skip (w_skip rfl hc77) rfl rfl ?_
                  refine XL_skip (w_skip rfl hc77) rfl rfl ?_
                  refine XL_skip (w_skip rfl hc77) rfl rfl ?_
                  refine XL_skip (w_skip rfl hc77) rfl rfl ?_
                  refine XL_skip (w_skip rfl hc77) rfl rfl ?_
                  refine XL_skip (w_skip rfl hc77) rfl rfl ?_
                  refine XL_skip (w_skip rfl hc77) rfl rfl ?_
                  refine XL_skip (w_skip rfl hc77) rfl rfl ?_
                  refine XL_skip (w_skip rfl hc77) rfl rfl ?_
                  refine XL_skip (w_skip rfl hc77) rfl rfl ?_
                  refine XL_skip (w_skip rfl hc77) rfl rfl ?_
                  refine XL_skip (w_skip rfl hc77) rfl rfl ?_
                  refine XL_skip (w_skip rfl hc77) rfl rfl ?_
                  refine XL_skip (w_skip rfl hc77) rfl rfl ?_
                  refine XL_q rfl (qt_pickT rfl hc77 rfl) rfl rfl ?_
                  exact hk _ (Cov.same (vb (if_t hc77 hg76)) (Cov.fresh rfl (Cov.fresh rfl (Cov.fresh rfl (Cov.fresh rfl (Cov.fresh rfl (Cov.fresh rfl (Cov.fresh rfl (Cov.fresh rfl (Cov.fresh rfl (Cov.fresh rfl (Cov.fresh rfl (Cov.fresh rfl (Cov.fresh rfl (Cov.fresh rfl (Cov.fresh rfl (Cov.refl)))))))))))))))))
                · skip
                  have hg76 := if_f hc77 hg76
                  refine XL_q (w_take rfl hc77) (qt_move rfl) rfl rfl ?_
                  refine XL_q (w_take rfl hc77) (qt_move rfl) rfl rfl ?_
                  obtain ⟨x78, hx79, hg76⟩ := bind_some hg76
                  refine XL_index u22 i3 hm61 hx79 (w_take rfl hc77) rfl rfl rfl (fun b80 o81 F82 hat83 hsub84 hbm85 => ?_)
                  refine XL_load_int u3 rfl hat83 (w_take rfl hc77) rfl rfl ?_
                  refine XL_q (w_take rfl hc77) (qt_move rfl) rfl rfl ?_
                  obtain ⟨x86, hx87, hg76⟩ := bind_some hg76
                  refine XL_q (w_take rfl hc77) (qt_shrO rfl rfl hx87) rfl rfl ?_
                  refine XL_q (w_take rfl hc77) (qt_rem rfl rfl (by decide)) rfl rfl ?_
                  refine XL_q (w_take rfl hc77) (qt_move rfl) rfl rfl ?_
                  refine XL_q (w_take rfl hc77) (qt_move rfl) rfl rfl ?_
                  obtain ⟨x88, hx89, hg76⟩ := bind_some hg76
                  refine XL_index u22 i3 hm61 hx89 (w_take rfl hc77) rfl rfl rfl (fun b90 o91 F92 hat93 hsub94 hbm95 => ?_)
                  refine XL_load_int u3 rfl hat93 (w_take rfl hc77) rfl rfl ?_
                  refine XL_q (w_take rfl hc77) (qt_move rfl) rfl rfl ?_
                  obtain ⟨x96, hx97, hg76⟩ := bind_some hg76
                  refine XL_q (w_take rfl hc77) (qt_shrO rfl rfl hx97) rfl rfl ?_
                  refine XL_q (w_take rfl hc77) (qt_rem rfl rfl (by decide)) rfl rfl ?_
                  refine XL_q (w_take rfl hc77) (qt_neq rfl rfl) rfl rfl ?_
                  refine XL_q rfl (qt_pickF rfl hc77 rfl) rfl rfl ?_
                  exact hk _ (Cov.same (vb hg76) (Cov.fresh rfl (Cov.fresh rfl (Cov.fresh rfl (Cov.fresh rfl (Cov.fresh rfl (Cov.fresh rfl (Cov.fresh rfl (Cov.fresh rfl (Cov.fresh rfl (Cov.fresh rfl (Cov.fresh rfl (Cov.fresh rfl (Cov.fresh rfl (Cov.fresh rfl (Cov.fresh rfl (Cov.refl)))))))))))))))))
              refine QL_nil fun a ha w98 hb99 => ?_
              have hm100 := hm61.below hb99
              have hB101 := bl_trans hB60 hb99
              refine nrm_seq (WP.app ?_ ha)
              refine WP_cond rfl (fun hc102 => ?_) (fun hc102 => ?_)
              · have hs57 := if_t hc102 hs57
                refine WP_seq ?_
                refine WP_region ?_
                refine XL_q rfl (qt_assign rfl) rfl rfl ?_
                refine WL_nil_seq ?_
                refine WP_ret fun a ha => ?_
                obtain rfl := Option.some.inj hs57
                exact ret_block (ret_seq (⟨ret_ne, rfl, ⟨ha.sub ⟨rfl, trivial⟩, hB101⟩⟩))
              · have hs57 := if_f hc102 hs57
                refine WP_skip fun a ha => ?_
                refine nrm_block (nrm_seq (WP.app ?_ ha))
                refine WP_region ?_
                refine XL_q rfl (qt_move rfl) rfl rfl ?_
                refine XL_q rfl (qt_add rfl rfl) rfl rfl ?_
                refine XL_q rfl (qt_assign rfl) rfl rfl ?_
                refine WL_nil fun a ha => ?_
                obtain rfl := Option.some.inj hs57
                exact ⟨rfl, ⟨ha.sub ⟨rfl, rfl, rfl, rfl, trivial⟩, hB101, hm100⟩⟩
            · have hs57 := if_f hc62 hs57
              refine WP_exit fun a ha => ?_
              obtain rfl := Option.some.inj hs57
              exact exit_seq (⟨exit_ne, rfl, ⟨ha.sub ⟨rfl, rfl, rfl, trivial⟩, hB60, hm61⟩⟩)
          · intro e a54 w103 hO104
            rcases o52 with o52 | o52
            · skip
              obtain ⟨rfl, hO105⟩ := hO104
              obtain ⟨ha, hB106, hm107⟩ := hO105
              refine exit_block_eq (nrm_block (nrm_seq (WP.app ?_ ha)))
              refine WP_region ?_
              refine XL_q rfl (qt_move rfl) rfl rfl ?_
              refine XL_q rfl (qt_add rfl rfl) rfl rfl ?_
              refine XL_q rfl (qt_assign rfl) rfl rfl ?_
              refine WL_nil fun a ha => ?_
              obtain rfl := Option.some.inj hs15
              exact ⟨rfl, ⟨ha.sub ⟨rfl, rfl, rfl, trivial⟩, hB106, hm107⟩⟩
            · skip
              obtain ⟨p108, rfl⟩ : ∃ z, z = o52 := ⟨o52, rfl⟩
              obtain ⟨rfl, hO109⟩ := hO104
              obtain ⟨ha, hB110⟩ := hO109
              obtain rfl := Option.some.inj hs15
              exact ret_block (ret_block (ret_seq (⟨ret_ne, rfl, ⟨ha.sub ⟨rfl, trivial⟩, hB110⟩⟩)))
      · have hs15 := if_f hc20 hs15
        refine WP_exit fun a ha => ?_
        obtain rfl := Option.some.inj hs15
        exact exit_seq (⟨exit_ne, rfl, ⟨ha.sub trivial, hB18⟩⟩)
    · intro e a12 w111 hO112
      rcases o10 with o10 | o10
      · skip
        obtain ⟨rfl, hO113⟩ := hO112
        obtain ⟨ha, hB114⟩ := hO113
        refine exit_block_eq (nrm_seq (WP.app ?_ ha))
        refine WP_seq ?_
        refine WP_region ?_
        refine XL_q rfl (qt_assign rfl) rfl rfl ?_
        refine WL_nil_seq ?_
        refine WP_ret fun a ha => ?_
        exact ret1 rfl ha rfl ⟨congrArg (fun z => Ending.returned (.bool z)) (Option.some.inj h), hB114⟩
      · skip
        obtain ⟨p115, rfl⟩ : ∃ z, z = o10 := ⟨o10, rfl⟩
        obtain ⟨rfl, hO116⟩ := hO112
        obtain ⟨ha, hB117⟩ := hO116
        exact ret_block (ret_seq (ret1 rfl ha rfl ⟨congrArg (fun z => Ending.returned (.bool z)) (Option.some.inj h), hB117⟩))
theorem w_impl_membersOf (w : World) (p0 : Int) (r : (List Int)) (h : impl_membersOfS p0 = some r) : Calls Try.prog 54 #[.int .i64 p0] w fun e w' => ∃ v F, e = .returned v ∧ Own w' 3 (.int .i64) v r F ∧ (∀ k ∈ F, w.heap.size ≤ k) ∧ Below w.heap.size w w' := by
  refine calls_enter (args := [.int .i64 p0]) (n := 21) Try.func54 rfl rfl rfl ?_
  unfold impl_membersOfS at h
  refine WP_seq ?_
  refine WP_region ?_
  refine XL_q rfl (qt_assign rfl) rfl rfl ?_
  have hm1 := Own.nil w 3 (.int .i64)
  have hl2 := @lo_nil w
  refine WL_nil_seq ?_
  refine WP_seq ?_
  refine WP_region ?_
  refine XL_q rfl (qt_assign rfl) rfl rfl ?_
  have hm3 := Own.nil w 3 (.int .i64)
  have hl4 := @lo_nil w
  refine WL_nil_seq ?_
  refine WP_seq ?_
  refine WP_seq ?_
  refine WP_region ?_
  refine XL_q rfl (qt_assign rfl) rfl rfl ?_
  refine WL_nil_seq ?_
  refine WP_block ?_
  obtain ⟨o7, ho8, h⟩ := bind_some h
  refine fun a9 ha10 => wp_loop_fix (I := fun s a w2 => match s with | (s5, s6) => ∃ vs5 Fs5, Fr a 21 [(0, .int .i64 p0), (3, vs5), (4, .int .i64 s6)] ∧ Below w.heap.size w w2 ∧ Own w2 3 (.int .i64) vs5 s5 Fs5 ∧ (∀ k ∈ Fs5, w.heap.size ≤ k)) (O := fun o e a w2 => match o with | q3 => e = .exit 0 ∧ ∃ vq3 Fq3, Fr a 21 [(3, vq3)] ∧ Below w.heap.size w w2 ∧ Own w2 3 (.int .i64) vq3 q3 Fq3 ∧ (∀ k ∈ Fq3, w.heap.size ≤ k)) ho8 ?_ ?_ ?_
  · exact ⟨(.slice none 0 0), [], ha10.sub ⟨rfl, rfl, rfl, trivial⟩, (Below.refl _ _), hm3, hl4⟩
  · clear ha10
    intro s o13 a w11 hs12 hI14
    obtain ⟨s5, s6⟩ := s
    obtain ⟨vs5, Fs5, ha, hB15, hm16, hl17⟩ := hI14
    refine WP.app ?_ ha
    clear ha
    refine WP_seq ?_
    refine WP_seq ?_
    refine WP_region ?_
    refine XL_q rfl (qt_move rfl) rfl rfl ?_
    refine XL_q rfl (qt_move rfl) rfl rfl ?_
    obtain ⟨x18, hx19, hs12⟩ := bind_some hs12
    refine XL_q rfl (qt_shrO rfl rfl hx19) rfl rfl ?_
    refine XL_q rfl (qt_neq rfl rfl) rfl rfl ?_
    refine WL_nil_seq ?_
    refine WP_cond rfl (fun hc20 => ?_) (fun hc20 => ?_)
    · have hs12 := if_t hc20 hs12
      refine WP_skip_seq ?_
      refine WP_seq ?_
      refine WP_block ?_
      refine WP_seq ?_
      refine WP_region ?_
      refine XL_q rfl (qt_move rfl) rfl rfl ?_
      refine XL_q rfl (qt_move rfl) rfl rfl ?_
      obtain ⟨x21, hx22, hs12⟩ := bind_some hs12
      refine XL_q rfl (qt_shlO rfl rfl hx22) rfl rfl ?_
      refine XL_q rfl (qt_and rfl rfl) rfl rfl ?_
      refine XL_q rfl (qt_neq rfl rfl) rfl rfl ?_
      refine WL_nil_seq ?_
      refine WP_cond rfl (fun hc23 => ?_) (fun hc23 => ?_)
      · have hs12 := if_t hc23 hs12
        refine WP_region ?_
        refine XL_q rfl (qt_move rfl) rfl rfl ?_
        refine XL_q rfl (qt_move rfl) rfl rfl ?_
        refine WL_buildSlice (t := (.int .i64)) (args := [.tmp 17]) (xs := ([s6] : List Int)) (F := []) u22 j3 rfl rfl rfl ⟨[], [], rfl, ⟨rfl, rfl⟩, rfl⟩ rfl rfl rfl (fun v24 w25 F26 hm27 hb28 hf29 => ?_)
        have hf30 : ∀ k ∈ F26, w11.heap.size ≤ k := fun k hk => (hf29 k hk).resolve_left (fun h => by cases h)
        have hl31 := lo_fresh hB15 hf30
        have hm32 := hm16.below hb28
        have hB33 := bl_trans hB15 hb28
        have hd34 : Dj F26 Fs5 := dj_fresh hf30 hm16.lt
        obtain ⟨x35, hx36, hs12⟩ := bind_some hs12
        obtain ⟨F37, hr38, hs39⟩ := Own.rep hm27
        refine WL_appendF rfl u22 j3 rfl rfl hm32 hr38 (Dj.symm (dj_sub (Dj.symm (Dj.symm hd34)) hs39)) hx36 rfl rfl rfl rfl (fun v40 w41 F42 hm43 hc44 hf45 => ?_)
        have hl46 := lo_app hB33 hf45 hl17
        have hm47 := hm27.chg hc44 (Dj.symm hd34)
        have hB48 := Chg.below hc44 hB33 hl17
        have hd49 := dj_app hf45 (Dj.symm hd34) hm27.lt
        refine XL_q rfl (qt_assign rfl) rfl rfl ?_
        refine WL_nil fun a ha => ?_
        refine nrm_block (nrm_seq (WP.app ?_ ha))
        refine WP_region ?_
        refine XL_q rfl (qt_move rfl) rfl rfl ?_
        refine XL_q rfl (qt_add rfl rfl) rfl rfl ?_
        refine XL_q rfl (qt_assign rfl) rfl rfl ?_
        refine WL_nil fun a ha => ?_
        obtain rfl := Option.some.inj hs12
        exact ⟨rfl, ⟨v40, F42, ha.sub ⟨rfl, rfl, rfl, trivial⟩, hB48, hm43, hl46⟩⟩
      · have hs12 := if_f hc23 hs12
        refine WP_skip fun a ha => ?_
        refine nrm_block (nrm_seq (WP.app ?_ ha))
        refine WP_region ?_
        refine XL_q rfl (qt_move rfl) rfl rfl ?_
        refine XL_q rfl (qt_add rfl rfl) rfl rfl ?_
        refine XL_q rfl (qt_assign rfl) rfl rfl ?_
        refine WL_nil fun a ha => ?_
        obtain rfl := Option.some.inj hs12
        exact ⟨rfl, ⟨vs5, Fs5, ha.sub ⟨rfl, rfl, rfl, trivial⟩, hB15, hm16, hl17⟩⟩
    · have hs12 := if_f hc20 hs12
      refine WP_exit fun a ha => ?_
      obtain rfl := Option.some.inj hs12
      exact exit_seq (⟨exit_ne, rfl, ⟨vs5, Fs5, ha.sub ⟨rfl, trivial⟩, hB15, hm16, hl17⟩⟩)
  · intro e a9 w50 hO51
    obtain ⟨p52, rfl⟩ : ∃ z, z = o7 := ⟨o7, rfl⟩
    obtain ⟨rfl, hO53⟩ := hO51
    obtain ⟨vp52, Fp52, ha, hB54, hm55, hl56⟩ := hO53
    refine exit_block_eq (nrm_seq (WP.app ?_ ha))
    refine WP_seq ?_
    refine WP_region ?_
    refine XL_q rfl (qt_move rfl) rfl rfl ?_
    refine XL_q rfl (qt_assign rfl) rfl rfl ?_
    refine WL_nil_seq ?_
    refine WP_ret fun a ha => ?_
    obtain rfl := Option.some.inj h
    exact ret1 rfl ha rfl ⟨_, _, rfl, hm55, hl56, hB54⟩
theorem w_impl_QuarrelsValid (w : World) (p0 : Int) (vp1 : Value) (p1 : List Int) (Fp1 : List Nat) (hmp1 : Rep w (.slice (.int .i64)) [vp1] p1 Fp1) (r : Bool) (h : impl_QuarrelsValidS p0 p1 = some r) : Calls Try.prog 24 #[.int .i64 p0, vp1] w fun e w' => e = .returned (.bool r) ∧ Below w.heap.size w w' := by
  refine calls_enter (args := [.int .i64 p0, vp1]) (n := 55) Try.func24 rfl rfl rfl ?_
  unfold impl_QuarrelsValidS at h
  refine WP_seq ?_
  refine WP_region ?_
  refine XL_q rfl (qt_assign rfl) rfl rfl ?_
  refine WL_nil_seq ?_
  refine WP_seq ?_
  refine WP_seq ?_
  refine WP_still ?_
  refine XL_q rfl (qt_move rfl) rfl rfl ?_
  refine XL_q rfl (qt_lss rfl rfl) rfl rfl ?_
  refine XL_q rfl (qt_move rfl) rfl rfl ?_
  refine XL_join 3 13 (.bool ((decide (p0 < 0)) || (decide (p0 > 6)))) ?_ (fun md hmd hk => ?_)
  rotate_left
  · obtain ⟨K, rfl⟩ := Md.quiet_of hmd
    rcases btf (decide (p0 < 0)) with hc1 | hc1
    · skip
      refine XL_skip (w_skip rfl hc1) rfl rfl ?_
      refine XL_skip (w_skip rfl hc1) rfl rfl ?_
      refine XL_q rfl (qt_pickT rfl hc1 rfl) rfl rfl ?_
      exact hk _ (Cov.same (by rw [hc1]; rfl) (Cov.fresh rfl (Cov.fresh rfl (Cov.refl))))
    · skip
      refine XL_q (w_take rfl hc1) (qt_move rfl) rfl rfl ?_
      refine XL_q (w_take rfl hc1) (qt_gtr rfl rfl) rfl rfl ?_
      refine XL_q rfl (qt_pickF rfl hc1 rfl) rfl rfl ?_
      exact hk _ (Cov.same (by rw [hc1]; rfl) (Cov.fresh rfl (Cov.fresh rfl (Cov.refl))))
  refine XL_q rfl (qt_move rfl) rfl rfl ?_
  obtain ⟨b2, hg3, h⟩ := bind_some h
  refine XL_join 7 21 (.bool b2) ?_ (fun md hmd hk => ?_)
  rotate_left
  · obtain ⟨K, rfl⟩ := Md.quiet_of hmd
    rcases btf ((decide (p0 < 0)) || (decide (p0 > 6))) with hc4 | hc4
    · skip
      refine XL_skip (w_skip rfl hc4) rfl rfl ?_
      refine XL_skip (w_skip rfl hc4) rfl rfl ?_
      refine XL_skip (w_skip rfl hc4) rfl rfl ?_
      refine XL_skip (w_skip rfl hc4) rfl rfl ?_
      refine XL_skip (w_skip rfl hc4) rfl rfl ?_
      refine XL_skip (w_skip rfl hc4) rfl rfl ?_
      refine XL_q rfl (qt_pickT rfl hc4 rfl) rfl rfl ?_
      exact hk _ (Cov.same (vb (if_t hc4 hg3)) (Cov.fresh rfl (Cov.fresh rfl (Cov.fresh rfl (Cov.fresh rfl (Cov.fresh rfl (Cov.fresh rfl (Cov.refl))))))))
    · skip
      have hg3 := if_f hc4 hg3
      refine XL_q (w_take rfl hc4) (qt_move rfl) rfl rfl ?_
      refine XL_q (w_take rfl hc4) (qt_move rfl) rfl rfl ?_
      refine XL_q (w_take rfl hc4) (qt_move rfl) rfl rfl ?_
      obtain ⟨x5, hx6, hg3⟩ := bind_some hg3
      refine QL_call (w_take rfl hc4) rfl c51 (fun w' hb => w_impl_everybody w' p0 x5 hx6) (by rfl) ?_
      obtain ⟨x7, hx8, hg3⟩ := bind_some hg3
      refine QL_call (w_take rfl hc4) rfl c50 (fun w' hb => w_impl_amountsOk w' vp1 p1 Fp1 (hmp1.below hb) p0 x5 x7 hx8) (by rfl) ?_
      refine XL_q (w_take rfl hc4) (qt_not rfl) rfl rfl ?_
      refine XL_q rfl (qt_pickF rfl hc4 rfl) rfl rfl ?_
      exact hk _ (Cov.same (vb hg3) (Cov.fresh rfl (Cov.fresh rfl (Cov.fresh rfl (Cov.fresh rfl (Cov.fresh rfl (Cov.fresh rfl (Cov.refl))))))))
  refine QL_nil fun a ha w9 hb10 => ?_
  have hm11 := hmp1.below hb10
  have hB12 := bl_trans (Below.refl _ _) hb10
  refine nrm_seq (WP.app ?_ ha)
  refine WP_cond rfl (fun hc13 => ?_) (fun hc13 => ?_)
  · have h := if_t hc13 h
    refine WP_seq ?_
    refine WP_region ?_
    refine XL_q rfl (qt_assign rfl) rfl rfl ?_
    refine WL_nil_seq ?_
    refine WP_ret fun a ha => ?_
    exact ret_seq (ret1 rfl ha rfl ⟨congrArg (fun z => Ending.returned (.bool z)) (Option.some.inj h), hB12⟩)
  · have h := if_f hc13 h
    refine WP_skip_seq ?_
    refine WP_seq ?_
    refine WP_seq ?_
    refine WP_region ?_
    refine XL_q rfl (qt_move rfl) rfl rfl ?_
    refine XL_len u22 hm11 rfl rfl rfl ?_
    refine XL_q rfl (qt_move rfl) rfl rfl ?_
    refine WL_nil_seq ?_
    refine WP_block ?_
    obtain ⟨o15, ho16, h⟩ := bind_some h
    refine fun a17 ha18 => wp_loop_fix (I := fun s a w2 => match s with | s14 => (Fr a 55 [(1, vp1), (23, .int .i64 (List.length p1 : Int)), (24, .int .i64 s14)] ∧ Below w.heap.size w w2 ∧ Rep w2 (.slice (.int .i64)) [vp1] p1 Fp1)) (O := fun o e a w2 => match o with | .inl _ => e = .exit 0 ∧ (Fr a 55 [] ∧ Below w.heap.size w w2) | .inr q4 => e = .ret ∧ (Fr a 55 [(4, .bool q4)] ∧ Below w.heap.size w w2)) ho16 ?_ ?_ ?_
    · exact ⟨ha18.sub ⟨rfl, rfl, rfl, trivial⟩, hB12, hm11⟩
    · clear ha18
      intro s o21 a w19 hs20 hI22
      obtain ⟨s14, rfl⟩ : ∃ z, z = s := ⟨s, rfl⟩
      obtain ⟨ha, hB23, hm24⟩ := hI22
      refine WP.app ?_ ha
      clear ha
      refine WP_seq ?_
      refine WP_region ?_
      refine XL_q rfl (qt_lss rfl rfl) rfl rfl ?_
      refine WL_nil_seq ?_
      refine WP_seq ?_
      refine WP_cond rfl (fun hc25 => ?_) (fun hc25 => ?_)
      · have hs20 := if_t hc25 hs20
        refine WP_skip_seq ?_
        refine WP_seq ?_
        refine WP_block ?_
        refine WP_seq ?_
        refine WP_region ?_
        refine XL_q rfl (qt_move rfl) rfl rfl ?_
        refine XL_q rfl (qt_assign rfl) rfl rfl ?_
        refine WL_nil_seq ?_
        refine WP_seq ?_
        refine WP_seq ?_
        refine WP_quiet (by kernel_rfl) (by kernel_rfl) ?_
        refine XL_q rfl (qt_move rfl) rfl rfl ?_
        refine XL_q rfl (qt_move rfl) rfl rfl ?_
        obtain ⟨x26, hx27, hs20⟩ := bind_some hs20
        refine XL_index u22 i3 hm24 hx27 rfl rfl rfl rfl (fun b28 o29 F30 hat31 hsub32 hbm33 => ?_)
        refine XL_load_int u3 rfl hat31 rfl rfl rfl ?_
        refine XL_q rfl (qt_move rfl) rfl rfl ?_
        obtain ⟨x34, hx35, hs20⟩ := bind_some hs20
        refine XL_q rfl (qt_shlO rfl rfl hx35) rfl rfl ?_
        refine XL_q rfl (qt_and rfl rfl) rfl rfl ?_
        refine XL_q rfl (qt_neq rfl rfl) rfl rfl ?_
        refine QL_nil fun a ha w36 hb37 => ?_
        have hm38 := hm24.below hb37
        have hB39 := bl_trans hB23 hb37
        refine nrm_seq (WP.app ?_ ha)
        refine WP_cond rfl (fun hc40 => ?_) (fun hc40 => ?_)
        · have hs20 := if_t hc40 hs20
          refine WP_seq ?_
          refine WP_region ?_
          refine XL_q rfl (qt_assign rfl) rfl rfl ?_
          refine WL_nil_seq ?_
          refine WP_ret fun a ha => ?_
          obtain rfl := Option.some.inj hs20
          exact ret_seq (ret_block (ret_seq (⟨ret_ne, rfl, ⟨ha.sub ⟨rfl, trivial⟩, hB39⟩⟩)))
        · have hs20 := if_f hc40 hs20
          refine WP_skip_seq ?_
          refine WP_seq ?_
          refine WP_region ?_
          refine XL_q rfl (qt_move rfl) rfl rfl ?_
          refine XL_q rfl (qt_move rfl) rfl rfl ?_
          obtain ⟨x41, hx42, hs20⟩ := bind_some hs20
          refine XL_index u22 i3 hm38 hx42 rfl rfl rfl rfl (fun b43 o44 F45 hat46 hsub47 hbm48 => ?_)
          refine XL_load_int u3 rfl hat46 rfl rfl rfl ?_
          obtain ⟨x49, hx50, hs20⟩ := bind_some hs20
          refine WL_call rfl rfl c54 (w_impl_membersOf w36 x41 x49 hx50) (by rfl) ?_
          rintro _ w52 ⟨v51, F53, rfl, hm54, hf56, hb55⟩; refine ⟨_, rfl, ?_⟩
          have hl57 := lo_fresh hB39 hf56
          have hm58 := hm38.below hb55
          have hB59 := bl_trans hB39 hb55
          have hd60 : Dj F53 Fp1 := dj_fresh hf56 hm38.lt
          obtain ⟨F61, hr62, hs63⟩ := Own.rep hm54
          refine XL_len u22 hr62 rfl rfl rfl ?_
          refine XL_q rfl (qt_move rfl) rfl rfl ?_
          refine WL_nil_seq ?_
          refine WP_block ?_
          obtain ⟨o65, ho66, hs20⟩ := bind_some hs20
          refine fun a67 ha68 => wp_loop_fix (I := fun s a w2 => match s with | s64 => (Fr a 55 [(1, vp1), (5, .int .i64 s14), (23, .int .i64 (List.length p1 : Int)), (24, .int .i64 s14), (39, v51), (40, .int .i64 (List.length x49 : Int)), (41, .int .i64 s64)] ∧ Below w.heap.size w w2 ∧ Rep w2 (.slice (.int .i64)) [vp1] p1 Fp1 ∧ Own w2 3 (.int .i64) v51 x49 F53 ∧ (∀ k ∈ F53, w.heap.size ≤ k) ∧ Dj F53 Fp1)) (O := fun o e a w2 => match o with | .inl _ => e = .exit 2 ∧ (Fr a 55 [(1, vp1), (23, .int .i64 (List.length p1 : Int)), (24, .int .i64 s14)] ∧ Below w.heap.size w w2 ∧ Rep w2 (.slice (.int .i64)) [vp1] p1 Fp1) | .inr q4 => e = .ret ∧ (Fr a 55 [(4, .bool q4)] ∧ Below w.heap.size w w2)) ho66 ?_ ?_ ?_
          · exact ⟨ha68.sub ⟨rfl, rfl, rfl, rfl, rfl, rfl, rfl, trivial⟩, hB59, hm58, hm54, hl57, hd60⟩
          · clear ha68
            intro s o71 a w69 hs70 hI72
            obtain ⟨s64, rfl⟩ : ∃ z, z = s := ⟨s, rfl⟩
            obtain ⟨ha, hB73, hm74, hm75, hl76, hd77⟩ := hI72
            refine WP.app ?_ ha
            clear ha
            refine WP_seq ?_
            refine WP_region ?_
            refine XL_q rfl (qt_lss rfl rfl) rfl rfl ?_
            refine WL_nil_seq ?_
            refine WP_seq ?_
            refine WP_cond rfl (fun hc78 => ?_) (fun hc78 => ?_)
            · have hs70 := if_t hc78 hs70
              refine WP_skip_seq ?_
              refine WP_seq ?_
              refine WP_block ?_
              refine WP_seq ?_
              refine WP_region ?_
              obtain ⟨x79, hx80, hs70⟩ := bind_some hs70
              refine XL_indexO u22 i3 hm75 hx80 rfl rfl rfl rfl (fun b81 cap82 F83 hv84 hbm85 hat86 hsub87 => ?_)
              have ho88 := hm75; rw [hv84] at ho88
              have hk89 := (geti_lt hx80).2
              refine XL_load_int u3 rfl hat86 rfl rfl rfl ?_
              refine XL_q rfl (qt_assign rfl) rfl rfl ?_
              refine WL_nil_seq ?_
              refine WP_seq ?_
              refine WP_quiet (by kernel_rfl) (by kernel_rfl) ?_
              refine XL_q rfl (qt_move rfl) rfl rfl ?_
              refine XL_q rfl (qt_move rfl) rfl rfl ?_
              obtain ⟨x90, hx91, hs70⟩ := bind_some hs70
              refine XL_index u22 i3 hm74 hx91 rfl rfl rfl rfl (fun b92 o93 F94 hat95 hsub96 hbm97 => ?_)
              refine XL_load_int u3 rfl hat95 rfl rfl rfl ?_
              refine XL_q rfl (qt_move rfl) rfl rfl ?_
              obtain ⟨x98, hx99, hs70⟩ := bind_some hs70
              refine XL_q rfl (qt_shlO rfl rfl hx99) rfl rfl ?_
              refine XL_q rfl (qt_and rfl rfl) rfl rfl ?_
              refine XL_q rfl (qt_eql rfl rfl) rfl rfl ?_
              refine QL_nil fun a ha w100 hb101 => ?_
              have hm102 := hm74.below hb101
              have hm103 := hm75.below hb101
              have hB104 := bl_trans hB73 hb101
              refine nrm_seq (WP.app ?_ ha)
              refine WP_cond rfl (fun hc105 => ?_) (fun hc105 => ?_)
              · have hs70 := if_t hc105 hs70
                refine WP_seq ?_
                refine WP_region ?_
                refine XL_q rfl (qt_assign rfl) rfl rfl ?_
                refine WL_nil_seq ?_
                refine WP_ret fun a ha => ?_
                obtain rfl := Option.some.inj hs70
                exact ret_block (ret_seq (⟨ret_ne, rfl, ⟨ha.sub ⟨rfl, trivial⟩, hB104⟩⟩))
              · have hs70 := if_f hc105 hs70
                refine WP_skip fun a ha => ?_
                refine nrm_block (nrm_seq (WP.app ?_ ha))
                refine WP_region ?_
                refine XL_q rfl (qt_add rfl rfl) rfl rfl ?_
                refine XL_q rfl (qt_move rfl) rfl rfl ?_
                refine WL_nil fun a ha => ?_
                obtain rfl := Option.some.inj hs70
                exact ⟨rfl, ⟨ha.sub ⟨rfl, rfl, rfl, rfl, rfl, rfl, rfl, trivial⟩, hB104, hm102, hm103, hl76, hd77⟩⟩
            · have hs70 := if_f hc78 hs70
              refine WP_exit fun a ha => ?_
              obtain rfl := Option.some.inj hs70
              exact exit_seq (⟨exit_ne, rfl, ⟨ha.sub ⟨rfl, rfl, rfl, trivial⟩, hB73, hm74⟩⟩)
          · intro e a67 w106 hO107
            rcases o65 with o65 | o65
            · skip
              obtain ⟨rfl, hO108⟩ := hO107
              obtain ⟨ha, hB109, hm110⟩ := hO108
              refine exit_block_eq (nrm_block (nrm_seq (WP.app ?_ ha)))
              refine WP_region ?_
              refine XL_q rfl (qt_add rfl rfl) rfl rfl ?_
              refine XL_q rfl (qt_move rfl) rfl rfl ?_
              refine WL_nil fun a ha => ?_
              obtain rfl := Option.some.inj hs20
              exact ⟨rfl, ⟨ha.sub ⟨rfl, rfl, rfl, trivial⟩, hB109, hm110⟩⟩
            · skip
              obtain ⟨p111, rfl⟩ : ∃ z, z = o65 := ⟨o65, rfl⟩
              obtain ⟨rfl, hO112⟩ := hO107
              obtain ⟨ha, hB113⟩ := hO112
              obtain rfl := Option.some.inj hs20
              exact ret_block (ret_block (ret_seq (⟨ret_ne, rfl, ⟨ha.sub ⟨rfl, trivial⟩, hB113⟩⟩)))
      · have hs20 := if_f hc25 hs20
        refine WP_exit fun a ha => ?_
        obtain rfl := Option.some.inj hs20
        exact exit_seq (⟨exit_ne, rfl, ⟨ha.sub trivial, hB23⟩⟩)
    · intro e a17 w114 hO115
      rcases o15 with o15 | o15
      · skip
        obtain ⟨rfl, hO116⟩ := hO115
        obtain ⟨ha, hB117⟩ := hO116
        refine exit_block_eq (nrm_seq (WP.app ?_ ha))
        refine WP_seq ?_
        refine WP_region ?_
        refine XL_q rfl (qt_assign rfl) rfl rfl ?_
        refine WL_nil_seq ?_
        refine WP_ret fun a ha => ?_
        exact ret1 rfl ha rfl ⟨congrArg (fun z => Ending.returned (.bool z)) (Option.some.inj h), hB117⟩
      · skip
        obtain ⟨p118, rfl⟩ : ∃ z, z = o15 := ⟨o15, rfl⟩
        obtain ⟨rfl, hO119⟩ := hO115
        obtain ⟨ha, hB120⟩ := hO119
        exact ret_block (ret_seq (ret1 rfl ha rfl ⟨congrArg (fun z => Ending.returned (.bool z)) (Option.some.inj h), hB120⟩))
theorem w_laws_FnExactQuarrelsValid (w : World) (p0 : Int) (vp1 : Value) (p1 : List Int) (Fp1 : List Nat) (hmp1 : Rep w (.slice (.int .i64)) [vp1] p1 Fp1) (r : Bool) (h : laws_FnExactQuarrelsValidS p0 p1 = some r) : Calls Try.prog 5 #[.int .i64 p0, vp1] w fun e w' => e = .returned (.bool r) ∧ Below w.heap.size w w' := by
  refine calls_enter (args := [.int .i64 p0, vp1]) (n := 28) Try.func5 rfl rfl rfl ?_
  unfold laws_FnExactQuarrelsValidS at h
  refine WP_seq ?_
  refine WP_region ?_
  refine XL_q rfl (qt_assign rfl) rfl rfl ?_
  refine WL_nil_seq ?_
  refine WP_seq ?_
  refine WP_seq ?_
  refine WP_region ?_
  refine XL_q rfl (qt_move rfl) rfl rfl ?_
  refine XL_len u22 hmp1 rfl rfl rfl ?_
  refine XL_q rfl (qt_gtr rfl rfl) rfl rfl ?_
  refine WL_nil_seq ?_
  refine WP_cond rfl (fun hc1 => ?_) (fun hc1 => ?_)
  · have h := if_t hc1 h
    refine WP_seq ?_
    refine WP_region ?_
    refine XL_q rfl (qt_assign rfl) rfl rfl ?_
    refine WL_nil_seq ?_
    refine WP_ret fun a ha => ?_
    exact ret_seq (ret1 rfl ha rfl ⟨congrArg (fun z => Ending.returned (.bool z)) (Option.some.inj h), (Below.refl _ _)⟩)
  · have h := if_f hc1 h
    refine WP_skip_seq ?_
    refine WP_seq ?_
    refine WP_region ?_
    refine XL_q rfl (qt_move rfl) rfl rfl ?_
    refine XL_q rfl (qt_move rfl) rfl rfl ?_
    obtain ⟨x2, hx3, h⟩ := bind_some h
    refine WL_call rfl rfl c18 (w_laws_toIntS w vp1 p1 Fp1 hmp1 x2 hx3) (by rfl) ?_
    rintro _ w5 ⟨v4, F6, rfl, hm7, hf9, hb8⟩; refine ⟨_, rfl, ?_⟩
    have hl10 := lo_fresh (Below.refl _ _) hf9
    have hm11 := hmp1.below hb8
    have hB12 := bl_trans (Below.refl _ _) hb8
    have hd13 : Dj F6 Fp1 := dj_fresh hf9 hmp1.lt
    obtain ⟨x14, hx15, h⟩ := bind_some h
    obtain ⟨F16, hr17, hs18⟩ := Own.rep hm7
    refine WL_call rfl rfl c23 (w_spec_QuarrelsValid w5 p0 v4 x2 F16 hr17 x14 hx15) (by rfl) ?_
    rintro _ w19 ⟨rfl, hb20⟩; refine ⟨_, rfl, ?_⟩
    have hm21 := hm11.below hb20
    have hm22 := hm7.below hb20
    have hB23 := bl_trans hB12 hb20
    refine XL_q rfl (qt_assign rfl) rfl rfl ?_
    refine WL_nil_seq ?_
    refine WP_seq ?_
    refine WP_region ?_
    refine XL_q rfl (qt_move rfl) rfl rfl ?_
    obtain ⟨x24, hx25, h⟩ := bind_some h
    refine WL_call rfl rfl c18 (w_laws_toIntS w19 vp1 p1 Fp1 hm21 x24 hx25) (by rfl) ?_
    rintro _ w27 ⟨v26, F28, rfl, hm29, hf31, hb30⟩; refine ⟨_, rfl, ?_⟩
    have hl32 := lo_fresh hB23 hf31
    have hm33 := hm21.below hb30
    have hm34 := hm22.below hb30
    have hB35 := bl_trans hB23 hb30
    have hd36 : Dj F28 Fp1 := dj_fresh hf31 hm21.lt
    have hd37 : Dj F28 F6 := dj_fresh hf31 hm22.lt
    refine XL_q rfl (qt_assign rfl) rfl rfl ?_
    refine WL_nil_seq ?_
    refine WP_seq ?_
    refine WP_still ?_
    refine XL_q rfl (qt_move rfl) rfl rfl ?_
    refine XL_q rfl (qt_move rfl) rfl rfl ?_
    obtain ⟨x38, hx39, h⟩ := bind_some h
    obtain ⟨F40, hr41, hs42⟩ := Own.rep hm29
    refine QL_call rfl rfl c24 (fun w' hb => w_impl_QuarrelsValid w' p0 v26 x24 F40 (hr41.below hb) x38 hx39) (by rfl) ?_
    refine XL_q rfl (qt_assign rfl) rfl rfl ?_
    refine QL_nil fun a ha w43 hb44 => ?_
    have hm45 := hm33.below hb44
    have hm46 := hm29.below hb44
    have hB47 := bl_trans hB35 hb44
    refine nrm_seq (WP.app ?_ ha)
    refine WP_seq ?_
    refine WP_seq ?_
    refine WP_region ?_
    refine XL_q rfl (qt_move rfl) rfl rfl ?_
    refine XL_q rfl (qt_move rfl) rfl rfl ?_
    refine XL_q rfl (qt_bneq u4 rfl rfl) rfl rfl ?_
    refine WL_nil_seq ?_
    refine WP_cond rfl (fun hc48 => ?_) (fun hc48 => ?_)
    · have h := if_t hc48 h
      refine WP_seq ?_
      refine WP_region ?_
      refine XL_q rfl (qt_assign rfl) rfl rfl ?_
      refine WL_nil_seq ?_
      refine WP_ret fun a ha => ?_
      exact ret_seq (ret1 rfl ha rfl ⟨congrArg (fun z => Ending.returned (.bool z)) (Option.some.inj h), hB47⟩)
    · have h := if_f hc48 h
      refine WP_skip_seq ?_
      refine WP_seq ?_
      refine WP_seq ?_
      refine WP_region ?_
      refine XL_q rfl (qt_move rfl) rfl rfl ?_
      refine XL_q rfl (qt_move rfl) rfl rfl ?_
      obtain ⟨x49, hx50, h⟩ := bind_some h
      refine WL_call rfl rfl c18 (w_laws_toIntS w43 vp1 p1 Fp1 hm45 x49 hx50) (by rfl) ?_
      rintro _ w52 ⟨v51, F53, rfl, hm54, hf56, hb55⟩; refine ⟨_, rfl, ?_⟩
      have hl57 := lo_fresh hB47 hf56
      have hm58 := hm45.below hb55
      have hm59 := hm46.below hb55
      have hB60 := bl_trans hB47 hb55
      have hd61 : Dj F53 Fp1 := dj_fresh hf56 hm45.lt
      have hd62 : Dj F53 F28 := dj_fresh hf56 hm46.lt
      obtain ⟨x63, hx64, h⟩ := bind_some h
      obtain ⟨F65, hr66, hs67⟩ := Own.rep hm59
      obtain ⟨F68, hr69, hs70⟩ := Own.rep hm54
      refine WL_call rfl rfl c20 (w_laws_eqIntS w52 v26 x24 F65 hr66 v51 x49 F68 hr69 x63 hx64) (by rfl) ?_
      rintro _ w71 ⟨rfl, hb72⟩; refine ⟨_, rfl, ?_⟩
      have hm73 := hm58.below hb72
      have hm74 := hm59.below hb72
      have hm75 := hm54.below hb72
      have hB76 := bl_trans hB60 hb72
      refine XL_q rfl (qt_not rfl) rfl rfl ?_
      refine WL_nil_seq ?_
      refine WP_cond rfl (fun hc77 => ?_) (fun hc77 => ?_)
      · have h := if_t hc77 h
        refine WP_seq ?_
        refine WP_region ?_
        refine XL_q rfl (qt_assign rfl) rfl rfl ?_
        refine WL_nil_seq ?_
        refine WP_ret fun a ha => ?_
        exact ret_seq (ret1 rfl ha rfl ⟨congrArg (fun z => Ending.returned (.bool z)) (Option.some.inj h), hB76⟩)
      · have h := if_f hc77 h
        refine WP_skip_seq ?_
        refine WP_seq ?_
        refine WP_region ?_
        refine XL_q rfl (qt_assign rfl) rfl rfl ?_
        refine WL_nil_seq ?_
        refine WP_ret fun a ha => ?_
        exact ret1 rfl ha rfl ⟨congrArg (fun z => Ending.returned (.bool z)) (Option.some.inj h), hB76⟩
theorem w_spec_l1Join (w : World) (p0 : Int) (p1 : Int) (r : Int) (h : spec_l1JoinS p0 p1 = some r) : Calls Try.prog 59 #[.int .i64 p0, .int .i64 p1] w fun e w' => e = .returned (.int .i64 r) ∧ Below w.heap.size w w' := by
  refine calls_enter (args := [.int .i64 p0, .int .i64 p1]) (n := 30) Try.func59 rfl rfl rfl ?_
  unfold spec_l1JoinS at h
  refine WP_seq ?_
  refine WP_region ?_
  refine XL_q rfl (qt_assign rfl) rfl rfl ?_
  refine WL_nil_seq ?_
  refine WP_seq ?_
  refine WP_region ?_
  refine XL_q rfl (qt_assign rfl) rfl rfl ?_
  refine WL_nil_seq ?_
  refine WP_seq ?_
  refine WP_seq ?_
  refine WP_region ?_
  refine XL_q rfl (qt_assign rfl) rfl rfl ?_
  refine WL_nil_seq ?_
  refine WP_block ?_
  obtain ⟨o3, ho4, h⟩ := bind_some h
  refine fun a5 ha6 => wp_loop_fix (I := fun s a w2 => match s with | (s1, s2) => (Fr a 30 [(0, .int .i64 p0), (1, .int .i64 p1), (5, .int .i64 s1), (6, .int .i64 s2)] ∧ Below w.heap.size w w2)) (O := fun o e a w2 => match o with | q5 => e = .exit 0 ∧ (Fr a 30 [(5, .int .i64 q5)] ∧ Below w.heap.size w w2)) ho4 ?_ ?_ ?_
  · exact ⟨ha6.sub ⟨rfl, rfl, rfl, rfl, trivial⟩, (Below.refl _ _)⟩
  · clear ha6
    intro s o9 a w7 hs8 hI10
    obtain ⟨s1, s2⟩ := s
    obtain ⟨ha, hB11⟩ := hI10
    refine WP.app ?_ ha
    clear ha
    refine WP_seq ?_
    refine WP_seq ?_
    refine WP_region ?_
    refine XL_q rfl (qt_move rfl) rfl rfl ?_
    refine XL_q rfl (qt_move rfl) rfl rfl ?_
    refine XL_q rfl (qt_move rfl) rfl rfl ?_
    refine XL_q rfl (qt_max rfl rfl) rfl rfl ?_
    refine XL_q rfl (qt_leq rfl rfl) rfl rfl ?_
    refine WL_nil_seq ?_
    refine WP_cond rfl (fun hc12 => ?_) (fun hc12 => ?_)
    · have hs8 := if_t hc12 hs8
      refine WP_skip_seq ?_
      refine WP_seq ?_
      refine WP_block ?_
      refine WP_seq ?_
      refine WP_region ?_
      refine XL_q rfl (qt_move rfl) rfl rfl ?_
      refine XL_q rfl (qt_move rfl) rfl rfl ?_
      obtain ⟨x13, hx14, hs8⟩ := bind_some hs8
      refine XL_q rfl (qt_quoO rfl rfl hx14) rfl rfl ?_
      refine XL_q rfl (qt_rem rfl rfl (by decide)) rfl rfl ?_
      refine XL_q rfl (qt_eql rfl rfl) rfl rfl ?_
      refine XL_q rfl (qt_move rfl) rfl rfl ?_
      obtain ⟨b15, hg16, hs8⟩ := bind_some hs8
      refine XL_join 6 25 (.bool b15) ?_ (fun md hmd hk => ?_)
      rotate_left
      · obtain ⟨Q, rfl⟩ := Md.seq_of hmd
        rcases btf ((Int.tmod x13 2) == 1) with hc17 | hc17
        · skip
          refine XL_skip (w_skip rfl hc17) rfl rfl ?_
          refine XL_skip (w_skip rfl hc17) rfl rfl ?_
          refine XL_skip (w_skip rfl hc17) rfl rfl ?_
          refine XL_skip (w_skip rfl hc17) rfl rfl ?_
          refine XL_skip (w_skip rfl hc17) rfl rfl ?_
          refine XL_q rfl (qt_pickT rfl hc17 rfl) rfl rfl ?_
          exact hk _ (Cov.same (vb (if_t hc17 hg16)) (Cov.fresh rfl (Cov.fresh rfl (Cov.fresh rfl (Cov.fresh rfl (Cov.fresh rfl (Cov.refl)))))))
        · skip
          have hg16 := if_f hc17 hg16
          refine XL_q (w_take rfl hc17) (qt_move rfl) rfl rfl ?_
          refine XL_q (w_take rfl hc17) (qt_move rfl) rfl rfl ?_
          obtain ⟨x18, hx19, hg16⟩ := bind_some hg16
          refine XL_q (w_take rfl hc17) (qt_quoO rfl rfl hx19) rfl rfl ?_
          refine XL_q (w_take rfl hc17) (qt_rem rfl rfl (by decide)) rfl rfl ?_
          refine XL_q (w_take rfl hc17) (qt_eql rfl rfl) rfl rfl ?_
          refine XL_q rfl (qt_pickF rfl hc17 rfl) rfl rfl ?_
          exact hk _ (Cov.same (vb hg16) (Cov.fresh rfl (Cov.fresh rfl (Cov.fresh rfl (Cov.fresh rfl (Cov.fresh rfl (Cov.refl)))))))
      refine WL_nil_seq ?_
      refine WP_cond rfl (fun hc20 => ?_) (fun hc20 => ?_)
      · have hs8 := if_t hc20 hs8
        refine WP_region ?_
        refine XL_q rfl (qt_move rfl) rfl rfl ?_
        refine XL_q rfl (qt_move rfl) rfl rfl ?_
        refine XL_q rfl (qt_add rfl rfl) rfl rfl ?_
        refine XL_q rfl (qt_assign rfl) rfl rfl ?_
        refine WL_nil fun a ha => ?_
        refine nrm_block (nrm_seq (WP.app ?_ ha))
        refine WP_region ?_
        refine XL_q rfl (qt_move rfl) rfl rfl ?_
        refine XL_q rfl (qt_mul rfl rfl) rfl rfl ?_
        refine XL_q rfl (qt_assign rfl) rfl rfl ?_
        refine WL_nil fun a ha => ?_
        obtain rfl := Option.some.inj hs8
        exact ⟨rfl, ⟨ha.sub ⟨rfl, rfl, rfl, rfl, trivial⟩, hB11⟩⟩
      · have hs8 := if_f hc20 hs8
        refine WP_skip fun a ha => ?_
        refine nrm_block (nrm_seq (WP.app ?_ ha))
        refine WP_region ?_
        refine XL_q rfl (qt_move rfl) rfl rfl ?_
        refine XL_q rfl (qt_mul rfl rfl) rfl rfl ?_
        refine XL_q rfl (qt_assign rfl) rfl rfl ?_
        refine WL_nil fun a ha => ?_
        obtain rfl := Option.some.inj hs8
        exact ⟨rfl, ⟨ha.sub ⟨rfl, rfl, rfl, rfl, trivial⟩, hB11⟩⟩
    · have hs8 := if_f hc12 hs8
      refine WP_exit fun a ha => ?_
      obtain rfl := Option.some.inj hs8
      exact exit_seq (⟨exit_ne, rfl, ⟨ha.sub ⟨rfl, trivial⟩, hB11⟩⟩)
  · intro e a5 w21 hO22
    obtain ⟨p23, rfl⟩ : ∃ z, z = o3 := ⟨o3, rfl⟩
    obtain ⟨rfl, hO24⟩ := hO22
    obtain ⟨ha, hB25⟩ := hO24
    refine exit_block_eq (nrm_seq (WP.app ?_ ha))
    refine WP_seq ?_
    refine WP_region ?_
    refine XL_q rfl (qt_move rfl) rfl rfl ?_
    refine XL_q rfl (qt_assign rfl) rfl rfl ?_
    refine WL_nil_seq ?_
    refine WP_ret fun a ha => ?_
    exact ret1 rfl ha rfl ⟨congrArg (fun z => Ending.returned (.int .i64 z)) (Option.some.inj h), hB25⟩
theorem w_spec_l6Fed (w : World) (vp0 : Value) (p0 : List Int) (Fp0 : List Nat) (hmp0 : Rep w (.slice (.int .i64)) [vp0] p0 Fp0) (p1 : Int) (r : Int) (h : spec_l6FedS p0 p1 = some r) : Calls Try.prog 55 #[vp0, .int .i64 p1] w fun e w' => e = .returned (.int .i64 r) ∧ Below w.heap.size w w' := by
  refine calls_enter (args := [vp0, .int .i64 p1]) (n := 25) Try.func55 rfl rfl rfl ?_
  unfold spec_l6FedS at h
  refine WP_seq ?_
  refine WP_region ?_
  refine XL_q rfl (qt_assign rfl) rfl rfl ?_
  refine WL_nil_seq ?_
  refine WP_seq ?_
  refine WP_region ?_
  refine XL_q rfl (qt_assign rfl) rfl rfl ?_
  refine WL_nil_seq ?_
  refine WP_seq ?_
  refine WP_seq ?_
  refine WP_region ?_
  refine XL_q rfl (qt_assign rfl) rfl rfl ?_
  refine WL_nil_seq ?_
  refine WP_block ?_
  obtain ⟨o3, ho4, h⟩ := bind_some h
  refine fun a5 ha6 => wp_loop_fix (I := fun s a w2 => match s with | (s1, s2) => (Fr a 25 [(0, vp0), (1, .int .i64 p1), (5, .int .i64 s1), (6, .int .i64 s2)] ∧ Below w.heap.size w w2 ∧ Rep w2 (.slice (.int .i64)) [vp0] p0 Fp0)) (O := fun o e a w2 => match o with | q5 => e = .exit 0 ∧ (Fr a 25 [(5, .int .i64 q5)] ∧ Below w.heap.size w w2)) ho4 ?_ ?_ ?_
  · exact ⟨ha6.sub ⟨rfl, rfl, rfl, rfl, trivial⟩, (Below.refl _ _), hmp0⟩
  · clear ha6
    intro s o9 a w7 hs8 hI10
    obtain ⟨s1, s2⟩ := s
    obtain ⟨ha, hB11, hm12⟩ := hI10
    refine WP.app ?_ ha
    clear ha
    refine WP_seq ?_
    refine WP_seq ?_
    refine WP_region ?_
    refine XL_q rfl (qt_move rfl) rfl rfl ?_
    refine XL_q rfl (qt_move rfl) rfl rfl ?_
    refine XL_len u22 hm12 rfl rfl rfl ?_
    refine XL_q rfl (qt_lss rfl rfl) rfl rfl ?_
    refine WL_nil_seq ?_
    refine WP_cond rfl (fun hc13 => ?_) (fun hc13 => ?_)
    · have hs8 := if_t hc13 hs8
      refine WP_skip_seq ?_
      refine WP_seq ?_
      refine WP_block ?_
      refine WP_seq ?_
      refine WP_region ?_
      refine XL_q rfl (qt_move rfl) rfl rfl ?_
      refine XL_q rfl (qt_move rfl) rfl rfl ?_
      obtain ⟨x14, hx15, hs8⟩ := bind_some hs8
      refine XL_q rfl (qt_shrO rfl rfl hx15) rfl rfl ?_
      refine XL_q rfl (qt_rem rfl rfl (by decide)) rfl rfl ?_
      refine XL_q rfl (qt_eql rfl rfl) rfl rfl ?_
      refine WL_nil_seq ?_
      refine WP_cond rfl (fun hc16 => ?_) (fun hc16 => ?_)
      · have hs8 := if_t hc16 hs8
        refine WP_still ?_
        refine XL_q rfl (qt_move rfl) rfl rfl ?_
        refine XL_q rfl (qt_move rfl) rfl rfl ?_
        refine XL_q rfl (qt_move rfl) rfl rfl ?_
        obtain ⟨x17, hx18, hs8⟩ := bind_some hs8
        refine XL_index u22 i3 hm12 hx18 rfl rfl rfl rfl (fun b19 o20 F21 hat22 hsub23 hbm24 => ?_)
        refine XL_load_int u3 rfl hat22 rfl rfl rfl ?_
        obtain ⟨x25, hx26, hs8⟩ := bind_some hs8
        refine QL_call rfl rfl c59 (fun w' hb => w_spec_l1Join w' s1 x17 x25 hx26) (by rfl) ?_
        refine XL_q rfl (qt_assign rfl) rfl rfl ?_
        refine QL_nil fun a ha w27 hb28 => ?_
        have hm29 := hm12.below hb28
        have hB30 := bl_trans hB11 hb28
        refine nrm_block (nrm_seq (WP.app ?_ ha))
        refine WP_region ?_
        refine XL_q rfl (qt_move rfl) rfl rfl ?_
        refine XL_q rfl (qt_add rfl rfl) rfl rfl ?_
        refine XL_q rfl (qt_assign rfl) rfl rfl ?_
        refine WL_nil fun a ha => ?_
        obtain rfl := Option.some.inj hs8
        exact ⟨rfl, ⟨ha.sub ⟨rfl, rfl, rfl, rfl, trivial⟩, hB30, hm29⟩⟩
      · have hs8 := if_f hc16 hs8
        refine WP_skip fun a ha => ?_
        refine nrm_block (nrm_seq (WP.app ?_ ha))
        refine WP_region ?_
        refine XL_q rfl (qt_move rfl) rfl rfl ?_
        refine XL_q rfl (qt_add rfl rfl) rfl rfl ?_
        refine XL_q rfl (qt_assign rfl) rfl rfl ?_
        refine WL_nil fun a ha => ?_
        obtain rfl := Option.some.inj hs8
        exact ⟨rfl, ⟨ha.sub ⟨rfl, rfl, rfl, rfl, trivial⟩, hB11, hm12⟩⟩
    · have hs8 := if_f hc13 hs8
      refine WP_exit fun a ha => ?_
      obtain rfl := Option.some.inj hs8
      exact exit_seq (⟨exit_ne, rfl, ⟨ha.sub ⟨rfl, trivial⟩, hB11⟩⟩)
  · intro e a5 w31 hO32
    obtain ⟨p33, rfl⟩ : ∃ z, z = o3 := ⟨o3, rfl⟩
    obtain ⟨rfl, hO34⟩ := hO32
    obtain ⟨ha, hB35⟩ := hO34
    refine exit_block_eq (nrm_seq (WP.app ?_ ha))
    refine WP_seq ?_
    refine WP_region ?_
    refine XL_q rfl (qt_move rfl) rfl rfl ?_
    refine XL_q rfl (qt_assign rfl) rfl rfl ?_
    refine WL_nil_seq ?_
    refine WP_ret fun a ha => ?_
    exact ret1 rfl ha rfl ⟨congrArg (fun z => Ending.returned (.int .i64 z)) (Option.some.inj h), hB35⟩
theorem w_spec_FedBy (w : World) (p0 : Int) (vp1 : Value) (p1 : List Int) (Fp1 : List Nat) (hmp1 : Rep w (.slice (.int .i64)) [vp1] p1 Fp1) (p2 : Int) (r : Int) (h : spec_FedByS p0 p1 p2 = some r) : Calls Try.prog 25 #[.int .i64 p0, vp1, .int .i64 p2] w fun e w' => e = .returned (.int .i64 r) ∧ Below w.heap.size w w' := by
  refine calls_enter (args := [.int .i64 p0, vp1, .int .i64 p2]) (n := 23) Try.func25 rfl rfl rfl ?_
  unfold spec_FedByS at h
  refine WP_seq ?_
  refine WP_region ?_
  refine XL_q rfl (qt_assign rfl) rfl rfl ?_
  refine WL_nil_seq ?_
  refine WP_seq ?_
  refine WP_seq ?_
  refine WP_still ?_
  refine XL_q rfl (qt_move rfl) rfl rfl ?_
  refine XL_q rfl (qt_move rfl) rfl rfl ?_
  obtain ⟨x1, hx2, h⟩ := bind_some h
  refine QL_call rfl rfl c17 (fun w' hb => w_spec_MenuValid w' p0 vp1 p1 Fp1 (hmp1.below hb) x1 hx2) (by rfl) ?_
  refine XL_q rfl (qt_not rfl) rfl rfl ?_
  refine XL_q rfl (qt_move rfl) rfl rfl ?_
  obtain ⟨b3, hg4, h⟩ := bind_some h
  refine XL_join 8 19 (.bool b3) ?_ (fun md hmd hk => ?_)
  rotate_left
  · obtain ⟨K, rfl⟩ := Md.quiet_of hmd
    rcases btf (!x1) with hc5 | hc5
    · skip
      refine XL_skip (w_skip rfl hc5) rfl rfl ?_
      refine XL_skip (w_skip rfl hc5) rfl rfl ?_
      refine XL_skip (w_skip rfl hc5) rfl rfl ?_
      refine XL_skip (w_skip rfl hc5) rfl rfl ?_
      refine XL_skip (w_skip rfl hc5) rfl rfl ?_
      refine XL_skip (w_skip rfl hc5) rfl rfl ?_
      refine XL_skip (w_skip rfl hc5) rfl rfl ?_
      refine XL_q rfl (qt_pickT rfl hc5 rfl) rfl rfl ?_
      exact hk _ (Cov.same (vb (if_t hc5 hg4)) (Cov.fresh rfl (Cov.fresh rfl (Cov.fresh rfl (Cov.fresh rfl (Cov.fresh rfl (Cov.fresh rfl (Cov.fresh rfl (Cov.refl)))))))))
    · skip
      have hg4 := if_f hc5 hg4
      refine XL_q (w_take rfl hc5) (qt_move rfl) rfl rfl ?_
      refine XL_q (w_take rfl hc5) (qt_move rfl) rfl rfl ?_
      refine XL_len u22 hmp1 (w_take rfl hc5) rfl rfl ?_
      obtain ⟨x6, hx7, hg4⟩ := bind_some hg4
      refine XL_q (w_take rfl hc5) (qt_shlO rfl rfl hx7) rfl rfl ?_
      refine XL_q (w_take rfl hc5) (qt_sub rfl rfl) rfl rfl ?_
      obtain ⟨x8, hx9, hg4⟩ := bind_some hg4
      refine QL_call (w_take rfl hc5) rfl c49 (fun w' hb => w_spec_l1In w' p2 0 (IntKind.wrap .i64 (x6 - 1)) x8 hx9) (by rfl) ?_
      refine XL_q (w_take rfl hc5) (qt_not rfl) rfl rfl ?_
      refine XL_q rfl (qt_pickF rfl hc5 rfl) rfl rfl ?_
      exact hk _ (Cov.same (vb hg4) (Cov.fresh rfl (Cov.fresh rfl (Cov.fresh rfl (Cov.fresh rfl (Cov.fresh rfl (Cov.fresh rfl (Cov.fresh rfl (Cov.refl)))))))))
  refine QL_nil fun a ha w10 hb11 => ?_
  have hm12 := hmp1.below hb11
  have hB13 := bl_trans (Below.refl _ _) hb11
  refine nrm_seq (WP.app ?_ ha)
  refine WP_cond rfl (fun hc14 => ?_) (fun hc14 => ?_)
  · have h := if_t hc14 h
    refine WP_seq ?_
    refine WP_region ?_
    refine XL_q rfl (qt_assign rfl) rfl rfl ?_
    refine WL_nil_seq ?_
    refine WP_ret fun a ha => ?_
    exact ret_seq (ret1 rfl ha rfl ⟨congrArg (fun z => Ending.returned (.int .i64 z)) (Option.some.inj h), hB13⟩)
  · have h := if_f hc14 h
    refine WP_skip_seq ?_
    refine WP_seq ?_
    refine WP_still ?_
    refine XL_q rfl (qt_move rfl) rfl rfl ?_
    refine XL_q rfl (qt_move rfl) rfl rfl ?_
    obtain ⟨x15, hx16, h⟩ := bind_some h
    refine QL_call rfl rfl c55 (fun w' hb => w_spec_l6Fed w' vp1 p1 Fp1 (hm12.below hb) p2 x15 hx16) (by rfl) ?_
    refine XL_q rfl (qt_assign rfl) rfl rfl ?_
    refine QL_nil fun a ha w17 hb18 => ?_
    have hB19 := bl_trans hB13 hb18
    refine nrm_seq (WP.app ?_ ha)
    refine WP_ret fun a ha => ?_
    exact ret1 rfl ha rfl ⟨congrArg (fun z => Ending.returned (.int .i64 z)) (Option.some.inj h), hB19⟩
theorem w_impl_FedBy (w : World) (p0 : Int) (vp1 : Value) (p1 : List Int) (Fp1 : List Nat) (hmp1 : Rep w (.slice (.int .i64)) [vp1] p1 Fp1) (p2 : Int) (r : Int) (h : impl_FedByS p0 p1 p2 = some r) : Calls Try.prog 26 #[.int .i64 p0, vp1, .int .i64 p2] w fun e w' => e = .returned (.int .i64 r) ∧ Below w.heap.size w w' := by
  refine calls_enter (args := [.int .i64 p0, vp1, .int .i64 p2]) (n := 42) Try.func26 rfl rfl rfl ?_
  unfold impl_FedByS at h
  refine WP_seq ?_
  refine WP_region ?_
  refine XL_q rfl (qt_assign rfl) rfl rfl ?_
  refine WL_nil_seq ?_
  refine WP_seq ?_
  refine WP_seq ?_
  refine WP_still ?_
  refine XL_q rfl (qt_move rfl) rfl rfl ?_
  refine XL_q rfl (qt_move rfl) rfl rfl ?_
  obtain ⟨x1, hx2, h⟩ := bind_some h
  refine QL_call rfl rfl c19 (fun w' hb => w_impl_MenuValid w' p0 vp1 p1 Fp1 (hmp1.below hb) x1 hx2) (by rfl) ?_
  refine XL_q rfl (qt_not rfl) rfl rfl ?_
  refine XL_q rfl (qt_move rfl) rfl rfl ?_
  refine XL_join 3 17 (.bool ((!x1) || (decide (p2 < 0)))) ?_ (fun md hmd hk => ?_)
  rotate_left
  · obtain ⟨K, rfl⟩ := Md.quiet_of hmd
    rcases btf (!x1) with hc3 | hc3
    · skip
      refine XL_skip (w_skip rfl hc3) rfl rfl ?_
      refine XL_skip (w_skip rfl hc3) rfl rfl ?_
      refine XL_q rfl (qt_pickT rfl hc3 rfl) rfl rfl ?_
      exact hk _ (Cov.same (by rw [hc3]; rfl) (Cov.fresh rfl (Cov.fresh rfl (Cov.refl))))
    · skip
      refine XL_q (w_take rfl hc3) (qt_move rfl) rfl rfl ?_
      refine XL_q (w_take rfl hc3) (qt_lss rfl rfl) rfl rfl ?_
      refine XL_q rfl (qt_pickF rfl hc3 rfl) rfl rfl ?_
      exact hk _ (Cov.same (by rw [hc3]; rfl) (Cov.fresh rfl (Cov.fresh rfl (Cov.refl))))
  refine XL_q rfl (qt_move rfl) rfl rfl ?_
  obtain ⟨b4, hg5, h⟩ := bind_some h
  refine XL_join 6 24 (.bool b4) ?_ (fun md hmd hk => ?_)
  rotate_left
  · obtain ⟨K, rfl⟩ := Md.quiet_of hmd
    rcases btf ((!x1) || (decide (p2 < 0))) with hc6 | hc6
    · skip
      refine XL_skip (w_skip rfl hc6) rfl rfl ?_
      refine XL_skip (w_skip rfl hc6) rfl rfl ?_
      refine XL_skip (w_skip rfl hc6) rfl rfl ?_
      refine XL_skip (w_skip rfl hc6) rfl rfl ?_
      refine XL_skip (w_skip rfl hc6) rfl rfl ?_
      refine XL_q rfl (qt_pickT rfl hc6 rfl) rfl rfl ?_
      exact hk _ (Cov.same (vb (if_t hc6 hg5)) (Cov.fresh rfl (Cov.fresh rfl (Cov.fresh rfl (Cov.fresh rfl (Cov.fresh rfl (Cov.refl)))))))
    · skip
      have hg5 := if_f hc6 hg5
      refine XL_q (w_take rfl hc6) (qt_move rfl) rfl rfl ?_
      refine XL_q (w_take rfl hc6) (qt_move rfl) rfl rfl ?_
      refine XL_len u22 hmp1 (w_take rfl hc6) rfl rfl ?_
      obtain ⟨x7, hx8, hg5⟩ := bind_some hg5
      refine XL_q (w_take rfl hc6) (qt_shlO rfl rfl hx8) rfl rfl ?_
      refine XL_q (w_take rfl hc6) (qt_geq rfl rfl) rfl rfl ?_
      refine XL_q rfl (qt_pickF rfl hc6 rfl) rfl rfl ?_
      exact hk _ (Cov.same (vb hg5) (Cov.fresh rfl (Cov.fresh rfl (Cov.fresh rfl (Cov.fresh rfl (Cov.fresh rfl (Cov.refl)))))))
  refine QL_nil fun a ha w9 hb10 => ?_
  have hm11 := hmp1.below hb10
  have hB12 := bl_trans (Below.refl _ _) hb10
  refine nrm_seq (WP.app ?_ ha)
  refine WP_cond rfl (fun hc13 => ?_) (fun hc13 => ?_)
  · have h := if_t hc13 h
    refine WP_seq ?_
    refine WP_region ?_
    refine XL_q rfl (qt_assign rfl) rfl rfl ?_
    refine WL_nil_seq ?_
    refine WP_ret fun a ha => ?_
    exact ret_seq (ret1 rfl ha rfl ⟨congrArg (fun z => Ending.returned (.int .i64 z)) (Option.some.inj h), hB12⟩)
  · have h := if_f hc13 h
    refine WP_skip_seq ?_
    refine WP_seq ?_
    refine WP_region ?_
    refine XL_q rfl (qt_assign rfl) rfl rfl ?_
    refine WL_nil_seq ?_
    refine WP_seq ?_
    refine WP_seq ?_
    refine WP_region ?_
    refine XL_q rfl (qt_move rfl) rfl rfl ?_
    refine XL_len u22 hm11 rfl rfl rfl ?_
    refine XL_q rfl (qt_move rfl) rfl rfl ?_
    refine WL_nil_seq ?_
    refine WP_block ?_
    obtain ⟨o16, ho17, h⟩ := bind_some h
    refine fun a18 ha19 => wp_loop_fix (I := fun s a w2 => match s with | (s14, s15) => (Fr a 42 [(2, .int .i64 p2), (7, .int .i64 s14), (25, vp1), (26, .int .i64 (List.length p1 : Int)), (27, .int .i64 s15)] ∧ Below w.heap.size w w2 ∧ Rep w2 (.slice (.int .i64)) [vp1] p1 Fp1)) (O := fun o e a w2 => match o with | q7 => e = .exit 0 ∧ (Fr a 42 [(7, .int .i64 q7)] ∧ Below w.heap.size w w2)) ho17 ?_ ?_ ?_
    · exact ⟨ha19.sub ⟨rfl, rfl, rfl, rfl, rfl, trivial⟩, hB12, hm11⟩
    · clear ha19
      intro s o22 a w20 hs21 hI23
      obtain ⟨s14, s15⟩ := s
      obtain ⟨ha, hB24, hm25⟩ := hI23
      refine WP.app ?_ ha
      clear ha
      refine WP_seq ?_
      refine WP_region ?_
      refine XL_q rfl (qt_lss rfl rfl) rfl rfl ?_
      refine WL_nil_seq ?_
      refine WP_seq ?_
      refine WP_cond rfl (fun hc26 => ?_) (fun hc26 => ?_)
      · have hs21 := if_t hc26 hs21
        refine WP_skip_seq ?_
        refine WP_seq ?_
        refine WP_block ?_
        refine WP_seq ?_
        refine WP_region ?_
        refine XL_q rfl (qt_move rfl) rfl rfl ?_
        obtain ⟨x27, hx28, hs21⟩ := bind_some hs21
        refine XL_index u22 i3 hm25 hx28 rfl rfl rfl rfl (fun b29 o30 F31 hat32 hsub33 hbm34 => ?_)
        refine XL_load_int u3 rfl hat32 rfl rfl rfl ?_
        refine XL_q rfl (qt_assign rfl) rfl rfl ?_
        refine XL_q rfl (qt_assign rfl) rfl rfl ?_
        refine WL_nil_seq ?_
        refine WP_seq ?_
        refine WP_region ?_
        refine XL_q rfl (qt_move rfl) rfl rfl ?_
        refine XL_q rfl (qt_move rfl) rfl rfl ?_
        obtain ⟨x35, hx36, hs21⟩ := bind_some hs21
        refine XL_q rfl (qt_shlO rfl rfl hx36) rfl rfl ?_
        refine XL_q rfl (qt_and rfl rfl) rfl rfl ?_
        refine XL_q rfl (qt_neq rfl rfl) rfl rfl ?_
        refine WL_nil_seq ?_
        refine WP_cond rfl (fun hc37 => ?_) (fun hc37 => ?_)
        · have hs21 := if_t hc37 hs21
          refine WP_region ?_
          refine XL_q rfl (qt_move rfl) rfl rfl ?_
          refine XL_q rfl (qt_move rfl) rfl rfl ?_
          refine XL_q rfl (qt_or rfl rfl) rfl rfl ?_
          refine XL_q rfl (qt_assign rfl) rfl rfl ?_
          refine WL_nil fun a ha => ?_
          refine nrm_block (nrm_seq (WP.app ?_ ha))
          refine WP_region ?_
          refine XL_q rfl (qt_add rfl rfl) rfl rfl ?_
          refine XL_q rfl (qt_move rfl) rfl rfl ?_
          refine WL_nil fun a ha => ?_
          obtain rfl := Option.some.inj hs21
          exact ⟨rfl, ⟨ha.sub ⟨rfl, rfl, rfl, rfl, rfl, trivial⟩, hB24, hm25⟩⟩
        · have hs21 := if_f hc37 hs21
          refine WP_skip fun a ha => ?_
          refine nrm_block (nrm_seq (WP.app ?_ ha))
          refine WP_region ?_
          refine XL_q rfl (qt_add rfl rfl) rfl rfl ?_
          refine XL_q rfl (qt_move rfl) rfl rfl ?_
          refine WL_nil fun a ha => ?_
          obtain rfl := Option.some.inj hs21
          exact ⟨rfl, ⟨ha.sub ⟨rfl, rfl, rfl, rfl, rfl, trivial⟩, hB24, hm25⟩⟩
      · have hs21 := if_f hc26 hs21
        refine WP_exit fun a ha => ?_
        obtain rfl := Option.some.inj hs21
        exact exit_seq (⟨exit_ne, rfl, ⟨ha.sub ⟨rfl, trivial⟩, hB24⟩⟩)
    · intro e a18 w38 hO39
      obtain ⟨p40, rfl⟩ : ∃ z, z = o16 := ⟨o16, rfl⟩
      obtain ⟨rfl, hO41⟩ := hO39
      obtain ⟨ha, hB42⟩ := hO41
      refine exit_block_eq (nrm_seq (WP.app ?_ ha))
      refine WP_seq ?_
      refine WP_region ?_
      refine XL_q rfl (qt_move rfl) rfl rfl ?_
      refine XL_q rfl (qt_assign rfl) rfl rfl ?_
      refine WL_nil_seq ?_
      refine WP_ret fun a ha => ?_
      exact ret1 rfl ha rfl ⟨congrArg (fun z => Ending.returned (.int .i64 z)) (Option.some.inj h), hB42⟩
theorem w_laws_FnExactFedBy (w : World) (p0 : Int) (vp1 : Value) (p1 : List Int) (Fp1 : List Nat) (hmp1 : Rep w (.slice (.int .i64)) [vp1] p1 Fp1) (p2 : Int) (r : Bool) (h : laws_FnExactFedByS p0 p1 p2 = some r) : Calls Try.prog 6 #[.int .i64 p0, vp1, .int .i64 p2] w fun e w' => e = .returned (.bool r) ∧ Below w.heap.size w w' := by
  refine calls_enter (args := [.int .i64 p0, vp1, .int .i64 p2]) (n := 32) Try.func6 rfl rfl rfl ?_
  unfold laws_FnExactFedByS at h
  refine WP_seq ?_
  refine WP_region ?_
  refine XL_q rfl (qt_assign rfl) rfl rfl ?_
  refine WL_nil_seq ?_
  refine WP_seq ?_
  refine WP_seq ?_
  refine WP_region ?_
  refine XL_q rfl (qt_move rfl) rfl rfl ?_
  refine XL_len u22 hmp1 rfl rfl rfl ?_
  refine XL_q rfl (qt_gtr rfl rfl) rfl rfl ?_
  refine WL_nil_seq ?_
  refine WP_cond rfl (fun hc1 => ?_) (fun hc1 => ?_)
  · have h := if_t hc1 h
    refine WP_seq ?_
    refine WP_region ?_
    refine XL_q rfl (qt_assign rfl) rfl rfl ?_
    refine WL_nil_seq ?_
    refine WP_ret fun a ha => ?_
    exact ret_seq (ret1 rfl ha rfl ⟨congrArg (fun z => Ending.returned (.bool z)) (Option.some.inj h), (Below.refl _ _)⟩)
  · have h := if_f hc1 h
    refine WP_skip_seq ?_
    refine WP_seq ?_
    refine WP_region ?_
    refine XL_q rfl (qt_move rfl) rfl rfl ?_
    refine XL_q rfl (qt_move rfl) rfl rfl ?_
    obtain ⟨x2, hx3, h⟩ := bind_some h
    refine WL_call rfl rfl c18 (w_laws_toIntS w vp1 p1 Fp1 hmp1 x2 hx3) (by rfl) ?_
    rintro _ w5 ⟨v4, F6, rfl, hm7, hf9, hb8⟩; refine ⟨_, rfl, ?_⟩
    have hl10 := lo_fresh (Below.refl _ _) hf9
    have hm11 := hmp1.below hb8
    have hB12 := bl_trans (Below.refl _ _) hb8
    have hd13 : Dj F6 Fp1 := dj_fresh hf9 hmp1.lt
    refine XL_q rfl (qt_move rfl) rfl rfl ?_
    obtain ⟨x14, hx15, h⟩ := bind_some h
    obtain ⟨F16, hr17, hs18⟩ := Own.rep hm7
    refine WL_call rfl rfl c25 (w_spec_FedBy w5 p0 v4 x2 F16 hr17 p2 x14 hx15) (by rfl) ?_
    rintro _ w19 ⟨rfl, hb20⟩; refine ⟨_, rfl, ?_⟩
    have hm21 := hm11.below hb20
    have hm22 := hm7.below hb20
    have hB23 := bl_trans hB12 hb20
    refine XL_q rfl (qt_assign rfl) rfl rfl ?_
    refine WL_nil_seq ?_
    refine WP_seq ?_
    refine WP_region ?_
    refine XL_q rfl (qt_move rfl) rfl rfl ?_
    obtain ⟨x24, hx25, h⟩ := bind_some h
    refine WL_call rfl rfl c18 (w_laws_toIntS w19 vp1 p1 Fp1 hm21 x24 hx25) (by rfl) ?_
    rintro _ w27 ⟨v26, F28, rfl, hm29, hf31, hb30⟩; refine ⟨_, rfl, ?_⟩
    have hl32 := lo_fresh hB23 hf31
    have hm33 := hm21.below hb30
    have hm34 := hm22.below hb30
    have hB35 := bl_trans hB23 hb30
    have hd36 : Dj F28 Fp1 := dj_fresh hf31 hm21.lt
    have hd37 : Dj F28 F6 := dj_fresh hf31 hm22.lt
    refine XL_q rfl (qt_assign rfl) rfl rfl ?_
    refine WL_nil_seq ?_
    refine WP_seq ?_
    refine WP_still ?_
    refine XL_q rfl (qt_move rfl) rfl rfl ?_
    refine XL_q rfl (qt_move rfl) rfl rfl ?_
    refine XL_q rfl (qt_move rfl) rfl rfl ?_
    obtain ⟨x38, hx39, h⟩ := bind_some h
    obtain ⟨F40, hr41, hs42⟩ := Own.rep hm29
    refine QL_call rfl rfl c26 (fun w' hb => w_impl_FedBy w' p0 v26 x24 F40 (hr41.below hb) p2 x38 hx39) (by rfl) ?_
    refine XL_q rfl (qt_assign rfl) rfl rfl ?_
    refine QL_nil fun a ha w43 hb44 => ?_
    have hm45 := hm33.below hb44
    have hm46 := hm29.below hb44
    have hB47 := bl_trans hB35 hb44
    refine nrm_seq (WP.app ?_ ha)
    refine WP_seq ?_
    refine WP_seq ?_
    refine WP_region ?_
    refine XL_q rfl (qt_move rfl) rfl rfl ?_
    refine XL_q rfl (qt_move rfl) rfl rfl ?_
    refine XL_q rfl (qt_neq rfl rfl) rfl rfl ?_
    refine WL_nil_seq ?_
    refine WP_cond rfl (fun hc48 => ?_) (fun hc48 => ?_)
    · have h := if_t hc48 h
      refine WP_seq ?_
      refine WP_region ?_
      refine XL_q rfl (qt_assign rfl) rfl rfl ?_
      refine WL_nil_seq ?_
      refine WP_ret fun a ha => ?_
      exact ret_seq (ret1 rfl ha rfl ⟨congrArg (fun z => Ending.returned (.bool z)) (Option.some.inj h), hB47⟩)
    · have h := if_f hc48 h
      refine WP_skip_seq ?_
      refine WP_seq ?_
      refine WP_seq ?_
      refine WP_region ?_
      refine XL_q rfl (qt_move rfl) rfl rfl ?_
      refine XL_q rfl (qt_move rfl) rfl rfl ?_
      obtain ⟨x49, hx50, h⟩ := bind_some h
      refine WL_call rfl rfl c18 (w_laws_toIntS w43 vp1 p1 Fp1 hm45 x49 hx50) (by rfl) ?_
      rintro _ w52 ⟨v51, F53, rfl, hm54, hf56, hb55⟩; refine ⟨_, rfl, ?_⟩
      have hl57 := lo_fresh hB47 hf56
      have hm58 := hm45.below hb55
      have hm59 := hm46.below hb55
      have hB60 := bl_trans hB47 hb55
      have hd61 : Dj F53 Fp1 := dj_fresh hf56 hm45.lt
      have hd62 : Dj F53 F28 := dj_fresh hf56 hm46.lt
      obtain ⟨x63, hx64, h⟩ := bind_some h
      obtain ⟨F65, hr66, hs67⟩ := Own.rep hm59
      obtain ⟨F68, hr69, hs70⟩ := Own.rep hm54
      refine WL_call rfl rfl c20 (w_laws_eqIntS w52 v26 x24 F65 hr66 v51 x49 F68 hr69 x63 hx64) (by rfl) ?_
      rintro _ w71 ⟨rfl, hb72⟩; refine ⟨_, rfl, ?_⟩
      have hm73 := hm58.below hb72
      have hm74 := hm59.below hb72
      have hm75 := hm54.below hb72
      have hB76 := bl_trans hB60 hb72
      refine XL_q rfl (qt_not rfl) rfl rfl ?_
      refine WL_nil_seq ?_
      refine WP_cond rfl (fun hc77 => ?_) (fun hc77 => ?_)
      · have h := if_t hc77 h
        refine WP_seq ?_
        refine WP_region ?_
        refine XL_q rfl (qt_assign rfl) rfl rfl ?_
        refine WL_nil_seq ?_
        refine WP_ret fun a ha => ?_
        exact ret_seq (ret1 rfl ha rfl ⟨congrArg (fun z => Ending.returned (.bool z)) (Option.some.inj h), hB76⟩)
      · have h := if_f hc77 h
        refine WP_skip_seq ?_
        refine WP_seq ?_
        refine WP_region ?_
        refine XL_q rfl (qt_assign rfl) rfl rfl ?_
        refine WL_nil_seq ?_
        refine WP_ret fun a ha => ?_
        exact ret1 rfl ha rfl ⟨congrArg (fun z => Ending.returned (.bool z)) (Option.some.inj h), hB76⟩
theorem w_spec_FeedsAll (w : World) (p0 : Int) (vp1 : Value) (p1 : List Int) (Fp1 : List Nat) (hmp1 : Rep w (.slice (.int .i64)) [vp1] p1 Fp1) (p2 : Int) (r : Bool) (h : spec_FeedsAllS p0 p1 p2 = some r) : Calls Try.prog 27 #[.int .i64 p0, vp1, .int .i64 p2] w fun e w' => e = .returned (.bool r) ∧ Below w.heap.size w w' := by
  refine calls_enter (args := [.int .i64 p0, vp1, .int .i64 p2]) (n := 22) Try.func27 rfl rfl rfl ?_
  unfold spec_FeedsAllS at h
  refine WP_seq ?_
  refine WP_region ?_
  refine XL_q rfl (qt_assign rfl) rfl rfl ?_
  refine WL_nil_seq ?_
  refine WP_seq ?_
  refine WP_quiet (by kernel_rfl) (by kernel_rfl) ?_
  refine XL_q rfl (qt_move rfl) rfl rfl ?_
  refine XL_q rfl (qt_move rfl) rfl rfl ?_
  refine XL_q rfl (qt_move rfl) rfl rfl ?_
  obtain ⟨x1, hx2, h⟩ := bind_some h
  refine QL_call rfl rfl c25 (fun w' hb => w_spec_FedBy w' p0 vp1 p1 Fp1 (hmp1.below hb) p2 x1 hx2) (by rfl) ?_
  refine XL_q rfl (qt_geq rfl rfl) rfl rfl ?_
  refine XL_q rfl (qt_move rfl) rfl rfl ?_
  obtain ⟨b3, hg4, h⟩ := bind_some h
  refine XL_join 9 21 (.bool b3) ?_ (fun md hmd hk => ?_)
  rotate_left
  · obtain ⟨K, rfl⟩ := Md.quiet_of hmd
    rcases btf (decide (x1 ≥ 0)) with hc5 | hc5
    · skip
      have hg4 := if_t hc5 hg4
      refine XL_q (w_take rfl hc5) (qt_move rfl) rfl rfl ?_
      refine XL_q (w_take rfl hc5) (qt_move rfl) rfl rfl ?_
      refine XL_q (w_take rfl hc5) (qt_move rfl) rfl rfl ?_
      obtain ⟨x6, hx7, hg4⟩ := bind_some hg4
      refine QL_call (w_take rfl hc5) rfl c25 (fun w' hb => w_spec_FedBy w' p0 vp1 p1 Fp1 (hmp1.below hb) p2 x6 hx7) (by rfl) ?_
      refine XL_q (w_take rfl hc5) (qt_move rfl) rfl rfl ?_
      obtain ⟨x8, hx9, hg4⟩ := bind_some hg4
      refine XL_q (w_take rfl hc5) (qt_shlO rfl rfl hx9) rfl rfl ?_
      refine XL_q (w_take rfl hc5) (qt_sub rfl rfl) rfl rfl ?_
      refine XL_q (w_take rfl hc5) (qt_eql rfl rfl) rfl rfl ?_
      refine XL_q rfl (qt_pickT rfl hc5 rfl) rfl rfl ?_
      exact hk _ (Cov.same (vb hg4) (Cov.fresh rfl (Cov.fresh rfl (Cov.fresh rfl (Cov.fresh rfl (Cov.fresh rfl (Cov.fresh rfl (Cov.fresh rfl (Cov.fresh rfl (Cov.refl))))))))))
    · skip
      refine XL_skip (w_skip rfl hc5) rfl rfl ?_
      refine XL_skip (w_skip rfl hc5) rfl rfl ?_
      refine XL_skip (w_skip rfl hc5) rfl rfl ?_
      refine XL_skip (w_skip rfl hc5) rfl rfl ?_
      refine XL_skip (w_skip rfl hc5) rfl rfl ?_
      refine XL_skip (w_skip rfl hc5) rfl rfl ?_
      refine XL_skip (w_skip rfl hc5) rfl rfl ?_
      refine XL_skip (w_skip rfl hc5) rfl rfl ?_
      refine XL_q rfl (qt_pickF rfl hc5 rfl) rfl rfl ?_
      exact hk _ (Cov.same (vb (if_f hc5 hg4)) (Cov.fresh rfl (Cov.fresh rfl (Cov.fresh rfl (Cov.fresh rfl (Cov.fresh rfl (Cov.fresh rfl (Cov.fresh rfl (Cov.fresh rfl (Cov.refl))))))))))
  refine XL_q rfl (qt_assign rfl) rfl rfl ?_
  refine QL_nil fun a ha w10 hb11 => ?_
  have hB12 := bl_trans (Below.refl _ _) hb11
  refine nrm_seq (WP.app ?_ ha)
  refine WP_ret fun a ha => ?_
  exact ret1 rfl ha rfl ⟨congrArg (fun z => Ending.returned (.bool z)) (Option.some.inj h), hB12⟩
theorem w_impl_FeedsAll (w : World) (p0 : Int) (vp1 : Value) (p1 : List Int) (Fp1 : List Nat) (hmp1 : Rep w (.slice (.int .i64)) [vp1] p1 Fp1) (p2 : Int) (r : Bool) (h : impl_FeedsAllS p0 p1 p2 = some r) : Calls Try.prog 28 #[.int .i64 p0, vp1, .int .i64 p2] w fun e w' => e = .returned (.bool r) ∧ Below w.heap.size w w' := by
  refine calls_enter (args := [.int .i64 p0, vp1, .int .i64 p2]) (n := 19) Try.func28 rfl rfl rfl ?_
  unfold impl_FeedsAllS at h
  refine WP_seq ?_
  refine WP_region ?_
  refine XL_q rfl (qt_assign rfl) rfl rfl ?_
  refine WL_nil_seq ?_
  refine WP_seq ?_
  refine WP_still ?_
  refine XL_q rfl (qt_move rfl) rfl rfl ?_
  refine XL_q rfl (qt_move rfl) rfl rfl ?_
  obtain ⟨x1, hx2, h⟩ := bind_some h
  refine QL_call rfl rfl c19 (fun w' hb => w_impl_MenuValid w' p0 vp1 p1 Fp1 (hmp1.below hb) x1 hx2) (by rfl) ?_
  refine XL_q rfl (qt_move rfl) rfl rfl ?_
  obtain ⟨b3, hg4, h⟩ := bind_some h
  refine XL_join 8 18 (.bool b3) ?_ (fun md hmd hk => ?_)
  rotate_left
  · obtain ⟨K, rfl⟩ := Md.quiet_of hmd
    rcases btf x1 with hc5 | hc5
    · skip
      have hg4 := if_t hc5 hg4
      refine XL_q (w_take rfl hc5) (qt_move rfl) rfl rfl ?_
      refine XL_q (w_take rfl hc5) (qt_move rfl) rfl rfl ?_
      refine XL_q (w_take rfl hc5) (qt_move rfl) rfl rfl ?_
      obtain ⟨x6, hx7, hg4⟩ := bind_some hg4
      refine QL_call (w_take rfl hc5) rfl c26 (fun w' hb => w_impl_FedBy w' p0 vp1 p1 Fp1 (hmp1.below hb) p2 x6 hx7) (by rfl) ?_
      refine XL_q (w_take rfl hc5) (qt_move rfl) rfl rfl ?_
      obtain ⟨x8, hx9, hg4⟩ := bind_some hg4
      refine QL_call (w_take rfl hc5) rfl c51 (fun w' hb => w_impl_everybody w' p0 x8 hx9) (by rfl) ?_
      refine XL_q (w_take rfl hc5) (qt_eql rfl rfl) rfl rfl ?_
      refine XL_q rfl (qt_pickT rfl hc5 rfl) rfl rfl ?_
      exact hk _ (Cov.same (vb hg4) (Cov.fresh rfl (Cov.fresh rfl (Cov.fresh rfl (Cov.fresh rfl (Cov.fresh rfl (Cov.fresh rfl (Cov.fresh rfl (Cov.refl)))))))))
    · skip
      refine XL_skip (w_skip rfl hc5) rfl rfl ?_
      refine XL_skip (w_skip rfl hc5) rfl rfl ?_
      refine XL_skip (w_skip rfl hc5) rfl rfl ?_
      refine XL_skip (w_skip rfl hc5) rfl rfl ?_
      refine XL_skip (w_skip rfl hc5) rfl rfl ?_
      refine XL_skip (w_skip rfl hc5) rfl rfl ?_
      refine XL_skip (w_skip rfl hc5) rfl rfl ?_
      refine XL_q rfl (qt_pickF rfl hc5 rfl) rfl rfl ?_
      exact hk _ (Cov.same (vb (if_f hc5 hg4)) (Cov.fresh rfl (Cov.fresh rfl (Cov.fresh rfl (Cov.fresh rfl (Cov.fresh rfl (Cov.fresh rfl (Cov.fresh rfl (Cov.refl)))))))))
  refine XL_q rfl (qt_assign rfl) rfl rfl ?_
  refine QL_nil fun a ha w10 hb11 => ?_
  have hB12 := bl_trans (Below.refl _ _) hb11
  refine nrm_seq (WP.app ?_ ha)
  refine WP_ret fun a ha => ?_
  exact ret1 rfl ha rfl ⟨congrArg (fun z => Ending.returned (.bool z)) (Option.some.inj h), hB12⟩
theorem w_laws_FnExactFeedsAll (w : World) (p0 : Int) (vp1 : Value) (p1 : List Int) (Fp1 : List Nat) (hmp1 : Rep w (.slice (.int .i64)) [vp1] p1 Fp1) (p2 : Int) (r : Bool) (h : laws_FnExactFeedsAllS p0 p1 p2 = some r) : Calls Try.prog 7 #[.int .i64 p0, vp1, .int .i64 p2] w fun e w' => e = .returned (.bool r) ∧ Below w.heap.size w w' := by
  refine calls_enter (args := [.int .i64 p0, vp1, .int .i64 p2]) (n := 32) Try.func7 rfl rfl rfl ?_
  unfold laws_FnExactFeedsAllS at h
  refine WP_seq ?_
  refine WP_region ?_
  refine XL_q rfl (qt_assign rfl) rfl rfl ?_
  refine WL_nil_seq ?_
  refine WP_seq ?_
  refine WP_seq ?_
  refine WP_region ?_
  refine XL_q rfl (qt_move rfl) rfl rfl ?_
  refine XL_len u22 hmp1 rfl rfl rfl ?_
  refine XL_q rfl (qt_gtr rfl rfl) rfl rfl ?_
  refine WL_nil_seq ?_
  refine WP_cond rfl (fun hc1 => ?_) (fun hc1 => ?_)
  · have h := if_t hc1 h
    refine WP_seq ?_
    refine WP_region ?_
    refine XL_q rfl (qt_assign rfl) rfl rfl ?_
    refine WL_nil_seq ?_
    refine WP_ret fun a ha => ?_
    exact ret_seq (ret1 rfl ha rfl ⟨congrArg (fun z => Ending.returned (.bool z)) (Option.some.inj h), (Below.refl _ _)⟩)
  · have h := if_f hc1 h
    refine WP_skip_seq ?_
    refine WP_seq ?_
    refine WP_region ?_
    refine XL_q rfl (qt_move rfl) rfl rfl ?_
    refine XL_q rfl (qt_move rfl) rfl rfl ?_
    obtain ⟨x2, hx3, h⟩ := bind_some h
    refine WL_call rfl rfl c18 (w_laws_toIntS w vp1 p1 Fp1 hmp1 x2 hx3) (by rfl) ?_
    rintro _ w5 ⟨v4, F6, rfl, hm7, hf9, hb8⟩; refine ⟨_, rfl, ?_⟩
    have hl10 := lo_fresh (Below.refl _ _) hf9
    have hm11 := hmp1.below hb8
    have hB12 := bl_trans (Below.refl _ _) hb8
    have hd13 : Dj F6 Fp1 := dj_fresh hf9 hmp1.lt
    refine XL_q rfl (qt_move rfl) rfl rfl ?_
    obtain ⟨x14, hx15, h⟩ := bind_some h
    obtain ⟨F16, hr17, hs18⟩ := Own.rep hm7
    refine WL_call rfl rfl c27 (w_spec_FeedsAll w5 p0 v4 x2 F16 hr17 p2 x14 hx15) (by rfl) ?_
    rintro _ w19 ⟨rfl, hb20⟩; refine ⟨_, rfl, ?_⟩
    have hm21 := hm11.below hb20
    have hm22 := hm7.below hb20
    have hB23 := bl_trans hB12 hb20
    refine XL_q rfl (qt_assign rfl) rfl rfl ?_
    refine WL_nil_seq ?_
    refine WP_seq ?_
    refine WP_region ?_
    refine XL_q rfl (qt_move rfl) rfl rfl ?_
    obtain ⟨x24, hx25, h⟩ := bind_some h
    refine WL_call rfl rfl c18 (w_laws_toIntS w19 vp1 p1 Fp1 hm21 x24 hx25) (by rfl) ?_
    rintro _ w27 ⟨v26, F28, rfl, hm29, hf31, hb30⟩; refine ⟨_, rfl, ?_⟩
    have hl32 := lo_fresh hB23 hf31
    have hm33 := hm21.below hb30
    have hm34 := hm22.below hb30
    have hB35 := bl_trans hB23 hb30
    have hd36 : Dj F28 Fp1 := dj_fresh hf31 hm21.lt
    have hd37 : Dj F28 F6 := dj_fresh hf31 hm22.lt
    refine XL_q rfl (qt_assign rfl) rfl rfl ?_
    refine WL_nil_seq ?_
    refine WP_seq ?_
    refine WP_still ?_
    refine XL_q rfl (qt_move rfl) rfl rfl ?_
    refine XL_q rfl (qt_move rfl) rfl rfl ?_
    refine XL_q rfl (qt_move rfl) rfl rfl ?_
    obtain ⟨x38, hx39, h⟩ := bind_some h
    obtain ⟨F40, hr41, hs42⟩ := Own.rep hm29
    refine QL_call rfl rfl c28 (fun w' hb => w_impl_FeedsAll w' p0 v26 x24 F40 (hr41.below hb) p2 x38 hx39) (by rfl) ?_
    refine XL_q rfl (qt_assign rfl) rfl rfl ?_
    refine QL_nil fun a ha w43 hb44 => ?_
    have hm45 := hm33.below hb44
    have hm46 := hm29.below hb44
    have hB47 := bl_trans hB35 hb44
    refine nrm_seq (WP.app ?_ ha)
    refine WP_seq ?_
    refine WP_seq ?_
    refine WP_region ?_
    refine XL_q rfl (qt_move rfl) rfl rfl ?_
    refine XL_q rfl (qt_move rfl) rfl rfl ?_
    refine XL_q rfl (qt_bneq u4 rfl rfl) rfl rfl ?_
    refine WL_nil_seq ?_
    refine WP_cond rfl (fun hc48 => ?_) (fun hc48 => ?_)
    · have h := if_t hc48 h
      refine WP_seq ?_
      refine WP_region ?_
      refine XL_q rfl (qt_assign rfl) rfl rfl ?_
      refine WL_nil_seq ?_
      refine WP_ret fun a ha => ?_
      exact ret_seq (ret1 rfl ha rfl ⟨congrArg (fun z => Ending.returned (.bool z)) (Option.some.inj h), hB47⟩)
    · have h := if_f hc48 h
      refine WP_skip_seq ?_
      refine WP_seq ?_
      refine WP_seq ?_
      refine WP_region ?_
      refine XL_q rfl (qt_move rfl) rfl rfl ?_
      refine XL_q rfl (qt_move rfl) rfl rfl ?_
      obtain ⟨x49, hx50, h⟩ := bind_some h
      refine WL_call rfl rfl c18 (w_laws_toIntS w43 vp1 p1 Fp1 hm45 x49 hx50) (by rfl) ?_
      rintro _ w52 ⟨v51, F53, rfl, hm54, hf56, hb55⟩; refine ⟨_, rfl, ?_⟩
      have hl57 := lo_fresh hB47 hf56
      have hm58 := hm45.below hb55
      have hm59 := hm46.below hb55
      have hB60 := bl_trans hB47 hb55
      have hd61 : Dj F53 Fp1 := dj_fresh hf56 hm45.lt
      have hd62 : Dj F53 F28 := dj_fresh hf56 hm46.lt
      obtain ⟨x63, hx64, h⟩ := bind_some h
      obtain ⟨F65, hr66, hs67⟩ := Own.rep hm59
      obtain ⟨F68, hr69, hs70⟩ := Own.rep hm54
      refine WL_call rfl rfl c20 (w_laws_eqIntS w52 v26 x24 F65 hr66 v51 x49 F68 hr69 x63 hx64) (by rfl) ?_
      rintro _ w71 ⟨rfl, hb72⟩; refine ⟨_, rfl, ?_⟩
      have hm73 := hm58.below hb72
      have hm74 := hm59.below hb72
      have hm75 := hm54.below hb72
      have hB76 := bl_trans hB60 hb72
      refine XL_q rfl (qt_not rfl) rfl rfl ?_
      refine WL_nil_seq ?_
      refine WP_cond rfl (fun hc77 => ?_) (fun hc77 => ?_)
      · have h := if_t hc77 h
        refine WP_seq ?_
        refine WP_region ?_
        refine XL_q rfl (qt_assign rfl) rfl rfl ?_
        refine WL_nil_seq ?_
        refine WP_ret fun a ha => ?_
        exact ret_seq (ret1 rfl ha rfl ⟨congrArg (fun z => Ending.returned (.bool z)) (Option.some.inj h), hB76⟩)
      · have h := if_f hc77 h
        refine WP_skip_seq ?_
        refine WP_seq ?_
        refine WP_region ?_
        refine XL_q rfl (qt_assign rfl) rfl rfl ?_
        refine WL_nil_seq ?_
        refine WP_ret fun a ha => ?_
        exact ret1 rfl ha rfl ⟨congrArg (fun z => Ending.returned (.bool z)) (Option.some.inj h), hB76⟩
theorem w_spec_SeatsOk (w : World) (p0 : Int) (vp1 : Value) (p1 : List Int) (Fp1 : List Nat) (hmp1 : Rep w (.slice (.int .i64)) [vp1] p1 Fp1) (vp2 : Value) (p2 : List Int) (Fp2 : List Nat) (hmp2 : Rep w (.slice (.int .i64)) [vp2] p2 Fp2) (r : Bool) (h : spec_SeatsOkS p0 p1 p2 = some r) : Calls Try.prog 29 #[.int .i64 p0, vp1, vp2] w fun e w' => e = .returned (.bool r) ∧ Below w.heap.size w w' := by
  refine calls_enter (args := [.int .i64 p0, vp1, vp2]) (n := 56) Try.func29 rfl rfl rfl ?_
  unfold spec_SeatsOkS at h
  refine WP_seq ?_
  refine WP_region ?_
  refine XL_q rfl (qt_assign rfl) rfl rfl ?_
  refine WL_nil_seq ?_
  refine WP_seq ?_
  refine WP_seq ?_
  refine WP_still ?_
  refine XL_q rfl (qt_move rfl) rfl rfl ?_
  refine XL_q rfl (qt_move rfl) rfl rfl ?_
  obtain ⟨x1, hx2, h⟩ := bind_some h
  refine QL_call rfl rfl c23 (fun w' hb => w_spec_QuarrelsValid w' p0 vp1 p1 Fp1 (hmp1.below hb) x1 hx2) (by rfl) ?_
  refine XL_q rfl (qt_not rfl) rfl rfl ?_
  refine XL_q rfl (qt_move rfl) rfl rfl ?_
  refine XL_join 5 18 (.bool ((!x1) || ((List.length p2 : Int) != p0))) ?_ (fun md hmd hk => ?_)
  rotate_left
  · obtain ⟨K, rfl⟩ := Md.quiet_of hmd
    rcases btf (!x1) with hc3 | hc3
    · skip
      refine XL_skip (w_skip rfl hc3) rfl rfl ?_
      refine XL_skip (w_skip rfl hc3) rfl rfl ?_
      refine XL_skip (w_skip rfl hc3) rfl rfl ?_
      refine XL_skip (w_skip rfl hc3) rfl rfl ?_
      refine XL_q rfl (qt_pickT rfl hc3 rfl) rfl rfl ?_
      exact hk _ (Cov.same (by rw [hc3]; rfl) (Cov.fresh rfl (Cov.fresh rfl (Cov.fresh rfl (Cov.fresh rfl (Cov.refl))))))
    · skip
      refine XL_q (w_take rfl hc3) (qt_move rfl) rfl rfl ?_
      refine XL_len u22 hmp2 (w_take rfl hc3) rfl rfl ?_
      refine XL_q (w_take rfl hc3) (qt_move rfl) rfl rfl ?_
      refine XL_q (w_take rfl hc3) (qt_neq rfl rfl) rfl rfl ?_
      refine XL_q rfl (qt_pickF rfl hc3 rfl) rfl rfl ?_
      exact hk _ (Cov.same (by rw [hc3]; rfl) (Cov.fresh rfl (Cov.fresh rfl (Cov.fresh rfl (Cov.fresh rfl (Cov.refl))))))
  refine QL_nil fun a ha w4 hb5 => ?_
  have hm6 := hmp1.below hb5
  have hm7 := hmp2.below hb5
  have hB8 := bl_trans (Below.refl _ _) hb5
  refine nrm_seq (WP.app ?_ ha)
  refine WP_cond rfl (fun hc9 => ?_) (fun hc9 => ?_)
  · have h := if_t hc9 h
    refine WP_seq ?_
    refine WP_region ?_
    refine XL_q rfl (qt_assign rfl) rfl rfl ?_
    refine WL_nil_seq ?_
    refine WP_ret fun a ha => ?_
    exact ret_seq (ret1 rfl ha rfl ⟨congrArg (fun z => Ending.returned (.bool z)) (Option.some.inj h), hB8⟩)
  · have h := if_f hc9 h
    refine WP_skip_seq ?_
    refine WP_seq ?_
    refine WP_seq ?_
    refine WP_region ?_
    refine XL_q rfl (qt_assign rfl) rfl rfl ?_
    refine WL_nil_seq ?_
    refine WP_block ?_
    obtain ⟨o11, ho12, h⟩ := bind_some h
    refine fun a13 ha14 => wp_loop_fix (I := fun s a w2 => match s with | s10 => (Fr a 56 [(0, .int .i64 p0), (1, vp1), (2, vp2), (7, .int .i64 s10)] ∧ Below w.heap.size w w2 ∧ Rep w2 (.slice (.int .i64)) [vp1] p1 Fp1 ∧ Rep w2 (.slice (.int .i64)) [vp2] p2 Fp2)) (O := fun o e a w2 => match o with | .inl _ => e = .exit 0 ∧ (Fr a 56 [] ∧ Below w.heap.size w w2) | .inr q6 => e = .ret ∧ (Fr a 56 [(6, .bool q6)] ∧ Below w.heap.size w w2)) ho12 ?_ ?_ ?_
    · exact ⟨ha14.sub ⟨rfl, rfl, rfl, rfl, trivial⟩, hB8, hm6, hm7⟩
    · clear ha14
      intro s o17 a w15 hs16 hI18
      obtain ⟨s10, rfl⟩ : ∃ z, z = s := ⟨s, rfl⟩
      obtain ⟨ha, hB19, hm20, hm21⟩ := hI18
      refine WP.app ?_ ha
      clear ha
      refine WP_seq ?_
      refine WP_seq ?_
      refine WP_region ?_
      refine XL_q rfl (qt_move rfl) rfl rfl ?_
      refine XL_q rfl (qt_move rfl) rfl rfl ?_
      refine XL_q rfl (qt_lss rfl rfl) rfl rfl ?_
      refine WL_nil_seq ?_
      refine WP_cond rfl (fun hc22 => ?_) (fun hc22 => ?_)
      · have hs16 := if_t hc22 hs16
        refine WP_skip_seq ?_
        refine WP_seq ?_
        refine WP_block ?_
        refine WP_seq ?_
        refine WP_seq ?_
        refine WP_still ?_
        refine XL_q rfl (qt_move rfl) rfl rfl ?_
        refine XL_q rfl (qt_move rfl) rfl rfl ?_
        obtain ⟨x23, hx24, hs16⟩ := bind_some hs16
        refine XL_index u22 i3 hm21 hx24 rfl rfl rfl rfl (fun b25 o26 F27 hat28 hsub29 hbm30 => ?_)
        refine XL_load_int u3 rfl hat28 rfl rfl rfl ?_
        refine XL_q rfl (qt_move rfl) rfl rfl ?_
        refine XL_q rfl (qt_sub rfl rfl) rfl rfl ?_
        obtain ⟨x31, hx32, hs16⟩ := bind_some hs16
        refine QL_call rfl rfl c49 (fun w' hb => w_spec_l1In w' x23 0 (IntKind.wrap .i64 (p0 - 1)) x31 hx32) (by rfl) ?_
        refine XL_q rfl (qt_not rfl) rfl rfl ?_
        refine QL_nil fun a ha w33 hb34 => ?_
        have hm35 := hm20.below hb34
        have hm36 := hm21.below hb34
        have hB37 := bl_trans hB19 hb34
        refine nrm_seq (WP.app ?_ ha)
        refine WP_cond rfl (fun hc38 => ?_) (fun hc38 => ?_)
        · have hs16 := if_t hc38 hs16
          refine WP_seq ?_
          refine WP_region ?_
          refine XL_q rfl (qt_assign rfl) rfl rfl ?_
          refine WL_nil_seq ?_
          refine WP_ret fun a ha => ?_
          obtain rfl := Option.some.inj hs16
          exact ret_seq (ret_block (ret_seq (⟨ret_ne, rfl, ⟨ha.sub ⟨rfl, trivial⟩, hB37⟩⟩)))
        · have hs16 := if_f hc38 hs16
          refine WP_skip_seq ?_
          refine WP_seq ?_
          refine WP_region ?_
          refine XL_q rfl (qt_assign rfl) rfl rfl ?_
          refine WL_nil_seq ?_
          refine WP_block ?_
          obtain ⟨o40, ho41, hs16⟩ := bind_some hs16
          refine fun a42 ha43 => wp_loop_fix (I := fun s a w2 => match s with | s39 => (Fr a 56 [(0, .int .i64 p0), (1, vp1), (2, vp2), (7, .int .i64 s10), (8, .int .i64 s39)] ∧ Below w.heap.size w w2 ∧ Rep w2 (.slice (.int .i64)) [vp1] p1 Fp1 ∧ Rep w2 (.slice (.int .i64)) [vp2] p2 Fp2)) (O := fun o e a w2 => match o with | .inl _ => e = .exit 2 ∧ (Fr a 56 [(0, .int .i64 p0), (1, vp1), (2, vp2), (7, .int .i64 s10)] ∧ Below w.heap.size w w2 ∧ Rep w2 (.slice (.int .i64)) [vp1] p1 Fp1 ∧ Rep w2 (.slice (.int .i64)) [vp2] p2 Fp2) | .inr q6 => e = .ret ∧ (Fr a 56 [(6, .bool q6)] ∧ Below w.heap.size w w2)) ho41 ?_ ?_ ?_
          · exact ⟨ha43.sub ⟨rfl, rfl, rfl, rfl, rfl, trivial⟩, hB37, hm35, hm36⟩
          · clear ha43
            intro s o46 a w44 hs45 hI47
            obtain ⟨s39, rfl⟩ : ∃ z, z = s := ⟨s, rfl⟩
            obtain ⟨ha, hB48, hm49, hm50⟩ := hI47
            refine WP.app ?_ ha
            clear ha
            refine WP_seq ?_
            refine WP_seq ?_
            refine WP_region ?_
            refine XL_q rfl (qt_move rfl) rfl rfl ?_
            refine XL_q rfl (qt_move rfl) rfl rfl ?_
            refine XL_q rfl (qt_lss rfl rfl) rfl rfl ?_
            refine WL_nil_seq ?_
            refine WP_cond rfl (fun hc51 => ?_) (fun hc51 => ?_)
            · have hs45 := if_t hc51 hs45
              refine WP_skip_seq ?_
              refine WP_seq ?_
              refine WP_block ?_
              refine WP_seq ?_
              refine WP_quiet (by kernel_rfl) (by kernel_rfl) ?_
              refine XL_q rfl (qt_move rfl) rfl rfl ?_
              refine XL_q rfl (qt_move rfl) rfl rfl ?_
              obtain ⟨x52, hx53, hs45⟩ := bind_some hs45
              refine XL_index u22 i3 hm49 hx53 rfl rfl rfl rfl (fun b54 o55 F56 hat57 hsub58 hbm59 => ?_)
              refine XL_load_int u3 rfl hat57 rfl rfl rfl ?_
              refine XL_q rfl (qt_move rfl) rfl rfl ?_
              obtain ⟨x60, hx61, hs45⟩ := bind_some hs45
              refine XL_q rfl (qt_shrO rfl rfl hx61) rfl rfl ?_
              refine XL_q rfl (qt_rem rfl rfl (by decide)) rfl rfl ?_
              refine XL_q rfl (qt_eql rfl rfl) rfl rfl ?_
              refine XL_q rfl (qt_move rfl) rfl rfl ?_
              obtain ⟨b62, hg63, hs45⟩ := bind_some hs45
              refine XL_join 10 55 (.bool b62) ?_ (fun md hmd hk => ?_)
              rotate_left
              · obtain ⟨K, rfl⟩ := Md.quiet_of hmd
                rcases btf ((Int.tmod x60 2) == 1) with hc64 | hc64
                · skip
                  have hg63 := if_t hc64 hg63
                  refine XL_q (w_take rfl hc64) (qt_move rfl) rfl rfl ?_
                  refine XL_q (w_take rfl hc64) (qt_move rfl) rfl rfl ?_
                  obtain ⟨x65, hx66, hg63⟩ := bind_some hg63
                  refine XL_index u22 i3 hm50 hx66 (w_take rfl hc64) rfl rfl rfl (fun b67 o68 F69 hat70 hsub71 hbm72 => ?_)
                  refine XL_load_int u3 rfl hat70 (w_take rfl hc64) rfl rfl ?_
                  refine XL_q (w_take rfl hc64) (qt_move rfl) rfl rfl ?_
                  refine XL_q (w_take rfl hc64) (qt_move rfl) rfl rfl ?_
                  obtain ⟨x73, hx74, hg63⟩ := bind_some hg63
                  refine XL_index u22 i3 hm50 hx74 (w_take rfl hc64) rfl rfl rfl (fun b75 o76 F77 hat78 hsub79 hbm80 => ?_)
                  refine XL_load_int u3 rfl hat78 (w_take rfl hc64) rfl rfl ?_
                  refine XL_q (w_take rfl hc64) (qt_eql rfl rfl) rfl rfl ?_
                  refine XL_q rfl (qt_pickT rfl hc64 rfl) rfl rfl ?_
                  exact hk _ (Cov.same (vb hg63) (Cov.fresh rfl (Cov.fresh rfl (Cov.fresh rfl (Cov.fresh rfl (Cov.fresh rfl (Cov.fresh rfl (Cov.fresh rfl (Cov.fresh rfl (Cov.fresh rfl (Cov.refl)))))))))))
                · skip
                  refine XL_skip (w_skip rfl hc64) rfl rfl ?_
                  refine XL_skip (w_skip rfl hc64) rfl rfl ?_
                  refine XL_skip (w_skip rfl hc64) rfl rfl ?_
                  refine XL_skip (w_skip rfl hc64) rfl rfl ?_
                  refine XL_skip (w_skip rfl hc64) rfl rfl ?_
                  refine XL_skip (w_skip rfl hc64) rfl rfl ?_
                  refine XL_skip (w_skip rfl hc64) rfl rfl ?_
                  refine XL_skip (w_skip rfl hc64) rfl rfl ?_
                  refine XL_skip (w_skip rfl hc64) rfl rfl ?_
                  refine XL_q rfl (qt_pickF rfl hc64 rfl) rfl rfl ?_
                  exact hk _ (Cov.same (vb (if_f hc64 hg63)) (Cov.fresh rfl (Cov.fresh rfl (Cov.fresh rfl (Cov.fresh rfl (Cov.fresh rfl (Cov.fresh rfl (Cov.fresh rfl (Cov.fresh rfl (Cov.fresh rfl (Cov.refl)))))))))))
              refine QL_nil fun a ha w81 hb82 => ?_
              have hm83 := hm49.below hb82
              have hm84 := hm50.below hb82
              have hB85 := bl_trans hB48 hb82
              refine nrm_seq (WP.app ?_ ha)
              refine WP_cond rfl (fun hc86 => ?_) (fun hc86 => ?_)
              · have hs45 := if_t hc86 hs45
                refine WP_seq ?_
                refine WP_region ?_
                refine XL_q rfl (qt_assign rfl) rfl rfl ?_
                refine WL_nil_seq ?_
                refine WP_ret fun a ha => ?_
                obtain rfl := Option.some.inj hs45
                exact ret_block (ret_seq (⟨ret_ne, rfl, ⟨ha.sub ⟨rfl, trivial⟩, hB85⟩⟩))
              · have hs45 := if_f hc86 hs45
                refine WP_skip fun a ha => ?_
                refine nrm_block (nrm_seq (WP.app ?_ ha))
                refine WP_region ?_
                refine XL_q rfl (qt_move rfl) rfl rfl ?_
                refine XL_q rfl (qt_add rfl rfl) rfl rfl ?_
                refine XL_q rfl (qt_assign rfl) rfl rfl ?_
                refine WL_nil fun a ha => ?_
                obtain rfl := Option.some.inj hs45
                exact ⟨rfl, ⟨ha.sub ⟨rfl, rfl, rfl, rfl, rfl, trivial⟩, hB85, hm83, hm84⟩⟩
            · have hs45 := if_f hc51 hs45
              refine WP_exit fun a ha => ?_
              obtain rfl := Option.some.inj hs45
              exact exit_seq (⟨exit_ne, rfl, ⟨ha.sub ⟨rfl, rfl, rfl, rfl, trivial⟩, hB48, hm49, hm50⟩⟩)
          · intro e a42 w87 hO88
            rcases o40 with o40 | o40
            · skip
              obtain ⟨rfl, hO89⟩ := hO88
              obtain ⟨ha, hB90, hm91, hm92⟩ := hO89
              refine exit_block_eq (nrm_block (nrm_seq (WP.app ?_ ha)))
              refine WP_region ?_
              refine XL_q rfl (qt_move rfl) rfl rfl ?_
              refine XL_q rfl (qt_add rfl rfl) rfl rfl ?_
              refine XL_q rfl (qt_assign rfl) rfl rfl ?_
              refine WL_nil fun a ha => ?_
              obtain rfl := Option.some.inj hs16
              exact ⟨rfl, ⟨ha.sub ⟨rfl, rfl, rfl, rfl, trivial⟩, hB90, hm91, hm92⟩⟩
            · skip
              obtain ⟨p93, rfl⟩ : ∃ z, z = o40 := ⟨o40, rfl⟩
              obtain ⟨rfl, hO94⟩ := hO88
              obtain ⟨ha, hB95⟩ := hO94
              obtain rfl := Option.some.inj hs16
              exact ret_block (ret_block (ret_seq (⟨ret_ne, rfl, ⟨ha.sub ⟨rfl, trivial⟩, hB95⟩⟩)))
      · have hs16 := if_f hc22 hs16
        refine WP_exit fun a ha => ?_
        obtain rfl := Option.some.inj hs16
        exact exit_seq (⟨exit_ne, rfl, ⟨ha.sub trivial, hB19⟩⟩)
    · intro e a13 w96 hO97
      rcases o11 with o11 | o11
      · skip
        obtain ⟨rfl, hO98⟩ := hO97
        obtain ⟨ha, hB99⟩ := hO98
        refine exit_block_eq (nrm_seq (WP.app ?_ ha))
        refine WP_seq ?_
        refine WP_region ?_
        refine XL_q rfl (qt_assign rfl) rfl rfl ?_
        refine WL_nil_seq ?_
        refine WP_ret fun a ha => ?_
        exact ret1 rfl ha rfl ⟨congrArg (fun z => Ending.returned (.bool z)) (Option.some.inj h), hB99⟩
      · skip
        obtain ⟨p100, rfl⟩ : ∃ z, z = o11 := ⟨o11, rfl⟩
        obtain ⟨rfl, hO101⟩ := hO97
        obtain ⟨ha, hB102⟩ := hO101
        exact ret_block (ret_seq (ret1 rfl ha rfl ⟨congrArg (fun z => Ending.returned (.bool z)) (Option.some.inj h), hB102⟩))
theorem w_impl_SeatsOk (w : World) (p0 : Int) (vp1 : Value) (p1 : List Int) (Fp1 : List Nat) (hmp1 : Rep w (.slice (.int .i64)) [vp1] p1 Fp1) (vp2 : Value) (p2 : List Int) (Fp2 : List Nat) (hmp2 : Rep w (.slice (.int .i64)) [vp2] p2 Fp2) (r : Bool) (h : impl_SeatsOkS p0 p1 p2 = some r) : Calls Try.prog 30 #[.int .i64 p0, vp1, vp2] w fun e w' => e = .returned (.bool r) ∧ Below w.heap.size w w' := by
  refine calls_enter (args := [.int .i64 p0, vp1, vp2]) (n := 48) Try.func30 rfl rfl rfl ?_
  unfold impl_SeatsOkS at h
  refine WP_seq ?_
  refine WP_region ?_
  refine XL_q rfl (qt_assign rfl) rfl rfl ?_
  refine WL_nil_seq ?_
  refine WP_seq ?_
  refine WP_seq ?_
  refine WP_still ?_
  refine XL_q rfl (qt_move rfl) rfl rfl ?_
  refine XL_q rfl (qt_move rfl) rfl rfl ?_
  obtain ⟨x1, hx2, h⟩ := bind_some h
  refine QL_call rfl rfl c24 (fun w' hb => w_impl_QuarrelsValid w' p0 vp1 p1 Fp1 (hmp1.below hb) x1 hx2) (by rfl) ?_
  refine XL_q rfl (qt_not rfl) rfl rfl ?_
  refine XL_q rfl (qt_move rfl) rfl rfl ?_
  obtain ⟨b3, hg4, h⟩ := bind_some h
  refine XL_join 7 22 (.bool b3) ?_ (fun md hmd hk => ?_)
  rotate_left
  · obtain ⟨K, rfl⟩ := Md.quiet_of hmd
    rcases btf (!x1) with hc5 | hc5
    · skip
      refine XL_skip (w_skip rfl hc5) rfl rfl ?_
      refine XL_skip (w_skip rfl hc5) rfl rfl ?_
      refine XL_skip (w_skip rfl hc5) rfl rfl ?_
      refine XL_skip (w_skip rfl hc5) rfl rfl ?_
      refine XL_skip (w_skip rfl hc5) rfl rfl ?_
      refine XL_skip (w_skip rfl hc5) rfl rfl ?_
      refine XL_q rfl (qt_pickT rfl hc5 rfl) rfl rfl ?_
      exact hk _ (Cov.same (vb (if_t hc5 hg4)) (Cov.fresh rfl (Cov.fresh rfl (Cov.fresh rfl (Cov.fresh rfl (Cov.fresh rfl (Cov.fresh rfl (Cov.refl))))))))
    · skip
      have hg4 := if_f hc5 hg4
      refine XL_q (w_take rfl hc5) (qt_move rfl) rfl rfl ?_
      refine XL_q (w_take rfl hc5) (qt_move rfl) rfl rfl ?_
      refine XL_q (w_take rfl hc5) (qt_move rfl) rfl rfl ?_
      refine XL_q (w_take rfl hc5) (qt_sub rfl rfl) rfl rfl ?_
      obtain ⟨x6, hx7, hg4⟩ := bind_some hg4
      refine QL_call (w_take rfl hc5) rfl c50 (fun w' hb => w_impl_amountsOk w' vp2 p2 Fp2 (hmp2.below hb) p0 (IntKind.wrap .i64 (p0 - 1)) x6 hx7) (by rfl) ?_
      refine XL_q (w_take rfl hc5) (qt_not rfl) rfl rfl ?_
      refine XL_q rfl (qt_pickF rfl hc5 rfl) rfl rfl ?_
      exact hk _ (Cov.same (vb hg4) (Cov.fresh rfl (Cov.fresh rfl (Cov.fresh rfl (Cov.fresh rfl (Cov.fresh rfl (Cov.fresh rfl (Cov.refl))))))))
  refine QL_nil fun a ha w8 hb9 => ?_
  have hm10 := hmp1.below hb9
  have hm11 := hmp2.below hb9
  have hB12 := bl_trans (Below.refl _ _) hb9
  refine nrm_seq (WP.app ?_ ha)
  refine WP_cond rfl (fun hc13 => ?_) (fun hc13 => ?_)
  · have h := if_t hc13 h
    refine WP_seq ?_
    refine WP_region ?_
    refine XL_q rfl (qt_assign rfl) rfl rfl ?_
    refine WL_nil_seq ?_
    refine WP_ret fun a ha => ?_
    exact ret_seq (ret1 rfl ha rfl ⟨congrArg (fun z => Ending.returned (.bool z)) (Option.some.inj h), hB12⟩)
  · have h := if_f hc13 h
    refine WP_skip_seq ?_
    refine WP_seq ?_
    refine WP_seq ?_
    refine WP_region ?_
    refine XL_q rfl (qt_move rfl) rfl rfl ?_
    refine XL_len u22 hm10 rfl rfl rfl ?_
    refine XL_q rfl (qt_move rfl) rfl rfl ?_
    refine WL_nil_seq ?_
    refine WP_block ?_
    obtain ⟨o15, ho16, h⟩ := bind_some h
    refine fun a17 ha18 => wp_loop_fix (I := fun s a w2 => match s with | s14 => (Fr a 48 [(2, vp2), (23, vp1), (24, .int .i64 (List.length p1 : Int)), (25, .int .i64 s14)] ∧ Below w.heap.size w w2 ∧ Rep w2 (.slice (.int .i64)) [vp2] p2 Fp2 ∧ Rep w2 (.slice (.int .i64)) [vp1] p1 Fp1)) (O := fun o e a w2 => match o with | .inl _ => e = .exit 0 ∧ (Fr a 48 [] ∧ Below w.heap.size w w2) | .inr q6 => e = .ret ∧ (Fr a 48 [(6, .bool q6)] ∧ Below w.heap.size w w2)) ho16 ?_ ?_ ?_
    · exact ⟨ha18.sub ⟨rfl, rfl, rfl, rfl, trivial⟩, hB12, hm11, hm10⟩
    · clear ha18
      intro s o21 a w19 hs20 hI22
      obtain ⟨s14, rfl⟩ : ∃ z, z = s := ⟨s, rfl⟩
      obtain ⟨ha, hB23, hm24, hm25⟩ := hI22
      refine WP.app ?_ ha
      clear ha
      refine WP_seq ?_
      refine WP_region ?_
      refine XL_q rfl (qt_lss rfl rfl) rfl rfl ?_
      refine WL_nil_seq ?_
      refine WP_seq ?_
      refine WP_cond rfl (fun hc26 => ?_) (fun hc26 => ?_)
      · have hs20 := if_t hc26 hs20
        refine WP_skip_seq ?_
        refine WP_seq ?_
        refine WP_block ?_
        refine WP_seq ?_
        refine WP_region ?_
        refine XL_q rfl (qt_move rfl) rfl rfl ?_
        obtain ⟨x27, hx28, hs20⟩ := bind_some hs20
        refine XL_index u22 i3 hm25 hx28 rfl rfl rfl rfl (fun b29 o30 F31 hat32 hsub33 hbm34 => ?_)
        refine XL_load_int u3 rfl hat32 rfl rfl rfl ?_
        refine XL_q rfl (qt_assign rfl) rfl rfl ?_
        refine XL_q rfl (qt_assign rfl) rfl rfl ?_
        refine WL_nil_seq ?_
        refine WP_seq ?_
        refine WP_region ?_
        refine XL_q rfl (qt_move rfl) rfl rfl ?_
        obtain ⟨x35, hx36, hs20⟩ := bind_some hs20
        refine WL_call rfl rfl c54 (w_impl_membersOf w19 x27 x35 hx36) (by rfl) ?_
        rintro _ w38 ⟨v37, F39, rfl, hm40, hf42, hb41⟩; refine ⟨_, rfl, ?_⟩
        have hl43 := lo_fresh hB23 hf42
        have hm44 := hm24.below hb41
        have hm45 := hm25.below hb41
        have hB46 := bl_trans hB23 hb41
        have hd47 : Dj F39 Fp2 := dj_fresh hf42 hm24.lt
        have hd48 : Dj F39 Fp1 := dj_fresh hf42 hm25.lt
        obtain ⟨F49, hr50, hs51⟩ := Own.rep hm40
        refine XL_len u22 hr50 rfl rfl rfl ?_
        refine XL_q rfl (qt_move rfl) rfl rfl ?_
        refine WL_nil_seq ?_
        refine WP_block ?_
        obtain ⟨o53, ho54, hs20⟩ := bind_some hs20
        refine fun a55 ha56 => wp_loop_fix (I := fun s a w2 => match s with | s52 => (Fr a 48 [(2, vp2), (7, .int .i64 s14), (23, vp1), (24, .int .i64 (List.length p1 : Int)), (25, .int .i64 s14), (31, v37), (32, .int .i64 (List.length x35 : Int)), (33, .int .i64 s52)] ∧ Below w.heap.size w w2 ∧ Rep w2 (.slice (.int .i64)) [vp2] p2 Fp2 ∧ Rep w2 (.slice (.int .i64)) [vp1] p1 Fp1 ∧ Own w2 3 (.int .i64) v37 x35 F39 ∧ (∀ k ∈ F39, w.heap.size ≤ k) ∧ Dj F39 Fp2 ∧ Dj F39 Fp1)) (O := fun o e a w2 => match o with | .inl _ => e = .exit 2 ∧ (Fr a 48 [(2, vp2), (23, vp1), (24, .int .i64 (List.length p1 : Int)), (25, .int .i64 s14)] ∧ Below w.heap.size w w2 ∧ Rep w2 (.slice (.int .i64)) [vp2] p2 Fp2 ∧ Rep w2 (.slice (.int .i64)) [vp1] p1 Fp1) | .inr q6 => e = .ret ∧ (Fr a 48 [(6, .bool q6)] ∧ Below w.heap.size w w2)) ho54 ?_ ?_ ?_
        · exact ⟨ha56.sub ⟨rfl, rfl, rfl, rfl, rfl, rfl, rfl, rfl, trivial⟩, hB46, hm44, hm45, hm40, hl43, hd47, hd48⟩
        · clear ha56
          intro s o59 a w57 hs58 hI60
          obtain ⟨s52, rfl⟩ : ∃ z, z = s := ⟨s, rfl⟩
          obtain ⟨ha, hB61, hm62, hm63, hm64, hl65, hd66, hd67⟩ := hI60
          refine WP.app ?_ ha
          clear ha
          refine WP_seq ?_
          refine WP_region ?_
          refine XL_q rfl (qt_lss rfl rfl) rfl rfl ?_
          refine WL_nil_seq ?_
          refine WP_seq ?_
          refine WP_cond rfl (fun hc68 => ?_) (fun hc68 => ?_)
          · have hs58 := if_t hc68 hs58
            refine WP_skip_seq ?_
            refine WP_seq ?_
            refine WP_block ?_
            refine WP_seq ?_
            refine WP_region ?_
            obtain ⟨x69, hx70, hs58⟩ := bind_some hs58
            refine XL_indexO u22 i3 hm64 hx70 rfl rfl rfl rfl (fun b71 cap72 F73 hv74 hbm75 hat76 hsub77 => ?_)
            have ho78 := hm64; rw [hv74] at ho78
            have hk79 := (geti_lt hx70).2
            refine XL_load_int u3 rfl hat76 rfl rfl rfl ?_
            refine XL_q rfl (qt_assign rfl) rfl rfl ?_
            refine WL_nil_seq ?_
            refine WP_seq ?_
            refine WP_quiet (by kernel_rfl) (by kernel_rfl) ?_
            refine XL_q rfl (qt_move rfl) rfl rfl ?_
            refine XL_q rfl (qt_move rfl) rfl rfl ?_
            obtain ⟨x80, hx81, hs58⟩ := bind_some hs58
            refine XL_index u22 i3 hm62 hx81 rfl rfl rfl rfl (fun b82 o83 F84 hat85 hsub86 hbm87 => ?_)
            refine XL_load_int u3 rfl hat85 rfl rfl rfl ?_
            refine XL_q rfl (qt_move rfl) rfl rfl ?_
            refine XL_q rfl (qt_move rfl) rfl rfl ?_
            obtain ⟨x88, hx89, hs58⟩ := bind_some hs58
            refine XL_index u22 i3 hm62 hx89 rfl rfl rfl rfl (fun b90 o91 F92 hat93 hsub94 hbm95 => ?_)
            refine XL_load_int u3 rfl hat93 rfl rfl rfl ?_
            refine XL_q rfl (qt_eql rfl rfl) rfl rfl ?_
            refine QL_nil fun a ha w96 hb97 => ?_
            have hm98 := hm62.below hb97
            have hm99 := hm63.below hb97
            have hm100 := hm64.below hb97
            have hB101 := bl_trans hB61 hb97
            refine nrm_seq (WP.app ?_ ha)
            refine WP_cond rfl (fun hc102 => ?_) (fun hc102 => ?_)
            · have hs58 := if_t hc102 hs58
              refine WP_seq ?_
              refine WP_region ?_
              refine XL_q rfl (qt_assign rfl) rfl rfl ?_
              refine WL_nil_seq ?_
              refine WP_ret fun a ha => ?_
              obtain rfl := Option.some.inj hs58
              exact ret_block (ret_seq (⟨ret_ne, rfl, ⟨ha.sub ⟨rfl, trivial⟩, hB101⟩⟩))
            · have hs58 := if_f hc102 hs58
              refine WP_skip fun a ha => ?_
              refine nrm_block (nrm_seq (WP.app ?_ ha))
              refine WP_region ?_
              refine XL_q rfl (qt_add rfl rfl) rfl rfl ?_
              refine XL_q rfl (qt_move rfl) rfl rfl ?_
              refine WL_nil fun a ha => ?_
              obtain rfl := Option.some.inj hs58
              exact ⟨rfl, ⟨ha.sub ⟨rfl, rfl, rfl, rfl, rfl, rfl, rfl, rfl, trivial⟩, hB101, hm98, hm99, hm100, hl65, hd66, hd67⟩⟩
          · have hs58 := if_f hc68 hs58
            refine WP_exit fun a ha => ?_
            obtain rfl := Option.some.inj hs58
            exact exit_seq (⟨exit_ne, rfl, ⟨ha.sub ⟨rfl, rfl, rfl, rfl, trivial⟩, hB61, hm62, hm63⟩⟩)
        · intro e a55 w103 hO104
          rcases o53 with o53 | o53
          · skip
            obtain ⟨rfl, hO105⟩ := hO104
            obtain ⟨ha, hB106, hm107, hm108⟩ := hO105
            refine exit_block_eq (nrm_block (nrm_seq (WP.app ?_ ha)))
            refine WP_region ?_
            refine XL_q rfl (qt_add rfl rfl) rfl rfl ?_
            refine XL_q rfl (qt_move rfl) rfl rfl ?_
            refine WL_nil fun a ha => ?_
            obtain rfl := Option.some.inj hs20
            exact ⟨rfl, ⟨ha.sub ⟨rfl, rfl, rfl, rfl, trivial⟩, hB106, hm107, hm108⟩⟩
          · skip
            obtain ⟨p109, rfl⟩ : ∃ z, z = o53 := ⟨o53, rfl⟩
            obtain ⟨rfl, hO110⟩ := hO104
            obtain ⟨ha, hB111⟩ := hO110
            obtain rfl := Option.some.inj hs20
            exact ret_block (ret_block (ret_seq (⟨ret_ne, rfl, ⟨ha.sub ⟨rfl, trivial⟩, hB111⟩⟩)))
      · have hs20 := if_f hc26 hs20
        refine WP_exit fun a ha => ?_
        obtain rfl := Option.some.inj hs20
        exact exit_seq (⟨exit_ne, rfl, ⟨ha.sub trivial, hB23⟩⟩)
    · intro e a17 w112 hO113
      rcases o15 with o15 | o15
      · skip
        obtain ⟨rfl, hO114⟩ := hO113
        obtain ⟨ha, hB115⟩ := hO114
        refine exit_block_eq (nrm_seq (WP.app ?_ ha))
        refine WP_seq ?_
        refine WP_region ?_
        refine XL_q rfl (qt_assign rfl) rfl rfl ?_
        refine WL_nil_seq ?_
        refine WP_ret fun a ha => ?_
        exact ret1 rfl ha rfl ⟨congrArg (fun z => Ending.returned (.bool z)) (Option.some.inj h), hB115⟩
      · skip
        obtain ⟨p116, rfl⟩ : ∃ z, z = o15 := ⟨o15, rfl⟩
        obtain ⟨rfl, hO117⟩ := hO113
        obtain ⟨ha, hB118⟩ := hO117
        exact ret_block (ret_seq (ret1 rfl ha rfl ⟨congrArg (fun z => Ending.returned (.bool z)) (Option.some.inj h), hB118⟩))
theorem w_laws_FnExactSeatsOk (w : World) (p0 : Int) (vp1 : Value) (p1 : List Int) (Fp1 : List Nat) (hmp1 : Rep w (.slice (.int .i64)) [vp1] p1 Fp1) (vp2 : Value) (p2 : List Int) (Fp2 : List Nat) (hmp2 : Rep w (.slice (.int .i64)) [vp2] p2 Fp2) (r : Bool) (h : laws_FnExactSeatsOkS p0 p1 p2 = some r) : Calls Try.prog 8 #[.int .i64 p0, vp1, vp2] w fun e w' => e = .returned (.bool r) ∧ Below w.heap.size w w' := by
  refine calls_enter (args := [.int .i64 p0, vp1, vp2]) (n := 44) Try.func8 rfl rfl rfl ?_
  unfold laws_FnExactSeatsOkS at h
  refine WP_seq ?_
  refine WP_region ?_
  refine XL_q rfl (qt_assign rfl) rfl rfl ?_
  refine WL_nil_seq ?_
  refine WP_seq ?_
  refine WP_seq ?_
  refine WP_region ?_
  refine XL_q rfl (qt_move rfl) rfl rfl ?_
  refine XL_len u22 hmp1 rfl rfl rfl ?_
  refine XL_q rfl (qt_gtr rfl rfl) rfl rfl ?_
  refine WL_nil_seq ?_
  refine WP_cond rfl (fun hc1 => ?_) (fun hc1 => ?_)
  · have h := if_t hc1 h
    refine WP_seq ?_
    refine WP_region ?_
    refine XL_q rfl (qt_assign rfl) rfl rfl ?_
    refine WL_nil_seq ?_
    refine WP_ret fun a ha => ?_
    exact ret_seq (ret1 rfl ha rfl ⟨congrArg (fun z => Ending.returned (.bool z)) (Option.some.inj h), (Below.refl _ _)⟩)
  · have h := if_f hc1 h
    refine WP_skip_seq ?_
    refine WP_seq ?_
    refine WP_seq ?_
    refine WP_region ?_
    refine XL_q rfl (qt_move rfl) rfl rfl ?_
    refine XL_len u22 hmp2 rfl rfl rfl ?_
    refine XL_q rfl (qt_gtr rfl rfl) rfl rfl ?_
    refine WL_nil_seq ?_
    refine WP_cond rfl (fun hc2 => ?_) (fun hc2 => ?_)
    · have h := if_t hc2 h
      refine WP_seq ?_
      refine WP_region ?_
      refine XL_q rfl (qt_assign rfl) rfl rfl ?_
      refine WL_nil_seq ?_
      refine WP_ret fun a ha => ?_
      exact ret_seq (ret1 rfl ha rfl ⟨congrArg (fun z => Ending.returned (.bool z)) (Option.some.inj h), (Below.refl _ _)⟩)
    · have h := if_f hc2 h
      refine WP_skip_seq ?_
      refine WP_seq ?_
      refine WP_region ?_
      refine XL_q rfl (qt_move rfl) rfl rfl ?_
      refine XL_q rfl (qt_move rfl) rfl rfl ?_
      obtain ⟨x3, hx4, h⟩ := bind_some h
      refine WL_call rfl rfl c18 (w_laws_toIntS w vp1 p1 Fp1 hmp1 x3 hx4) (by rfl) ?_
      rintro _ w6 ⟨v5, F7, rfl, hm8, hf10, hb9⟩; refine ⟨_, rfl, ?_⟩
      have hl11 := lo_fresh (Below.refl _ _) hf10
      have hm12 := hmp1.below hb9
      have hm13 := hmp2.below hb9
      have hB14 := bl_trans (Below.refl _ _) hb9
      have hd15 : Dj F7 Fp1 := dj_fresh hf10 hmp1.lt
      have hd16 : Dj F7 Fp2 := dj_fresh hf10 hmp2.lt
      refine XL_q rfl (qt_move rfl) rfl rfl ?_
      obtain ⟨x17, hx18, h⟩ := bind_some h
      refine WL_call rfl rfl c18 (w_laws_toIntS w6 vp2 p2 Fp2 hm13 x17 hx18) (by rfl) ?_
      rintro _ w20 ⟨v19, F21, rfl, hm22, hf24, hb23⟩; refine ⟨_, rfl, ?_⟩
      have hl25 := lo_fresh hB14 hf24
      have hm26 := hm12.below hb23
      have hm27 := hm13.below hb23
      have hm28 := hm8.below hb23
      have hB29 := bl_trans hB14 hb23
      have hd30 : Dj F21 Fp1 := dj_fresh hf24 hm12.lt
      have hd31 : Dj F21 Fp2 := dj_fresh hf24 hm13.lt
      have hd32 : Dj F21 F7 := dj_fresh hf24 hm8.lt
      obtain ⟨x33, hx34, h⟩ := bind_some h
      obtain ⟨F35, hr36, hs37⟩ := Own.rep hm28
      obtain ⟨F38, hr39, hs40⟩ := Own.rep hm22
      refine WL_call rfl rfl c29 (w_spec_SeatsOk w20 p0 v5 x3 F35 hr36 v19 x17 F38 hr39 x33 hx34) (by rfl) ?_
      rintro _ w41 ⟨rfl, hb42⟩; refine ⟨_, rfl, ?_⟩
      have hm43 := hm26.below hb42
      have hm44 := hm27.below hb42
      have hm45 := hm28.below hb42
      have hm46 := hm22.below hb42
      have hB47 := bl_trans hB29 hb42
      refine XL_q rfl (qt_assign rfl) rfl rfl ?_
      refine WL_nil_seq ?_
      refine WP_seq ?_
      refine WP_region ?_
      refine XL_q rfl (qt_move rfl) rfl rfl ?_
      obtain ⟨x48, hx49, h⟩ := bind_some h
      refine WL_call rfl rfl c18 (w_laws_toIntS w41 vp1 p1 Fp1 hm43 x48 hx49) (by rfl) ?_
      rintro _ w51 ⟨v50, F52, rfl, hm53, hf55, hb54⟩; refine ⟨_, rfl, ?_⟩
      have hl56 := lo_fresh hB47 hf55
      have hm57 := hm43.below hb54
      have hm58 := hm44.below hb54
      have hm59 := hm45.below hb54
      have hm60 := hm46.below hb54
      have hB61 := bl_trans hB47 hb54
      have hd62 : Dj F52 Fp1 := dj_fresh hf55 hm43.lt
      have hd63 : Dj F52 Fp2 := dj_fresh hf55 hm44.lt
      have hd64 : Dj F52 F7 := dj_fresh hf55 hm45.lt
      have hd65 : Dj F52 F21 := dj_fresh hf55 hm46.lt
      refine XL_q rfl (qt_assign rfl) rfl rfl ?_
      refine WL_nil_seq ?_
      refine WP_seq ?_
      refine WP_region ?_
      refine XL_q rfl (qt_move rfl) rfl rfl ?_
      obtain ⟨x66, hx67, h⟩ := bind_some h
      refine WL_call rfl rfl c18 (w_laws_toIntS w51 vp2 p2 Fp2 hm58 x66 hx67) (by rfl) ?_
      rintro _ w69 ⟨v68, F70, rfl, hm71, hf73, hb72⟩; refine ⟨_, rfl, ?_⟩
      have hl74 := lo_fresh hB61 hf73
      have hm75 := hm57.below hb72
      have hm76 := hm58.below hb72
      have hm77 := hm53.below hb72
      have hm78 := hm59.below hb72
      have hm79 := hm60.below hb72
      have hB80 := bl_trans hB61 hb72
      have hd81 : Dj F70 Fp1 := dj_fresh hf73 hm57.lt
      have hd82 : Dj F70 Fp2 := dj_fresh hf73 hm58.lt
      have hd83 : Dj F70 F52 := dj_fresh hf73 hm53.lt
      have hd84 : Dj F70 F7 := dj_fresh hf73 hm59.lt
      have hd85 : Dj F70 F21 := dj_fresh hf73 hm60.lt
      refine XL_q rfl (qt_assign rfl) rfl rfl ?_
      refine WL_nil_seq ?_
      refine WP_seq ?_
      refine WP_still ?_
      refine XL_q rfl (qt_move rfl) rfl rfl ?_
      refine XL_q rfl (qt_move rfl) rfl rfl ?_
      refine XL_q rfl (qt_move rfl) rfl rfl ?_
      obtain ⟨x86, hx87, h⟩ := bind_some h
      obtain ⟨F88, hr89, hs90⟩ := Own.rep hm77
      obtain ⟨F91, hr92, hs93⟩ := Own.rep hm71
      refine QL_call rfl rfl c30 (fun w' hb => w_impl_SeatsOk w' p0 v50 x48 F88 (hr89.below hb) v68 x66 F91 (hr92.below hb) x86 hx87) (by rfl) ?_
      refine XL_q rfl (qt_assign rfl) rfl rfl ?_
      refine QL_nil fun a ha w94 hb95 => ?_
      have hm96 := hm75.below hb95
      have hm97 := hm76.below hb95
      have hm98 := hm77.below hb95
      have hm99 := hm71.below hb95
      have hB100 := bl_trans hB80 hb95
      refine nrm_seq (WP.app ?_ ha)
      refine WP_seq ?_
      refine WP_seq ?_
      refine WP_region ?_
      refine XL_q rfl (qt_move rfl) rfl rfl ?_
      refine XL_q rfl (qt_move rfl) rfl rfl ?_
      refine XL_q rfl (qt_bneq u4 rfl rfl) rfl rfl ?_
      refine WL_nil_seq ?_
      refine WP_cond rfl (fun hc101 => ?_) (fun hc101 => ?_)
      · have h := if_t hc101 h
        refine WP_seq ?_
        refine WP_region ?_
        refine XL_q rfl (qt_assign rfl) rfl rfl ?_
        refine WL_nil_seq ?_
        refine WP_ret fun a ha => ?_
        exact ret_seq (ret1 rfl ha rfl ⟨congrArg (fun z => Ending.returned (.bool z)) (Option.some.inj h), hB100⟩)
      · have h := if_f hc101 h
        refine WP_skip_seq ?_
        refine WP_seq ?_
        refine WP_seq ?_
        refine WP_region ?_
        refine XL_q rfl (qt_move rfl) rfl rfl ?_
        refine XL_q rfl (qt_move rfl) rfl rfl ?_
        obtain ⟨x102, hx103, h⟩ := bind_some h
        refine WL_call rfl rfl c18 (w_laws_toIntS w94 vp1 p1 Fp1 hm96 x102 hx103) (by rfl) ?_
        rintro _ w105 ⟨v104, F106, rfl, hm107, hf109, hb108⟩; refine ⟨_, rfl, ?_⟩
        have hl110 := lo_fresh hB100 hf109
        have hm111 := hm96.below hb108
        have hm112 := hm97.below hb108
        have hm113 := hm98.below hb108
        have hm114 := hm99.below hb108
        have hB115 := bl_trans hB100 hb108
        have hd116 : Dj F106 Fp1 := dj_fresh hf109 hm96.lt
        have hd117 : Dj F106 Fp2 := dj_fresh hf109 hm97.lt
        have hd118 : Dj F106 F52 := dj_fresh hf109 hm98.lt
        have hd119 : Dj F106 F70 := dj_fresh hf109 hm99.lt
        obtain ⟨x120, hx121, h⟩ := bind_some h
        obtain ⟨F122, hr123, hs124⟩ := Own.rep hm113
        obtain ⟨F125, hr126, hs127⟩ := Own.rep hm107
        refine WL_call rfl rfl c20 (w_laws_eqIntS w105 v50 x48 F122 hr123 v104 x102 F125 hr126 x120 hx121) (by rfl) ?_
        rintro _ w128 ⟨rfl, hb129⟩; refine ⟨_, rfl, ?_⟩
        have hm130 := hm111.below hb129
        have hm131 := hm112.below hb129
        have hm132 := hm113.below hb129
        have hm133 := hm114.below hb129
        have hm134 := hm107.below hb129
        have hB135 := bl_trans hB115 hb129
        refine XL_q rfl (qt_not rfl) rfl rfl ?_
        refine WL_nil_seq ?_
        refine WP_cond rfl (fun hc136 => ?_) (fun hc136 => ?_)
        · have h := if_t hc136 h
          refine WP_seq ?_
          refine WP_region ?_
          refine XL_q rfl (qt_assign rfl) rfl rfl ?_
          refine WL_nil_seq ?_
          refine WP_ret fun a ha => ?_
          exact ret_seq (ret1 rfl ha rfl ⟨congrArg (fun z => Ending.returned (.bool z)) (Option.some.inj h), hB135⟩)
        · have h := if_f hc136 h
          refine WP_skip_seq ?_
          refine WP_seq ?_
          refine WP_seq ?_
          refine WP_region ?_
          refine XL_q rfl (qt_move rfl) rfl rfl ?_
          refine XL_q rfl (qt_move rfl) rfl rfl ?_
          obtain ⟨x137, hx138, h⟩ := bind_some h
          refine WL_call rfl rfl c18 (w_laws_toIntS w128 vp2 p2 Fp2 hm131 x137 hx138) (by rfl) ?_
          rintro _ w140 ⟨v139, F141, rfl, hm142, hf144, hb143⟩; refine ⟨_, rfl, ?_⟩
          have hl145 := lo_fresh hB135 hf144
          have hm146 := hm130.below hb143
          have hm147 := hm131.below hb143
          have hm148 := hm132.below hb143
          have hm149 := hm133.below hb143
          have hm150 := hm134.below hb143
          have hB151 := bl_trans hB135 hb143
          have hd152 : Dj F141 Fp1 := dj_fresh hf144 hm130.lt
          have hd153 : Dj F141 Fp2 := dj_fresh hf144 hm131.lt
          have hd154 : Dj F141 F52 := dj_fresh hf144 hm132.lt
          have hd155 : Dj F141 F70 := dj_fresh hf144 hm133.lt
          have hd156 : Dj F141 F106 := dj_fresh hf144 hm134.lt
          obtain ⟨x157, hx158, h⟩ := bind_some h
          obtain ⟨F159, hr160, hs161⟩ := Own.rep hm149
          obtain ⟨F162, hr163, hs164⟩ := Own.rep hm142
          refine WL_call rfl rfl c20 (w_laws_eqIntS w140 v68 x66 F159 hr160 v139 x137 F162 hr163 x157 hx158) (by rfl) ?_
          rintro _ w165 ⟨rfl, hb166⟩; refine ⟨_, rfl, ?_⟩
          have hm167 := hm146.below hb166
          have hm168 := hm147.below hb166
          have hm169 := hm148.below hb166
          have hm170 := hm149.below hb166
          have hm171 := hm150.below hb166
          have hm172 := hm142.below hb166
          have hB173 := bl_trans hB151 hb166
          refine XL_q rfl (qt_not rfl) rfl rfl ?_
          refine WL_nil_seq ?_
          refine WP_cond rfl (fun hc174 => ?_) (fun hc174 => ?_)
          · have h := if_t hc174 h
            refine WP_seq ?_
            refine WP_region ?_
            refine XL_q rfl (qt_assign rfl) rfl rfl ?_
            refine WL_nil_seq ?_
            refine WP_ret fun a ha => ?_
            exact ret_seq (ret1 rfl ha rfl ⟨congrArg (fun z => Ending.returned (.bool z)) (Option.some.inj h), hB173⟩)
          · have h := if_f hc174 h
            refine WP_skip_seq ?_
            refine WP_seq ?_
            refine WP_region ?_
            refine XL_q rfl (qt_assign rfl) rfl rfl ?_
            refine WL_nil_seq ?_
            refine WP_ret fun a ha => ?_
            exact ret1 rfl ha rfl ⟨congrArg (fun z => Ending.returned (.bool z)) (Option.some.inj h), hB173⟩
theorem w_spec_SeatsFirst (w : World) (p0 : Int) (vp1 : Value) (p1 : List Int) (Fp1 : List Nat) (hmp1 : Rep w (.slice (.int .i64)) [vp1] p1 Fp1) (r : (List Int)) (h : spec_SeatsFirstS p0 p1 = some r) : Calls Try.prog 31 #[.int .i64 p0, vp1] w fun e w' => ∃ v F, e = .returned v ∧ Own w' 3 (.int .i64) v r F ∧ (∀ k ∈ F, w.heap.size ≤ k) ∧ Below w.heap.size w w' := by
  refine calls_enter (args := [.int .i64 p0, vp1]) (n := 48) Try.func31 rfl rfl rfl ?_
  unfold spec_SeatsFirstS at h
  refine WP_seq ?_
  refine WP_region ?_
  refine XL_q rfl (qt_assign rfl) rfl rfl ?_
  have hm1 := Own.nil w 3 (.int .i64)
  have hl2 := @lo_nil w
  refine WL_nil_seq ?_
  refine WP_seq ?_
  refine WP_region ?_
  refine WL_buildSlice (t := (.int .i64)) (args := []) (xs := ([] : List Int)) (F := []) u22 j3 rfl rfl rfl rfl rfl rfl rfl (fun v3 w4 F5 hm6 hb7 hf8 => ?_)
  have hf9 : ∀ k ∈ F5, w.heap.size ≤ k := fun k hk => (hf8 k hk).resolve_left (fun h => by cases h)
  have hl10 := lo_fresh (Below.refl _ _) hf9
  have hm11 := hmp1.below hb7
  have hm12 := hm1.below hb7
  have hB13 := bl_trans (Below.refl _ _) hb7
  have hd14 : Dj F5 Fp1 := dj_fresh hf9 hmp1.lt
  have hd15 : Dj F5 ([]) := dj_fresh hf9 hm1.lt
  refine XL_q rfl (qt_assign rfl) rfl rfl ?_
  refine WL_nil_seq ?_
  refine WP_seq ?_
  refine WP_seq ?_
  refine WP_region ?_
  refine XL_q rfl (qt_assign rfl) rfl rfl ?_
  refine WL_nil_seq ?_
  refine WP_block ?_
  obtain ⟨o18, ho19, h⟩ := bind_some h
  refine fun a20 ha21 => wp_loop_fix (I := fun s a w2 => match s with | (s16, s17) => ∃ vs16 Fs16, Fr a 48 [(0, .int .i64 p0), (1, vp1), (5, vs16), (6, .int .i64 s17)] ∧ Below w.heap.size w w2 ∧ Rep w2 (.slice (.int .i64)) [vp1] p1 Fp1 ∧ Own w2 3 (.int .i64) vs16 s16 Fs16 ∧ (∀ k ∈ Fs16, w.heap.size ≤ k) ∧ Dj Fs16 Fp1) (O := fun o e a w2 => match o with | q5 => e = .exit 0 ∧ ∃ vq5 Fq5, Fr a 48 [(5, vq5)] ∧ Below w.heap.size w w2 ∧ Own w2 3 (.int .i64) vq5 q5 Fq5 ∧ (∀ k ∈ Fq5, w.heap.size ≤ k)) ho19 ?_ ?_ ?_
  · exact ⟨v3, F5, ha21.sub ⟨rfl, rfl, rfl, rfl, trivial⟩, hB13, hm11, hm6, hl10, hd14⟩
  · clear ha21
    intro s o24 a w22 hs23 hI25
    obtain ⟨s16, s17⟩ := s
    obtain ⟨vs16, Fs16, ha, hB26, hm27, hm28, hl29, hd30⟩ := hI25
    refine WP.app ?_ ha
    clear ha
    refine WP_seq ?_
    refine WP_seq ?_
    refine WP_still ?_
    refine XL_q rfl (qt_move rfl) rfl rfl ?_
    refine XL_q rfl (qt_move rfl) rfl rfl ?_
    refine XL_q rfl (qt_lss rfl rfl) rfl rfl ?_
    refine XL_q rfl (qt_move rfl) rfl rfl ?_
    obtain ⟨b31, hg32, hs23⟩ := bind_some hs23
    refine XL_join 4 17 (.bool b31) ?_ (fun md hmd hk => ?_)
    rotate_left
    · obtain ⟨K, rfl⟩ := Md.quiet_of hmd
      rcases btf (decide (s17 < p0)) with hc33 | hc33
      · skip
        have hg32 := if_t hc33 hg32
        refine XL_q (w_take rfl hc33) (qt_move rfl) rfl rfl ?_
        refine XL_q (w_take rfl hc33) (qt_move rfl) rfl rfl ?_
        obtain ⟨x34, hx35, hg32⟩ := bind_some hg32
        refine QL_call (w_take rfl hc33) rfl c23 (fun w' hb => w_spec_QuarrelsValid w' p0 vp1 p1 Fp1 (hm27.below hb) x34 hx35) (by rfl) ?_
        refine XL_q rfl (qt_pickT rfl hc33 rfl) rfl rfl ?_
        exact hk _ (Cov.same (vb hg32) (Cov.fresh rfl (Cov.fresh rfl (Cov.fresh rfl (Cov.refl)))))
      · skip
        refine XL_skip (w_skip rfl hc33) rfl rfl ?_
        refine XL_skip (w_skip rfl hc33) rfl rfl ?_
        refine XL_skip (w_skip rfl hc33) rfl rfl ?_
        refine XL_q rfl (qt_pickF rfl hc33 rfl) rfl rfl ?_
        exact hk _ (Cov.same (vb (if_f hc33 hg32)) (Cov.fresh rfl (Cov.fresh rfl (Cov.fresh rfl (Cov.refl)))))
    refine QL_nil fun a ha w36 hb37 => ?_
    have hm38 := hm27.below hb37
    have hm39 := hm28.below hb37
    have hB40 := bl_trans hB26 hb37
    refine nrm_seq (WP.app ?_ ha)
    refine WP_cond rfl (fun hc41 => ?_) (fun hc41 => ?_)
    · have hs23 := if_t hc41 hs23
      refine WP_skip_seq ?_
      refine WP_seq ?_
      refine WP_block ?_
      refine WP_seq ?_
      refine WP_region ?_
      refine XL_q rfl (qt_assign rfl) rfl rfl ?_
      refine WL_nil_seq ?_
      refine WP_seq ?_
      refine WP_seq ?_
      refine WP_region ?_
      refine XL_q rfl (qt_assign rfl) rfl rfl ?_
      refine WL_nil_seq ?_
      refine WP_block ?_
      obtain ⟨o44, ho45, hs23⟩ := bind_some hs23
      refine fun a46 ha47 => wp_loop_fix (I := fun s a w2 => match s with | (s42, s43) => (Fr a 48 [(0, .int .i64 p0), (1, vp1), (5, vs16), (6, .int .i64 s17), (7, .int .i64 s42), (8, .int .i64 s43)] ∧ Below w.heap.size w w2 ∧ Rep w2 (.slice (.int .i64)) [vp1] p1 Fp1 ∧ Own w2 3 (.int .i64) vs16 s16 Fs16 ∧ (∀ k ∈ Fs16, w.heap.size ≤ k) ∧ Dj Fs16 Fp1)) (O := fun o e a w2 => match o with | q7 => e = .exit 2 ∧ (Fr a 48 [(0, .int .i64 p0), (1, vp1), (5, vs16), (6, .int .i64 s17), (7, .int .i64 q7)] ∧ Below w.heap.size w w2 ∧ Rep w2 (.slice (.int .i64)) [vp1] p1 Fp1 ∧ Own w2 3 (.int .i64) vs16 s16 Fs16 ∧ (∀ k ∈ Fs16, w.heap.size ≤ k) ∧ Dj Fs16 Fp1)) ho45 ?_ ?_ ?_
      · exact ⟨ha47.sub ⟨rfl, rfl, rfl, rfl, rfl, rfl, trivial⟩, hB40, hm38, hm39, hl29, hd30⟩
      · clear ha47
        intro s o50 a w48 hs49 hI51
        obtain ⟨s42, s43⟩ := s
        obtain ⟨ha, hB52, hm53, hm54, hl55, hd56⟩ := hI51
        refine WP.app ?_ ha
        clear ha
        refine WP_seq ?_
        refine WP_seq ?_
        refine WP_region ?_
        refine XL_q rfl (qt_move rfl) rfl rfl ?_
        refine XL_q rfl (qt_move rfl) rfl rfl ?_
        refine XL_q rfl (qt_lss rfl rfl) rfl rfl ?_
        refine WL_nil_seq ?_
        refine WP_cond rfl (fun hc57 => ?_) (fun hc57 => ?_)
        · have hs49 := if_t hc57 hs49
          refine WP_skip_seq ?_
          refine WP_seq ?_
          refine WP_block ?_
          refine WP_seq ?_
          refine WP_region ?_
          refine XL_q rfl (qt_move rfl) rfl rfl ?_
          refine XL_q rfl (qt_move rfl) rfl rfl ?_
          obtain ⟨x58, hx59, hs49⟩ := bind_some hs49
          refine XL_indexO u22 i3 hm54 hx59 rfl rfl rfl rfl (fun b60 cap61 F62 hv63 hbm64 hat65 hsub66 => ?_)
          have ho67 := hm54; rw [hv63] at ho67
          have hk68 := (geti_lt hx59).2
          refine XL_load_int u3 rfl hat65 rfl rfl rfl ?_
          refine XL_q rfl (qt_move rfl) rfl rfl ?_
          refine XL_q rfl (qt_eql rfl rfl) rfl rfl ?_
          refine XL_q rfl (qt_move rfl) rfl rfl ?_
          obtain ⟨b69, hg70, hs49⟩ := bind_some hs49
          refine XL_join 9 40 (.bool b69) ?_ (fun md hmd hk => ?_)
          rotate_left
          · obtain ⟨Q, rfl⟩ := Md.seq_of hmd
            rcases btf (x58 == s42) with hc71 | hc71
            · skip
              have hg70 := if_t hc71 hg70
              refine XL_q (w_take rfl hc71) (qt_move rfl) rfl rfl ?_
              refine XL_q (w_take rfl hc71) (qt_move rfl) rfl rfl ?_
              obtain ⟨x72, hx73, hg70⟩ := bind_some hg70
              refine XL_index u22 i3 hm53 hx73 (w_take rfl hc71) rfl rfl rfl (fun b74 o75 F76 hat77 hsub78 hbm79 => ?_)
              refine XL_load_int u3 rfl hat77 (w_take rfl hc71) rfl rfl ?_
              refine XL_q (w_take rfl hc71) (qt_move rfl) rfl rfl ?_
              obtain ⟨x80, hx81, hg70⟩ := bind_some hg70
              refine XL_q (w_take rfl hc71) (qt_shrO rfl rfl hx81) rfl rfl ?_
              refine XL_q (w_take rfl hc71) (qt_rem rfl rfl (by decide)) rfl rfl ?_
              refine XL_q (w_take rfl hc71) (qt_eql rfl rfl) rfl rfl ?_
              refine XL_q rfl (qt_pickT rfl hc71 rfl) rfl rfl ?_
              exact hk _ (Cov.same (vb hg70) (Cov.fresh rfl (Cov.fresh rfl (Cov.fresh rfl (Cov.fresh rfl (Cov.fresh rfl (Cov.fresh rfl (Cov.fresh rfl (Cov.fresh rfl (Cov.refl))))))))))
            · skip
              refine XL_skip (w_skip rfl hc71) rfl rfl ?_
              refine XL_skip (w_skip rfl hc71) rfl rfl ?_
              refine XL_skip (w_skip rfl hc71) rfl rfl ?_
              refine XL_skip (w_skip rfl hc71) rfl rfl ?_
              refine XL_skip (w_skip rfl hc71) rfl rfl ?_
              refine XL_skip (w_skip rfl hc71) rfl rfl ?_
              refine XL_skip (w_skip rfl hc71) rfl rfl ?_
              refine XL_skip (w_skip rfl hc71) rfl rfl ?_
              refine XL_q rfl (qt_pickF rfl hc71 rfl) rfl rfl ?_
              exact hk _ (Cov.same (vb (if_f hc71 hg70)) (Cov.fresh rfl (Cov.fresh rfl (Cov.fresh rfl (Cov.fresh rfl (Cov.fresh rfl (Cov.fresh rfl (Cov.fresh rfl (Cov.fresh rfl (Cov.refl))))))))))
          refine WL_nil_seq ?_
          refine WP_cond rfl (fun hc82 => ?_) (fun hc82 => ?_)
          · have hs49 := if_t hc82 hs49
            refine WP_seq ?_
            refine WP_region ?_
            refine XL_q rfl (qt_move rfl) rfl rfl ?_
            refine XL_q rfl (qt_add rfl rfl) rfl rfl ?_
            refine XL_q rfl (qt_assign rfl) rfl rfl ?_
            refine WL_nil_seq ?_
            refine WP_region ?_
            refine XL_q rfl (qt_assign rfl) rfl rfl ?_
            refine WL_nil fun a ha => ?_
            refine nrm_block (nrm_seq (WP.app ?_ ha))
            refine WP_region ?_
            refine XL_q rfl (qt_move rfl) rfl rfl ?_
            refine XL_q rfl (qt_add rfl rfl) rfl rfl ?_
            refine XL_q rfl (qt_assign rfl) rfl rfl ?_
            refine WL_nil fun a ha => ?_
            obtain rfl := Option.some.inj hs49
            exact ⟨rfl, ⟨ha.sub ⟨rfl, rfl, rfl, rfl, rfl, rfl, trivial⟩, hB52, hm53, hm54, hl55, hd56⟩⟩
          · have hs49 := if_f hc82 hs49
            refine WP_skip fun a ha => ?_
            refine nrm_block (nrm_seq (WP.app ?_ ha))
            refine WP_region ?_
            refine XL_q rfl (qt_move rfl) rfl rfl ?_
            refine XL_q rfl (qt_add rfl rfl) rfl rfl ?_
            refine XL_q rfl (qt_assign rfl) rfl rfl ?_
            refine WL_nil fun a ha => ?_
            obtain rfl := Option.some.inj hs49
            exact ⟨rfl, ⟨ha.sub ⟨rfl, rfl, rfl, rfl, rfl, rfl, trivial⟩, hB52, hm53, hm54, hl55, hd56⟩⟩
        · have hs49 := if_f hc57 hs49
          refine WP_exit fun a ha => ?_
          obtain rfl := Option.some.inj hs49
          exact exit_seq (⟨exit_ne, rfl, ⟨ha.sub ⟨rfl, rfl, rfl, rfl, rfl, trivial⟩, hB52, hm53, hm54, hl55, hd56⟩⟩)
      · intro e a46 w83 hO84
        obtain ⟨p85, rfl⟩ : ∃ z, z = o44 := ⟨o44, rfl⟩
        obtain ⟨rfl, hO86⟩ := hO84
        obtain ⟨ha, hB87, hm88, hm89, hl90, hd91⟩ := hO86
        refine exit_block_eq (nrm_seq (WP.app ?_ ha))
        refine WP_region ?_
        refine XL_q rfl (qt_move rfl) rfl rfl ?_
        refine XL_q rfl (qt_move rfl) rfl rfl ?_
        refine WL_buildSlice (t := (.int .i64)) (args := [.tmp 44]) (xs := ([p85] : List Int)) (F := []) u22 j3 rfl rfl rfl ⟨[], [], rfl, ⟨rfl, rfl⟩, rfl⟩ rfl rfl rfl (fun v92 w93 F94 hm95 hb96 hf97 => ?_)
        have hf98 : ∀ k ∈ F94, w83.heap.size ≤ k := fun k hk => (hf97 k hk).resolve_left (fun h => by cases h)
        have hl99 := lo_fresh hB87 hf98
        have hm100 := hm88.below hb96
        have hm101 := hm89.below hb96
        have hB102 := bl_trans hB87 hb96
        have hd103 : Dj F94 Fp1 := dj_fresh hf98 hm88.lt
        have hd104 : Dj F94 Fs16 := dj_fresh hf98 hm89.lt
        obtain ⟨x105, hx106, hs23⟩ := bind_some hs23
        obtain ⟨F107, hr108, hs109⟩ := Own.rep hm95
        refine WL_appendF rfl u22 j3 rfl rfl hm101 hr108 (Dj.symm (dj_sub (Dj.symm (Dj.symm hd104)) hs109)) hx106 rfl rfl rfl rfl (fun v110 w111 F112 hm113 hc114 hf115 => ?_)
        have hl116 := lo_app hB102 hf115 hl90
        have hm117 := hm100.chg hc114 hd91
        have hm118 := hm95.chg hc114 (Dj.symm hd104)
        have hB119 := Chg.below hc114 hB102 hl90
        have hd120 := dj_app hf115 hd91 hm100.lt
        have hd121 := dj_app hf115 (Dj.symm hd104) hm95.lt
        refine XL_q rfl (qt_assign rfl) rfl rfl ?_
        refine WL_nil fun a ha => ?_
        refine nrm_block (nrm_seq (WP.app ?_ ha))
        refine WP_region ?_
        refine XL_q rfl (qt_move rfl) rfl rfl ?_
        refine XL_q rfl (qt_add rfl rfl) rfl rfl ?_
        refine XL_q rfl (qt_assign rfl) rfl rfl ?_
        refine WL_nil fun a ha => ?_
        obtain rfl := Option.some.inj hs23
        exact ⟨rfl, ⟨v110, F112, ha.sub ⟨rfl, rfl, rfl, rfl, trivial⟩, hB119, hm117, hm113, hl116, hd120⟩⟩
    · have hs23 := if_f hc41 hs23
      refine WP_exit fun a ha => ?_
      obtain rfl := Option.some.inj hs23
      exact exit_seq (⟨exit_ne, rfl, ⟨vs16, Fs16, ha.sub ⟨rfl, trivial⟩, hB40, hm39, hl29⟩⟩)
  · intro e a20 w122 hO123
    obtain ⟨p124, rfl⟩ : ∃ z, z = o18 := ⟨o18, rfl⟩
    obtain ⟨rfl, hO125⟩ := hO123
    obtain ⟨vp124, Fp124, ha, hB126, hm127, hl128⟩ := hO125
    refine exit_block_eq (nrm_seq (WP.app ?_ ha))
    refine WP_seq ?_
    refine WP_region ?_
    refine XL_q rfl (qt_move rfl) rfl rfl ?_
    refine XL_q rfl (qt_assign rfl) rfl rfl ?_
    refine WL_nil_seq ?_
    refine WP_ret fun a ha => ?_
    obtain rfl := Option.some.inj h
    exact ret1 rfl ha rfl ⟨_, _, rfl, hm127, hl128, hB126⟩
theorem w_impl_SeatsFirst (w : World) (p0 : Int) (vp1 : Value) (p1 : List Int) (Fp1 : List Nat) (hmp1 : Rep w (.slice (.int .i64)) [vp1] p1 Fp1) (r : (List Int)) (h : impl_SeatsFirstS p0 p1 = some r) : Calls Try.prog 32 #[.int .i64 p0, vp1] w fun e w' => ∃ v F, e = .returned v ∧ Own w' 3 (.int .i64) v r F ∧ (∀ k ∈ F, w.heap.size ≤ k) ∧ Below w.heap.size w w' := by
  refine calls_enter (args := [.int .i64 p0, vp1]) (n := 53) Try.func32 rfl rfl rfl ?_
  unfold impl_SeatsFirstS at h
  refine WP_seq ?_
  refine WP_region ?_
  refine XL_q rfl (qt_assign rfl) rfl rfl ?_
  have hm1 := Own.nil w 3 (.int .i64)
  have hl2 := @lo_nil w
  refine WL_nil_seq ?_
  refine WP_seq ?_
  refine WP_seq ?_
  refine WP_still ?_
  refine XL_q rfl (qt_move rfl) rfl rfl ?_
  refine XL_q rfl (qt_move rfl) rfl rfl ?_
  obtain ⟨x3, hx4, h⟩ := bind_some h
  refine QL_call rfl rfl c24 (fun w' hb => w_impl_QuarrelsValid w' p0 vp1 p1 Fp1 (hmp1.below hb) x3 hx4) (by rfl) ?_
  refine XL_q rfl (qt_not rfl) rfl rfl ?_
  refine QL_nil fun a ha w5 hb6 => ?_
  have hm7 := hmp1.below hb6
  have hB8 := bl_trans (Below.refl _ _) hb6
  refine nrm_seq (WP.app ?_ ha)
  refine WP_cond rfl (fun hc9 => ?_) (fun hc9 => ?_)
  · have h := if_t hc9 h
    refine WP_seq ?_
    refine WP_region ?_
    refine XL_q rfl (qt_assign rfl) rfl rfl ?_
    have hm10 := Own.nil w5 3 (.int .i64)
    have hl11 := @lo_nil w
    refine WL_nil_seq ?_
    refine WP_ret fun a ha => ?_
    obtain rfl := Option.some.inj h
    exact ret_seq (ret1 rfl ha rfl ⟨_, _, rfl, hm10, hl11, hB8⟩)
  · have h := if_f hc9 h
    refine WP_skip_seq ?_
    refine WP_seq ?_
    refine WP_region ?_
    refine XL_q rfl (qt_move rfl) rfl rfl ?_
    obtain ⟨x12, hx13, h⟩ := bind_some h
    refine WL_make u22 j3 rfl rfl (fun _ => ⟨rfl, rfl⟩) rfl hx13 rfl rfl rfl rfl (fun v14 w15 F16 hm17 hb18 hf19 => ?_)
    have hl20 := lo_fresh hB8 hf19
    have hm21 := hm7.below hb18
    have hB22 := bl_trans hB8 hb18
    have hd23 : Dj F16 Fp1 := dj_fresh hf19 hm7.lt
    refine XL_q rfl (qt_assign rfl) rfl rfl ?_
    refine WL_nil_seq ?_
    refine WP_seq ?_
    refine WP_region ?_
    refine XL_q rfl (qt_move rfl) rfl rfl ?_
    obtain ⟨x24, hx25, h⟩ := bind_some h
    refine WL_make u22 j3 rfl rfl (fun _ => ⟨rfl, rfl⟩) rfl hx25 rfl rfl rfl rfl (fun v26 w27 F28 hm29 hb30 hf31 => ?_)
    have hl32 := lo_fresh hB22 hf31
    have hm33 := hm21.below hb30
    have hm34 := hm17.below hb30
    have hB35 := bl_trans hB22 hb30
    have hd36 : Dj F28 Fp1 := dj_fresh hf31 hm21.lt
    have hd37 : Dj F28 F16 := dj_fresh hf31 hm17.lt
    refine XL_q rfl (qt_assign rfl) rfl rfl ?_
    refine WL_nil_seq ?_
    refine WP_seq ?_
    refine WP_seq ?_
    refine WP_region ?_
    refine XL_q rfl (qt_move rfl) rfl rfl ?_
    refine XL_len u22 hm33 rfl rfl rfl ?_
    refine XL_q rfl (qt_move rfl) rfl rfl ?_
    refine WL_nil_seq ?_
    refine WP_block ?_
    obtain ⟨o41, ho42, h⟩ := bind_some h
    refine fun a43 ha44 => wp_loop_fix (I := fun s a w2 => match s with | (s38, s39, s40) => ∃ vs38 Fs38 vs39 Fs39, Fr a 53 [(5, vs38), (6, vs39), (17, vp1), (18, .int .i64 (List.length p1 : Int)), (19, .int .i64 s40)] ∧ Below w.heap.size w w2 ∧ Own w2 3 (.int .i64) vs38 s38 Fs38 ∧ (∀ k ∈ Fs38, w.heap.size ≤ k) ∧ Own w2 3 (.int .i64) vs39 s39 Fs39 ∧ (∀ k ∈ Fs39, w.heap.size ≤ k) ∧ Rep w2 (.slice (.int .i64)) [vp1] p1 Fp1 ∧ Dj Fs38 Fs39 ∧ Dj Fs38 Fp1 ∧ Dj Fs39 Fp1) (O := fun o e a w2 => match o with | q5 => e = .exit 0 ∧ ∃ vq5 Fq5, Fr a 53 [(5, vq5)] ∧ Below w.heap.size w w2 ∧ Own w2 3 (.int .i64) vq5 q5 Fq5 ∧ (∀ k ∈ Fq5, w.heap.size ≤ k)) ho42 ?_ ?_ ?_
    · exact ⟨v14, F16, v26, F28, ha44.sub ⟨rfl, rfl, rfl, rfl, rfl, trivial⟩, hB35, hm34, hl20, hm29, hl32, hm33, (Dj.symm hd37), hd23, hd36⟩
    · clear ha44
      intro s o47 a w45 hs46 hI48
      obtain ⟨s38, s39, s40⟩ := s
      obtain ⟨vs38, Fs38, vs39, Fs39, ha, hB49, hm50, hl51, hm52, hl53, hm54, hd55, hd56, hd57⟩ := hI48
      refine WP.app ?_ ha
      clear ha
      refine WP_seq ?_
      refine WP_region ?_
      refine XL_q rfl (qt_lss rfl rfl) rfl rfl ?_
      refine WL_nil_seq ?_
      refine WP_seq ?_
      refine WP_cond rfl (fun hc58 => ?_) (fun hc58 => ?_)
      · have hs46 := if_t hc58 hs46
        refine WP_skip_seq ?_
        refine WP_seq ?_
        refine WP_block ?_
        refine WP_seq ?_
        refine WP_region ?_
        refine XL_q rfl (qt_move rfl) rfl rfl ?_
        obtain ⟨x59, hx60, hs46⟩ := bind_some hs46
        refine XL_index u22 i3 hm54 hx60 rfl rfl rfl rfl (fun b61 o62 F63 hat64 hsub65 hbm66 => ?_)
        refine XL_load_int u3 rfl hat64 rfl rfl rfl ?_
        refine XL_q rfl (qt_assign rfl) rfl rfl ?_
        refine XL_q rfl (qt_assign rfl) rfl rfl ?_
        refine WL_nil_seq ?_
        refine WP_seq ?_
        refine WP_block ?_
        obtain ⟨o68, ho69, hs46⟩ := bind_some hs46
        refine fun a70 ha71 => wp_loop_fix (I := fun s a w2 => match s with | s67 => ∃ vs67 Fs67, Fr a 53 [(5, vs67), (6, vs39), (7, .int .i64 s40), (8, .int .i64 x59), (17, vp1), (18, .int .i64 (List.length p1 : Int)), (19, .int .i64 s40)] ∧ Below w.heap.size w w2 ∧ Own w2 3 (.int .i64) vs67 s67 Fs67 ∧ (∀ k ∈ Fs67, w.heap.size ≤ k) ∧ Own w2 3 (.int .i64) vs39 s39 Fs39 ∧ (∀ k ∈ Fs39, w.heap.size ≤ k) ∧ Rep w2 (.slice (.int .i64)) [vp1] p1 Fp1 ∧ Dj Fs67 Fs39 ∧ Dj Fs67 Fp1 ∧ Dj Fs39 Fp1) (O := fun o e a w2 => match o with | q5 => e = .exit 2 ∧ ∃ vq5 Fq5, Fr a 53 [(5, vq5), (6, vs39), (7, .int .i64 s40), (17, vp1), (18, .int .i64 (List.length p1 : Int)), (19, .int .i64 s40)] ∧ Below w.heap.size w w2 ∧ Own w2 3 (.int .i64) vq5 q5 Fq5 ∧ (∀ k ∈ Fq5, w.heap.size ≤ k) ∧ Own w2 3 (.int .i64) vs39 s39 Fs39 ∧ (∀ k ∈ Fs39, w.heap.size ≤ k) ∧ Rep w2 (.slice (.int .i64)) [vp1] p1 Fp1 ∧ Dj Fq5 Fs39 ∧ Dj Fq5 Fp1 ∧ Dj Fs39 Fp1) ho69 ?_ ?_ ?_
        · exact ⟨vs38, Fs38, ha71.sub ⟨rfl, rfl, rfl, rfl, rfl, rfl, rfl, trivial⟩, hB49, hm50, hl51, hm52, hl53, hm54, hd55, hd56, hd57⟩
        · clear ha71
          intro s o74 a w72 hs73 hI75
          obtain ⟨s67, rfl⟩ : ∃ z, z = s := ⟨s, rfl⟩
          obtain ⟨vs67, Fs67, ha, hB76, hm77, hl78, hm79, hl80, hm81, hd82, hd83, hd84⟩ := hI75
          refine WP.app ?_ ha
          clear ha
          refine WP_seq ?_
          refine WP_seq ?_
          refine WP_region ?_
          refine XL_q rfl (qt_move rfl) rfl rfl ?_
          refine XL_q rfl (qt_move rfl) rfl rfl ?_
          refine XL_q rfl (qt_move rfl) rfl rfl ?_
          obtain ⟨x85, hx86, hs73⟩ := bind_some hs73
          refine XL_indexO u22 i3 hm77 hx86 rfl rfl rfl rfl (fun b87 cap88 F89 hv90 hbm91 hat92 hsub93 => ?_)
          have ho94 := hm77; rw [hv90] at ho94
          have hk95 := (geti_lt hx86).2
          refine XL_load_int u3 rfl hat92 rfl rfl rfl ?_
          obtain ⟨x96, hx97, hs73⟩ := bind_some hs73
          refine XL_indexO u22 i3 hm79 hx97 rfl rfl rfl rfl (fun b98 cap99 F100 hv101 hbm102 hat103 hsub104 => ?_)
          have ho105 := hm79; rw [hv101] at ho105
          have hk106 := (geti_lt hx97).2
          refine XL_load_int u3 rfl hat103 rfl rfl rfl ?_
          refine XL_q rfl (qt_move rfl) rfl rfl ?_
          refine XL_q rfl (qt_and rfl rfl) rfl rfl ?_
          refine XL_q rfl (qt_neq rfl rfl) rfl rfl ?_
          refine WL_nil_seq ?_
          refine WP_cond rfl (fun hc107 => ?_) (fun hc107 => ?_)
          · have hs73 := if_t hc107 hs73
            refine WP_skip_seq ?_
            refine WP_block ?_
            refine WP_region ?_
            refine XL_q rfl (qt_move rfl) rfl rfl ?_
            refine XL_q rfl (qt_move rfl) rfl rfl ?_
            obtain ⟨x108, hx109, hs73⟩ := bind_some hs73
            refine XL_indexO u22 i3 hm77 hx109 rfl rfl rfl rfl (fun b110 cap111 F112 hv113 hbm114 hat115 hsub116 => ?_)
            have ho117 := hm77; rw [hv113] at ho117
            have hk118 := (geti_lt hx109).2
            refine XL_load_int u3 rfl hat115 rfl rfl rfl ?_
            refine XL_q rfl (qt_add rfl rfl) rfl rfl ?_
            obtain ⟨x119, hx120, hs73⟩ := bind_some hs73
            refine XL_indexO u22 i3 hm77 hx120 rfl rfl rfl rfl (fun b121 cap122 F123 hv124 hbm125 hat126 hsub127 => ?_)
            have ho128 := hm77; rw [hv124] at ho128
            have hk129 := (geti_lt hx120).2
            refine WL_store rfl i3 ho128 (⟨rfl, rfl⟩) rfl rfl rfl hk129 (fun w130 hm131 hc132 => ?_)
            have hm133 := hm79.chg hc132 hd82
            have hm134 := hm81.chg hc132 hd83
            have hB135 := Chg.below hc132 hB76 hl78
            rw [← hv124] at hm131
            refine WL_nil fun a ha => ?_
            obtain rfl := Option.some.inj hs73
            exact nrm_block (⟨rfl, ⟨vs67, Fs67, ha.sub ⟨rfl, rfl, rfl, rfl, rfl, rfl, rfl, trivial⟩, hB135, hm131, hl78, hm133, hl80, hm134, hd82, hd83, hd84⟩⟩)
          · have hs73 := if_f hc107 hs73
            refine WP_exit fun a ha => ?_
            obtain rfl := Option.some.inj hs73
            exact exit_seq (⟨exit_ne, rfl, ⟨vs67, Fs67, ha.sub ⟨rfl, rfl, rfl, rfl, rfl, rfl, trivial⟩, hB76, hm77, hl78, hm79, hl80, hm81, hd82, hd83, hd84⟩⟩)
        · intro e a70 w136 hO137
          obtain ⟨p138, rfl⟩ : ∃ z, z = o68 := ⟨o68, rfl⟩
          obtain ⟨rfl, hO139⟩ := hO137
          obtain ⟨vp138, Fp138, ha, hB140, hm141, hl142, hm143, hl144, hm145, hd146, hd147, hd148⟩ := hO139
          refine exit_block_eq (nrm_seq (WP.app ?_ ha))
          refine WP_tail 9 (by kernel_rfl) (by kernel_rfl) (fun w149 hb150 => ?_)
          have hm151 := hm141.below hb150
          have hm152 := hm143.below hb150
          have hm153 := hm145.below hb150
          have hB154 := bl_trans hB140 hb150
          refine XL_q rfl (qt_move rfl) rfl rfl ?_
          refine XL_q rfl (qt_move rfl) rfl rfl ?_
          refine XL_q rfl (qt_move rfl) rfl rfl ?_
          obtain ⟨x155, hx156, hs46⟩ := bind_some hs46
          refine XL_indexO u22 i3 hm151 hx156 rfl rfl rfl rfl (fun b157 cap158 F159 hv160 hbm161 hat162 hsub163 => ?_)
          have ho164 := hm151; rw [hv160] at ho164
          have hk165 := (geti_lt hx156).2
          refine XL_load_int u3 rfl hat162 rfl rfl rfl ?_
          obtain ⟨x166, hx167, hs46⟩ := bind_some hs46
          refine XL_indexO u22 i3 hm152 hx167 rfl rfl rfl rfl (fun b168 cap169 F170 hv171 hbm172 hat173 hsub174 => ?_)
          have ho175 := hm152; rw [hv171] at ho175
          have hk176 := (geti_lt hx167).2
          refine XL_load_int u3 rfl hat173 rfl rfl rfl ?_
          refine XL_q rfl (qt_move rfl) rfl rfl ?_
          obtain ⟨x177, hx178, hs46⟩ := bind_some hs46
          refine XL_q rfl (qt_shlO rfl rfl hx178) rfl rfl ?_
          refine SL_nil ?_
          refine XL_q rfl (qt_or rfl rfl) rfl rfl ?_
          obtain ⟨x179, hx180, hs46⟩ := bind_some hs46
          refine XL_indexO u22 i3 hm152 hx180 rfl rfl rfl rfl (fun b181 cap182 F183 hv184 hbm185 hat186 hsub187 => ?_)
          have ho188 := hm152; rw [hv184] at ho188
          have hk189 := (geti_lt hx180).2
          refine WL_store rfl i3 ho188 (⟨rfl, rfl⟩) rfl rfl rfl hk189 (fun w190 hm191 hc192 => ?_)
          have hm193 := hm151.chg hc192 (Dj.symm hd146)
          have hm194 := hm153.chg hc192 hd148
          have hB195 := Chg.below hc192 hB154 hl144
          rw [← hv184] at hm191
          refine WL_nil fun a ha => ?_
          refine nrm_block (nrm_seq (WP.app ?_ ha))
          refine WP_region ?_
          refine XL_q rfl (qt_add rfl rfl) rfl rfl ?_
          refine XL_q rfl (qt_move rfl) rfl rfl ?_
          refine WL_nil fun a ha => ?_
          obtain rfl := Option.some.inj hs46
          exact ⟨rfl, ⟨vp138, Fp138, vs39, Fs39, ha.sub ⟨rfl, rfl, rfl, rfl, rfl, trivial⟩, hB195, hm193, hl142, hm191, hl144, hm194, hd146, hd147, hd148⟩⟩
      · have hs46 := if_f hc58 hs46
        refine WP_exit fun a ha => ?_
        obtain rfl := Option.some.inj hs46
        exact exit_seq (⟨exit_ne, rfl, ⟨vs38, Fs38, ha.sub ⟨rfl, trivial⟩, hB49, hm50, hl51⟩⟩)
    · intro e a43 w196 hO197
      obtain ⟨p198, rfl⟩ : ∃ z, z = o41 := ⟨o41, rfl⟩
      obtain ⟨rfl, hO199⟩ := hO197
      obtain ⟨vp198, Fp198, ha, hB200, hm201, hl202⟩ := hO199
      refine exit_block_eq (nrm_seq (WP.app ?_ ha))
      refine WP_seq ?_
      refine WP_region ?_
      refine XL_q rfl (qt_move rfl) rfl rfl ?_
      refine XL_q rfl (qt_assign rfl) rfl rfl ?_
      refine WL_nil_seq ?_
      refine WP_ret fun a ha => ?_
      obtain rfl := Option.some.inj h
      exact ret1 rfl ha rfl ⟨_, _, rfl, hm201, hl202, hB200⟩
theorem w_laws_markIntS (w : World) (vp0 : Value) (p0 : List Int) (Fp0 : List Nat) (hmp0 : Own w 3 (.int .i64) vp0 p0 Fp0) (p1 : Int) (r : (List Int) × Int) (h : laws_markIntSS p0 p1 = some r) : Calls Try.prog 33 #[vp0, .int .i64 p1] w fun e w' => e = .returned (.int .i64 r.2) ∧ Own w' 3 (.int .i64) vp0 r.1 Fp0 ∧ Chg Fp0 w w' := by
  refine calls_enter (args := [vp0, .int .i64 p1]) (n := 19) Try.func33 rfl rfl rfl ?_
  unfold laws_markIntSS at h
  refine WP_seq ?_
  refine WP_region ?_
  refine XL_q rfl (qt_assign rfl) rfl rfl ?_
  refine WL_nil_seq ?_
  refine WP_seq ?_
  refine WP_seq ?_
  refine WP_region ?_
  refine XL_q rfl (qt_assign rfl) rfl rfl ?_
  refine WL_nil_seq ?_
  refine WP_block ?_
  obtain ⟨o4, ho5, h⟩ := bind_some h
  refine fun a6 ha7 => wp_loop_fix (I := fun s a w2 => match s with | (s1, s2, s3) => (Fr a 19 [(0, vp0), (1, .int .i64 s2), (5, .int .i64 s3)] ∧ Chg Fp0 w w2 ∧ Own w2 3 (.int .i64) vp0 s1 Fp0)) (O := fun o e a w2 => match o with | (q0, q1) => e = .exit 0 ∧ (Fr a 19 [(0, vp0), (1, .int .i64 q1)] ∧ Chg Fp0 w w2 ∧ Own w2 3 (.int .i64) vp0 q0 Fp0)) ho5 ?_ ?_ ?_
  · exact ⟨ha7.sub ⟨rfl, rfl, rfl, trivial⟩, (Chg.refl _ _), hmp0⟩
  · clear ha7
    intro s o10 a w8 hs9 hI11
    obtain ⟨s1, s2, s3⟩ := s
    obtain ⟨ha, hB12, hm13⟩ := hI11
    refine WP.app ?_ ha
    clear ha
    refine WP_seq ?_
    refine WP_seq ?_
    refine WP_region ?_
    refine XL_q rfl (qt_move rfl) rfl rfl ?_
    refine XL_q rfl (qt_move rfl) rfl rfl ?_
    obtain ⟨F14, hr15, hs16⟩ := Own.rep hm13
    refine XL_len u22 hr15 rfl rfl rfl ?_
    refine XL_q rfl (qt_lss rfl rfl) rfl rfl ?_
    refine WL_nil_seq ?_
    refine WP_cond rfl (fun hc17 => ?_) (fun hc17 => ?_)
    · have hs9 := if_t hc17 hs9
      refine WP_skip_seq ?_
      refine WP_seq ?_
      refine WP_block ?_
      refine WP_seq ?_
      refine WP_region ?_
      refine XL_q rfl (qt_move rfl) rfl rfl ?_
      refine XL_q rfl (qt_move rfl) rfl rfl ?_
      refine XL_q rfl (qt_move rfl) rfl rfl ?_
      obtain ⟨x18, hx19, hs9⟩ := bind_some hs9
      refine XL_indexO u22 i3 hm13 hx19 rfl rfl rfl rfl (fun b20 cap21 F22 hv23 hbm24 hat25 hsub26 => ?_)
      have ho27 := hm13; rw [hv23] at ho27
      have hk28 := (geti_lt hx19).2
      refine WL_store rfl i3 ho27 (⟨rfl, rfl⟩) rfl rfl rfl hk28 (fun w29 hm30 hc31 => ?_)
      have hB32 := Chg.trans hB12 hc31
      rw [← hv23] at hm30
      refine WL_nil_seq ?_
      refine WP_region ?_
      refine XL_q rfl (qt_move rfl) rfl rfl ?_
      refine XL_q rfl (qt_add rfl rfl) rfl rfl ?_
      refine XL_q rfl (qt_assign rfl) rfl rfl ?_
      refine WL_nil fun a ha => ?_
      refine nrm_block (nrm_seq (WP.app ?_ ha))
      refine WP_region ?_
      refine XL_q rfl (qt_move rfl) rfl rfl ?_
      refine XL_q rfl (qt_add rfl rfl) rfl rfl ?_
      refine XL_q rfl (qt_assign rfl) rfl rfl ?_
      refine WL_nil fun a ha => ?_
      obtain rfl := Option.some.inj hs9
      exact ⟨rfl, ⟨ha.sub ⟨rfl, rfl, rfl, trivial⟩, hB32, hm30⟩⟩
    · have hs9 := if_f hc17 hs9
      refine WP_exit fun a ha => ?_
      obtain rfl := Option.some.inj hs9
      exact exit_seq (⟨exit_ne, rfl, ⟨ha.sub ⟨rfl, rfl, trivial⟩, hB12, hm13⟩⟩)
  · intro e a6 w33 hO34
    obtain ⟨p35, p36⟩ := o4
    obtain ⟨rfl, hO37⟩ := hO34
    obtain ⟨ha, hB38, hm39⟩ := hO37
    refine exit_block_eq (nrm_seq (WP.app ?_ ha))
    refine WP_seq ?_
    refine WP_region ?_
    refine XL_q rfl (qt_move rfl) rfl rfl ?_
    refine XL_q rfl (qt_assign rfl) rfl rfl ?_
    refine WL_nil_seq ?_
    refine WP_ret fun a ha => ?_
    obtain rfl := Option.some.inj h
    exact ret1 rfl ha rfl ⟨rfl, hm39, hB38⟩
theorem w_laws_heldIntS (w : World) (vp0 : Value) (p0 : List Int) (Fp0 : List Nat) (hmp0 : Rep w (.slice (.int .i64)) [vp0] p0 Fp0) (p1 : Int) (r : Int) (h : laws_heldIntSS p0 p1 = some r) : Calls Try.prog 34 #[vp0, .int .i64 p1] w fun e w' => e = .returned (.int .i64 r) ∧ Below w.heap.size w w' := by
  refine calls_enter (args := [vp0, .int .i64 p1]) (n := 21) Try.func34 rfl rfl rfl ?_
  unfold laws_heldIntSS at h
  refine WP_seq ?_
  refine WP_region ?_
  refine XL_q rfl (qt_assign rfl) rfl rfl ?_
  refine WL_nil_seq ?_
  refine WP_seq ?_
  refine WP_seq ?_
  refine WP_region ?_
  refine XL_q rfl (qt_assign rfl) rfl rfl ?_
  refine WL_nil_seq ?_
  refine WP_block ?_
  obtain ⟨o3, ho4, h⟩ := bind_some h
  refine fun a5 ha6 => wp_loop_fix (I := fun s a w2 => match s with | (s1, s2) => (Fr a 21 [(0, vp0), (1, .int .i64 s1), (5, .int .i64 s2)] ∧ Below w.heap.size w w2 ∧ Rep w2 (.slice (.int .i64)) [vp0] p0 Fp0)) (O := fun o e a w2 => match o with | .inl q1 => e = .exit 0 ∧ (Fr a 21 [(1, .int .i64 q1)] ∧ Below w.heap.size w w2) | .inr q4 => e = .ret ∧ (Fr a 21 [(4, .int .i64 q4)] ∧ Below w.heap.size w w2)) ho4 ?_ ?_ ?_
  · exact ⟨ha6.sub ⟨rfl, rfl, rfl, trivial⟩, (Below.refl _ _), hmp0⟩
  · clear ha6
    intro s o9 a w7 hs8 hI10
    obtain ⟨s1, s2⟩ := s
    obtain ⟨ha, hB11, hm12⟩ := hI10
    refine WP.app ?_ ha
    clear ha
    refine WP_seq ?_
    refine WP_seq ?_
    refine WP_region ?_
    refine XL_q rfl (qt_move rfl) rfl rfl ?_
    refine XL_q rfl (qt_move rfl) rfl rfl ?_
    refine XL_len u22 hm12 rfl rfl rfl ?_
    refine XL_q rfl (qt_lss rfl rfl) rfl rfl ?_
    refine WL_nil_seq ?_
    refine WP_cond rfl (fun hc13 => ?_) (fun hc13 => ?_)
    · have hs8 := if_t hc13 hs8
      refine WP_skip_seq ?_
      refine WP_seq ?_
      refine WP_block ?_
      refine WP_seq ?_
      refine WP_seq ?_
      refine WP_region ?_
      refine XL_q rfl (qt_move rfl) rfl rfl ?_
      refine XL_q rfl (qt_move rfl) rfl rfl ?_
      obtain ⟨x14, hx15, hs8⟩ := bind_some hs8
      refine XL_index u22 i3 hm12 hx15 rfl rfl rfl rfl (fun b16 o17 F18 hat19 hsub20 hbm21 => ?_)
      refine XL_load_int u3 rfl hat19 rfl rfl rfl ?_
      refine XL_q rfl (qt_move rfl) rfl rfl ?_
      refine XL_q rfl (qt_neq rfl rfl) rfl rfl ?_
      refine WL_nil_seq ?_
      refine WP_cond rfl (fun hc22 => ?_) (fun hc22 => ?_)
      · have hs8 := if_t hc22 hs8
        refine WP_seq ?_
        refine WP_region ?_
        refine XL_q rfl (qt_assign rfl) rfl rfl ?_
        refine WL_nil_seq ?_
        refine WP_ret fun a ha => ?_
        obtain rfl := Option.some.inj hs8
        exact ret_seq (ret_block (ret_seq (⟨ret_ne, rfl, ⟨ha.sub ⟨rfl, trivial⟩, hB11⟩⟩)))
      · have hs8 := if_f hc22 hs8
        refine WP_skip_seq ?_
        refine WP_region ?_
        refine XL_q rfl (qt_move rfl) rfl rfl ?_
        refine XL_q rfl (qt_add rfl rfl) rfl rfl ?_
        refine XL_q rfl (qt_assign rfl) rfl rfl ?_
        refine WL_nil fun a ha => ?_
        refine nrm_block (nrm_seq (WP.app ?_ ha))
        refine WP_region ?_
        refine XL_q rfl (qt_move rfl) rfl rfl ?_
        refine XL_q rfl (qt_add rfl rfl) rfl rfl ?_
        refine XL_q rfl (qt_assign rfl) rfl rfl ?_
        refine WL_nil fun a ha => ?_
        obtain rfl := Option.some.inj hs8
        exact ⟨rfl, ⟨ha.sub ⟨rfl, rfl, rfl, trivial⟩, hB11, hm12⟩⟩
    · have hs8 := if_f hc13 hs8
      refine WP_exit fun a ha => ?_
      obtain rfl := Option.some.inj hs8
      exact exit_seq (⟨exit_ne, rfl, ⟨ha.sub ⟨rfl, trivial⟩, hB11⟩⟩)
  · intro e a5 w23 hO24
    rcases o3 with o3 | o3
    · skip
      obtain ⟨p25, rfl⟩ : ∃ z, z = o3 := ⟨o3, rfl⟩
      obtain ⟨rfl, hO26⟩ := hO24
      obtain ⟨ha, hB27⟩ := hO26
      refine exit_block_eq (nrm_seq (WP.app ?_ ha))
      refine WP_seq ?_
      refine WP_region ?_
      refine XL_q rfl (qt_move rfl) rfl rfl ?_
      refine XL_q rfl (qt_assign rfl) rfl rfl ?_
      refine WL_nil_seq ?_
      refine WP_ret fun a ha => ?_
      exact ret1 rfl ha rfl ⟨congrArg (fun z => Ending.returned (.int .i64 z)) (Option.some.inj h), hB27⟩
    · skip
      obtain ⟨p28, rfl⟩ : ∃ z, z = o3 := ⟨o3, rfl⟩
      obtain ⟨rfl, hO29⟩ := hO24
      obtain ⟨ha, hB30⟩ := hO29
      exact ret_block (ret_seq (ret1 rfl ha rfl ⟨congrArg (fun z => Ending.returned (.int .i64 z)) (Option.some.inj h), hB30⟩))
theorem w_laws_FnExactSeatsFirst (w : World) (p0 : Int) (vp1 : Value) (p1 : List Int) (Fp1 : List Nat) (hmp1 : Rep w (.slice (.int .i64)) [vp1] p1 Fp1) (r : Bool) (h : laws_FnExactSeatsFirstS p0 p1 = some r) : Calls Try.prog 9 #[.int .i64 p0, vp1] w fun e w' => e = .returned (.bool r) ∧ Below w.heap.size w w' := by
  refine calls_enter (args := [.int .i64 p0, vp1]) (n := 71) Try.func9 rfl rfl rfl ?_
  unfold laws_FnExactSeatsFirstS at h
  refine WP_seq ?_
  refine WP_region ?_
  refine XL_q rfl (qt_assign rfl) rfl rfl ?_
  refine WL_nil_seq ?_
  refine WP_seq ?_
  refine WP_seq ?_
  refine WP_region ?_
  refine XL_q rfl (qt_move rfl) rfl rfl ?_
  refine XL_len u22 hmp1 rfl rfl rfl ?_
  refine XL_q rfl (qt_gtr rfl rfl) rfl rfl ?_
  refine WL_nil_seq ?_
  refine WP_cond rfl (fun hc1 => ?_) (fun hc1 => ?_)
  · have h := if_t hc1 h
    refine WP_seq ?_
    refine WP_region ?_
    refine XL_q rfl (qt_assign rfl) rfl rfl ?_
    refine WL_nil_seq ?_
    refine WP_ret fun a ha => ?_
    exact ret_seq (ret1 rfl ha rfl ⟨congrArg (fun z => Ending.returned (.bool z)) (Option.some.inj h), (Below.refl _ _)⟩)
  · have h := if_f hc1 h
    refine WP_skip_seq ?_
    refine WP_seq ?_
    refine WP_region ?_
    refine XL_q rfl (qt_move rfl) rfl rfl ?_
    refine XL_q rfl (qt_move rfl) rfl rfl ?_
    obtain ⟨x2, hx3, h⟩ := bind_some h
    refine WL_call rfl rfl c18 (w_laws_toIntS w vp1 p1 Fp1 hmp1 x2 hx3) (by rfl) ?_
    rintro _ w5 ⟨v4, F6, rfl, hm7, hf9, hb8⟩; refine ⟨_, rfl, ?_⟩
    have hl10 := lo_fresh (Below.refl _ _) hf9
    have hm11 := hmp1.below hb8
    have hB12 := bl_trans (Below.refl _ _) hb8
    have hd13 : Dj F6 Fp1 := dj_fresh hf9 hmp1.lt
    obtain ⟨x14, hx15, h⟩ := bind_some h
    obtain ⟨F16, hr17, hs18⟩ := Own.rep hm7
    refine WL_call rfl rfl c31 (w_spec_SeatsFirst w5 p0 v4 x2 F16 hr17 x14 hx15) (by rfl) ?_
    rintro _ w20 ⟨v19, F21, rfl, hm22, hf24, hb23⟩; refine ⟨_, rfl, ?_⟩
    have hl25 := lo_fresh hB12 hf24
    have hm26 := hm11.below hb23
    have hm27 := hm7.below hb23
    have hB28 := bl_trans hB12 hb23
    have hd29 : Dj F21 Fp1 := dj_fresh hf24 hm11.lt
    have hd30 : Dj F21 F6 := dj_fresh hf24 hm7.lt
    refine XL_q rfl (qt_assign rfl) rfl rfl ?_
    refine WL_nil_seq ?_
    refine WP_seq ?_
    refine WP_region ?_
    refine XL_q rfl (qt_move rfl) rfl rfl ?_
    obtain ⟨x31, hx32, h⟩ := bind_some h
    refine WL_call rfl rfl c18 (w_laws_toIntS w20 vp1 p1 Fp1 hm26 x31 hx32) (by rfl) ?_
    rintro _ w34 ⟨v33, F35, rfl, hm36, hf38, hb37⟩; refine ⟨_, rfl, ?_⟩
    have hl39 := lo_fresh hB28 hf38
    have hm40 := hm26.below hb37
    have hm41 := hm22.below hb37
    have hm42 := hm27.below hb37
    have hB43 := bl_trans hB28 hb37
    have hd44 : Dj F35 Fp1 := dj_fresh hf38 hm26.lt
    have hd45 : Dj F35 F21 := dj_fresh hf38 hm22.lt
    have hd46 : Dj F35 F6 := dj_fresh hf38 hm27.lt
    refine XL_q rfl (qt_assign rfl) rfl rfl ?_
    refine WL_nil_seq ?_
    refine WP_seq ?_
    refine WP_region ?_
    refine XL_q rfl (qt_move rfl) rfl rfl ?_
    refine XL_q rfl (qt_move rfl) rfl rfl ?_
    obtain ⟨x47, hx48, h⟩ := bind_some h
    obtain ⟨F49, hr50, hs51⟩ := Own.rep hm36
    refine WL_call rfl rfl c32 (w_impl_SeatsFirst w34 p0 v33 x31 F49 hr50 x47 hx48) (by rfl) ?_
    rintro _ w53 ⟨v52, F54, rfl, hm55, hf57, hb56⟩; refine ⟨_, rfl, ?_⟩
    have hl58 := lo_fresh hB43 hf57
    have hm59 := hm40.below hb56
    have hm60 := hm41.below hb56
    have hm61 := hm36.below hb56
    have hm62 := hm42.below hb56
    have hB63 := bl_trans hB43 hb56
    have hd64 : Dj F54 Fp1 := dj_fresh hf57 hm40.lt
    have hd65 : Dj F54 F21 := dj_fresh hf57 hm41.lt
    have hd66 : Dj F54 F35 := dj_fresh hf57 hm36.lt
    have hd67 : Dj F54 F6 := dj_fresh hf57 hm42.lt
    refine XL_q rfl (qt_assign rfl) rfl rfl ?_
    refine WL_nil_seq ?_
    refine WP_seq ?_
    refine WP_seq ?_
    refine WP_still ?_
    refine XL_q rfl (qt_move rfl) rfl rfl ?_
    refine XL_q rfl (qt_move rfl) rfl rfl ?_
    obtain ⟨x68, hx69, h⟩ := bind_some h
    obtain ⟨F70, hr71, hs72⟩ := Own.rep hm55
    obtain ⟨F73, hr74, hs75⟩ := Own.rep hm60
    refine QL_call rfl rfl c20 (fun w' hb => w_laws_eqIntS w' v52 x47 F70 (hr71.below hb) v19 x14 F73 (hr74.below hb) x68 hx69) (by rfl) ?_
    refine XL_q rfl (qt_not rfl) rfl rfl ?_
    refine QL_nil fun a ha w76 hb77 => ?_
    have hm78 := hm59.below hb77
    have hm79 := hm60.below hb77
    have hm80 := hm61.below hb77
    have hm81 := hm55.below hb77
    have hB82 := bl_trans hB63 hb77
    refine nrm_seq (WP.app ?_ ha)
    refine WP_cond rfl (fun hc83 => ?_) (fun hc83 => ?_)
    · have h := if_t hc83 h
      refine WP_seq ?_
      refine WP_region ?_
      refine XL_q rfl (qt_assign rfl) rfl rfl ?_
      refine WL_nil_seq ?_
      refine WP_ret fun a ha => ?_
      exact ret_seq (ret1 rfl ha rfl ⟨congrArg (fun z => Ending.returned (.bool z)) (Option.some.inj h), hB82⟩)
    · have h := if_f hc83 h
      refine WP_skip_seq ?_
      refine WP_seq ?_
      refine WP_seq ?_
      refine WP_region ?_
      refine XL_q rfl (qt_move rfl) rfl rfl ?_
      refine XL_q rfl (qt_move rfl) rfl rfl ?_
      obtain ⟨x84, hx85, h⟩ := bind_some h
      refine WL_call rfl rfl c18 (w_laws_toIntS w76 vp1 p1 Fp1 hm78 x84 hx85) (by rfl) ?_
      rintro _ w87 ⟨v86, F88, rfl, hm89, hf91, hb90⟩; refine ⟨_, rfl, ?_⟩
      have hl92 := lo_fresh hB82 hf91
      have hm93 := hm78.below hb90
      have hm94 := hm79.below hb90
      have hm95 := hm80.below hb90
      have hm96 := hm81.below hb90
      have hB97 := bl_trans hB82 hb90
      have hd98 : Dj F88 Fp1 := dj_fresh hf91 hm78.lt
      have hd99 : Dj F88 F21 := dj_fresh hf91 hm79.lt
      have hd100 : Dj F88 F35 := dj_fresh hf91 hm80.lt
      have hd101 : Dj F88 F54 := dj_fresh hf91 hm81.lt
      obtain ⟨x102, hx103, h⟩ := bind_some h
      obtain ⟨F104, hr105, hs106⟩ := Own.rep hm95
      obtain ⟨F107, hr108, hs109⟩ := Own.rep hm89
      refine WL_call rfl rfl c20 (w_laws_eqIntS w87 v33 x31 F104 hr105 v86 x84 F107 hr108 x102 hx103) (by rfl) ?_
      rintro _ w110 ⟨rfl, hb111⟩; refine ⟨_, rfl, ?_⟩
      have hm112 := hm93.below hb111
      have hm113 := hm94.below hb111
      have hm114 := hm95.below hb111
      have hm115 := hm96.below hb111
      have hm116 := hm89.below hb111
      have hB117 := bl_trans hB97 hb111
      refine XL_q rfl (qt_not rfl) rfl rfl ?_
      refine WL_nil_seq ?_
      refine WP_cond rfl (fun hc118 => ?_) (fun hc118 => ?_)
      · have h := if_t hc118 h
        refine WP_seq ?_
        refine WP_region ?_
        refine XL_q rfl (qt_assign rfl) rfl rfl ?_
        refine WL_nil_seq ?_
        refine WP_ret fun a ha => ?_
        exact ret_seq (ret1 rfl ha rfl ⟨congrArg (fun z => Ending.returned (.bool z)) (Option.some.inj h), hB117⟩)
      · have h := if_f hc118 h
        refine WP_skip_seq ?_
        refine WP_seq ?_
        refine WP_region ?_
        refine XL_q rfl (qt_assign rfl) rfl rfl ?_
        refine WL_nil_seq ?_
        refine WP_seq ?_
        refine WP_region ?_
        refine XL_q rfl (qt_move rfl) rfl rfl ?_
        refine XL_q rfl (qt_move rfl) rfl rfl ?_
        obtain ⟨x119, hx120, h⟩ := bind_some h
        refine WL_call rfl rfl c33 (w_laws_markIntS w110 v33 x31 F35 hm114 1 x119 hx120) (by rfl) ?_
        rintro _ w121 ⟨rfl, hm122, hc123⟩; refine ⟨_, rfl, ?_⟩
        have hm124 := hm112.chg hc123 hd44
        have hm125 := hm113.chg hc123 hd45
        have hm126 := hm115.chg hc123 (Dj.symm hd66)
        have hm127 := hm116.chg hc123 (Dj.symm hd100)
        have hB128 := Chg.below hc123 hB117 hl39
        refine XL_q rfl (qt_assign rfl) rfl rfl ?_
        refine WL_nil_seq ?_
        refine WP_seq ?_
        refine WP_seq ?_
        refine WP_still ?_
        refine XL_q rfl (qt_move rfl) rfl rfl ?_
        refine XL_q rfl (qt_lss rfl rfl) rfl rfl ?_
        refine XL_q rfl (qt_move rfl) rfl rfl ?_
        obtain ⟨b129, hg130, h⟩ := bind_some h
        refine XL_join 5 43 (.bool b129) ?_ (fun md hmd hk => ?_)
        rotate_left
        · obtain ⟨K, rfl⟩ := Md.quiet_of hmd
          rcases btf (decide (x119.2 < 0)) with hc131 | hc131
          · skip
            refine XL_skip (w_skip rfl hc131) rfl rfl ?_
            refine XL_skip (w_skip rfl hc131) rfl rfl ?_
            refine XL_skip (w_skip rfl hc131) rfl rfl ?_
            refine XL_skip (w_skip rfl hc131) rfl rfl ?_
            refine XL_q rfl (qt_pickT rfl hc131 rfl) rfl rfl ?_
            exact hk _ (Cov.same (vb (if_t hc131 hg130)) (Cov.fresh rfl (Cov.fresh rfl (Cov.fresh rfl (Cov.fresh rfl (Cov.refl))))))
          · skip
            have hg130 := if_f hc131 hg130
            refine XL_q (w_take rfl hc131) (qt_move rfl) rfl rfl ?_
            refine XL_q (w_take rfl hc131) (qt_move rfl) rfl rfl ?_
            obtain ⟨x132, hx133, hg130⟩ := bind_some hg130
            obtain ⟨F134, hr135, hs136⟩ := Own.rep hm126
            obtain ⟨F137, hr138, hs139⟩ := Own.rep hm125
            refine QL_call (w_take rfl hc131) rfl c20 (fun w' hb => w_laws_eqIntS w' v52 x47 F134 (hr135.below hb) v19 x14 F137 (hr138.below hb) x132 hx133) (by rfl) ?_
            refine XL_q (w_take rfl hc131) (qt_not rfl) rfl rfl ?_
            refine XL_q rfl (qt_pickF rfl hc131 rfl) rfl rfl ?_
            exact hk _ (Cov.same (vb hg130) (Cov.fresh rfl (Cov.fresh rfl (Cov.fresh rfl (Cov.fresh rfl (Cov.refl))))))
        refine QL_nil fun a ha w140 hb141 => ?_
        have hm142 := hm124.below hb141
        have hm143 := hm125.below hb141
        have hm144 := hm126.below hb141
        have hB145 := bl_trans hB128 hb141
        refine nrm_seq (WP.app ?_ ha)
        refine WP_cond rfl (fun hc146 => ?_) (fun hc146 => ?_)
        · have h := if_t hc146 h
          refine WP_seq ?_
          refine WP_region ?_
          refine XL_q rfl (qt_assign rfl) rfl rfl ?_
          refine WL_nil_seq ?_
          refine WP_ret fun a ha => ?_
          exact ret_seq (ret1 rfl ha rfl ⟨congrArg (fun z => Ending.returned (.bool z)) (Option.some.inj h), hB145⟩)
        · have h := if_f hc146 h
          refine WP_skip_seq ?_
          refine WP_seq ?_
          refine WP_region ?_
          refine XL_q rfl (qt_assign rfl) rfl rfl ?_
          refine WL_nil_seq ?_
          refine WP_seq ?_
          refine WP_region ?_
          refine XL_q rfl (qt_move rfl) rfl rfl ?_
          refine XL_q rfl (qt_move rfl) rfl rfl ?_
          obtain ⟨x147, hx148, h⟩ := bind_some h
          refine WL_call rfl rfl c33 (w_laws_markIntS w140 v52 x47 F54 hm144 1 x147 hx148) (by rfl) ?_
          rintro _ w149 ⟨rfl, hm150, hc151⟩; refine ⟨_, rfl, ?_⟩
          have hm152 := hm142.chg hc151 hd64
          have hm153 := hm143.chg hc151 hd65
          have hB154 := Chg.below hc151 hB145 hl58
          refine XL_q rfl (qt_assign rfl) rfl rfl ?_
          refine WL_nil_seq ?_
          refine WP_seq ?_
          refine WP_region ?_
          refine XL_q rfl (qt_assign rfl) rfl rfl ?_
          refine WL_nil_seq ?_
          refine WP_seq ?_
          refine WP_still ?_
          refine XL_q rfl (qt_move rfl) rfl rfl ?_
          refine XL_q rfl (qt_move rfl) rfl rfl ?_
          obtain ⟨x155, hx156, h⟩ := bind_some h
          obtain ⟨F157, hr158, hs159⟩ := Own.rep hm150
          refine QL_call rfl rfl c34 (fun w' hb => w_laws_heldIntS w' v52 x147.1 F157 (hr158.below hb) 1 x155 hx156) (by rfl) ?_
          refine XL_q rfl (qt_assign rfl) rfl rfl ?_
          refine QL_nil fun a ha w160 hb161 => ?_
          have hm162 := hm152.below hb161
          have hm163 := hm153.below hb161
          have hm164 := hm150.below hb161
          have hB165 := bl_trans hB154 hb161
          refine nrm_seq (WP.app ?_ ha)
          refine WP_seq ?_
          refine WP_seq ?_
          refine WP_region ?_
          refine XL_q rfl (qt_move rfl) rfl rfl ?_
          refine XL_q rfl (qt_lss rfl rfl) rfl rfl ?_
          refine WL_nil_seq ?_
          refine WP_cond rfl (fun hc166 => ?_) (fun hc166 => ?_)
          · have h := if_t hc166 h
            refine WP_seq ?_
            refine WP_region ?_
            refine XL_q rfl (qt_assign rfl) rfl rfl ?_
            refine WL_nil_seq ?_
            refine WP_ret fun a ha => ?_
            exact ret_seq (ret1 rfl ha rfl ⟨congrArg (fun z => Ending.returned (.bool z)) (Option.some.inj h), hB165⟩)
          · have h := if_f hc166 h
            refine WP_skip_seq ?_
            refine WP_seq ?_
            refine WP_seq ?_
            refine WP_region ?_
            refine XL_q rfl (qt_move rfl) rfl rfl ?_
            refine XL_q rfl (qt_move rfl) rfl rfl ?_
            refine XL_q rfl (qt_neq rfl rfl) rfl rfl ?_
            refine WL_nil_seq ?_
            refine WP_cond rfl (fun hc167 => ?_) (fun hc167 => ?_)
            · have h := if_t hc167 h
              refine WP_seq ?_
              refine WP_region ?_
              refine XL_q rfl (qt_assign rfl) rfl rfl ?_
              refine WL_nil_seq ?_
              refine WP_ret fun a ha => ?_
              exact ret_seq (ret1 rfl ha rfl ⟨congrArg (fun z => Ending.returned (.bool z)) (Option.some.inj h), hB165⟩)
            · have h := if_f hc167 h
              refine WP_skip_seq ?_
              refine WP_seq ?_
              refine WP_region ?_
              refine XL_q rfl (qt_move rfl) rfl rfl ?_
              refine XL_q rfl (qt_move rfl) rfl rfl ?_
              obtain ⟨x168, hx169, h⟩ := bind_some h
              refine WL_call rfl rfl c18 (w_laws_toIntS w160 vp1 p1 Fp1 hm162 x168 hx169) (by rfl) ?_
              rintro _ w171 ⟨v170, F172, rfl, hm173, hf175, hb174⟩; refine ⟨_, rfl, ?_⟩
              have hl176 := lo_fresh hB165 hf175
              have hm177 := hm162.below hb174
              have hm178 := hm163.below hb174
              have hm179 := hm164.below hb174
              have hB180 := bl_trans hB165 hb174
              have hd181 : Dj F172 Fp1 := dj_fresh hf175 hm162.lt
              have hd182 : Dj F172 F21 := dj_fresh hf175 hm163.lt
              have hd183 : Dj F172 F54 := dj_fresh hf175 hm164.lt
              obtain ⟨x184, hx185, h⟩ := bind_some h
              obtain ⟨F186, hr187, hs188⟩ := Own.rep hm173
              refine WL_call rfl rfl c32 (w_impl_SeatsFirst w171 p0 v170 x168 F186 hr187 x184 hx185) (by rfl) ?_
              rintro _ w190 ⟨v189, F191, rfl, hm192, hf194, hb193⟩; refine ⟨_, rfl, ?_⟩
              have hl195 := lo_fresh hB180 hf194
              have hm196 := hm177.below hb193
              have hm197 := hm178.below hb193
              have hm198 := hm179.below hb193
              have hm199 := hm173.below hb193
              have hB200 := bl_trans hB180 hb193
              have hd201 : Dj F191 Fp1 := dj_fresh hf194 hm177.lt
              have hd202 : Dj F191 F21 := dj_fresh hf194 hm178.lt
              have hd203 : Dj F191 F54 := dj_fresh hf194 hm179.lt
              have hd204 : Dj F191 F172 := dj_fresh hf194 hm173.lt
              refine XL_q rfl (qt_assign rfl) rfl rfl ?_
              refine WL_nil_seq ?_
              refine WP_seq ?_
              refine WP_seq ?_
              refine WP_still ?_
              refine XL_q rfl (qt_move rfl) rfl rfl ?_
              refine XL_q rfl (qt_move rfl) rfl rfl ?_
              obtain ⟨x205, hx206, h⟩ := bind_some h
              obtain ⟨F207, hr208, hs209⟩ := Own.rep hm192
              obtain ⟨F210, hr211, hs212⟩ := Own.rep hm197
              refine QL_call rfl rfl c20 (fun w' hb => w_laws_eqIntS w' v189 x184 F207 (hr208.below hb) v19 x14 F210 (hr211.below hb) x205 hx206) (by rfl) ?_
              refine XL_q rfl (qt_not rfl) rfl rfl ?_
              refine QL_nil fun a ha w213 hb214 => ?_
              have hm215 := hm198.below hb214
              have hB216 := bl_trans hB200 hb214
              refine nrm_seq (WP.app ?_ ha)
              refine WP_cond rfl (fun hc217 => ?_) (fun hc217 => ?_)
              · have h := if_t hc217 h
                refine WP_seq ?_
                refine WP_region ?_
                refine XL_q rfl (qt_assign rfl) rfl rfl ?_
                refine WL_nil_seq ?_
                refine WP_ret fun a ha => ?_
                exact ret_seq (ret1 rfl ha rfl ⟨congrArg (fun z => Ending.returned (.bool z)) (Option.some.inj h), hB216⟩)
              · have h := if_f hc217 h
                refine WP_skip_seq ?_
                refine WP_seq ?_
                refine WP_region ?_
                refine XL_q rfl (qt_assign rfl) rfl rfl ?_
                refine WL_nil_seq ?_
                refine WP_seq ?_
                refine WP_still ?_
                refine XL_q rfl (qt_move rfl) rfl rfl ?_
                refine XL_q rfl (qt_move rfl) rfl rfl ?_
                obtain ⟨x218, hx219, h⟩ := bind_some h
                obtain ⟨F220, hr221, hs222⟩ := Own.rep hm215
                refine QL_call rfl rfl c34 (fun w' hb => w_laws_heldIntS w' v52 x147.1 F220 (hr221.below hb) 1 x218 hx219) (by rfl) ?_
                refine XL_q rfl (qt_assign rfl) rfl rfl ?_
                refine QL_nil fun a ha w223 hb224 => ?_
                have hB225 := bl_trans hB216 hb224
                refine nrm_seq (WP.app ?_ ha)
                refine WP_seq ?_
                refine WP_seq ?_
                refine WP_region ?_
                refine XL_q rfl (qt_move rfl) rfl rfl ?_
                refine XL_q rfl (qt_lss rfl rfl) rfl rfl ?_
                refine WL_nil_seq ?_
                refine WP_cond rfl (fun hc226 => ?_) (fun hc226 => ?_)
                · have h := if_t hc226 h
                  refine WP_seq ?_
                  refine WP_region ?_
                  refine XL_q rfl (qt_assign rfl) rfl rfl ?_
                  refine WL_nil_seq ?_
                  refine WP_ret fun a ha => ?_
                  exact ret_seq (ret1 rfl ha rfl ⟨congrArg (fun z => Ending.returned (.bool z)) (Option.some.inj h), hB225⟩)
                · have h := if_f hc226 h
                  refine WP_skip_seq ?_
                  refine WP_seq ?_
                  refine WP_seq ?_
                  refine WP_region ?_
                  refine XL_q rfl (qt_move rfl) rfl rfl ?_
                  refine XL_q rfl (qt_move rfl) rfl rfl ?_
                  refine XL_q rfl (qt_neq rfl rfl) rfl rfl ?_
                  refine WL_nil_seq ?_
                  refine WP_cond rfl (fun hc227 => ?_) (fun hc227 => ?_)
                  · have h := if_t hc227 h
                    refine WP_seq ?_
                    refine WP_region ?_
                    refine XL_q rfl (qt_assign rfl) rfl rfl ?_
                    refine WL_nil_seq ?_
                    refine WP_ret fun a ha => ?_
                    exact ret_seq (ret1 rfl ha rfl ⟨congrArg (fun z => Ending.returned (.bool z)) (Option.some.inj h), hB225⟩)
                  · have h := if_f hc227 h
                    refine WP_skip_seq ?_
                    refine WP_seq ?_
                    refine WP_region ?_
                    refine XL_q rfl (qt_assign rfl) rfl rfl ?_
                    refine WL_nil_seq ?_
                    refine WP_ret fun a ha => ?_
                    exact ret1 rfl ha rfl ⟨congrArg (fun z => Ending.returned (.bool z)) (Option.some.inj h), hB225⟩
end Go.Proofs.Ytefgdbldkdgogaa
