/- The walks: each Go function computes its shallow function. Printed by a program. -/
import Derived.Test.YtcjkbcdlpfgbgaaWX72
set_option linter.unusedVariables false
set_option maxRecDepth 10000
namespace Go.Proofs.Ytcjkbcdlpfgbgaa
open Go Go.RowKit
theorem w_spec_TableBill (w : World) (G : List Res) (vp0_0 : Value) (p0_0 : List (Int × (List (Int × Int)) × Int)) (hp0_0 : Has G (.pair (.int .i64) (.pair (.slice (.pair (.int .i64) (.int .i64))) (.int .i64))) vp0_0 p0_0) (vp0_1 : Value) (p0_1 : List Int) (hp0_1 : Has G (.int .i64) vp0_1 p0_1) (vp0_2 : Value) (p0_2 : List Int) (hp0_2 : Has G (.int .i64) vp0_2 p0_2) (p0_3 : Int) (vp0_4 : Value) (p0_4 : List (Int × (List (Int × Int)) × (List Int))) (hp0_4 : Has G (.pair (.int .i64) (.pair (.slice (.pair (.int .i64) (.int .i64))) (.slice (.int .i64)))) vp0_4 p0_4) (p1 : Int) (r : Int) (h : spec_TableBillS p0_0 p0_1 p0_2 p0_3 p0_4 p1 = some r) (H : Ctx w G) : Calls Try.prog 12 #[.agg #[vp0_0, vp0_1, vp0_2, .int .i64 p0_3, vp0_4], .int .i64 p1] w fun e w' => e = .returned (.int .i64 r) ∧ Holds (([] : List Res).flatMap Res.own) w w' [] G := by
  have H : Holds (([] : List Res).flatMap Res.own) w w [] G := Holds.startN H
  refine calls_enter (args := [.agg #[vp0_0, vp0_1, vp0_2, .int .i64 p0_3, vp0_4], .int .i64 p1]) (n := 57) Try.func12 rfl rfl rfl ?_
  unfold spec_TableBillS at h
  refine WP_seq ?_
  refine WP_region ?_
  refine WL_box (cs := [vp0_0, vp0_1, vp0_2, .int .i64 p0_3, vp0_4]) H rfl rfl rfl rfl (fun b1 w2 H3 => ?_)
  have H4 : Holds (([] : List Res).flatMap Res.own) w w2 [.bx b1 32 [vp0_0, vp0_1, vp0_2, .int .i64 p0_3, vp0_4]] G := H3
  refine XL_q rfl (qt_assign rfl) rfl rfl ?_
  refine WL_nil_seq ?_
  refine WP_seq ?_
  refine WP_seq ?_
  refine WP_still ?_
  have hB5 : Bx w2 b1 32 [vp0_0, vp0_1, vp0_2, .int .i64 p0_3, vp0_4] := Holds.bx (H4.pull 0)
  refine XL_load_bxA (cs := [vp0_0, vp0_1, vp0_2, .int .i64 p0_3, vp0_4]) us32 uo32 il32 hB5 rfl rfl rfl ?_
  change XL _ _ _ _ _ ((7, .agg #[vp0_0, vp0_1, vp0_2, .int .i64 p0_3, vp0_4]) :: _) _
  obtain ⟨x6, hx7, h⟩ := bind_some h
  refine QL_call rfl rfl c8 (fun w' hb => (w_spec_HouseValid w' ([.bx b1 32 [vp0_0, vp0_1, vp0_2, .int .i64 p0_3, vp0_4]] ++ G) vp0_0 p0_0 (hp0_0.c) vp0_1 p0_1 (hp0_1.c) vp0_2 p0_2 (hp0_2.c) p0_3 vp0_4 p0_4 (hp0_4.c) x6 hx7 (H4.grow hb).ctx).mono fun e w'' hK => ⟨hK.1, hK.2.bel⟩) (by rfl) ?_
  refine XL_q rfl (qt_not rfl) rfl rfl ?_
  refine XL_q rfl (qt_move rfl) rfl rfl ?_
  obtain ⟨b8, hg9, h⟩ := bind_some h
  refine XL_join 8 18 (.bool b8) ?_ (fun md hmd hk => ?_)
  rotate_left
  · obtain ⟨K, rfl⟩ := Md.quiet_of hmd
    rcases btf (!x6) with hc10 | hc10
    · skip
      refine XL_skip (w_skip rfl hc10) rfl rfl ?_
      refine XL_skip (w_skip rfl hc10) rfl rfl ?_
      refine XL_skip (w_skip rfl hc10) rfl rfl ?_
      refine XL_skip (w_skip rfl hc10) rfl rfl ?_
      refine XL_skip (w_skip rfl hc10) rfl rfl ?_
      refine XL_skip (w_skip rfl hc10) rfl rfl ?_
      refine XL_skip (w_skip rfl hc10) rfl rfl ?_
      refine XL_q rfl (qt_pickT rfl hc10 rfl) rfl rfl ?_
      exact hk _ (Cov.same (vb (if_t hc10 hg9)) (Cov.fresh rfl (Cov.fresh rfl (Cov.fresh rfl (Cov.fresh rfl (Cov.fresh rfl (Cov.fresh rfl (Cov.fresh rfl (Cov.refl)))))))))
    · skip
      have hg9 := if_f hc10 hg9
      refine XL_q (w_take rfl hc10) (qt_move rfl) rfl rfl ?_
      refine XL_q (w_take rfl hc10) (qt_fieldAddr uf32 fi32_4 nz30 rfl) rfl rfl ?_
      have hB11 : Bx w2 b1 32 [vp0_0, vp0_1, vp0_2, .int .i64 p0_3, vp0_4] := Holds.bx (H4.pull 0)
      refine XL_load_bx u30 rfl hB11 rfl (w_take rfl hc10) rfl rfl ?_
      refine XL_lenH H4.ctx (t := (.pair (.int .i64) (.pair (.slice (.pair (.int .i64) (.int .i64))) (.slice (.int .i64))))) (hp0_4.c) u30 (w_take rfl hc10) rfl rfl ?_
      refine XL_q (w_take rfl hc10) (qt_sub rfl rfl) rfl rfl ?_
      obtain ⟨x12, hx13, hg9⟩ := bind_some hg9
      refine QL_call (w_take rfl hc10) rfl c27 (fun w' hb => (w_spec_l1In w' ([.bx b1 32 [vp0_0, vp0_1, vp0_2, .int .i64 p0_3, vp0_4]] ++ G) p1 0 (IntKind.wrap .i64 ((List.length p0_4 : Int) - 1)) x12 hx13 (H4.grow hb).ctx).mono fun e w'' hK => ⟨hK.1, hK.2.bel⟩) (by rfl) ?_
      refine XL_q (w_take rfl hc10) (qt_not rfl) rfl rfl ?_
      refine XL_q rfl (qt_pickF rfl hc10 rfl) rfl rfl ?_
      exact hk _ (Cov.same (vb hg9) (Cov.fresh rfl (Cov.fresh rfl (Cov.fresh rfl (Cov.fresh rfl (Cov.fresh rfl (Cov.fresh rfl (Cov.fresh rfl (Cov.refl)))))))))
  refine QL_nil fun a ha w14 hb15 => ?_
  have H16 : Holds (([] : List Res).flatMap Res.own) w w14 [.bx b1 32 [vp0_0, vp0_1, vp0_2, .int .i64 p0_3, vp0_4]] G := H4.grow hb15
  refine nrm_seq (WP.app ?_ ha)
  refine WP_cond rfl (fun hc17 => ?_) (fun hc17 => ?_)
  · have h := if_t hc17 h
    refine WP_seq ?_
    refine WP_region ?_
    refine XL_q rfl (qt_assign rfl) rfl rfl ?_
    refine WL_nil_seq ?_
    refine WP_ret fun a ha => ?_
    obtain rfl := Option.some.inj h
    have H18 : Holds (([] : List Res).flatMap Res.own) w w14 [] G := (H16.cut 0)
    exact ret_seq (ret1 rfl ha rfl ⟨rfl, H18⟩)
  · have h := if_f hc17 h
    refine WP_skip_seq ?_
    refine WP_seq ?_
    refine WP_region ?_
    refine XL_q rfl (qt_assign rfl) rfl rfl ?_
    refine WL_nil_seq ?_
    refine WP_seq ?_
    refine WP_seq ?_
    refine WP_region ?_
    refine XL_q rfl (qt_assign rfl) rfl rfl ?_
    refine WL_nil_seq ?_
    refine WP_block ?_
    obtain ⟨o21, ho22, h⟩ := bind_some h
    refine fun a23 ha24 => wp_loop_fix (I := fun s a w2 => match s with | (s19, s20) => (Fr a 57 [(1, .int .i64 p1), (2, .pointer (some ⟨b1, 0, none⟩)), (5, .int .i64 s19), (6, .int .i64 s20)] ∧ Holds (([] : List Res).flatMap Res.own) w w2 [.bx b1 32 [vp0_0, vp0_1, vp0_2, .int .i64 p0_3, vp0_4]] G)) (O := fun o e a w2 => match o with | q0 => e = .exit 0 ∧ (Fr a 57 [(5, .int .i64 q0)] ∧ Holds (([] : List Res).flatMap Res.own) w w2 [] G)) ho22 ?_ ?_ ?_
    · exact ⟨ha24.sub ⟨rfl, rfl, rfl, rfl, trivial⟩, H16⟩
    · clear ha24
      intro s o27 a w25 hs26 hI28
      obtain ⟨s19, s20⟩ := s
      obtain ⟨ha, H29⟩ := hI28
      refine WP.app ?_ ha
      clear ha
      refine WP_seq ?_
      refine WP_seq ?_
      refine WP_region ?_
      refine XL_q rfl (qt_move rfl) rfl rfl ?_
      refine XL_q rfl (qt_fieldAddr uf32 fi32_4 nz30 rfl) rfl rfl ?_
      have hB30 : Bx w25 b1 32 [vp0_0, vp0_1, vp0_2, .int .i64 p0_3, vp0_4] := Holds.bx (H29.pull 0)
      refine XL_load_bx u30 rfl hB30 rfl rfl rfl rfl ?_
      refine XL_q rfl (qt_move rfl) rfl rfl ?_
      obtain ⟨x31, hx32, hs26⟩ := bind_some hs26
      refine XL_indexH H29.ctx (hp0_4.c) hx32 u30 i50 rfl rfl rfl rfl (fun b33 off34 cap35 hv36 => ?_)
      refine XL_q rfl (qt_fieldAddr uf50 fi50_1 nz48 rfl) rfl rfl ?_
      obtain ⟨F37, hat38, hdup39⟩ := H29.at (hp0_4.c) hx32 hv36
      obtain ⟨F40, hat41, hin42⟩ := AtP.snd hat38
      obtain ⟨F43, hat44, hin45⟩ := AtP.fst hat41
      refine XL_load (t := (.slice (.pair (.int .i64) (.int .i64)))) u48 rfl rfl hat44 rfl rfl rfl (fun v46 hr47 => ?_)
      have H48 : Holds (([] : List Res).flatMap Res.own) w w25 [.ro (.pair (.int .i64) (.int .i64)) v46 x31.2.1, .bx b1 32 [vp0_0, vp0_1, vp0_2, .int .i64 p0_3, vp0_4]] G := hdup39 _ _ _ _ hr47 (fun k h => (fun k h => (fun _ h => h) k (hin42 k h)) k (hin45 k h))
      refine XL_lenH H48.ctx (t := (.pair (.int .i64) (.int .i64))) (HasRo.has (HasRo.hd)) u48 rfl rfl rfl ?_
      refine XL_q rfl (qt_lss rfl rfl) rfl rfl ?_
      refine WL_nil_seq ?_
      refine WP_cond rfl (fun hc49 => ?_) (fun hc49 => ?_)
      · have hs26 := if_t hc49 hs26
        refine WP_skip_seq ?_
        refine WP_seq ?_
        refine WP_block ?_
        refine WP_seq ?_
        refine WP_region ?_
        refine XL_q rfl (qt_fieldAddr uf32 fi32_4 nz30 rfl) rfl rfl ?_
        have hB50 : Bx w25 b1 32 [vp0_0, vp0_1, vp0_2, .int .i64 p0_3, vp0_4] := Holds.bx (H48.pull 1)
        refine XL_load_bx u30 rfl hB50 rfl rfl rfl rfl ?_
        refine XL_q rfl (qt_move rfl) rfl rfl ?_
        obtain ⟨x51, hx52, hs26⟩ := bind_some hs26
        refine XL_indexH H48.ctx (hp0_4.c.c) hx52 u30 i50 rfl rfl rfl rfl (fun b53 off54 cap55 hv56 => ?_)
        refine XL_q rfl (qt_fieldAddr uf50 fi50_1 nz48 rfl) rfl rfl ?_
        obtain ⟨F57, hat58, hdup59⟩ := H48.at (hp0_4.c.c) hx52 hv56
        obtain ⟨F60, hat61, hin62⟩ := AtP.snd hat58
        obtain ⟨F63, hat64, hin65⟩ := AtP.fst hat61
        refine XL_load (t := (.slice (.pair (.int .i64) (.int .i64)))) u48 rfl rfl hat64 rfl rfl rfl (fun v66 hr67 => ?_)
        have H68 : Holds (([] : List Res).flatMap Res.own) w w25 [.ro (.pair (.int .i64) (.int .i64)) v66 x51.2.1, .ro (.pair (.int .i64) (.int .i64)) v46 x31.2.1, .bx b1 32 [vp0_0, vp0_1, vp0_2, .int .i64 p0_3, vp0_4]] G := hdup59 _ _ _ _ hr67 (fun k h => (fun k h => (fun _ h => h) k (hin62 k h)) k (hin65 k h))
        refine XL_q rfl (qt_move rfl) rfl rfl ?_
        obtain ⟨x69, hx70, hs26⟩ := bind_some hs26
        refine XL_indexH H68.ctx (HasRo.has (HasRo.hd)) hx70 u48 i63 rfl rfl rfl rfl (fun b71 off72 cap73 hv74 => ?_)
        refine XL_q rfl (qt_fieldAddr uf63 fi63_1 nz3 rfl) rfl rfl ?_
        obtain ⟨F75, hat76, hdup77⟩ := H68.at (HasRo.has (HasRo.hd)) hx70 hv74
        obtain ⟨F78, hat79, hin80⟩ := AtP.snd hat76
        refine XL_load_int (k := .i64) u3 rfl hat79 rfl rfl rfl ?_
        refine XL_q rfl (qt_eql rfl rfl) rfl rfl ?_
        refine WL_nil_seq ?_
        refine WP_cond rfl (fun hc81 => ?_) (fun hc81 => ?_)
        · have hs26 := if_t hc81 hs26
          refine WP_quiet (by kernel_rfl) (by kernel_rfl) ?_
          refine XL_q rfl (qt_move rfl) rfl rfl ?_
          refine XL_q rfl (qt_fieldAddr uf32 fi32_1 nz23 rfl) rfl rfl ?_
          have hB82 : Bx w25 b1 32 [vp0_0, vp0_1, vp0_2, .int .i64 p0_3, vp0_4] := Holds.bx (H68.pull 2)
          refine XL_load_bx u23 rfl hB82 rfl rfl rfl rfl ?_
          refine XL_q rfl (qt_fieldAddr uf32 fi32_4 nz30 rfl) rfl rfl ?_
          have hB83 : Bx w25 b1 32 [vp0_0, vp0_1, vp0_2, .int .i64 p0_3, vp0_4] := Holds.bx (H68.pull 2)
          refine XL_load_bx u30 rfl hB83 rfl rfl rfl rfl ?_
          refine XL_q rfl (qt_move rfl) rfl rfl ?_
          obtain ⟨x84, hx85, hs26⟩ := bind_some hs26
          refine XL_indexH H68.ctx (hp0_4.c.c.c) hx85 u30 i50 rfl rfl rfl rfl (fun b86 off87 cap88 hv89 => ?_)
          refine XL_q rfl (qt_fieldAddr uf50 fi50_2 nz23 rfl) rfl rfl ?_
          obtain ⟨F90, hat91, hdup92⟩ := H68.at (hp0_4.c.c.c) hx85 hv89
          obtain ⟨F93, hat94, hin95⟩ := AtP.snd hat91
          obtain ⟨F96, hat97, hin98⟩ := AtP.snd hat94
          refine XL_load (t := (.slice (.int .i64))) u23 rfl rfl hat97 rfl rfl rfl (fun v99 hr100 => ?_)
          have H101 : Holds (([] : List Res).flatMap Res.own) w w25 [.ro (.int .i64) v99 x84.2.2, .ro (.pair (.int .i64) (.int .i64)) v66 x51.2.1, .ro (.pair (.int .i64) (.int .i64)) v46 x31.2.1, .bx b1 32 [vp0_0, vp0_1, vp0_2, .int .i64 p0_3, vp0_4]] G := hdup92 _ _ _ _ hr100 (fun k h => (fun k h => (fun _ h => h) k (hin95 k h)) k (hin98 k h))
          refine XL_q rfl (qt_move rfl) rfl rfl ?_
          obtain ⟨x102, hx103, hs26⟩ := bind_some hs26
          refine XL_indexH H101.ctx (HasRo.has (HasRo.hd)) hx103 u23 i3 rfl rfl rfl rfl (fun b104 off105 cap106 hv107 => ?_)
          obtain ⟨F108, hat109, hdup110⟩ := H101.at (HasRo.has (HasRo.hd)) hx103 hv107
          refine XL_load_int (k := .i64) u3 rfl hat109 rfl rfl rfl ?_
          obtain ⟨x111, hx112, hs26⟩ := bind_some hs26
          refine XL_indexH H101.ctx (hp0_1.c.c.c.c) hx112 u23 i3 rfl rfl rfl rfl (fun b113 off114 cap115 hv116 => ?_)
          obtain ⟨F117, hat118, hdup119⟩ := H101.at (hp0_1.c.c.c.c) hx112 hv116
          refine XL_load_int (k := .i64) u3 rfl hat118 rfl rfl rfl ?_
          refine XL_q rfl (qt_add rfl rfl) rfl rfl ?_
          refine XL_q rfl (qt_assign rfl) rfl rfl ?_
          refine QL_nil fun a ha w120 hb121 => ?_
          have H122 : Holds (([] : List Res).flatMap Res.own) w w120 [.ro (.int .i64) v99 x84.2.2, .ro (.pair (.int .i64) (.int .i64)) v66 x51.2.1, .ro (.pair (.int .i64) (.int .i64)) v46 x31.2.1, .bx b1 32 [vp0_0, vp0_1, vp0_2, .int .i64 p0_3, vp0_4]] G := H101.grow hb121
          refine nrm_block (nrm_seq (WP.app ?_ ha))
          refine WP_region ?_
          refine XL_q rfl (qt_move rfl) rfl rfl ?_
          refine XL_q rfl (qt_add rfl rfl) rfl rfl ?_
          refine XL_q rfl (qt_assign rfl) rfl rfl ?_
          refine WL_nil fun a ha => ?_
          obtain rfl := Option.some.inj hs26
          have H123 : Holds (([] : List Res).flatMap Res.own) w w120 [.bx b1 32 [vp0_0, vp0_1, vp0_2, .int .i64 p0_3, vp0_4]] G := (((H122.cut 0).cut 0).cut 0)
          exact ⟨rfl, ha.sub ⟨rfl, rfl, rfl, rfl, trivial⟩, H123⟩
        · have hs26 := if_f hc81 hs26
          refine WP_skip fun a ha => ?_
          refine nrm_block (nrm_seq (WP.app ?_ ha))
          refine WP_region ?_
          refine XL_q rfl (qt_move rfl) rfl rfl ?_
          refine XL_q rfl (qt_add rfl rfl) rfl rfl ?_
          refine XL_q rfl (qt_assign rfl) rfl rfl ?_
          refine WL_nil fun a ha => ?_
          obtain rfl := Option.some.inj hs26
          have H124 : Holds (([] : List Res).flatMap Res.own) w w25 [.bx b1 32 [vp0_0, vp0_1, vp0_2, .int .i64 p0_3, vp0_4]] G := ((H68.cut 0).cut 0)
          exact ⟨rfl, ha.sub ⟨rfl, rfl, rfl, rfl, trivial⟩, H124⟩
      · have hs26 := if_f hc49 hs26
        refine WP_exit fun a ha => ?_
        obtain rfl := Option.some.inj hs26
        have H125 : Holds (([] : List Res).flatMap Res.own) w w25 [] G := ((H48.cut 0).cut 0)
        exact exit_seq (⟨exit_ne, rfl, ha.sub ⟨rfl, trivial⟩, H125⟩)
    · intro e a23 w126 hO127
      obtain ⟨p128, rfl⟩ : ∃ z, z = o21 := ⟨o21, rfl⟩
      obtain ⟨rfl, hO130⟩ := hO127
      obtain ⟨ha, H129⟩ := hO130
      refine exit_block_eq (nrm_seq (WP.app ?_ ha))
      refine WP_seq ?_
      refine WP_region ?_
      refine XL_q rfl (qt_move rfl) rfl rfl ?_
      refine XL_q rfl (qt_assign rfl) rfl rfl ?_
      refine WL_nil_seq ?_
      refine WP_ret fun a ha => ?_
      obtain rfl := Option.some.inj h
      exact ret1 rfl ha rfl ⟨rfl, H129⟩
theorem w_impl_TableBill (w : World) (G : List Res) (vp0_0 : Value) (p0_0 : List (Int × (List (Int × Int)) × Int)) (hp0_0 : Has G (.pair (.int .i64) (.pair (.slice (.pair (.int .i64) (.int .i64))) (.int .i64))) vp0_0 p0_0) (vp0_1 : Value) (p0_1 : List Int) (hp0_1 : Has G (.int .i64) vp0_1 p0_1) (vp0_2 : Value) (p0_2 : List Int) (hp0_2 : Has G (.int .i64) vp0_2 p0_2) (p0_3 : Int) (vp0_4 : Value) (p0_4 : List (Int × (List (Int × Int)) × (List Int))) (hp0_4 : Has G (.pair (.int .i64) (.pair (.slice (.pair (.int .i64) (.int .i64))) (.slice (.int .i64)))) vp0_4 p0_4) (p1 : Int) (r : Int) (h : impl_TableBillS p0_0 p0_1 p0_2 p0_3 p0_4 p1 = some r) (H : Ctx w G) : Calls Try.prog 13 #[.agg #[vp0_0, vp0_1, vp0_2, .int .i64 p0_3, vp0_4], .int .i64 p1] w fun e w' => e = .returned (.int .i64 r) ∧ Holds (([] : List Res).flatMap Res.own) w w' [] G := by
  have H : Holds (([] : List Res).flatMap Res.own) w w [] G := Holds.startN H
  refine calls_enter (args := [.agg #[vp0_0, vp0_1, vp0_2, .int .i64 p0_3, vp0_4], .int .i64 p1]) (n := 54) Try.func13 rfl rfl rfl ?_
  unfold impl_TableBillS at h
  refine WP_seq ?_
  refine WP_region ?_
  refine WL_box (cs := [vp0_0, vp0_1, vp0_2, .int .i64 p0_3, vp0_4]) H rfl rfl rfl rfl (fun b1 w2 H3 => ?_)
  have H4 : Holds (([] : List Res).flatMap Res.own) w w2 [.bx b1 32 [vp0_0, vp0_1, vp0_2, .int .i64 p0_3, vp0_4]] G := H3
  refine XL_q rfl (qt_assign rfl) rfl rfl ?_
  refine WL_nil_seq ?_
  refine WP_seq ?_
  refine WP_seq ?_
  refine WP_still ?_
  have hB5 : Bx w2 b1 32 [vp0_0, vp0_1, vp0_2, .int .i64 p0_3, vp0_4] := Holds.bx (H4.pull 0)
  refine XL_load_bxA (cs := [vp0_0, vp0_1, vp0_2, .int .i64 p0_3, vp0_4]) us32 uo32 il32 hB5 rfl rfl rfl ?_
  change XL _ _ _ _ _ ((8, .agg #[vp0_0, vp0_1, vp0_2, .int .i64 p0_3, vp0_4]) :: _) _
  obtain ⟨x6, hx7, h⟩ := bind_some h
  refine QL_call rfl rfl c10 (fun w' hb => (w_impl_HouseValid w' ([.bx b1 32 [vp0_0, vp0_1, vp0_2, .int .i64 p0_3, vp0_4]] ++ G) vp0_0 p0_0 (hp0_0.c) vp0_1 p0_1 (hp0_1.c) vp0_2 p0_2 (hp0_2.c) p0_3 vp0_4 p0_4 (hp0_4.c) x6 hx7 (H4.grow hb).ctx).mono fun e w'' hK => ⟨hK.1, hK.2.bel⟩) (by rfl) ?_
  refine XL_q rfl (qt_not rfl) rfl rfl ?_
  refine XL_q rfl (qt_move rfl) rfl rfl ?_
  refine XL_join 3 14 (.bool ((!x6) || (decide (p1 < 0)))) ?_ (fun md hmd hk => ?_)
  rotate_left
  · obtain ⟨K, rfl⟩ := Md.quiet_of hmd
    rcases btf (!x6) with hc8 | hc8
    · skip
      refine XL_skip (w_skip rfl hc8) rfl rfl ?_
      refine XL_skip (w_skip rfl hc8) rfl rfl ?_
      refine XL_q rfl (qt_pickT rfl hc8 rfl) rfl rfl ?_
      exact hk _ (Cov.same (by rw [hc8]; rfl) (Cov.fresh rfl (Cov.fresh rfl (Cov.refl))))
    · skip
      refine XL_q (w_take rfl hc8) (qt_move rfl) rfl rfl ?_
      refine XL_q (w_take rfl hc8) (qt_lss rfl rfl) rfl rfl ?_
      refine XL_q rfl (qt_pickF rfl hc8 rfl) rfl rfl ?_
      exact hk _ (Cov.same (by rw [hc8]; rfl) (Cov.fresh rfl (Cov.fresh rfl (Cov.refl))))
  refine XL_q rfl (qt_move rfl) rfl rfl ?_
  refine XL_join 6 21 (.bool (((!x6) || (decide (p1 < 0))) || (decide (p1 ≥ (List.length p0_4 : Int))))) ?_ (fun md hmd hk => ?_)
  rotate_left
  · obtain ⟨K, rfl⟩ := Md.quiet_of hmd
    rcases btf ((!x6) || (decide (p1 < 0))) with hc9 | hc9
    · skip
      refine XL_skip (w_skip rfl hc9) rfl rfl ?_
      refine XL_skip (w_skip rfl hc9) rfl rfl ?_
      refine XL_skip (w_skip rfl hc9) rfl rfl ?_
      refine XL_skip (w_skip rfl hc9) rfl rfl ?_
      refine XL_skip (w_skip rfl hc9) rfl rfl ?_
      refine XL_q rfl (qt_pickT rfl hc9 rfl) rfl rfl ?_
      exact hk _ (Cov.same (by rw [hc9]; rfl) (Cov.fresh rfl (Cov.fresh rfl (Cov.fresh rfl (Cov.fresh rfl (Cov.fresh rfl (Cov.refl)))))))
    · skip
      refine XL_q (w_take rfl hc9) (qt_move rfl) rfl rfl ?_
      refine XL_q (w_take rfl hc9) (qt_fieldAddr uf32 fi32_4 nz30 rfl) rfl rfl ?_
      have hB10 : Bx w2 b1 32 [vp0_0, vp0_1, vp0_2, .int .i64 p0_3, vp0_4] := Holds.bx (H4.pull 0)
      refine XL_load_bx u30 rfl hB10 rfl (w_take rfl hc9) rfl rfl ?_
      refine XL_lenH H4.ctx (t := (.pair (.int .i64) (.pair (.slice (.pair (.int .i64) (.int .i64))) (.slice (.int .i64))))) (hp0_4.c) u30 (w_take rfl hc9) rfl rfl ?_
      refine XL_q (w_take rfl hc9) (qt_geq rfl rfl) rfl rfl ?_
      refine XL_q rfl (qt_pickF rfl hc9 rfl) rfl rfl ?_
      exact hk _ (Cov.same (by rw [hc9]; rfl) (Cov.fresh rfl (Cov.fresh rfl (Cov.fresh rfl (Cov.fresh rfl (Cov.fresh rfl (Cov.refl)))))))
  refine QL_nil fun a ha w11 hb12 => ?_
  have H13 : Holds (([] : List Res).flatMap Res.own) w w11 [.bx b1 32 [vp0_0, vp0_1, vp0_2, .int .i64 p0_3, vp0_4]] G := H4.grow hb12
  refine nrm_seq (WP.app ?_ ha)
  refine WP_cond rfl (fun hc14 => ?_) (fun hc14 => ?_)
  · have h := if_t hc14 h
    refine WP_seq ?_
    refine WP_region ?_
    refine XL_q rfl (qt_assign rfl) rfl rfl ?_
    refine WL_nil_seq ?_
    refine WP_ret fun a ha => ?_
    obtain rfl := Option.some.inj h
    have H15 : Holds (([] : List Res).flatMap Res.own) w w11 [] G := (H13.cut 0)
    exact ret_seq (ret1 rfl ha rfl ⟨rfl, H15⟩)
  · have h := if_f hc14 h
    refine WP_skip_seq ?_
    refine WP_seq ?_
    refine WP_region ?_
    refine XL_q rfl (qt_assign rfl) rfl rfl ?_
    refine WL_nil_seq ?_
    refine WP_seq ?_
    refine WP_seq ?_
    refine WP_region ?_
    refine XL_q rfl (qt_fieldAddr uf32 fi32_4 nz30 rfl) rfl rfl ?_
    have hB16 : Bx w11 b1 32 [vp0_0, vp0_1, vp0_2, .int .i64 p0_3, vp0_4] := Holds.bx (H13.pull 0)
    refine XL_load_bx u30 rfl hB16 rfl rfl rfl rfl ?_
    refine XL_q rfl (qt_move rfl) rfl rfl ?_
    obtain ⟨x17, hx18, h⟩ := bind_some h
    refine XL_indexH H13.ctx (hp0_4.c) hx18 u30 i50 rfl rfl rfl rfl (fun b19 off20 cap21 hv22 => ?_)
    refine XL_q rfl (qt_fieldAddr uf50 fi50_1 nz48 rfl) rfl rfl ?_
    obtain ⟨F23, hat24, hdup25⟩ := H13.at (hp0_4.c) hx18 hv22
    obtain ⟨F26, hat27, hin28⟩ := AtP.snd hat24
    obtain ⟨F29, hat30, hin31⟩ := AtP.fst hat27
    refine XL_load (t := (.slice (.pair (.int .i64) (.int .i64)))) u48 rfl rfl hat30 rfl rfl rfl (fun v32 hr33 => ?_)
    have H34 : Holds (([] : List Res).flatMap Res.own) w w11 [.ro (.pair (.int .i64) (.int .i64)) v32 x17.2.1, .bx b1 32 [vp0_0, vp0_1, vp0_2, .int .i64 p0_3, vp0_4]] G := hdup25 _ _ _ _ hr33 (fun k h => (fun k h => (fun _ h => h) k (hin28 k h)) k (hin31 k h))
    refine XL_lenH H34.ctx (t := (.pair (.int .i64) (.int .i64))) (HasRo.has (HasRo.hd)) u48 rfl rfl rfl ?_
    refine XL_q rfl (qt_move rfl) rfl rfl ?_
    refine WL_nil_seq ?_
    refine WP_block ?_
    obtain ⟨o37, ho38, h⟩ := bind_some h
    have H41 : Holds (([] : List Res).flatMap Res.own) w w11 [.bx b1 32 [vp0_0, vp0_1, vp0_2, .int .i64 p0_3, vp0_4], .ro (.pair (.int .i64) (.int .i64)) v32 x17.2.1] G := (H34.pull 1)
    refine fun a39 ha40 => wp_loop_fix (I := fun s a w2 => match s with | (s35, s36) => (Fr a 54 [(1, .int .i64 p1), (2, .pointer (some ⟨b1, 0, none⟩)), (5, .int .i64 s35), (27, v32), (28, .int .i64 (List.length x17.2.1 : Int)), (29, .int .i64 s36)] ∧ Holds (([] : List Res).flatMap Res.own) w w2 [.bx b1 32 [vp0_0, vp0_1, vp0_2, .int .i64 p0_3, vp0_4], .ro (.pair (.int .i64) (.int .i64)) v32 x17.2.1] G)) (O := fun o e a w2 => match o with | q0 => e = .exit 0 ∧ (Fr a 54 [(5, .int .i64 q0)] ∧ Holds (([] : List Res).flatMap Res.own) w w2 [] G)) ho38 ?_ ?_ ?_
    · exact ⟨ha40.sub ⟨rfl, rfl, rfl, rfl, rfl, rfl, trivial⟩, H41⟩
    · clear ha40
      intro s o44 a w42 hs43 hI45
      obtain ⟨s35, s36⟩ := s
      obtain ⟨ha, H46⟩ := hI45
      refine WP.app ?_ ha
      clear ha
      refine WP_seq ?_
      refine WP_region ?_
      refine XL_q rfl (qt_lss rfl rfl) rfl rfl ?_
      refine WL_nil_seq ?_
      refine WP_seq ?_
      refine WP_cond rfl (fun hc47 => ?_) (fun hc47 => ?_)
      · have hs43 := if_t hc47 hs43
        refine WP_skip_seq ?_
        refine WP_seq ?_
        refine WP_block ?_
        refine WP_seq ?_
        refine WP_region ?_
        refine XL_q rfl (qt_move rfl) rfl rfl ?_
        obtain ⟨x48, hx49, hs43⟩ := bind_some hs43
        refine XL_indexH H46.ctx (HasRo.has (HasRo.c (HasRo.hd))) hx49 u48 i63 rfl rfl rfl rfl (fun b50 off51 cap52 hv53 => ?_)
        obtain ⟨F54, hat55, hdup56⟩ := H46.atN (HasRo.has (HasRo.c (HasRo.hd))) hx49 hv53
        refine XL_load_agg (t := (.pair (.int .i64) (.int .i64))) us63 uo63 i63 hat55 rfl rfl rfl (fun cs57 hr58 => ?_)
        obtain ⟨c59, c60, F61, F62, rfl, eF65, hr63, hr64⟩ := hr58
        obtain ⟨rfl, _⟩ := hr63
        obtain ⟨rfl, _⟩ := hr64
        change XL _ _ _ _ _ ((33, .agg #[.int .i64 x48.1, .int .i64 x48.2]) :: _) _
        refine WL_alloc (cs := [.int .i64 0, .int .i64 0]) H46 z63 rfl rfl rfl (fun b66 w67 H68 => ?_)
        have H69 : Holds (([] : List Res).flatMap Res.own) w w67 [.bx b66 63 [.int .i64 0, .int .i64 0], .bx b1 32 [vp0_0, vp0_1, vp0_2, .int .i64 p0_3, vp0_4], .ro (.pair (.int .i64) (.int .i64)) v32 x17.2.1] G := H68
        refine XL_q rfl (qt_assign rfl) rfl rfl ?_
        refine WL_store_bxA (cs' := [.int .i64 x48.1, .int .i64 x48.2]) H69 rfl il63 rfl rfl rfl rfl rfl (fun w70 H71 => ?_)
        have H72 : Holds (([] : List Res).flatMap Res.own) w w70 [.bx b66 63 [.int .i64 x48.1, .int .i64 x48.2], .bx b1 32 [vp0_0, vp0_1, vp0_2, .int .i64 p0_3, vp0_4], .ro (.pair (.int .i64) (.int .i64)) v32 x17.2.1] G := H71
        refine WL_nil_seq ?_
        refine WP_seq ?_
        refine WP_region ?_
        refine XL_q rfl (qt_fieldAddr uf63 fi63_1 nz3 rfl) rfl rfl ?_
        have hB73 : Bx w70 b66 63 [.int .i64 x48.1, .int .i64 x48.2] := Holds.bx (H72.pull 0)
        refine XL_load_bx u3 rfl hB73 rfl rfl rfl rfl ?_
        refine XL_q rfl (qt_eql rfl rfl) rfl rfl ?_
        refine WL_nil_seq ?_
        refine WP_cond rfl (fun hc74 => ?_) (fun hc74 => ?_)
        · have hs43 := if_t hc74 hs43
          refine WP_quiet (by kernel_rfl) (by kernel_rfl) ?_
          refine XL_q rfl (qt_move rfl) rfl rfl ?_
          refine XL_q rfl (qt_fieldAddr uf32 fi32_1 nz23 rfl) rfl rfl ?_
          have hB75 : Bx w70 b1 32 [vp0_0, vp0_1, vp0_2, .int .i64 p0_3, vp0_4] := Holds.bx (H72.pull 1)
          refine XL_load_bx u23 rfl hB75 rfl rfl rfl rfl ?_
          refine XL_q rfl (qt_fieldAddr uf32 fi32_4 nz30 rfl) rfl rfl ?_
          have hB76 : Bx w70 b1 32 [vp0_0, vp0_1, vp0_2, .int .i64 p0_3, vp0_4] := Holds.bx (H72.pull 1)
          refine XL_load_bx u30 rfl hB76 rfl rfl rfl rfl ?_
          refine XL_q rfl (qt_move rfl) rfl rfl ?_
          obtain ⟨x77, hx78, hs43⟩ := bind_some hs43
          refine XL_indexH H72.ctx (hp0_4.c.c.c) hx78 u30 i50 rfl rfl rfl rfl (fun b79 off80 cap81 hv82 => ?_)
          refine XL_q rfl (qt_fieldAddr uf50 fi50_2 nz23 rfl) rfl rfl ?_
          obtain ⟨F83, hat84, hdup85⟩ := H72.at (hp0_4.c.c.c) hx78 hv82
          obtain ⟨F86, hat87, hin88⟩ := AtP.snd hat84
          obtain ⟨F89, hat90, hin91⟩ := AtP.snd hat87
          refine XL_load (t := (.slice (.int .i64))) u23 rfl rfl hat90 rfl rfl rfl (fun v92 hr93 => ?_)
          have H94 : Holds (([] : List Res).flatMap Res.own) w w70 [.ro (.int .i64) v92 x77.2.2, .bx b66 63 [.int .i64 x48.1, .int .i64 x48.2], .bx b1 32 [vp0_0, vp0_1, vp0_2, .int .i64 p0_3, vp0_4], .ro (.pair (.int .i64) (.int .i64)) v32 x17.2.1] G := hdup85 _ _ _ _ hr93 (fun k h => (fun k h => (fun _ h => h) k (hin88 k h)) k (hin91 k h))
          refine XL_q rfl (qt_move rfl) rfl rfl ?_
          obtain ⟨x95, hx96, hs43⟩ := bind_some hs43
          refine XL_indexH H94.ctx (HasRo.has (HasRo.hd)) hx96 u23 i3 rfl rfl rfl rfl (fun b97 off98 cap99 hv100 => ?_)
          obtain ⟨F101, hat102, hdup103⟩ := H94.at (HasRo.has (HasRo.hd)) hx96 hv100
          refine XL_load_int (k := .i64) u3 rfl hat102 rfl rfl rfl ?_
          obtain ⟨x104, hx105, hs43⟩ := bind_some hs43
          refine XL_indexH H94.ctx (hp0_1.c.c.c.c) hx105 u23 i3 rfl rfl rfl rfl (fun b106 off107 cap108 hv109 => ?_)
          obtain ⟨F110, hat111, hdup112⟩ := H94.at (hp0_1.c.c.c.c) hx105 hv109
          refine XL_load_int (k := .i64) u3 rfl hat111 rfl rfl rfl ?_
          refine XL_q rfl (qt_add rfl rfl) rfl rfl ?_
          refine XL_q rfl (qt_assign rfl) rfl rfl ?_
          refine QL_nil fun a ha w113 hb114 => ?_
          have H115 : Holds (([] : List Res).flatMap Res.own) w w113 [.ro (.int .i64) v92 x77.2.2, .bx b66 63 [.int .i64 x48.1, .int .i64 x48.2], .bx b1 32 [vp0_0, vp0_1, vp0_2, .int .i64 p0_3, vp0_4], .ro (.pair (.int .i64) (.int .i64)) v32 x17.2.1] G := H94.grow hb114
          refine nrm_block (nrm_seq (WP.app ?_ ha))
          refine WP_region ?_
          refine XL_q rfl (qt_add rfl rfl) rfl rfl ?_
          refine XL_q rfl (qt_move rfl) rfl rfl ?_
          refine WL_nil fun a ha => ?_
          obtain rfl := Option.some.inj hs43
          have H116 : Holds (([] : List Res).flatMap Res.own) w w113 [.bx b1 32 [vp0_0, vp0_1, vp0_2, .int .i64 p0_3, vp0_4], .ro (.pair (.int .i64) (.int .i64)) v32 x17.2.1] G := ((((H115.cut 0).cut 0).pull 1).pull 1)
          exact ⟨rfl, ha.sub ⟨rfl, rfl, rfl, rfl, rfl, rfl, trivial⟩, H116⟩
        · have hs43 := if_f hc74 hs43
          refine WP_skip fun a ha => ?_
          refine nrm_block (nrm_seq (WP.app ?_ ha))
          refine WP_region ?_
          refine XL_q rfl (qt_add rfl rfl) rfl rfl ?_
          refine XL_q rfl (qt_move rfl) rfl rfl ?_
          refine WL_nil fun a ha => ?_
          obtain rfl := Option.some.inj hs43
          have H117 : Holds (([] : List Res).flatMap Res.own) w w70 [.bx b1 32 [vp0_0, vp0_1, vp0_2, .int .i64 p0_3, vp0_4], .ro (.pair (.int .i64) (.int .i64)) v32 x17.2.1] G := (((H72.cut 0).pull 1).pull 1)
          exact ⟨rfl, ha.sub ⟨rfl, rfl, rfl, rfl, rfl, rfl, trivial⟩, H117⟩
      · have hs43 := if_f hc47 hs43
        refine WP_exit fun a ha => ?_
        obtain rfl := Option.some.inj hs43
        have H118 : Holds (([] : List Res).flatMap Res.own) w w42 [] G := ((H46.cut 0).cut 0)
        exact exit_seq (⟨exit_ne, rfl, ha.sub ⟨rfl, trivial⟩, H118⟩)
    · intro e a39 w119 hO120
      obtain ⟨p121, rfl⟩ : ∃ z, z = o37 := ⟨o37, rfl⟩
      obtain ⟨rfl, hO123⟩ := hO120
      obtain ⟨ha, H122⟩ := hO123
      refine exit_block_eq (nrm_seq (WP.app ?_ ha))
      refine WP_seq ?_
      refine WP_region ?_
      refine XL_q rfl (qt_move rfl) rfl rfl ?_
      refine XL_q rfl (qt_assign rfl) rfl rfl ?_
      refine WL_nil_seq ?_
      refine WP_ret fun a ha => ?_
      obtain rfl := Option.some.inj h
      exact ret1 rfl ha rfl ⟨rfl, H122⟩
theorem w_laws_FnExactTableBill (w : World) (G : List Res) (vp0_0 : Value) (p0_0 : List (Int × (List (Int × Int)) × Int)) (hp0_0 : Has G (.pair (.int .i64) (.pair (.slice (.pair (.int .i64) (.int .i64))) (.int .i64))) vp0_0 p0_0) (vp0_1 : Value) (p0_1 : List Int) (hp0_1 : Has G (.int .i64) vp0_1 p0_1) (vp0_2 : Value) (p0_2 : List Int) (hp0_2 : Has G (.int .i64) vp0_2 p0_2) (p0_3 : Int) (vp0_4 : Value) (p0_4 : List (Int × (List (Int × Int)) × (List Int))) (hp0_4 : Has G (.pair (.int .i64) (.pair (.slice (.pair (.int .i64) (.int .i64))) (.slice (.int .i64)))) vp0_4 p0_4) (p1 : Int) (r : Bool) (h : laws_FnExactTableBillS p0_0 p0_1 p0_2 p0_3 p0_4 p1 = some r) (H : Ctx w G) : Calls Try.prog 4 #[.agg #[vp0_0, vp0_1, vp0_2, .int .i64 p0_3, vp0_4], .int .i64 p1] w fun e w' => e = .returned (.bool r) ∧ Holds (([] : List Res).flatMap Res.own) w w' [] G := by
  have H : Holds (([] : List Res).flatMap Res.own) w w [] G := Holds.startN H
  refine calls_enter (args := [.agg #[vp0_0, vp0_1, vp0_2, .int .i64 p0_3, vp0_4], .int .i64 p1]) (n := 31) Try.func4 rfl rfl rfl ?_
  unfold laws_FnExactTableBillS at h
  refine WP_seq ?_
  refine WP_region ?_
  refine WL_box (cs := [vp0_0, vp0_1, vp0_2, .int .i64 p0_3, vp0_4]) H rfl rfl rfl rfl (fun b1 w2 H3 => ?_)
  have H4 : Holds (([] : List Res).flatMap Res.own) w w2 [.bx b1 26 [vp0_0, vp0_1, vp0_2, .int .i64 p0_3, vp0_4]] G := H3
  refine XL_q rfl (qt_assign rfl) rfl rfl ?_
  refine WL_nil_seq ?_
  refine WP_seq ?_
  refine WP_region ?_
  refine XL_q rfl (qt_assign rfl) rfl rfl ?_
  refine WL_nil_seq ?_
  refine WP_seq ?_
  refine WP_still ?_
  have hB5 : Bx w2 b1 26 [vp0_0, vp0_1, vp0_2, .int .i64 p0_3, vp0_4] := Holds.bx (H4.pull 0)
  refine XL_load_bxA (cs := [vp0_0, vp0_1, vp0_2, .int .i64 p0_3, vp0_4]) us26 uo26 il26 hB5 rfl rfl rfl ?_
  change XL _ _ _ _ _ ((9, .agg #[vp0_0, vp0_1, vp0_2, .int .i64 p0_3, vp0_4]) :: _) _
  refine XL_q rfl (qt_move rfl) rfl rfl ?_
  obtain ⟨x6, hx7, h⟩ := bind_some h
  refine QL_call rfl rfl c7 (fun w' hb => (w_laws_szHouse w' ([.bx b1 26 [vp0_0, vp0_1, vp0_2, .int .i64 p0_3, vp0_4]] ++ G) vp0_0 p0_0 (hp0_0.c) vp0_1 p0_1 (hp0_1.c) vp0_2 p0_2 (hp0_2.c) p0_3 vp0_4 p0_4 (hp0_4.c) 1048576 x6 hx7 (H4.grow hb).ctx).mono fun e w'' hK => ⟨hK.1, hK.2.bel⟩) (by rfl) ?_
  refine XL_q rfl (qt_assign rfl) rfl rfl ?_
  refine QL_nil fun a ha w8 hb9 => ?_
  have H10 : Holds (([] : List Res).flatMap Res.own) w w8 [.bx b1 26 [vp0_0, vp0_1, vp0_2, .int .i64 p0_3, vp0_4]] G := H4.grow hb9
  refine nrm_seq (WP.app ?_ ha)
  refine WP_seq ?_
  refine WP_seq ?_
  refine WP_region ?_
  refine XL_q rfl (qt_move rfl) rfl rfl ?_
  refine XL_q rfl (qt_lss rfl rfl) rfl rfl ?_
  refine WL_nil_seq ?_
  refine WP_cond rfl (fun hc11 => ?_) (fun hc11 => ?_)
  · have h := if_t hc11 h
    refine WP_seq ?_
    refine WP_region ?_
    refine XL_q rfl (qt_assign rfl) rfl rfl ?_
    refine WL_nil_seq ?_
    refine WP_ret fun a ha => ?_
    obtain rfl := Option.some.inj h
    have H12 : Holds (([] : List Res).flatMap Res.own) w w8 [] G := (H10.cut 0)
    exact ret_seq (ret1 rfl ha rfl ⟨rfl, H12⟩)
  · have h := if_f hc11 h
    refine WP_skip_seq ?_
    refine WP_seq ?_
    refine WP_region ?_
    have hB13 : Bx w8 b1 26 [vp0_0, vp0_1, vp0_2, .int .i64 p0_3, vp0_4] := Holds.bx (H10.pull 0)
    refine XL_load_bxA (cs := [vp0_0, vp0_1, vp0_2, .int .i64 p0_3, vp0_4]) us26 uo26 il26 hB13 rfl rfl rfl ?_
    change XL _ _ _ _ _ ((14, .agg #[vp0_0, vp0_1, vp0_2, .int .i64 p0_3, vp0_4]) :: _) _
    obtain ⟨x14, hx15, h⟩ := bind_some h
    refine WL_call rfl rfl c9 (w_laws_toHouse w8 ([.bx b1 26 [vp0_0, vp0_1, vp0_2, .int .i64 p0_3, vp0_4]] ++ G) vp0_0 p0_0 (hp0_0.c) vp0_1 p0_1 (hp0_1.c) vp0_2 p0_2 (hp0_2.c) p0_3 vp0_4 p0_4 (hp0_4.c) x14 hx15 H10.ctx) (by rfl) ?_
    rintro _ w16 ⟨v18, v19, v20, v21, rfl, H17⟩; refine ⟨_, rfl, ?_⟩
    have H22 : Holds (([] : List Res).flatMap Res.own) w w16 [.sl 84 (.pair (.int .i64) (.pair (.slice (.pair (.int .i64) (.int .i64))) (.int .i64))) v18 x14.1, .sl 3 (.int .i64) v19 x14.2.1, .sl 3 (.int .i64) v20 x14.2.2.1, .sl 50 (.pair (.int .i64) (.pair (.slice (.pair (.int .i64) (.int .i64))) (.slice (.int .i64)))) v21 x14.2.2.2.2, .bx b1 26 [vp0_0, vp0_1, vp0_2, .int .i64 p0_3, vp0_4]] G := H10.calledN (Rs := []) H17
    refine XL_q rfl (qt_move rfl) rfl rfl ?_
    obtain ⟨x23, hx24, h⟩ := bind_some h
    refine WL_call rfl rfl c12 (w_spec_TableBill w16 ([.sl 84 (.pair (.int .i64) (.pair (.slice (.pair (.int .i64) (.int .i64))) (.int .i64))) v18 x14.1, .sl 3 (.int .i64) v19 x14.2.1, .sl 3 (.int .i64) v20 x14.2.2.1, .sl 50 (.pair (.int .i64) (.pair (.slice (.pair (.int .i64) (.int .i64))) (.slice (.int .i64)))) v21 x14.2.2.2.2, .bx b1 26 [vp0_0, vp0_1, vp0_2, .int .i64 p0_3, vp0_4]] ++ G) v18 x14.1 (Has.hd) v19 x14.2.1 (Has.c (Has.hd)) v20 x14.2.2.1 (Has.c (Has.c (Has.hd))) x14.2.2.2.1 v21 x14.2.2.2.2 (Has.c (Has.c (Has.c (Has.hd)))) p1 x23 hx24 H22.ctx) (by rfl) ?_
    rintro _ w25 ⟨rfl, H26⟩; refine ⟨_, rfl, ?_⟩
    have H27 : Holds (([] : List Res).flatMap Res.own) w w25 [.sl 84 (.pair (.int .i64) (.pair (.slice (.pair (.int .i64) (.int .i64))) (.int .i64))) v18 x14.1, .sl 3 (.int .i64) v19 x14.2.1, .sl 3 (.int .i64) v20 x14.2.2.1, .sl 50 (.pair (.int .i64) (.pair (.slice (.pair (.int .i64) (.int .i64))) (.slice (.int .i64)))) v21 x14.2.2.2.2, .bx b1 26 [vp0_0, vp0_1, vp0_2, .int .i64 p0_3, vp0_4]] G := H22.calledN (Rs := []) H26
    refine XL_q rfl (qt_assign rfl) rfl rfl ?_
    refine WL_nil_seq ?_
    refine WP_seq ?_
    refine WP_region ?_
    have hB28 : Bx w25 b1 26 [vp0_0, vp0_1, vp0_2, .int .i64 p0_3, vp0_4] := Holds.bx (H27.pull 4)
    refine XL_load_bxA (cs := [vp0_0, vp0_1, vp0_2, .int .i64 p0_3, vp0_4]) us26 uo26 il26 hB28 rfl rfl rfl ?_
    change XL _ _ _ _ _ ((18, .agg #[vp0_0, vp0_1, vp0_2, .int .i64 p0_3, vp0_4]) :: _) _
    obtain ⟨x29, hx30, h⟩ := bind_some h
    refine WL_call rfl rfl c9 (w_laws_toHouse w25 ([.sl 84 (.pair (.int .i64) (.pair (.slice (.pair (.int .i64) (.int .i64))) (.int .i64))) v18 x14.1, .sl 3 (.int .i64) v19 x14.2.1, .sl 3 (.int .i64) v20 x14.2.2.1, .sl 50 (.pair (.int .i64) (.pair (.slice (.pair (.int .i64) (.int .i64))) (.slice (.int .i64)))) v21 x14.2.2.2.2, .bx b1 26 [vp0_0, vp0_1, vp0_2, .int .i64 p0_3, vp0_4]] ++ G) vp0_0 p0_0 (hp0_0.c.c.c.c.c) vp0_1 p0_1 (hp0_1.c.c.c.c.c) vp0_2 p0_2 (hp0_2.c.c.c.c.c) p0_3 vp0_4 p0_4 (hp0_4.c.c.c.c.c) x29 hx30 H27.ctx) (by rfl) ?_
    rintro _ w31 ⟨v33, v34, v35, v36, rfl, H32⟩; refine ⟨_, rfl, ?_⟩
    have H37 : Holds (([] : List Res).flatMap Res.own) w w31 [.sl 84 (.pair (.int .i64) (.pair (.slice (.pair (.int .i64) (.int .i64))) (.int .i64))) v33 x29.1, .sl 3 (.int .i64) v34 x29.2.1, .sl 3 (.int .i64) v35 x29.2.2.1, .sl 50 (.pair (.int .i64) (.pair (.slice (.pair (.int .i64) (.int .i64))) (.slice (.int .i64)))) v36 x29.2.2.2.2, .sl 84 (.pair (.int .i64) (.pair (.slice (.pair (.int .i64) (.int .i64))) (.int .i64))) v18 x14.1, .sl 3 (.int .i64) v19 x14.2.1, .sl 3 (.int .i64) v20 x14.2.2.1, .sl 50 (.pair (.int .i64) (.pair (.slice (.pair (.int .i64) (.int .i64))) (.slice (.int .i64)))) v21 x14.2.2.2.2, .bx b1 26 [vp0_0, vp0_1, vp0_2, .int .i64 p0_3, vp0_4]] G := H27.calledN (Rs := []) H32
    refine WL_alloc (cs := [.slice none 0 0, .slice none 0 0, .slice none 0 0, .int .i64 0, .slice none 0 0]) H37 z32 rfl rfl rfl (fun b38 w39 H40 => ?_)
    have H41 : Holds (([] : List Res).flatMap Res.own) w w39 [.bx b38 32 [.slice none 0 0, .slice none 0 0, .slice none 0 0, .int .i64 0, .slice none 0 0], .sl 84 (.pair (.int .i64) (.pair (.slice (.pair (.int .i64) (.int .i64))) (.int .i64))) v33 x29.1, .sl 3 (.int .i64) v34 x29.2.1, .sl 3 (.int .i64) v35 x29.2.2.1, .sl 50 (.pair (.int .i64) (.pair (.slice (.pair (.int .i64) (.int .i64))) (.slice (.int .i64)))) v36 x29.2.2.2.2, .sl 84 (.pair (.int .i64) (.pair (.slice (.pair (.int .i64) (.int .i64))) (.int .i64))) v18 x14.1, .sl 3 (.int .i64) v19 x14.2.1, .sl 3 (.int .i64) v20 x14.2.2.1, .sl 50 (.pair (.int .i64) (.pair (.slice (.pair (.int .i64) (.int .i64))) (.slice (.int .i64)))) v21 x14.2.2.2.2, .bx b1 26 [vp0_0, vp0_1, vp0_2, .int .i64 p0_3, vp0_4]] G := H40
    refine WL_store_bxA (cs' := [v33, v34, v35, .int .i64 x29.2.2.2.1, v36]) H41 rfl il32 rfl (allOne (H41.ctx.sliceOne (Has.c (Has.hd))) (allOne (H41.ctx.sliceOne (Has.c (Has.c (Has.hd)))) (allOne (H41.ctx.sliceOne (Has.c (Has.c (Has.c (Has.hd))))) (allOne rfl (allOne (H41.ctx.sliceOne (Has.c (Has.c (Has.c (Has.c (Has.hd)))))) rfl))))) rfl rfl rfl (fun w42 H43 => ?_)
    have H44 : Holds (([] : List Res).flatMap Res.own) w w42 [.bx b38 32 [v33, v34, v35, .int .i64 x29.2.2.2.1, v36], .sl 84 (.pair (.int .i64) (.pair (.slice (.pair (.int .i64) (.int .i64))) (.int .i64))) v33 x29.1, .sl 3 (.int .i64) v34 x29.2.1, .sl 3 (.int .i64) v35 x29.2.2.1, .sl 50 (.pair (.int .i64) (.pair (.slice (.pair (.int .i64) (.int .i64))) (.slice (.int .i64)))) v36 x29.2.2.2.2, .sl 84 (.pair (.int .i64) (.pair (.slice (.pair (.int .i64) (.int .i64))) (.int .i64))) v18 x14.1, .sl 3 (.int .i64) v19 x14.2.1, .sl 3 (.int .i64) v20 x14.2.2.1, .sl 50 (.pair (.int .i64) (.pair (.slice (.pair (.int .i64) (.int .i64))) (.slice (.int .i64)))) v21 x14.2.2.2.2, .bx b1 26 [vp0_0, vp0_1, vp0_2, .int .i64 p0_3, vp0_4]] G := H43
    refine WL_nil_seq ?_
    refine WP_seq ?_
    refine WP_still ?_
    have hB45 : Bx w42 b38 32 [v33, v34, v35, .int .i64 x29.2.2.2.1, v36] := Holds.bx (H44.pull 0)
    refine XL_load_bxA (cs := [v33, v34, v35, .int .i64 x29.2.2.2.1, v36]) us32 uo32 il32 hB45 rfl rfl rfl ?_
    change XL _ _ _ _ _ ((20, .agg #[v33, v34, v35, .int .i64 x29.2.2.2.1, v36]) :: _) _
    refine XL_q rfl (qt_move rfl) rfl rfl ?_
    obtain ⟨x46, hx47, h⟩ := bind_some h
    refine QL_call rfl rfl c13 (fun w' hb => (w_impl_TableBill w' ([.bx b38 32 [v33, v34, v35, .int .i64 x29.2.2.2.1, v36], .sl 84 (.pair (.int .i64) (.pair (.slice (.pair (.int .i64) (.int .i64))) (.int .i64))) v33 x29.1, .sl 3 (.int .i64) v34 x29.2.1, .sl 3 (.int .i64) v35 x29.2.2.1, .sl 50 (.pair (.int .i64) (.pair (.slice (.pair (.int .i64) (.int .i64))) (.slice (.int .i64)))) v36 x29.2.2.2.2, .sl 84 (.pair (.int .i64) (.pair (.slice (.pair (.int .i64) (.int .i64))) (.int .i64))) v18 x14.1, .sl 3 (.int .i64) v19 x14.2.1, .sl 3 (.int .i64) v20 x14.2.2.1, .sl 50 (.pair (.int .i64) (.pair (.slice (.pair (.int .i64) (.int .i64))) (.slice (.int .i64)))) v21 x14.2.2.2.2, .bx b1 26 [vp0_0, vp0_1, vp0_2, .int .i64 p0_3, vp0_4]] ++ G) v33 x29.1 (Has.c (Has.hd)) v34 x29.2.1 (Has.c (Has.c (Has.hd))) v35 x29.2.2.1 (Has.c (Has.c (Has.c (Has.hd)))) x29.2.2.2.1 v36 x29.2.2.2.2 (Has.c (Has.c (Has.c (Has.c (Has.hd))))) p1 x46 hx47 (H44.grow hb).ctx).mono fun e w'' hK => ⟨hK.1, hK.2.bel⟩) (by rfl) ?_
    refine XL_q rfl (qt_assign rfl) rfl rfl ?_
    refine QL_nil fun a ha w48 hb49 => ?_
    have H50 : Holds (([] : List Res).flatMap Res.own) w w48 [.bx b38 32 [v33, v34, v35, .int .i64 x29.2.2.2.1, v36], .sl 84 (.pair (.int .i64) (.pair (.slice (.pair (.int .i64) (.int .i64))) (.int .i64))) v33 x29.1, .sl 3 (.int .i64) v34 x29.2.1, .sl 3 (.int .i64) v35 x29.2.2.1, .sl 50 (.pair (.int .i64) (.pair (.slice (.pair (.int .i64) (.int .i64))) (.slice (.int .i64)))) v36 x29.2.2.2.2, .sl 84 (.pair (.int .i64) (.pair (.slice (.pair (.int .i64) (.int .i64))) (.int .i64))) v18 x14.1, .sl 3 (.int .i64) v19 x14.2.1, .sl 3 (.int .i64) v20 x14.2.2.1, .sl 50 (.pair (.int .i64) (.pair (.slice (.pair (.int .i64) (.int .i64))) (.slice (.int .i64)))) v21 x14.2.2.2.2, .bx b1 26 [vp0_0, vp0_1, vp0_2, .int .i64 p0_3, vp0_4]] G := H44.grow hb49
    refine nrm_seq (WP.app ?_ ha)
    refine WP_seq ?_
    refine WP_seq ?_
    refine WP_region ?_
    refine XL_q rfl (qt_move rfl) rfl rfl ?_
    refine XL_q rfl (qt_move rfl) rfl rfl ?_
    refine XL_q rfl (qt_neq rfl rfl) rfl rfl ?_
    refine WL_nil_seq ?_
    refine WP_cond rfl (fun hc51 => ?_) (fun hc51 => ?_)
    · have h := if_t hc51 h
      refine WP_seq ?_
      refine WP_region ?_
      refine XL_q rfl (qt_assign rfl) rfl rfl ?_
      refine WL_nil_seq ?_
      refine WP_ret fun a ha => ?_
      obtain rfl := Option.some.inj h
      have H52 : Holds (([] : List Res).flatMap Res.own) w w48 [] G := ((((((((((H50.cut 0).cut 0).cut 0).cut 0).cut 0).cut 0).cut 0).cut 0).cut 0).cut 0)
      exact ret_seq (ret1 rfl ha rfl ⟨rfl, H52⟩)
    · have h := if_f hc51 h
      refine WP_skip_seq ?_
      refine WP_seq ?_
      refine WP_seq ?_
      obtain ⟨x55, hx56, h⟩ := bind_some h
      obtain ⟨x64, hx65, h⟩ := bind_some h
      refine WP_join (M := fun a w2 => (Fr a 31 [(30, .bool (!x64))] ∧ Holds (([] : List Res).flatMap Res.own) w w2 [] G)) ?_ ?_
      · refine WP_orders (by kernel_rfl) (fun w253 hb254 => ?_)
        have H255 : Holds (([] : List Res).flatMap Res.own) w w253 [.bx b38 32 [v33, v34, v35, .int .i64 x29.2.2.2.1, v36], .sl 84 (.pair (.int .i64) (.pair (.slice (.pair (.int .i64) (.int .i64))) (.int .i64))) v33 x29.1, .sl 3 (.int .i64) v34 x29.2.1, .sl 3 (.int .i64) v35 x29.2.2.1, .sl 50 (.pair (.int .i64) (.pair (.slice (.pair (.int .i64) (.int .i64))) (.slice (.int .i64)))) v36 x29.2.2.2.2, .sl 84 (.pair (.int .i64) (.pair (.slice (.pair (.int .i64) (.int .i64))) (.int .i64))) v18 x14.1, .sl 3 (.int .i64) v19 x14.2.1, .sl 3 (.int .i64) v20 x14.2.2.1, .sl 50 (.pair (.int .i64) (.pair (.slice (.pair (.int .i64) (.int .i64))) (.slice (.int .i64)))) v21 x14.2.2.2.2, .bx b1 26 [vp0_0, vp0_1, vp0_2, .int .i64 p0_3, vp0_4]] G := H50.grow hb254
        refine XB_all [0, 1] (by kernel_rfl) (by simp) (allc ?_ (allc ?_ alln))
        · refine XB_do rfl ?_
          have hB256 : Bx w253 b38 32 [v33, v34, v35, .int .i64 x29.2.2.2.1, v36] := Holds.bx (H255.pull 0)
          refine XL_load_bxA (cs := [v33, v34, v35, .int .i64 x29.2.2.2.1, v36]) us32 uo32 il32 hB256 rfl rfl rfl ?_
          change XL _ _ _ _ _ ((26, .agg #[v33, v34, v35, .int .i64 x29.2.2.2.1, v36]) :: _) _
          refine WL_nil fun a ha => ⟨rfl, (?_ : XB _ _ _ _ _ _ _ _) a ha⟩
          refine XB_all [1] (by kernel_rfl) (by simp) (allc ?_ alln)
          · refine XB_do rfl ?_
            have hB257 : Bx w253 b1 26 [vp0_0, vp0_1, vp0_2, .int .i64 p0_3, vp0_4] := Holds.bx (H255.pull 9)
            refine XL_load_bxA (cs := [vp0_0, vp0_1, vp0_2, .int .i64 p0_3, vp0_4]) us26 uo26 il26 hB257 rfl rfl rfl ?_
            change XL _ _ _ _ _ ((27, .agg #[vp0_0, vp0_1, vp0_2, .int .i64 p0_3, vp0_4]) :: _) _
            refine WL_nil fun a ha => ⟨rfl, (?_ : XB _ _ _ _ _ _ _ _) a ha⟩
            refine XB_all [2] (by kernel_rfl) (by simp) (allc ?_ alln)
            · refine XB_do rfl ?_
              refine WL_call rfl rfl c9 (w_laws_toHouse w253 ([.bx b38 32 [v33, v34, v35, .int .i64 x29.2.2.2.1, v36], .sl 84 (.pair (.int .i64) (.pair (.slice (.pair (.int .i64) (.int .i64))) (.int .i64))) v33 x29.1, .sl 3 (.int .i64) v34 x29.2.1, .sl 3 (.int .i64) v35 x29.2.2.1, .sl 50 (.pair (.int .i64) (.pair (.slice (.pair (.int .i64) (.int .i64))) (.slice (.int .i64)))) v36 x29.2.2.2.2, .sl 84 (.pair (.int .i64) (.pair (.slice (.pair (.int .i64) (.int .i64))) (.int .i64))) v18 x14.1, .sl 3 (.int .i64) v19 x14.2.1, .sl 3 (.int .i64) v20 x14.2.2.1, .sl 50 (.pair (.int .i64) (.pair (.slice (.pair (.int .i64) (.int .i64))) (.slice (.int .i64)))) v21 x14.2.2.2.2, .bx b1 26 [vp0_0, vp0_1, vp0_2, .int .i64 p0_3, vp0_4]] ++ G) vp0_0 p0_0 (hp0_0.c.c.c.c.c.c.c.c.c.c) vp0_1 p0_1 (hp0_1.c.c.c.c.c.c.c.c.c.c) vp0_2 p0_2 (hp0_2.c.c.c.c.c.c.c.c.c.c) p0_3 vp0_4 p0_4 (hp0_4.c.c.c.c.c.c.c.c.c.c) x55 hx56 H255.ctx) (by rfl) ?_
              rintro _ w258 ⟨v260, v261, v262, v263, rfl, H259⟩; refine ⟨_, rfl, ?_⟩
              have H264 : Holds (([] : List Res).flatMap Res.own) w w258 [.sl 84 (.pair (.int .i64) (.pair (.slice (.pair (.int .i64) (.int .i64))) (.int .i64))) v260 x55.1, .sl 3 (.int .i64) v261 x55.2.1, .sl 3 (.int .i64) v262 x55.2.2.1, .sl 50 (.pair (.int .i64) (.pair (.slice (.pair (.int .i64) (.int .i64))) (.slice (.int .i64)))) v263 x55.2.2.2.2, .bx b38 32 [v33, v34, v35, .int .i64 x29.2.2.2.1, v36], .sl 84 (.pair (.int .i64) (.pair (.slice (.pair (.int .i64) (.int .i64))) (.int .i64))) v33 x29.1, .sl 3 (.int .i64) v34 x29.2.1, .sl 3 (.int .i64) v35 x29.2.2.1, .sl 50 (.pair (.int .i64) (.pair (.slice (.pair (.int .i64) (.int .i64))) (.slice (.int .i64)))) v36 x29.2.2.2.2, .sl 84 (.pair (.int .i64) (.pair (.slice (.pair (.int .i64) (.int .i64))) (.int .i64))) v18 x14.1, .sl 3 (.int .i64) v19 x14.2.1, .sl 3 (.int .i64) v20 x14.2.2.1, .sl 50 (.pair (.int .i64) (.pair (.slice (.pair (.int .i64) (.int .i64))) (.slice (.int .i64)))) v21 x14.2.2.2.2, .bx b1 26 [vp0_0, vp0_1, vp0_2, .int .i64 p0_3, vp0_4]] G := H255.calledN (Rs := []) H259
              refine WL_nil fun a ha => ⟨rfl, (?_ : XB _ _ _ _ _ _ _ _) a ha⟩
              refine XB_all [3] (by kernel_rfl) (by simp) (allc ?_ alln)
              · refine XB_do rfl ?_
                refine WL_call rfl rfl c11 (w_laws_eqHouse w258 ([.sl 84 (.pair (.int .i64) (.pair (.slice (.pair (.int .i64) (.int .i64))) (.int .i64))) v260 x55.1, .sl 3 (.int .i64) v261 x55.2.1, .sl 3 (.int .i64) v262 x55.2.2.1, .sl 50 (.pair (.int .i64) (.pair (.slice (.pair (.int .i64) (.int .i64))) (.slice (.int .i64)))) v263 x55.2.2.2.2, .bx b38 32 [v33, v34, v35, .int .i64 x29.2.2.2.1, v36], .sl 84 (.pair (.int .i64) (.pair (.slice (.pair (.int .i64) (.int .i64))) (.int .i64))) v33 x29.1, .sl 3 (.int .i64) v34 x29.2.1, .sl 3 (.int .i64) v35 x29.2.2.1, .sl 50 (.pair (.int .i64) (.pair (.slice (.pair (.int .i64) (.int .i64))) (.slice (.int .i64)))) v36 x29.2.2.2.2, .sl 84 (.pair (.int .i64) (.pair (.slice (.pair (.int .i64) (.int .i64))) (.int .i64))) v18 x14.1, .sl 3 (.int .i64) v19 x14.2.1, .sl 3 (.int .i64) v20 x14.2.2.1, .sl 50 (.pair (.int .i64) (.pair (.slice (.pair (.int .i64) (.int .i64))) (.slice (.int .i64)))) v21 x14.2.2.2.2, .bx b1 26 [vp0_0, vp0_1, vp0_2, .int .i64 p0_3, vp0_4]] ++ G) v33 x29.1 (Has.c (Has.c (Has.c (Has.c (Has.c (Has.hd)))))) v34 x29.2.1 (Has.c (Has.c (Has.c (Has.c (Has.c (Has.c (Has.hd))))))) v35 x29.2.2.1 (Has.c (Has.c (Has.c (Has.c (Has.c (Has.c (Has.c (Has.hd)))))))) x29.2.2.2.1 v36 x29.2.2.2.2 (Has.c (Has.c (Has.c (Has.c (Has.c (Has.c (Has.c (Has.c (Has.hd))))))))) v260 x55.1 (Has.hd) v261 x55.2.1 (Has.c (Has.hd)) v262 x55.2.2.1 (Has.c (Has.c (Has.hd))) x55.2.2.2.1 v263 x55.2.2.2.2 (Has.c (Has.c (Has.c (Has.hd)))) x64 hx65 H264.ctx) (by rfl) ?_
                rintro _ w265 ⟨rfl, H266⟩; refine ⟨_, rfl, ?_⟩
                have H267 : Holds (([] : List Res).flatMap Res.own) w w265 [.sl 84 (.pair (.int .i64) (.pair (.slice (.pair (.int .i64) (.int .i64))) (.int .i64))) v260 x55.1, .sl 3 (.int .i64) v261 x55.2.1, .sl 3 (.int .i64) v262 x55.2.2.1, .sl 50 (.pair (.int .i64) (.pair (.slice (.pair (.int .i64) (.int .i64))) (.slice (.int .i64)))) v263 x55.2.2.2.2, .bx b38 32 [v33, v34, v35, .int .i64 x29.2.2.2.1, v36], .sl 84 (.pair (.int .i64) (.pair (.slice (.pair (.int .i64) (.int .i64))) (.int .i64))) v33 x29.1, .sl 3 (.int .i64) v34 x29.2.1, .sl 3 (.int .i64) v35 x29.2.2.1, .sl 50 (.pair (.int .i64) (.pair (.slice (.pair (.int .i64) (.int .i64))) (.slice (.int .i64)))) v36 x29.2.2.2.2, .sl 84 (.pair (.int .i64) (.pair (.slice (.pair (.int .i64) (.int .i64))) (.int .i64))) v18 x14.1, .sl 3 (.int .i64) v19 x14.2.1, .sl 3 (.int .i64) v20 x14.2.2.1, .sl 50 (.pair (.int .i64) (.pair (.slice (.pair (.int .i64) (.int .i64))) (.slice (.int .i64)))) v21 x14.2.2.2.2, .bx b1 26 [vp0_0, vp0_1, vp0_2, .int .i64 p0_3, vp0_4]] G := H264.calledN (Rs := []) H266
                refine WL_nil fun a ha => ⟨rfl, (?_ : XB _ _ _ _ _ _ _ _) a ha⟩
                refine XB_take (i := 4) rfl (by kernel_rfl) (by kernel_rfl) (by kernel_rfl) rfl (fun _ => qt_not rfl) rfl rfl ?_
                refine XB_done (by kernel_rfl) (fun a ha => ?_)
                have H268 : Holds (([] : List Res).flatMap Res.own) w w265 [] G := ((((((((((((((H267.cut 0).cut 0).cut 0).cut 0).cut 0).cut 0).cut 0).cut 0).cut 0).cut 0).cut 0).cut 0).cut 0).cut 0)
                exact ⟨ha.sub ⟨rfl, trivial⟩, H268⟩
        · refine XB_do rfl ?_
          have hB269 : Bx w253 b1 26 [vp0_0, vp0_1, vp0_2, .int .i64 p0_3, vp0_4] := Holds.bx (H255.pull 9)
          refine XL_load_bxA (cs := [vp0_0, vp0_1, vp0_2, .int .i64 p0_3, vp0_4]) us26 uo26 il26 hB269 rfl rfl rfl ?_
          change XL _ _ _ _ _ ((27, .agg #[vp0_0, vp0_1, vp0_2, .int .i64 p0_3, vp0_4]) :: _) _
          refine WL_nil fun a ha => ⟨rfl, (?_ : XB _ _ _ _ _ _ _ _) a ha⟩
          refine XB_all [0, 2] (by kernel_rfl) (by simp) (allc ?_ (allc ?_ alln))
          · refine XB_do rfl ?_
            have hB270 : Bx w253 b38 32 [v33, v34, v35, .int .i64 x29.2.2.2.1, v36] := Holds.bx (H255.pull 0)
            refine XL_load_bxA (cs := [v33, v34, v35, .int .i64 x29.2.2.2.1, v36]) us32 uo32 il32 hB270 rfl rfl rfl ?_
            change XL _ _ _ _ _ ((26, .agg #[v33, v34, v35, .int .i64 x29.2.2.2.1, v36]) :: _) _
            refine WL_nil fun a ha => ⟨rfl, (?_ : XB _ _ _ _ _ _ _ _) a ha⟩
            refine XB_all [2] (by kernel_rfl) (by simp) (allc ?_ alln)
            · refine XB_do rfl ?_
              refine WL_call rfl rfl c9 (w_laws_toHouse w253 ([.bx b38 32 [v33, v34, v35, .int .i64 x29.2.2.2.1, v36], .sl 84 (.pair (.int .i64) (.pair (.slice (.pair (.int .i64) (.int .i64))) (.int .i64))) v33 x29.1, .sl 3 (.int .i64) v34 x29.2.1, .sl 3 (.int .i64) v35 x29.2.2.1, .sl 50 (.pair (.int .i64) (.pair (.slice (.pair (.int .i64) (.int .i64))) (.slice (.int .i64)))) v36 x29.2.2.2.2, .sl 84 (.pair (.int .i64) (.pair (.slice (.pair (.int .i64) (.int .i64))) (.int .i64))) v18 x14.1, .sl 3 (.int .i64) v19 x14.2.1, .sl 3 (.int .i64) v20 x14.2.2.1, .sl 50 (.pair (.int .i64) (.pair (.slice (.pair (.int .i64) (.int .i64))) (.slice (.int .i64)))) v21 x14.2.2.2.2, .bx b1 26 [vp0_0, vp0_1, vp0_2, .int .i64 p0_3, vp0_4]] ++ G) vp0_0 p0_0 (hp0_0.c.c.c.c.c.c.c.c.c.c) vp0_1 p0_1 (hp0_1.c.c.c.c.c.c.c.c.c.c) vp0_2 p0_2 (hp0_2.c.c.c.c.c.c.c.c.c.c) p0_3 vp0_4 p0_4 (hp0_4.c.c.c.c.c.c.c.c.c.c) x55 hx56 H255.ctx) (by rfl) ?_
              rintro _ w271 ⟨v273, v274, v275, v276, rfl, H272⟩; refine ⟨_, rfl, ?_⟩
              have H277 : Holds (([] : List Res).flatMap Res.own) w w271 [.sl 84 (.pair (.int .i64) (.pair (.slice (.pair (.int .i64) (.int .i64))) (.int .i64))) v273 x55.1, .sl 3 (.int .i64) v274 x55.2.1, .sl 3 (.int .i64) v275 x55.2.2.1, .sl 50 (.pair (.int .i64) (.pair (.slice (.pair (.int .i64) (.int .i64))) (.slice (.int .i64)))) v276 x55.2.2.2.2, .bx b38 32 [v33, v34, v35, .int .i64 x29.2.2.2.1, v36], .sl 84 (.pair (.int .i64) (.pair (.slice (.pair (.int .i64) (.int .i64))) (.int .i64))) v33 x29.1, .sl 3 (.int .i64) v34 x29.2.1, .sl 3 (.int .i64) v35 x29.2.2.1, .sl 50 (.pair (.int .i64) (.pair (.slice (.pair (.int .i64) (.int .i64))) (.slice (.int .i64)))) v36 x29.2.2.2.2, .sl 84 (.pair (.int .i64) (.pair (.slice (.pair (.int .i64) (.int .i64))) (.int .i64))) v18 x14.1, .sl 3 (.int .i64) v19 x14.2.1, .sl 3 (.int .i64) v20 x14.2.2.1, .sl 50 (.pair (.int .i64) (.pair (.slice (.pair (.int .i64) (.int .i64))) (.slice (.int .i64)))) v21 x14.2.2.2.2, .bx b1 26 [vp0_0, vp0_1, vp0_2, .int .i64 p0_3, vp0_4]] G := H255.calledN (Rs := []) H272
              refine WL_nil fun a ha => ⟨rfl, (?_ : XB _ _ _ _ _ _ _ _) a ha⟩
              refine XB_all [3] (by kernel_rfl) (by simp) (allc ?_ alln)
              · refine XB_do rfl ?_
                refine WL_call rfl rfl c11 (w_laws_eqHouse w271 ([.sl 84 (.pair (.int .i64) (.pair (.slice (.pair (.int .i64) (.int .i64))) (.int .i64))) v273 x55.1, .sl 3 (.int .i64) v274 x55.2.1, .sl 3 (.int .i64) v275 x55.2.2.1, .sl 50 (.pair (.int .i64) (.pair (.slice (.pair (.int .i64) (.int .i64))) (.slice (.int .i64)))) v276 x55.2.2.2.2, .bx b38 32 [v33, v34, v35, .int .i64 x29.2.2.2.1, v36], .sl 84 (.pair (.int .i64) (.pair (.slice (.pair (.int .i64) (.int .i64))) (.int .i64))) v33 x29.1, .sl 3 (.int .i64) v34 x29.2.1, .sl 3 (.int .i64) v35 x29.2.2.1, .sl 50 (.pair (.int .i64) (.pair (.slice (.pair (.int .i64) (.int .i64))) (.slice (.int .i64)))) v36 x29.2.2.2.2, .sl 84 (.pair (.int .i64) (.pair (.slice (.pair (.int .i64) (.int .i64))) (.int .i64))) v18 x14.1, .sl 3 (.int .i64) v19 x14.2.1, .sl 3 (.int .i64) v20 x14.2.2.1, .sl 50 (.pair (.int .i64) (.pair (.slice (.pair (.int .i64) (.int .i64))) (.slice (.int .i64)))) v21 x14.2.2.2.2, .bx b1 26 [vp0_0, vp0_1, vp0_2, .int .i64 p0_3, vp0_4]] ++ G) v33 x29.1 (Has.c (Has.c (Has.c (Has.c (Has.c (Has.hd)))))) v34 x29.2.1 (Has.c (Has.c (Has.c (Has.c (Has.c (Has.c (Has.hd))))))) v35 x29.2.2.1 (Has.c (Has.c (Has.c (Has.c (Has.c (Has.c (Has.c (Has.hd)))))))) x29.2.2.2.1 v36 x29.2.2.2.2 (Has.c (Has.c (Has.c (Has.c (Has.c (Has.c (Has.c (Has.c (Has.hd))))))))) v273 x55.1 (Has.hd) v274 x55.2.1 (Has.c (Has.hd)) v275 x55.2.2.1 (Has.c (Has.c (Has.hd))) x55.2.2.2.1 v276 x55.2.2.2.2 (Has.c (Has.c (Has.c (Has.hd)))) x64 hx65 H277.ctx) (by rfl) ?_
                rintro _ w278 ⟨rfl, H279⟩; refine ⟨_, rfl, ?_⟩
                have H280 : Holds (([] : List Res).flatMap Res.own) w w278 [.sl 84 (.pair (.int .i64) (.pair (.slice (.pair (.int .i64) (.int .i64))) (.int .i64))) v273 x55.1, .sl 3 (.int .i64) v274 x55.2.1, .sl 3 (.int .i64) v275 x55.2.2.1, .sl 50 (.pair (.int .i64) (.pair (.slice (.pair (.int .i64) (.int .i64))) (.slice (.int .i64)))) v276 x55.2.2.2.2, .bx b38 32 [v33, v34, v35, .int .i64 x29.2.2.2.1, v36], .sl 84 (.pair (.int .i64) (.pair (.slice (.pair (.int .i64) (.int .i64))) (.int .i64))) v33 x29.1, .sl 3 (.int .i64) v34 x29.2.1, .sl 3 (.int .i64) v35 x29.2.2.1, .sl 50 (.pair (.int .i64) (.pair (.slice (.pair (.int .i64) (.int .i64))) (.slice (.int .i64)))) v36 x29.2.2.2.2, .sl 84 (.pair (.int .i64) (.pair (.slice (.pair (.int .i64) (.int .i64))) (.int .i64))) v18 x14.1, .sl 3 (.int .i64) v19 x14.2.1, .sl 3 (.int .i64) v20 x14.2.2.1, .sl 50 (.pair (.int .i64) (.pair (.slice (.pair (.int .i64) (.int .i64))) (.slice (.int .i64)))) v21 x14.2.2.2.2, .bx b1 26 [vp0_0, vp0_1, vp0_2, .int .i64 p0_3, vp0_4]] G := H277.calledN (Rs := []) H279
                refine WL_nil fun a ha => ⟨rfl, (?_ : XB _ _ _ _ _ _ _ _) a ha⟩
                refine XB_take (i := 4) rfl (by kernel_rfl) (by kernel_rfl) (by kernel_rfl) rfl (fun _ => qt_not rfl) rfl rfl ?_
                refine XB_done (by kernel_rfl) (fun a ha => ?_)
                have H281 : Holds (([] : List Res).flatMap Res.own) w w278 [] G := ((((((((((((((H280.cut 0).cut 0).cut 0).cut 0).cut 0).cut 0).cut 0).cut 0).cut 0).cut 0).cut 0).cut 0).cut 0).cut 0)
                exact ⟨ha.sub ⟨rfl, trivial⟩, H281⟩
          · refine XB_do rfl ?_
            refine WL_call rfl rfl c9 (w_laws_toHouse w253 ([.bx b38 32 [v33, v34, v35, .int .i64 x29.2.2.2.1, v36], .sl 84 (.pair (.int .i64) (.pair (.slice (.pair (.int .i64) (.int .i64))) (.int .i64))) v33 x29.1, .sl 3 (.int .i64) v34 x29.2.1, .sl 3 (.int .i64) v35 x29.2.2.1, .sl 50 (.pair (.int .i64) (.pair (.slice (.pair (.int .i64) (.int .i64))) (.slice (.int .i64)))) v36 x29.2.2.2.2, .sl 84 (.pair (.int .i64) (.pair (.slice (.pair (.int .i64) (.int .i64))) (.int .i64))) v18 x14.1, .sl 3 (.int .i64) v19 x14.2.1, .sl 3 (.int .i64) v20 x14.2.2.1, .sl 50 (.pair (.int .i64) (.pair (.slice (.pair (.int .i64) (.int .i64))) (.slice (.int .i64)))) v21 x14.2.2.2.2, .bx b1 26 [vp0_0, vp0_1, vp0_2, .int .i64 p0_3, vp0_4]] ++ G) vp0_0 p0_0 (hp0_0.c.c.c.c.c.c.c.c.c.c) vp0_1 p0_1 (hp0_1.c.c.c.c.c.c.c.c.c.c) vp0_2 p0_2 (hp0_2.c.c.c.c.c.c.c.c.c.c) p0_3 vp0_4 p0_4 (hp0_4.c.c.c.c.c.c.c.c.c.c) x55 hx56 H255.ctx) (by rfl) ?_
            rintro _ w282 ⟨v284, v285, v286, v287, rfl, H283⟩; refine ⟨_, rfl, ?_⟩
            have H288 : Holds (([] : List Res).flatMap Res.own) w w282 [.sl 84 (.pair (.int .i64) (.pair (.slice (.pair (.int .i64) (.int .i64))) (.int .i64))) v284 x55.1, .sl 3 (.int .i64) v285 x55.2.1, .sl 3 (.int .i64) v286 x55.2.2.1, .sl 50 (.pair (.int .i64) (.pair (.slice (.pair (.int .i64) (.int .i64))) (.slice (.int .i64)))) v287 x55.2.2.2.2, .bx b38 32 [v33, v34, v35, .int .i64 x29.2.2.2.1, v36], .sl 84 (.pair (.int .i64) (.pair (.slice (.pair (.int .i64) (.int .i64))) (.int .i64))) v33 x29.1, .sl 3 (.int .i64) v34 x29.2.1, .sl 3 (.int .i64) v35 x29.2.2.1, .sl 50 (.pair (.int .i64) (.pair (.slice (.pair (.int .i64) (.int .i64))) (.slice (.int .i64)))) v36 x29.2.2.2.2, .sl 84 (.pair (.int .i64) (.pair (.slice (.pair (.int .i64) (.int .i64))) (.int .i64))) v18 x14.1, .sl 3 (.int .i64) v19 x14.2.1, .sl 3 (.int .i64) v20 x14.2.2.1, .sl 50 (.pair (.int .i64) (.pair (.slice (.pair (.int .i64) (.int .i64))) (.slice (.int .i64)))) v21 x14.2.2.2.2, .bx b1 26 [vp0_0, vp0_1, vp0_2, .int .i64 p0_3, vp0_4]] G := H255.calledN (Rs := []) H283
            refine WL_nil fun a ha => ⟨rfl, (?_ : XB _ _ _ _ _ _ _ _) a ha⟩
            refine XB_all [0] (by kernel_rfl) (by simp) (allc ?_ alln)
            · refine XB_do rfl ?_
              have hB289 : Bx w282 b38 32 [v33, v34, v35, .int .i64 x29.2.2.2.1, v36] := Holds.bx (H288.pull 4)
              refine XL_load_bxA (cs := [v33, v34, v35, .int .i64 x29.2.2.2.1, v36]) us32 uo32 il32 hB289 rfl rfl rfl ?_
              change XL _ _ _ _ _ ((26, .agg #[v33, v34, v35, .int .i64 x29.2.2.2.1, v36]) :: _) _
              refine WL_nil fun a ha => ⟨rfl, (?_ : XB _ _ _ _ _ _ _ _) a ha⟩
              refine XB_all [3] (by kernel_rfl) (by simp) (allc ?_ alln)
              · refine XB_do rfl ?_
                refine WL_call rfl rfl c11 (w_laws_eqHouse w282 ([.sl 84 (.pair (.int .i64) (.pair (.slice (.pair (.int .i64) (.int .i64))) (.int .i64))) v284 x55.1, .sl 3 (.int .i64) v285 x55.2.1, .sl 3 (.int .i64) v286 x55.2.2.1, .sl 50 (.pair (.int .i64) (.pair (.slice (.pair (.int .i64) (.int .i64))) (.slice (.int .i64)))) v287 x55.2.2.2.2, .bx b38 32 [v33, v34, v35, .int .i64 x29.2.2.2.1, v36], .sl 84 (.pair (.int .i64) (.pair (.slice (.pair (.int .i64) (.int .i64))) (.int .i64))) v33 x29.1, .sl 3 (.int .i64) v34 x29.2.1, .sl 3 (.int .i64) v35 x29.2.2.1, .sl 50 (.pair (.int .i64) (.pair (.slice (.pair (.int .i64) (.int .i64))) (.slice (.int .i64)))) v36 x29.2.2.2.2, .sl 84 (.pair (.int .i64) (.pair (.slice (.pair (.int .i64) (.int .i64))) (.int .i64))) v18 x14.1, .sl 3 (.int .i64) v19 x14.2.1, .sl 3 (.int .i64) v20 x14.2.2.1, .sl 50 (.pair (.int .i64) (.pair (.slice (.pair (.int .i64) (.int .i64))) (.slice (.int .i64)))) v21 x14.2.2.2.2, .bx b1 26 [vp0_0, vp0_1, vp0_2, .int .i64 p0_3, vp0_4]] ++ G) v33 x29.1 (Has.c (Has.c (Has.c (Has.c (Has.c (Has.hd)))))) v34 x29.2.1 (Has.c (Has.c (Has.c (Has.c (Has.c (Has.c (Has.hd))))))) v35 x29.2.2.1 (Has.c (Has.c (Has.c (Has.c (Has.c (Has.c (Has.c (Has.hd)))))))) x29.2.2.2.1 v36 x29.2.2.2.2 (Has.c (Has.c (Has.c (Has.c (Has.c (Has.c (Has.c (Has.c (Has.hd))))))))) v284 x55.1 (Has.hd) v285 x55.2.1 (Has.c (Has.hd)) v286 x55.2.2.1 (Has.c (Has.c (Has.hd))) x55.2.2.2.1 v287 x55.2.2.2.2 (Has.c (Has.c (Has.c (Has.hd)))) x64 hx65 H288.ctx) (by rfl) ?_
                rintro _ w290 ⟨rfl, H291⟩; refine ⟨_, rfl, ?_⟩
                have H292 : Holds (([] : List Res).flatMap Res.own) w w290 [.sl 84 (.pair (.int .i64) (.pair (.slice (.pair (.int .i64) (.int .i64))) (.int .i64))) v284 x55.1, .sl 3 (.int .i64) v285 x55.2.1, .sl 3 (.int .i64) v286 x55.2.2.1, .sl 50 (.pair (.int .i64) (.pair (.slice (.pair (.int .i64) (.int .i64))) (.slice (.int .i64)))) v287 x55.2.2.2.2, .bx b38 32 [v33, v34, v35, .int .i64 x29.2.2.2.1, v36], .sl 84 (.pair (.int .i64) (.pair (.slice (.pair (.int .i64) (.int .i64))) (.int .i64))) v33 x29.1, .sl 3 (.int .i64) v34 x29.2.1, .sl 3 (.int .i64) v35 x29.2.2.1, .sl 50 (.pair (.int .i64) (.pair (.slice (.pair (.int .i64) (.int .i64))) (.slice (.int .i64)))) v36 x29.2.2.2.2, .sl 84 (.pair (.int .i64) (.pair (.slice (.pair (.int .i64) (.int .i64))) (.int .i64))) v18 x14.1, .sl 3 (.int .i64) v19 x14.2.1, .sl 3 (.int .i64) v20 x14.2.2.1, .sl 50 (.pair (.int .i64) (.pair (.slice (.pair (.int .i64) (.int .i64))) (.slice (.int .i64)))) v21 x14.2.2.2.2, .bx b1 26 [vp0_0, vp0_1, vp0_2, .int .i64 p0_3, vp0_4]] G := H288.calledN (Rs := []) H291
                refine WL_nil fun a ha => ⟨rfl, (?_ : XB _ _ _ _ _ _ _ _) a ha⟩
                refine XB_take (i := 4) rfl (by kernel_rfl) (by kernel_rfl) (by kernel_rfl) rfl (fun _ => qt_not rfl) rfl rfl ?_
                refine XB_done (by kernel_rfl) (fun a ha => ?_)
                have H293 : Holds (([] : List Res).flatMap Res.own) w w290 [] G := ((((((((((((((H292.cut 0).cut 0).cut 0).cut 0).cut 0).cut 0).cut 0).cut 0).cut 0).cut 0).cut 0).cut 0).cut 0).cut 0)
                exact ⟨ha.sub ⟨rfl, trivial⟩, H293⟩
      · intro a w294 hI295
        obtain ⟨ha, H296⟩ := hI295
        refine WP.app ?_ ha
        clear ha
        refine WP_cond rfl (fun hc297 => ?_) (fun hc297 => ?_)
        · have h := if_t hc297 h
          refine WP_seq ?_
          refine WP_region ?_
          refine XL_q rfl (qt_assign rfl) rfl rfl ?_
          refine WL_nil_seq ?_
          refine WP_ret fun a ha => ?_
          obtain rfl := Option.some.inj h
          exact ret_seq (ret1 rfl ha rfl ⟨rfl, H296⟩)
        · have h := if_f hc297 h
          refine WP_skip_seq ?_
          refine WP_seq ?_
          refine WP_region ?_
          refine XL_q rfl (qt_assign rfl) rfl rfl ?_
          refine WL_nil_seq ?_
          refine WP_ret fun a ha => ?_
          obtain rfl := Option.some.inj h
          exact ret1 rfl ha rfl ⟨rfl, H296⟩
theorem w_spec_HouseWorth (w : World) (G : List Res) (vp0_0 : Value) (p0_0 : List (Int × (List (Int × Int)) × Int)) (hp0_0 : Has G (.pair (.int .i64) (.pair (.slice (.pair (.int .i64) (.int .i64))) (.int .i64))) vp0_0 p0_0) (vp0_1 : Value) (p0_1 : List Int) (hp0_1 : Has G (.int .i64) vp0_1 p0_1) (vp0_2 : Value) (p0_2 : List Int) (hp0_2 : Has G (.int .i64) vp0_2 p0_2) (p0_3 : Int) (vp0_4 : Value) (p0_4 : List (Int × (List (Int × Int)) × (List Int))) (hp0_4 : Has G (.pair (.int .i64) (.pair (.slice (.pair (.int .i64) (.int .i64))) (.slice (.int .i64)))) vp0_4 p0_4) (r : Int) (h : spec_HouseWorthS p0_0 p0_1 p0_2 p0_3 p0_4 = some r) (H : Ctx w G) : Calls Try.prog 14 #[.agg #[vp0_0, vp0_1, vp0_2, .int .i64 p0_3, vp0_4]] w fun e w' => e = .returned (.int .i64 r) ∧ Holds (([] : List Res).flatMap Res.own) w w' [] G := by
  have H : Holds (([] : List Res).flatMap Res.own) w w [] G := Holds.startN H
  refine calls_enter (args := [.agg #[vp0_0, vp0_1, vp0_2, .int .i64 p0_3, vp0_4]]) (n := 23) Try.func14 rfl rfl rfl ?_
  unfold spec_HouseWorthS at h
  refine WP_seq ?_
  refine WP_region ?_
  refine WL_box (cs := [vp0_0, vp0_1, vp0_2, .int .i64 p0_3, vp0_4]) H rfl rfl rfl rfl (fun b1 w2 H3 => ?_)
  have H4 : Holds (([] : List Res).flatMap Res.own) w w2 [.bx b1 32 [vp0_0, vp0_1, vp0_2, .int .i64 p0_3, vp0_4]] G := H3
  refine XL_q rfl (qt_assign rfl) rfl rfl ?_
  refine WL_nil_seq ?_
  refine WP_seq ?_
  refine WP_seq ?_
  refine WP_still ?_
  have hB5 : Bx w2 b1 32 [vp0_0, vp0_1, vp0_2, .int .i64 p0_3, vp0_4] := Holds.bx (H4.pull 0)
  refine XL_load_bxA (cs := [vp0_0, vp0_1, vp0_2, .int .i64 p0_3, vp0_4]) us32 uo32 il32 hB5 rfl rfl rfl ?_
  change XL _ _ _ _ _ ((5, .agg #[vp0_0, vp0_1, vp0_2, .int .i64 p0_3, vp0_4]) :: _) _
  obtain ⟨x6, hx7, h⟩ := bind_some h
  refine QL_call rfl rfl c8 (fun w' hb => (w_spec_HouseValid w' ([.bx b1 32 [vp0_0, vp0_1, vp0_2, .int .i64 p0_3, vp0_4]] ++ G) vp0_0 p0_0 (hp0_0.c) vp0_1 p0_1 (hp0_1.c) vp0_2 p0_2 (hp0_2.c) p0_3 vp0_4 p0_4 (hp0_4.c) x6 hx7 (H4.grow hb).ctx).mono fun e w'' hK => ⟨hK.1, hK.2.bel⟩) (by rfl) ?_
  refine XL_q rfl (qt_not rfl) rfl rfl ?_
  refine QL_nil fun a ha w8 hb9 => ?_
  have H10 : Holds (([] : List Res).flatMap Res.own) w w8 [.bx b1 32 [vp0_0, vp0_1, vp0_2, .int .i64 p0_3, vp0_4]] G := H4.grow hb9
  refine nrm_seq (WP.app ?_ ha)
  refine WP_cond rfl (fun hc11 => ?_) (fun hc11 => ?_)
  · have h := if_t hc11 h
    refine WP_seq ?_
    refine WP_region ?_
    refine XL_q rfl (qt_assign rfl) rfl rfl ?_
    refine WL_nil_seq ?_
    refine WP_ret fun a ha => ?_
    obtain rfl := Option.some.inj h
    have H12 : Holds (([] : List Res).flatMap Res.own) w w8 [] G := (H10.cut 0)
    exact ret_seq (ret1 rfl ha rfl ⟨rfl, H12⟩)
  · have h := if_f hc11 h
    refine WP_skip_seq ?_
    refine WP_seq ?_
    refine WP_region ?_
    refine XL_q rfl (qt_fieldAddr uf32 fi32_3 nz3 rfl) rfl rfl ?_
    have hB13 : Bx w8 b1 32 [vp0_0, vp0_1, vp0_2, .int .i64 p0_3, vp0_4] := Holds.bx (H10.pull 0)
    refine XL_load_bx u3 rfl hB13 rfl rfl rfl rfl ?_
    refine XL_q rfl (qt_assign rfl) rfl rfl ?_
    refine WL_nil_seq ?_
    refine WP_seq ?_
    refine WP_seq ?_
    refine WP_region ?_
    refine XL_q rfl (qt_assign rfl) rfl rfl ?_
    refine WL_nil_seq ?_
    refine WP_block ?_
    obtain ⟨o16, ho17, h⟩ := bind_some h
    refine fun a18 ha19 => wp_loop_fix (I := fun s a w2 => match s with | (s14, s15) => (Fr a 23 [(1, .pointer (some ⟨b1, 0, none⟩)), (3, .int .i64 s14), (4, .int .i64 s15)] ∧ Holds (([] : List Res).flatMap Res.own) w w2 [.bx b1 32 [vp0_0, vp0_1, vp0_2, .int .i64 p0_3, vp0_4]] G)) (O := fun o e a w2 => match o with | q0 => e = .exit 0 ∧ (Fr a 23 [(3, .int .i64 q0)] ∧ Holds (([] : List Res).flatMap Res.own) w w2 [] G)) ho17 ?_ ?_ ?_
    · exact ⟨ha19.sub ⟨rfl, rfl, rfl, trivial⟩, H10⟩
    · clear ha19
      intro s o22 a w20 hs21 hI23
      obtain ⟨s14, s15⟩ := s
      obtain ⟨ha, H24⟩ := hI23
      refine WP.app ?_ ha
      clear ha
      refine WP_seq ?_
      refine WP_seq ?_
      refine WP_region ?_
      refine XL_q rfl (qt_move rfl) rfl rfl ?_
      refine XL_q rfl (qt_fieldAddr uf32 fi32_4 nz30 rfl) rfl rfl ?_
      have hB25 : Bx w20 b1 32 [vp0_0, vp0_1, vp0_2, .int .i64 p0_3, vp0_4] := Holds.bx (H24.pull 0)
      refine XL_load_bx u30 rfl hB25 rfl rfl rfl rfl ?_
      refine XL_lenH H24.ctx (t := (.pair (.int .i64) (.pair (.slice (.pair (.int .i64) (.int .i64))) (.slice (.int .i64))))) (hp0_4.c) u30 rfl rfl rfl ?_
      refine XL_q rfl (qt_lss rfl rfl) rfl rfl ?_
      refine WL_nil_seq ?_
      refine WP_cond rfl (fun hc26 => ?_) (fun hc26 => ?_)
      · have hs21 := if_t hc26 hs21
        refine WP_skip_seq ?_
        refine WP_seq ?_
        refine WP_block ?_
        refine WP_still ?_
        refine XL_q rfl (qt_move rfl) rfl rfl ?_
        have hB27 : Bx w20 b1 32 [vp0_0, vp0_1, vp0_2, .int .i64 p0_3, vp0_4] := Holds.bx (H24.pull 0)
        refine XL_load_bxA (cs := [vp0_0, vp0_1, vp0_2, .int .i64 p0_3, vp0_4]) us32 uo32 il32 hB27 rfl rfl rfl ?_
        change XL _ _ _ _ _ ((18, .agg #[vp0_0, vp0_1, vp0_2, .int .i64 p0_3, vp0_4]) :: _) _
        refine XL_q rfl (qt_move rfl) rfl rfl ?_
        obtain ⟨x28, hx29, hs21⟩ := bind_some hs21
        refine QL_call rfl rfl c12 (fun w' hb => (w_spec_TableBill w' ([.bx b1 32 [vp0_0, vp0_1, vp0_2, .int .i64 p0_3, vp0_4]] ++ G) vp0_0 p0_0 (hp0_0.c) vp0_1 p0_1 (hp0_1.c) vp0_2 p0_2 (hp0_2.c) p0_3 vp0_4 p0_4 (hp0_4.c) s15 x28 hx29 (H24.grow hb).ctx).mono fun e w'' hK => ⟨hK.1, hK.2.bel⟩) (by rfl) ?_
        refine XL_q rfl (qt_add rfl rfl) rfl rfl ?_
        refine XL_q rfl (qt_assign rfl) rfl rfl ?_
        refine QL_nil fun a ha w30 hb31 => ?_
        have H32 : Holds (([] : List Res).flatMap Res.own) w w30 [.bx b1 32 [vp0_0, vp0_1, vp0_2, .int .i64 p0_3, vp0_4]] G := H24.grow hb31
        refine nrm_block (nrm_seq (WP.app ?_ ha))
        refine WP_region ?_
        refine XL_q rfl (qt_move rfl) rfl rfl ?_
        refine XL_q rfl (qt_add rfl rfl) rfl rfl ?_
        refine XL_q rfl (qt_assign rfl) rfl rfl ?_
        refine WL_nil fun a ha => ?_
        obtain rfl := Option.some.inj hs21
        exact ⟨rfl, ha.sub ⟨rfl, rfl, rfl, trivial⟩, H32⟩
      · have hs21 := if_f hc26 hs21
        refine WP_exit fun a ha => ?_
        obtain rfl := Option.some.inj hs21
        have H33 : Holds (([] : List Res).flatMap Res.own) w w20 [] G := (H24.cut 0)
        exact exit_seq (⟨exit_ne, rfl, ha.sub ⟨rfl, trivial⟩, H33⟩)
    · intro e a18 w34 hO35
      obtain ⟨p36, rfl⟩ : ∃ z, z = o16 := ⟨o16, rfl⟩
      obtain ⟨rfl, hO38⟩ := hO35
      obtain ⟨ha, H37⟩ := hO38
      refine exit_block_eq (nrm_seq (WP.app ?_ ha))
      refine WP_seq ?_
      refine WP_region ?_
      refine XL_q rfl (qt_move rfl) rfl rfl ?_
      refine XL_q rfl (qt_assign rfl) rfl rfl ?_
      refine WL_nil_seq ?_
      refine WP_ret fun a ha => ?_
      obtain rfl := Option.some.inj h
      exact ret1 rfl ha rfl ⟨rfl, H37⟩
theorem w_impl_HouseWorth (w : World) (G : List Res) (vp0_0 : Value) (p0_0 : List (Int × (List (Int × Int)) × Int)) (hp0_0 : Has G (.pair (.int .i64) (.pair (.slice (.pair (.int .i64) (.int .i64))) (.int .i64))) vp0_0 p0_0) (vp0_1 : Value) (p0_1 : List Int) (hp0_1 : Has G (.int .i64) vp0_1 p0_1) (vp0_2 : Value) (p0_2 : List Int) (hp0_2 : Has G (.int .i64) vp0_2 p0_2) (p0_3 : Int) (vp0_4 : Value) (p0_4 : List (Int × (List (Int × Int)) × (List Int))) (hp0_4 : Has G (.pair (.int .i64) (.pair (.slice (.pair (.int .i64) (.int .i64))) (.slice (.int .i64)))) vp0_4 p0_4) (r : Int) (h : impl_HouseWorthS p0_0 p0_1 p0_2 p0_3 p0_4 = some r) (H : Ctx w G) : Calls Try.prog 15 #[.agg #[vp0_0, vp0_1, vp0_2, .int .i64 p0_3, vp0_4]] w fun e w' => e = .returned (.int .i64 r) ∧ Holds (([] : List Res).flatMap Res.own) w w' [] G := by
  have H : Holds (([] : List Res).flatMap Res.own) w w [] G := Holds.startN H
  refine calls_enter (args := [.agg #[vp0_0, vp0_1, vp0_2, .int .i64 p0_3, vp0_4]]) (n := 23) Try.func15 rfl rfl rfl ?_
  unfold impl_HouseWorthS at h
  refine WP_seq ?_
  refine WP_region ?_
  refine WL_box (cs := [vp0_0, vp0_1, vp0_2, .int .i64 p0_3, vp0_4]) H rfl rfl rfl rfl (fun b1 w2 H3 => ?_)
  have H4 : Holds (([] : List Res).flatMap Res.own) w w2 [.bx b1 32 [vp0_0, vp0_1, vp0_2, .int .i64 p0_3, vp0_4]] G := H3
  refine XL_q rfl (qt_assign rfl) rfl rfl ?_
  refine WL_nil_seq ?_
  refine WP_seq ?_
  refine WP_seq ?_
  refine WP_still ?_
  have hB5 : Bx w2 b1 32 [vp0_0, vp0_1, vp0_2, .int .i64 p0_3, vp0_4] := Holds.bx (H4.pull 0)
  refine XL_load_bxA (cs := [vp0_0, vp0_1, vp0_2, .int .i64 p0_3, vp0_4]) us32 uo32 il32 hB5 rfl rfl rfl ?_
  change XL _ _ _ _ _ ((5, .agg #[vp0_0, vp0_1, vp0_2, .int .i64 p0_3, vp0_4]) :: _) _
  obtain ⟨x6, hx7, h⟩ := bind_some h
  refine QL_call rfl rfl c10 (fun w' hb => (w_impl_HouseValid w' ([.bx b1 32 [vp0_0, vp0_1, vp0_2, .int .i64 p0_3, vp0_4]] ++ G) vp0_0 p0_0 (hp0_0.c) vp0_1 p0_1 (hp0_1.c) vp0_2 p0_2 (hp0_2.c) p0_3 vp0_4 p0_4 (hp0_4.c) x6 hx7 (H4.grow hb).ctx).mono fun e w'' hK => ⟨hK.1, hK.2.bel⟩) (by rfl) ?_
  refine XL_q rfl (qt_not rfl) rfl rfl ?_
  refine QL_nil fun a ha w8 hb9 => ?_
  have H10 : Holds (([] : List Res).flatMap Res.own) w w8 [.bx b1 32 [vp0_0, vp0_1, vp0_2, .int .i64 p0_3, vp0_4]] G := H4.grow hb9
  refine nrm_seq (WP.app ?_ ha)
  refine WP_cond rfl (fun hc11 => ?_) (fun hc11 => ?_)
  · have h := if_t hc11 h
    refine WP_seq ?_
    refine WP_region ?_
    refine XL_q rfl (qt_assign rfl) rfl rfl ?_
    refine WL_nil_seq ?_
    refine WP_ret fun a ha => ?_
    obtain rfl := Option.some.inj h
    have H12 : Holds (([] : List Res).flatMap Res.own) w w8 [] G := (H10.cut 0)
    exact ret_seq (ret1 rfl ha rfl ⟨rfl, H12⟩)
  · have h := if_f hc11 h
    refine WP_skip_seq ?_
    refine WP_seq ?_
    refine WP_region ?_
    refine XL_q rfl (qt_fieldAddr uf32 fi32_3 nz3 rfl) rfl rfl ?_
    have hB13 : Bx w8 b1 32 [vp0_0, vp0_1, vp0_2, .int .i64 p0_3, vp0_4] := Holds.bx (H10.pull 0)
    refine XL_load_bx u3 rfl hB13 rfl rfl rfl rfl ?_
    refine XL_q rfl (qt_assign rfl) rfl rfl ?_
    refine WL_nil_seq ?_
    refine WP_seq ?_
    refine WP_seq ?_
    refine WP_region ?_
    refine XL_q rfl (qt_fieldAddr uf32 fi32_4 nz30 rfl) rfl rfl ?_
    have hB14 : Bx w8 b1 32 [vp0_0, vp0_1, vp0_2, .int .i64 p0_3, vp0_4] := Holds.bx (H10.pull 0)
    refine XL_load_bx u30 rfl hB14 rfl rfl rfl rfl ?_
    refine XL_lenH H10.ctx (t := (.pair (.int .i64) (.pair (.slice (.pair (.int .i64) (.int .i64))) (.slice (.int .i64))))) (hp0_4.c) u30 rfl rfl rfl ?_
    refine XL_q rfl (qt_move rfl) rfl rfl ?_
    refine WL_nil_seq ?_
    refine WP_block ?_
    obtain ⟨o17, ho18, h⟩ := bind_some h
    refine fun a19 ha20 => wp_loop_fix (I := fun s a w2 => match s with | (s15, s16) => (Fr a 23 [(1, .pointer (some ⟨b1, 0, none⟩)), (3, .int .i64 s15), (12, .int .i64 (List.length p0_4 : Int)), (13, .int .i64 s16)] ∧ Holds (([] : List Res).flatMap Res.own) w w2 [.bx b1 32 [vp0_0, vp0_1, vp0_2, .int .i64 p0_3, vp0_4]] G)) (O := fun o e a w2 => match o with | q0 => e = .exit 0 ∧ (Fr a 23 [(3, .int .i64 q0)] ∧ Holds (([] : List Res).flatMap Res.own) w w2 [] G)) ho18 ?_ ?_ ?_
    · exact ⟨ha20.sub ⟨rfl, rfl, rfl, rfl, trivial⟩, H10⟩
    · clear ha20
      intro s o23 a w21 hs22 hI24
      obtain ⟨s15, s16⟩ := s
      obtain ⟨ha, H25⟩ := hI24
      refine WP.app ?_ ha
      clear ha
      refine WP_seq ?_
      refine WP_region ?_
      refine XL_q rfl (qt_lss rfl rfl) rfl rfl ?_
      refine WL_nil_seq ?_
      refine WP_seq ?_
      refine WP_cond rfl (fun hc26 => ?_) (fun hc26 => ?_)
      · have hs22 := if_t hc26 hs22
        refine WP_skip_seq ?_
        refine WP_seq ?_
        refine WP_block ?_
        refine WP_seq ?_
        refine WP_region ?_
        refine XL_q rfl (qt_move rfl) rfl rfl ?_
        refine XL_q rfl (qt_assign rfl) rfl rfl ?_
        refine WL_nil_seq ?_
        refine WP_still ?_
        refine XL_q rfl (qt_move rfl) rfl rfl ?_
        have hB27 : Bx w21 b1 32 [vp0_0, vp0_1, vp0_2, .int .i64 p0_3, vp0_4] := Holds.bx (H25.pull 0)
        refine XL_load_bxA (cs := [vp0_0, vp0_1, vp0_2, .int .i64 p0_3, vp0_4]) us32 uo32 il32 hB27 rfl rfl rfl ?_
        change XL _ _ _ _ _ ((17, .agg #[vp0_0, vp0_1, vp0_2, .int .i64 p0_3, vp0_4]) :: _) _
        refine XL_q rfl (qt_move rfl) rfl rfl ?_
        obtain ⟨x28, hx29, hs22⟩ := bind_some hs22
        refine QL_call rfl rfl c13 (fun w' hb => (w_impl_TableBill w' ([.bx b1 32 [vp0_0, vp0_1, vp0_2, .int .i64 p0_3, vp0_4]] ++ G) vp0_0 p0_0 (hp0_0.c) vp0_1 p0_1 (hp0_1.c) vp0_2 p0_2 (hp0_2.c) p0_3 vp0_4 p0_4 (hp0_4.c) s16 x28 hx29 (H25.grow hb).ctx).mono fun e w'' hK => ⟨hK.1, hK.2.bel⟩) (by rfl) ?_
        refine XL_q rfl (qt_add rfl rfl) rfl rfl ?_
        refine XL_q rfl (qt_assign rfl) rfl rfl ?_
        refine QL_nil fun a ha w30 hb31 => ?_
        have H32 : Holds (([] : List Res).flatMap Res.own) w w30 [.bx b1 32 [vp0_0, vp0_1, vp0_2, .int .i64 p0_3, vp0_4]] G := H25.grow hb31
        refine nrm_block (nrm_seq (WP.app ?_ ha))
        refine WP_region ?_
        refine XL_q rfl (qt_add rfl rfl) rfl rfl ?_
        refine XL_q rfl (qt_move rfl) rfl rfl ?_
        refine WL_nil fun a ha => ?_
        obtain rfl := Option.some.inj hs22
        exact ⟨rfl, ha.sub ⟨rfl, rfl, rfl, rfl, trivial⟩, H32⟩
      · have hs22 := if_f hc26 hs22
        refine WP_exit fun a ha => ?_
        obtain rfl := Option.some.inj hs22
        have H33 : Holds (([] : List Res).flatMap Res.own) w w21 [] G := (H25.cut 0)
        exact exit_seq (⟨exit_ne, rfl, ha.sub ⟨rfl, trivial⟩, H33⟩)
    · intro e a19 w34 hO35
      obtain ⟨p36, rfl⟩ : ∃ z, z = o17 := ⟨o17, rfl⟩
      obtain ⟨rfl, hO38⟩ := hO35
      obtain ⟨ha, H37⟩ := hO38
      refine exit_block_eq (nrm_seq (WP.app ?_ ha))
      refine WP_seq ?_
      refine WP_region ?_
      refine XL_q rfl (qt_move rfl) rfl rfl ?_
      refine XL_q rfl (qt_assign rfl) rfl rfl ?_
      refine WL_nil_seq ?_
      refine WP_ret fun a ha => ?_
      obtain rfl := Option.some.inj h
      exact ret1 rfl ha rfl ⟨rfl, H37⟩
theorem w_laws_FnExactHouseWorth (w : World) (G : List Res) (vp0_0 : Value) (p0_0 : List (Int × (List (Int × Int)) × Int)) (hp0_0 : Has G (.pair (.int .i64) (.pair (.slice (.pair (.int .i64) (.int .i64))) (.int .i64))) vp0_0 p0_0) (vp0_1 : Value) (p0_1 : List Int) (hp0_1 : Has G (.int .i64) vp0_1 p0_1) (vp0_2 : Value) (p0_2 : List Int) (hp0_2 : Has G (.int .i64) vp0_2 p0_2) (p0_3 : Int) (vp0_4 : Value) (p0_4 : List (Int × (List (Int × Int)) × (List Int))) (hp0_4 : Has G (.pair (.int .i64) (.pair (.slice (.pair (.int .i64) (.int .i64))) (.slice (.int .i64)))) vp0_4 p0_4) (r : Bool) (h : laws_FnExactHouseWorthS p0_0 p0_1 p0_2 p0_3 p0_4 = some r) (H : Ctx w G) : Calls Try.prog 5 #[.agg #[vp0_0, vp0_1, vp0_2, .int .i64 p0_3, vp0_4]] w fun e w' => e = .returned (.bool r) ∧ Holds (([] : List Res).flatMap Res.own) w w' [] G := by
  have H : Holds (([] : List Res).flatMap Res.own) w w [] G := Holds.startN H
  refine calls_enter (args := [.agg #[vp0_0, vp0_1, vp0_2, .int .i64 p0_3, vp0_4]]) (n := 27) Try.func5 rfl rfl rfl ?_
  unfold laws_FnExactHouseWorthS at h
  refine WP_seq ?_
  refine WP_region ?_
  refine WL_box (cs := [vp0_0, vp0_1, vp0_2, .int .i64 p0_3, vp0_4]) H rfl rfl rfl rfl (fun b1 w2 H3 => ?_)
  have H4 : Holds (([] : List Res).flatMap Res.own) w w2 [.bx b1 26 [vp0_0, vp0_1, vp0_2, .int .i64 p0_3, vp0_4]] G := H3
  refine XL_q rfl (qt_assign rfl) rfl rfl ?_
  refine WL_nil_seq ?_
  refine WP_seq ?_
  refine WP_region ?_
  refine XL_q rfl (qt_assign rfl) rfl rfl ?_
  refine WL_nil_seq ?_
  refine WP_seq ?_
  refine WP_still ?_
  have hB5 : Bx w2 b1 26 [vp0_0, vp0_1, vp0_2, .int .i64 p0_3, vp0_4] := Holds.bx (H4.pull 0)
  refine XL_load_bxA (cs := [vp0_0, vp0_1, vp0_2, .int .i64 p0_3, vp0_4]) us26 uo26 il26 hB5 rfl rfl rfl ?_
  change XL _ _ _ _ _ ((7, .agg #[vp0_0, vp0_1, vp0_2, .int .i64 p0_3, vp0_4]) :: _) _
  refine XL_q rfl (qt_move rfl) rfl rfl ?_
  obtain ⟨x6, hx7, h⟩ := bind_some h
  refine QL_call rfl rfl c7 (fun w' hb => (w_laws_szHouse w' ([.bx b1 26 [vp0_0, vp0_1, vp0_2, .int .i64 p0_3, vp0_4]] ++ G) vp0_0 p0_0 (hp0_0.c) vp0_1 p0_1 (hp0_1.c) vp0_2 p0_2 (hp0_2.c) p0_3 vp0_4 p0_4 (hp0_4.c) 1048576 x6 hx7 (H4.grow hb).ctx).mono fun e w'' hK => ⟨hK.1, hK.2.bel⟩) (by rfl) ?_
  refine XL_q rfl (qt_assign rfl) rfl rfl ?_
  refine QL_nil fun a ha w8 hb9 => ?_
  have H10 : Holds (([] : List Res).flatMap Res.own) w w8 [.bx b1 26 [vp0_0, vp0_1, vp0_2, .int .i64 p0_3, vp0_4]] G := H4.grow hb9
  refine nrm_seq (WP.app ?_ ha)
  refine WP_seq ?_
  refine WP_seq ?_
  refine WP_region ?_
  refine XL_q rfl (qt_move rfl) rfl rfl ?_
  refine XL_q rfl (qt_lss rfl rfl) rfl rfl ?_
  refine WL_nil_seq ?_
  refine WP_cond rfl (fun hc11 => ?_) (fun hc11 => ?_)
  · have h := if_t hc11 h
    refine WP_seq ?_
    refine WP_region ?_
    refine XL_q rfl (qt_assign rfl) rfl rfl ?_
    refine WL_nil_seq ?_
    refine WP_ret fun a ha => ?_
    obtain rfl := Option.some.inj h
    have H12 : Holds (([] : List Res).flatMap Res.own) w w8 [] G := (H10.cut 0)
    exact ret_seq (ret1 rfl ha rfl ⟨rfl, H12⟩)
  · have h := if_f hc11 h
    refine WP_skip_seq ?_
    refine WP_seq ?_
    refine WP_region ?_
    have hB13 : Bx w8 b1 26 [vp0_0, vp0_1, vp0_2, .int .i64 p0_3, vp0_4] := Holds.bx (H10.pull 0)
    refine XL_load_bxA (cs := [vp0_0, vp0_1, vp0_2, .int .i64 p0_3, vp0_4]) us26 uo26 il26 hB13 rfl rfl rfl ?_
    change XL _ _ _ _ _ ((12, .agg #[vp0_0, vp0_1, vp0_2, .int .i64 p0_3, vp0_4]) :: _) _
    obtain ⟨x14, hx15, h⟩ := bind_some h
    refine WL_call rfl rfl c9 (w_laws_toHouse w8 ([.bx b1 26 [vp0_0, vp0_1, vp0_2, .int .i64 p0_3, vp0_4]] ++ G) vp0_0 p0_0 (hp0_0.c) vp0_1 p0_1 (hp0_1.c) vp0_2 p0_2 (hp0_2.c) p0_3 vp0_4 p0_4 (hp0_4.c) x14 hx15 H10.ctx) (by rfl) ?_
    rintro _ w16 ⟨v18, v19, v20, v21, rfl, H17⟩; refine ⟨_, rfl, ?_⟩
    have H22 : Holds (([] : List Res).flatMap Res.own) w w16 [.sl 84 (.pair (.int .i64) (.pair (.slice (.pair (.int .i64) (.int .i64))) (.int .i64))) v18 x14.1, .sl 3 (.int .i64) v19 x14.2.1, .sl 3 (.int .i64) v20 x14.2.2.1, .sl 50 (.pair (.int .i64) (.pair (.slice (.pair (.int .i64) (.int .i64))) (.slice (.int .i64)))) v21 x14.2.2.2.2, .bx b1 26 [vp0_0, vp0_1, vp0_2, .int .i64 p0_3, vp0_4]] G := H10.calledN (Rs := []) H17
    obtain ⟨x23, hx24, h⟩ := bind_some h
    refine WL_call rfl rfl c14 (w_spec_HouseWorth w16 ([.sl 84 (.pair (.int .i64) (.pair (.slice (.pair (.int .i64) (.int .i64))) (.int .i64))) v18 x14.1, .sl 3 (.int .i64) v19 x14.2.1, .sl 3 (.int .i64) v20 x14.2.2.1, .sl 50 (.pair (.int .i64) (.pair (.slice (.pair (.int .i64) (.int .i64))) (.slice (.int .i64)))) v21 x14.2.2.2.2, .bx b1 26 [vp0_0, vp0_1, vp0_2, .int .i64 p0_3, vp0_4]] ++ G) v18 x14.1 (Has.hd) v19 x14.2.1 (Has.c (Has.hd)) v20 x14.2.2.1 (Has.c (Has.c (Has.hd))) x14.2.2.2.1 v21 x14.2.2.2.2 (Has.c (Has.c (Has.c (Has.hd)))) x23 hx24 H22.ctx) (by rfl) ?_
    rintro _ w25 ⟨rfl, H26⟩; refine ⟨_, rfl, ?_⟩
    have H27 : Holds (([] : List Res).flatMap Res.own) w w25 [.sl 84 (.pair (.int .i64) (.pair (.slice (.pair (.int .i64) (.int .i64))) (.int .i64))) v18 x14.1, .sl 3 (.int .i64) v19 x14.2.1, .sl 3 (.int .i64) v20 x14.2.2.1, .sl 50 (.pair (.int .i64) (.pair (.slice (.pair (.int .i64) (.int .i64))) (.slice (.int .i64)))) v21 x14.2.2.2.2, .bx b1 26 [vp0_0, vp0_1, vp0_2, .int .i64 p0_3, vp0_4]] G := H22.calledN (Rs := []) H26
    refine XL_q rfl (qt_assign rfl) rfl rfl ?_
    refine WL_nil_seq ?_
    refine WP_seq ?_
    refine WP_region ?_
    have hB28 : Bx w25 b1 26 [vp0_0, vp0_1, vp0_2, .int .i64 p0_3, vp0_4] := Holds.bx (H27.pull 4)
    refine XL_load_bxA (cs := [vp0_0, vp0_1, vp0_2, .int .i64 p0_3, vp0_4]) us26 uo26 il26 hB28 rfl rfl rfl ?_
    change XL _ _ _ _ _ ((15, .agg #[vp0_0, vp0_1, vp0_2, .int .i64 p0_3, vp0_4]) :: _) _
    obtain ⟨x29, hx30, h⟩ := bind_some h
    refine WL_call rfl rfl c9 (w_laws_toHouse w25 ([.sl 84 (.pair (.int .i64) (.pair (.slice (.pair (.int .i64) (.int .i64))) (.int .i64))) v18 x14.1, .sl 3 (.int .i64) v19 x14.2.1, .sl 3 (.int .i64) v20 x14.2.2.1, .sl 50 (.pair (.int .i64) (.pair (.slice (.pair (.int .i64) (.int .i64))) (.slice (.int .i64)))) v21 x14.2.2.2.2, .bx b1 26 [vp0_0, vp0_1, vp0_2, .int .i64 p0_3, vp0_4]] ++ G) vp0_0 p0_0 (hp0_0.c.c.c.c.c) vp0_1 p0_1 (hp0_1.c.c.c.c.c) vp0_2 p0_2 (hp0_2.c.c.c.c.c) p0_3 vp0_4 p0_4 (hp0_4.c.c.c.c.c) x29 hx30 H27.ctx) (by rfl) ?_
    rintro _ w31 ⟨v33, v34, v35, v36, rfl, H32⟩; refine ⟨_, rfl, ?_⟩
    have H37 : Holds (([] : List Res).flatMap Res.own) w w31 [.sl 84 (.pair (.int .i64) (.pair (.slice (.pair (.int .i64) (.int .i64))) (.int .i64))) v33 x29.1, .sl 3 (.int .i64) v34 x29.2.1, .sl 3 (.int .i64) v35 x29.2.2.1, .sl 50 (.pair (.int .i64) (.pair (.slice (.pair (.int .i64) (.int .i64))) (.slice (.int .i64)))) v36 x29.2.2.2.2, .sl 84 (.pair (.int .i64) (.pair (.slice (.pair (.int .i64) (.int .i64))) (.int .i64))) v18 x14.1, .sl 3 (.int .i64) v19 x14.2.1, .sl 3 (.int .i64) v20 x14.2.2.1, .sl 50 (.pair (.int .i64) (.pair (.slice (.pair (.int .i64) (.int .i64))) (.slice (.int .i64)))) v21 x14.2.2.2.2, .bx b1 26 [vp0_0, vp0_1, vp0_2, .int .i64 p0_3, vp0_4]] G := H27.calledN (Rs := []) H32
    refine WL_alloc (cs := [.slice none 0 0, .slice none 0 0, .slice none 0 0, .int .i64 0, .slice none 0 0]) H37 z32 rfl rfl rfl (fun b38 w39 H40 => ?_)
    have H41 : Holds (([] : List Res).flatMap Res.own) w w39 [.bx b38 32 [.slice none 0 0, .slice none 0 0, .slice none 0 0, .int .i64 0, .slice none 0 0], .sl 84 (.pair (.int .i64) (.pair (.slice (.pair (.int .i64) (.int .i64))) (.int .i64))) v33 x29.1, .sl 3 (.int .i64) v34 x29.2.1, .sl 3 (.int .i64) v35 x29.2.2.1, .sl 50 (.pair (.int .i64) (.pair (.slice (.pair (.int .i64) (.int .i64))) (.slice (.int .i64)))) v36 x29.2.2.2.2, .sl 84 (.pair (.int .i64) (.pair (.slice (.pair (.int .i64) (.int .i64))) (.int .i64))) v18 x14.1, .sl 3 (.int .i64) v19 x14.2.1, .sl 3 (.int .i64) v20 x14.2.2.1, .sl 50 (.pair (.int .i64) (.pair (.slice (.pair (.int .i64) (.int .i64))) (.slice (.int .i64)))) v21 x14.2.2.2.2, .bx b1 26 [vp0_0, vp0_1, vp0_2, .int .i64 p0_3, vp0_4]] G := H40
    refine WL_store_bxA (cs' := [v33, v34, v35, .int .i64 x29.2.2.2.1, v36]) H41 rfl il32 rfl (allOne (H41.ctx.sliceOne (Has.c (Has.hd))) (allOne (H41.ctx.sliceOne (Has.c (Has.c (Has.hd)))) (allOne (H41.ctx.sliceOne (Has.c (Has.c (Has.c (Has.hd))))) (allOne rfl (allOne (H41.ctx.sliceOne (Has.c (Has.c (Has.c (Has.c (Has.hd)))))) rfl))))) rfl rfl rfl (fun w42 H43 => ?_)
    have H44 : Holds (([] : List Res).flatMap Res.own) w w42 [.bx b38 32 [v33, v34, v35, .int .i64 x29.2.2.2.1, v36], .sl 84 (.pair (.int .i64) (.pair (.slice (.pair (.int .i64) (.int .i64))) (.int .i64))) v33 x29.1, .sl 3 (.int .i64) v34 x29.2.1, .sl 3 (.int .i64) v35 x29.2.2.1, .sl 50 (.pair (.int .i64) (.pair (.slice (.pair (.int .i64) (.int .i64))) (.slice (.int .i64)))) v36 x29.2.2.2.2, .sl 84 (.pair (.int .i64) (.pair (.slice (.pair (.int .i64) (.int .i64))) (.int .i64))) v18 x14.1, .sl 3 (.int .i64) v19 x14.2.1, .sl 3 (.int .i64) v20 x14.2.2.1, .sl 50 (.pair (.int .i64) (.pair (.slice (.pair (.int .i64) (.int .i64))) (.slice (.int .i64)))) v21 x14.2.2.2.2, .bx b1 26 [vp0_0, vp0_1, vp0_2, .int .i64 p0_3, vp0_4]] G := H43
    refine WL_nil_seq ?_
    refine WP_seq ?_
    refine WP_still ?_
    have hB45 : Bx w42 b38 32 [v33, v34, v35, .int .i64 x29.2.2.2.1, v36] := Holds.bx (H44.pull 0)
    refine XL_load_bxA (cs := [v33, v34, v35, .int .i64 x29.2.2.2.1, v36]) us32 uo32 il32 hB45 rfl rfl rfl ?_
    change XL _ _ _ _ _ ((17, .agg #[v33, v34, v35, .int .i64 x29.2.2.2.1, v36]) :: _) _
    obtain ⟨x46, hx47, h⟩ := bind_some h
    refine QL_call rfl rfl c15 (fun w' hb => (w_impl_HouseWorth w' ([.bx b38 32 [v33, v34, v35, .int .i64 x29.2.2.2.1, v36], .sl 84 (.pair (.int .i64) (.pair (.slice (.pair (.int .i64) (.int .i64))) (.int .i64))) v33 x29.1, .sl 3 (.int .i64) v34 x29.2.1, .sl 3 (.int .i64) v35 x29.2.2.1, .sl 50 (.pair (.int .i64) (.pair (.slice (.pair (.int .i64) (.int .i64))) (.slice (.int .i64)))) v36 x29.2.2.2.2, .sl 84 (.pair (.int .i64) (.pair (.slice (.pair (.int .i64) (.int .i64))) (.int .i64))) v18 x14.1, .sl 3 (.int .i64) v19 x14.2.1, .sl 3 (.int .i64) v20 x14.2.2.1, .sl 50 (.pair (.int .i64) (.pair (.slice (.pair (.int .i64) (.int .i64))) (.slice (.int .i64)))) v21 x14.2.2.2.2, .bx b1 26 [vp0_0, vp0_1, vp0_2, .int .i64 p0_3, vp0_4]] ++ G) v33 x29.1 (Has.c (Has.hd)) v34 x29.2.1 (Has.c (Has.c (Has.hd))) v35 x29.2.2.1 (Has.c (Has.c (Has.c (Has.hd)))) x29.2.2.2.1 v36 x29.2.2.2.2 (Has.c (Has.c (Has.c (Has.c (Has.hd))))) x46 hx47 (H44.grow hb).ctx).mono fun e w'' hK => ⟨hK.1, hK.2.bel⟩) (by rfl) ?_
    refine XL_q rfl (qt_assign rfl) rfl rfl ?_
    refine QL_nil fun a ha w48 hb49 => ?_
    have H50 : Holds (([] : List Res).flatMap Res.own) w w48 [.bx b38 32 [v33, v34, v35, .int .i64 x29.2.2.2.1, v36], .sl 84 (.pair (.int .i64) (.pair (.slice (.pair (.int .i64) (.int .i64))) (.int .i64))) v33 x29.1, .sl 3 (.int .i64) v34 x29.2.1, .sl 3 (.int .i64) v35 x29.2.2.1, .sl 50 (.pair (.int .i64) (.pair (.slice (.pair (.int .i64) (.int .i64))) (.slice (.int .i64)))) v36 x29.2.2.2.2, .sl 84 (.pair (.int .i64) (.pair (.slice (.pair (.int .i64) (.int .i64))) (.int .i64))) v18 x14.1, .sl 3 (.int .i64) v19 x14.2.1, .sl 3 (.int .i64) v20 x14.2.2.1, .sl 50 (.pair (.int .i64) (.pair (.slice (.pair (.int .i64) (.int .i64))) (.slice (.int .i64)))) v21 x14.2.2.2.2, .bx b1 26 [vp0_0, vp0_1, vp0_2, .int .i64 p0_3, vp0_4]] G := H44.grow hb49
    refine nrm_seq (WP.app ?_ ha)
    refine WP_seq ?_
    refine WP_seq ?_
    refine WP_region ?_
    refine XL_q rfl (qt_move rfl) rfl rfl ?_
    refine XL_q rfl (qt_move rfl) rfl rfl ?_
    refine XL_q rfl (qt_neq rfl rfl) rfl rfl ?_
    refine WL_nil_seq ?_
    refine WP_cond rfl (fun hc51 => ?_) (fun hc51 => ?_)
    · have h := if_t hc51 h
      refine WP_seq ?_
      refine WP_region ?_
      refine XL_q rfl (qt_assign rfl) rfl rfl ?_
      refine WL_nil_seq ?_
      refine WP_ret fun a ha => ?_
      obtain rfl := Option.some.inj h
      have H52 : Holds (([] : List Res).flatMap Res.own) w w48 [] G := ((((((((((H50.cut 0).cut 0).cut 0).cut 0).cut 0).cut 0).cut 0).cut 0).cut 0).cut 0)
      exact ret_seq (ret1 rfl ha rfl ⟨rfl, H52⟩)
    · have h := if_f hc51 h
      refine WP_skip_seq ?_
      refine WP_seq ?_
      refine WP_seq ?_
      obtain ⟨x55, hx56, h⟩ := bind_some h
      obtain ⟨x64, hx65, h⟩ := bind_some h
      refine WP_join (M := fun a w2 => (Fr a 27 [(26, .bool (!x64))] ∧ Holds (([] : List Res).flatMap Res.own) w w2 [] G)) ?_ ?_
      · refine WP_orders (by kernel_rfl) (fun w253 hb254 => ?_)
        have H255 : Holds (([] : List Res).flatMap Res.own) w w253 [.bx b38 32 [v33, v34, v35, .int .i64 x29.2.2.2.1, v36], .sl 84 (.pair (.int .i64) (.pair (.slice (.pair (.int .i64) (.int .i64))) (.int .i64))) v33 x29.1, .sl 3 (.int .i64) v34 x29.2.1, .sl 3 (.int .i64) v35 x29.2.2.1, .sl 50 (.pair (.int .i64) (.pair (.slice (.pair (.int .i64) (.int .i64))) (.slice (.int .i64)))) v36 x29.2.2.2.2, .sl 84 (.pair (.int .i64) (.pair (.slice (.pair (.int .i64) (.int .i64))) (.int .i64))) v18 x14.1, .sl 3 (.int .i64) v19 x14.2.1, .sl 3 (.int .i64) v20 x14.2.2.1, .sl 50 (.pair (.int .i64) (.pair (.slice (.pair (.int .i64) (.int .i64))) (.slice (.int .i64)))) v21 x14.2.2.2.2, .bx b1 26 [vp0_0, vp0_1, vp0_2, .int .i64 p0_3, vp0_4]] G := H50.grow hb254
        refine XB_all [0, 1] (by kernel_rfl) (by simp) (allc ?_ (allc ?_ alln))
        · refine XB_do rfl ?_
          have hB256 : Bx w253 b38 32 [v33, v34, v35, .int .i64 x29.2.2.2.1, v36] := Holds.bx (H255.pull 0)
          refine XL_load_bxA (cs := [v33, v34, v35, .int .i64 x29.2.2.2.1, v36]) us32 uo32 il32 hB256 rfl rfl rfl ?_
          change XL _ _ _ _ _ ((22, .agg #[v33, v34, v35, .int .i64 x29.2.2.2.1, v36]) :: _) _
          refine WL_nil fun a ha => ⟨rfl, (?_ : XB _ _ _ _ _ _ _ _) a ha⟩
          refine XB_all [1] (by kernel_rfl) (by simp) (allc ?_ alln)
          · refine XB_do rfl ?_
            have hB257 : Bx w253 b1 26 [vp0_0, vp0_1, vp0_2, .int .i64 p0_3, vp0_4] := Holds.bx (H255.pull 9)
            refine XL_load_bxA (cs := [vp0_0, vp0_1, vp0_2, .int .i64 p0_3, vp0_4]) us26 uo26 il26 hB257 rfl rfl rfl ?_
            change XL _ _ _ _ _ ((23, .agg #[vp0_0, vp0_1, vp0_2, .int .i64 p0_3, vp0_4]) :: _) _
            refine WL_nil fun a ha => ⟨rfl, (?_ : XB _ _ _ _ _ _ _ _) a ha⟩
            refine XB_all [2] (by kernel_rfl) (by simp) (allc ?_ alln)
            · refine XB_do rfl ?_
              refine WL_call rfl rfl c9 (w_laws_toHouse w253 ([.bx b38 32 [v33, v34, v35, .int .i64 x29.2.2.2.1, v36], .sl 84 (.pair (.int .i64) (.pair (.slice (.pair (.int .i64) (.int .i64))) (.int .i64))) v33 x29.1, .sl 3 (.int .i64) v34 x29.2.1, .sl 3 (.int .i64) v35 x29.2.2.1, .sl 50 (.pair (.int .i64) (.pair (.slice (.pair (.int .i64) (.int .i64))) (.slice (.int .i64)))) v36 x29.2.2.2.2, .sl 84 (.pair (.int .i64) (.pair (.slice (.pair (.int .i64) (.int .i64))) (.int .i64))) v18 x14.1, .sl 3 (.int .i64) v19 x14.2.1, .sl 3 (.int .i64) v20 x14.2.2.1, .sl 50 (.pair (.int .i64) (.pair (.slice (.pair (.int .i64) (.int .i64))) (.slice (.int .i64)))) v21 x14.2.2.2.2, .bx b1 26 [vp0_0, vp0_1, vp0_2, .int .i64 p0_3, vp0_4]] ++ G) vp0_0 p0_0 (hp0_0.c.c.c.c.c.c.c.c.c.c) vp0_1 p0_1 (hp0_1.c.c.c.c.c.c.c.c.c.c) vp0_2 p0_2 (hp0_2.c.c.c.c.c.c.c.c.c.c) p0_3 vp0_4 p0_4 (hp0_4.c.c.c.c.c.c.c.c.c.c) x55 hx56 H255.ctx) (by rfl) ?_
              rintro _ w258 ⟨v260, v261, v262, v263, rfl, H259⟩; refine ⟨_, rfl, ?_⟩
              have H264 : Holds (([] : List Res).flatMap Res.own) w w258 [.sl 84 (.pair (.int .i64) (.pair (.slice (.pair (.int .i64) (.int .i64))) (.int .i64))) v260 x55.1, .sl 3 (.int .i64) v261 x55.2.1, .sl 3 (.int .i64) v262 x55.2.2.1, .sl 50 (.pair (.int .i64) (.pair (.slice (.pair (.int .i64) (.int .i64))) (.slice (.int .i64)))) v263 x55.2.2.2.2, .bx b38 32 [v33, v34, v35, .int .i64 x29.2.2.2.1, v36], .sl 84 (.pair (.int .i64) (.pair (.slice (.pair (.int .i64) (.int .i64))) (.int .i64))) v33 x29.1, .sl 3 (.int .i64) v34 x29.2.1, .sl 3 (.int .i64) v35 x29.2.2.1, .sl 50 (.pair (.int .i64) (.pair (.slice (.pair (.int .i64) (.int .i64))) (.slice (.int .i64)))) v36 x29.2.2.2.2, .sl 84 (.pair (.int .i64) (.pair (.slice (.pair (.int .i64) (.int .i64))) (.int .i64))) v18 x14.1, .sl 3 (.int .i64) v19 x14.2.1, .sl 3 (.int .i64) v20 x14.2.2.1, .sl 50 (.pair (.int .i64) (.pair (.slice (.pair (.int .i64) (.int .i64))) (.slice (.int .i64)))) v21 x14.2.2.2.2, .bx b1 26 [vp0_0, vp0_1, vp0_2, .int .i64 p0_3, vp0_4]] G := H255.calledN (Rs := []) H259
              refine WL_nil fun a ha => ⟨rfl, (?_ : XB _ _ _ _ _ _ _ _) a ha⟩
              refine XB_all [3] (by kernel_rfl) (by simp) (allc ?_ alln)
              · refine XB_do rfl ?_
                refine WL_call rfl rfl c11 (w_laws_eqHouse w258 ([.sl 84 (.pair (.int .i64) (.pair (.slice (.pair (.int .i64) (.int .i64))) (.int .i64))) v260 x55.1, .sl 3 (.int .i64) v261 x55.2.1, .sl 3 (.int .i64) v262 x55.2.2.1, .sl 50 (.pair (.int .i64) (.pair (.slice (.pair (.int .i64) (.int .i64))) (.slice (.int .i64)))) v263 x55.2.2.2.2, .bx b38 32 [v33, v34, v35, .int .i64 x29.2.2.2.1, v36], .sl 84 (.pair (.int .i64) (.pair (.slice (.pair (.int .i64) (.int .i64))) (.int .i64))) v33 x29.1, .sl 3 (.int .i64) v34 x29.2.1, .sl 3 (.int .i64) v35 x29.2.2.1, .sl 50 (.pair (.int .i64) (.pair (.slice (.pair (.int .i64) (.int .i64))) (.slice (.int .i64)))) v36 x29.2.2.2.2, .sl 84 (.pair (.int .i64) (.pair (.slice (.pair (.int .i64) (.int .i64))) (.int .i64))) v18 x14.1, .sl 3 (.int .i64) v19 x14.2.1, .sl 3 (.int .i64) v20 x14.2.2.1, .sl 50 (.pair (.int .i64) (.pair (.slice (.pair (.int .i64) (.int .i64))) (.slice (.int .i64)))) v21 x14.2.2.2.2, .bx b1 26 [vp0_0, vp0_1, vp0_2, .int .i64 p0_3, vp0_4]] ++ G) v33 x29.1 (Has.c (Has.c (Has.c (Has.c (Has.c (Has.hd)))))) v34 x29.2.1 (Has.c (Has.c (Has.c (Has.c (Has.c (Has.c (Has.hd))))))) v35 x29.2.2.1 (Has.c (Has.c (Has.c (Has.c (Has.c (Has.c (Has.c (Has.hd)))))))) x29.2.2.2.1 v36 x29.2.2.2.2 (Has.c (Has.c (Has.c (Has.c (Has.c (Has.c (Has.c (Has.c (Has.hd))))))))) v260 x55.1 (Has.hd) v261 x55.2.1 (Has.c (Has.hd)) v262 x55.2.2.1 (Has.c (Has.c (Has.hd))) x55.2.2.2.1 v263 x55.2.2.2.2 (Has.c (Has.c (Has.c (Has.hd)))) x64 hx65 H264.ctx) (by rfl) ?_
                rintro _ w265 ⟨rfl, H266⟩; refine ⟨_, rfl, ?_⟩
                have H267 : Holds (([] : List Res).flatMap Res.own) w w265 [.sl 84 (.pair (.int .i64) (.pair (.slice (.pair (.int .i64) (.int .i64))) (.int .i64))) v260 x55.1, .sl 3 (.int .i64) v261 x55.2.1, .sl 3 (.int .i64) v262 x55.2.2.1, .sl 50 (.pair (.int .i64) (.pair (.slice (.pair (.int .i64) (.int .i64))) (.slice (.int .i64)))) v263 x55.2.2.2.2, .bx b38 32 [v33, v34, v35, .int .i64 x29.2.2.2.1, v36], .sl 84 (.pair (.int .i64) (.pair (.slice (.pair (.int .i64) (.int .i64))) (.int .i64))) v33 x29.1, .sl 3 (.int .i64) v34 x29.2.1, .sl 3 (.int .i64) v35 x29.2.2.1, .sl 50 (.pair (.int .i64) (.pair (.slice (.pair (.int .i64) (.int .i64))) (.slice (.int .i64)))) v36 x29.2.2.2.2, .sl 84 (.pair (.int .i64) (.pair (.slice (.pair (.int .i64) (.int .i64))) (.int .i64))) v18 x14.1, .sl 3 (.int .i64) v19 x14.2.1, .sl 3 (.int .i64) v20 x14.2.2.1, .sl 50 (.pair (.int .i64) (.pair (.slice (.pair (.int .i64) (.int .i64))) (.slice (.int .i64)))) v21 x14.2.2.2.2, .bx b1 26 [vp0_0, vp0_1, vp0_2, .int .i64 p0_3, vp0_4]] G := H264.calledN (Rs := []) H266
                refine WL_nil fun a ha => ⟨rfl, (?_ : XB _ _ _ _ _ _ _ _) a ha⟩
                refine XB_take (i := 4) rfl (by kernel_rfl) (by kernel_rfl) (by kernel_rfl) rfl (fun _ => qt_not rfl) rfl rfl ?_
                refine XB_done (by kernel_rfl) (fun a ha => ?_)
                have H268 : Holds (([] : List Res).flatMap Res.own) w w265 [] G := ((((((((((((((H267.cut 0).cut 0).cut 0).cut 0).cut 0).cut 0).cut 0).cut 0).cut 0).cut 0).cut 0).cut 0).cut 0).cut 0)
                exact ⟨ha.sub ⟨rfl, trivial⟩, H268⟩
        · refine XB_do rfl ?_
          have hB269 : Bx w253 b1 26 [vp0_0, vp0_1, vp0_2, .int .i64 p0_3, vp0_4] := Holds.bx (H255.pull 9)
          refine XL_load_bxA (cs := [vp0_0, vp0_1, vp0_2, .int .i64 p0_3, vp0_4]) us26 uo26 il26 hB269 rfl rfl rfl ?_
          change XL _ _ _ _ _ ((23, .agg #[vp0_0, vp0_1, vp0_2, .int .i64 p0_3, vp0_4]) :: _) _
          refine WL_nil fun a ha => ⟨rfl, (?_ : XB _ _ _ _ _ _ _ _) a ha⟩
          refine XB_all [0, 2] (by kernel_rfl) (by simp) (allc ?_ (allc ?_ alln))
          · refine XB_do rfl ?_
            have hB270 : Bx w253 b38 32 [v33, v34, v35, .int .i64 x29.2.2.2.1, v36] := Holds.bx (H255.pull 0)
            refine XL_load_bxA (cs := [v33, v34, v35, .int .i64 x29.2.2.2.1, v36]) us32 uo32 il32 hB270 rfl rfl rfl ?_
            change XL _ _ _ _ _ ((22, .agg #[v33, v34, v35, .int .i64 x29.2.2.2.1, v36]) :: _) _
            refine WL_nil fun a ha => ⟨rfl, (?_ : XB _ _ _ _ _ _ _ _) a ha⟩
            refine XB_all [2] (by kernel_rfl) (by simp) (allc ?_ alln)
            · refine XB_do rfl ?_
              refine WL_call rfl rfl c9 (w_laws_toHouse w253 ([.bx b38 32 [v33, v34, v35, .int .i64 x29.2.2.2.1, v36], .sl 84 (.pair (.int .i64) (.pair (.slice (.pair (.int .i64) (.int .i64))) (.int .i64))) v33 x29.1, .sl 3 (.int .i64) v34 x29.2.1, .sl 3 (.int .i64) v35 x29.2.2.1, .sl 50 (.pair (.int .i64) (.pair (.slice (.pair (.int .i64) (.int .i64))) (.slice (.int .i64)))) v36 x29.2.2.2.2, .sl 84 (.pair (.int .i64) (.pair (.slice (.pair (.int .i64) (.int .i64))) (.int .i64))) v18 x14.1, .sl 3 (.int .i64) v19 x14.2.1, .sl 3 (.int .i64) v20 x14.2.2.1, .sl 50 (.pair (.int .i64) (.pair (.slice (.pair (.int .i64) (.int .i64))) (.slice (.int .i64)))) v21 x14.2.2.2.2, .bx b1 26 [vp0_0, vp0_1, vp0_2, .int .i64 p0_3, vp0_4]] ++ G) vp0_0 p0_0 (hp0_0.c.c.c.c.c.c.c.c.c.c) vp0_1 p0_1 (hp0_1.c.c.c.c.c.c.c.c.c.c) vp0_2 p0_2 (hp0_2.c.c.c.c.c.c.c.c.c.c) p0_3 vp0_4 p0_4 (hp0_4.c.c.c.c.c.c.c.c.c.c) x55 hx56 H255.ctx) (by rfl) ?_
              rintro _ w271 ⟨v273, v274, v275, v276, rfl, H272⟩; refine ⟨_, rfl, ?_⟩
              have H277 : Holds (([] : List Res).flatMap Res.own) w w271 [.sl 84 (.pair (.int .i64) (.pair (.slice (.pair (.int .i64) (.int .i64))) (.int .i64))) v273 x55.1, .sl 3 (.int .i64) v274 x55.2.1, .sl 3 (.int .i64) v275 x55.2.2.1, .sl 50 (.pair (.int .i64) (.pair (.slice (.pair (.int .i64) (.int .i64))) (.slice (.int .i64)))) v276 x55.2.2.2.2, .bx b38 32 [v33, v34, v35, .int .i64 x29.2.2.2.1, v36], .sl 84 (.pair (.int .i64) (.pair (.slice (.pair (.int .i64) (.int .i64))) (.int .i64))) v33 x29.1, .sl 3 (.int .i64) v34 x29.2.1, .sl 3 (.int .i64) v35 x29.2.2.1, .sl 50 (.pair (.int .i64) (.pair (.slice (.pair (.int .i64) (.int .i64))) (.slice (.int .i64)))) v36 x29.2.2.2.2, .sl 84 (.pair (.int .i64) (.pair (.slice (.pair (.int .i64) (.int .i64))) (.int .i64))) v18 x14.1, .sl 3 (.int .i64) v19 x14.2.1, .sl 3 (.int .i64) v20 x14.2.2.1, .sl 50 (.pair (.int .i64) (.pair (.slice (.pair (.int .i64) (.int .i64))) (.slice (.int .i64)))) v21 x14.2.2.2.2, .bx b1 26 [vp0_0, vp0_1, vp0_2, .int .i64 p0_3, vp0_4]] G := H255.calledN (Rs := []) H272
              refine WL_nil fun a ha => ⟨rfl, (?_ : XB _ _ _ _ _ _ _ _) a ha⟩
              refine XB_all [3] (by kernel_rfl) (by simp) (allc ?_ alln)
              · refine XB_do rfl ?_
                refine WL_call rfl rfl c11 (w_laws_eqHouse w271 ([.sl 84 (.pair (.int .i64) (.pair (.slice (.pair (.int .i64) (.int .i64))) (.int .i64))) v273 x55.1, .sl 3 (.int .i64) v274 x55.2.1, .sl 3 (.int .i64) v275 x55.2.2.1, .sl 50 (.pair (.int .i64) (.pair (.slice (.pair (.int .i64) (.int .i64))) (.slice (.int .i64)))) v276 x55.2.2.2.2, .bx b38 32 [v33, v34, v35, .int .i64 x29.2.2.2.1, v36], .sl 84 (.pair (.int .i64) (.pair (.slice (.pair (.int .i64) (.int .i64))) (.int .i64))) v33 x29.1, .sl 3 (.int .i64) v34 x29.2.1, .sl 3 (.int .i64) v35 x29.2.2.1, .sl 50 (.pair (.int .i64) (.pair (.slice (.pair (.int .i64) (.int .i64))) (.slice (.int .i64)))) v36 x29.2.2.2.2, .sl 84 (.pair (.int .i64) (.pair (.slice (.pair (.int .i64) (.int .i64))) (.int .i64))) v18 x14.1, .sl 3 (.int .i64) v19 x14.2.1, .sl 3 (.int .i64) v20 x14.2.2.1, .sl 50 (.pair (.int .i64) (.pair (.slice (.pair (.int .i64) (.int .i64))) (.slice (.int .i64)))) v21 x14.2.2.2.2, .bx b1 26 [vp0_0, vp0_1, vp0_2, .int .i64 p0_3, vp0_4]] ++ G) v33 x29.1 (Has.c (Has.c (Has.c (Has.c (Has.c (Has.hd)))))) v34 x29.2.1 (Has.c (Has.c (Has.c (Has.c (Has.c (Has.c (Has.hd))))))) v35 x29.2.2.1 (Has.c (Has.c (Has.c (Has.c (Has.c (Has.c (Has.c (Has.hd)))))))) x29.2.2.2.1 v36 x29.2.2.2.2 (Has.c (Has.c (Has.c (Has.c (Has.c (Has.c (Has.c (Has.c (Has.hd))))))))) v273 x55.1 (Has.hd) v274 x55.2.1 (Has.c (Has.hd)) v275 x55.2.2.1 (Has.c (Has.c (Has.hd))) x55.2.2.2.1 v276 x55.2.2.2.2 (Has.c (Has.c (Has.c (Has.hd)))) x64 hx65 H277.ctx) (by rfl) ?_
                rintro _ w278 ⟨rfl, H279⟩; refine ⟨_, rfl, ?_⟩
                have H280 : Holds (([] : List Res).flatMap Res.own) w w278 [.sl 84 (.pair (.int .i64) (.pair (.slice (.pair (.int .i64) (.int .i64))) (.int .i64))) v273 x55.1, .sl 3 (.int .i64) v274 x55.2.1, .sl 3 (.int .i64) v275 x55.2.2.1, .sl 50 (.pair (.int .i64) (.pair (.slice (.pair (.int .i64) (.int .i64))) (.slice (.int .i64)))) v276 x55.2.2.2.2, .bx b38 32 [v33, v34, v35, .int .i64 x29.2.2.2.1, v36], .sl 84 (.pair (.int .i64) (.pair (.slice (.pair (.int .i64) (.int .i64))) (.int .i64))) v33 x29.1, .sl 3 (.int .i64) v34 x29.2.1, .sl 3 (.int .i64) v35 x29.2.2.1, .sl 50 (.pair (.int .i64) (.pair (.slice (.pair (.int .i64) (.int .i64))) (.slice (.int .i64)))) v36 x29.2.2.2.2, .sl 84 (.pair (.int .i64) (.pair (.slice (.pair (.int .i64) (.int .i64))) (.int .i64))) v18 x14.1, .sl 3 (.int .i64) v19 x14.2.1, .sl 3 (.int .i64) v20 x14.2.2.1, .sl 50 (.pair (.int .i64) (.pair (.slice (.pair (.int .i64) (.int .i64))) (.slice (.int .i64)))) v21 x14.2.2.2.2, .bx b1 26 [vp0_0, vp0_1, vp0_2, .int .i64 p0_3, vp0_4]] G := H277.calledN (Rs := []) H279
                refine WL_nil fun a ha => ⟨rfl, (?_ : XB _ _ _ _ _ _ _ _) a ha⟩
                refine XB_take (i := 4) rfl (by kernel_rfl) (by kernel_rfl) (by kernel_rfl) rfl (fun _ => qt_not rfl) rfl rfl ?_
                refine XB_done (by kernel_rfl) (fun a ha => ?_)
                have H281 : Holds (([] : List Res).flatMap Res.own) w w278 [] G := ((((((((((((((H280.cut 0).cut 0).cut 0).cut 0).cut 0).cut 0).cut 0).cut 0).cut 0).cut 0).cut 0).cut 0).cut 0).cut 0)
                exact ⟨ha.sub ⟨rfl, trivial⟩, H281⟩
          · refine XB_do rfl ?_
            refine WL_call rfl rfl c9 (w_laws_toHouse w253 ([.bx b38 32 [v33, v34, v35, .int .i64 x29.2.2.2.1, v36], .sl 84 (.pair (.int .i64) (.pair (.slice (.pair (.int .i64) (.int .i64))) (.int .i64))) v33 x29.1, .sl 3 (.int .i64) v34 x29.2.1, .sl 3 (.int .i64) v35 x29.2.2.1, .sl 50 (.pair (.int .i64) (.pair (.slice (.pair (.int .i64) (.int .i64))) (.slice (.int .i64)))) v36 x29.2.2.2.2, .sl 84 (.pair (.int .i64) (.pair (.slice (.pair (.int .i64) (.int .i64))) (.int .i64))) v18 x14.1, .sl 3 (.int .i64) v19 x14.2.1, .sl 3 (.int .i64) v20 x14.2.2.1, .sl 50 (.pair (.int .i64) (.pair (.slice (.pair (.int .i64) (.int .i64))) (.slice (.int .i64)))) v21 x14.2.2.2.2, .bx b1 26 [vp0_0, vp0_1, vp0_2, .int .i64 p0_3, vp0_4]] ++ G) vp0_0 p0_0 (hp0_0.c.c.c.c.c.c.c.c.c.c) vp0_1 p0_1 (hp0_1.c.c.c.c.c.c.c.c.c.c) vp0_2 p0_2 (hp0_2.c.c.c.c.c.c.c.c.c.c) p0_3 vp0_4 p0_4 (hp0_4.c.c.c.c.c.c.c.c.c.c) x55 hx56 H255.ctx) (by rfl) ?_
            rintro _ w282 ⟨v284, v285, v286, v287, rfl, H283⟩; refine ⟨_, rfl, ?_⟩
            have H288 : Holds (([] : List Res).flatMap Res.own) w w282 [.sl 84 (.pair (.int .i64) (.pair (.slice (.pair (.int .i64) (.int .i64))) (.int .i64))) v284 x55.1, .sl 3 (.int .i64) v285 x55.2.1, .sl 3 (.int .i64) v286 x55.2.2.1, .sl 50 (.pair (.int .i64) (.pair (.slice (.pair (.int .i64) (.int .i64))) (.slice (.int .i64)))) v287 x55.2.2.2.2, .bx b38 32 [v33, v34, v35, .int .i64 x29.2.2.2.1, v36], .sl 84 (.pair (.int .i64) (.pair (.slice (.pair (.int .i64) (.int .i64))) (.int .i64))) v33 x29.1, .sl 3 (.int .i64) v34 x29.2.1, .sl 3 (.int .i64) v35 x29.2.2.1, .sl 50 (.pair (.int .i64) (.pair (.slice (.pair (.int .i64) (.int .i64))) (.slice (.int .i64)))) v36 x29.2.2.2.2, .sl 84 (.pair (.int .i64) (.pair (.slice (.pair (.int .i64) (.int .i64))) (.int .i64))) v18 x14.1, .sl 3 (.int .i64) v19 x14.2.1, .sl 3 (.int .i64) v20 x14.2.2.1, .sl 50 (.pair (.int .i64) (.pair (.slice (.pair (.int .i64) (.int .i64))) (.slice (.int .i64)))) v21 x14.2.2.2.2, .bx b1 26 [vp0_0, vp0_1, vp0_2, .int .i64 p0_3, vp0_4]] G := H255.calledN (Rs := []) H283
            refine WL_nil fun a ha => ⟨rfl, (?_ : XB _ _ _ _ _ _ _ _) a ha⟩
            refine XB_all [0] (by kernel_rfl) (by simp) (allc ?_ alln)
            · refine XB_do rfl ?_
              have hB289 : Bx w282 b38 32 [v33, v34, v35, .int .i64 x29.2.2.2.1, v36] := Holds.bx (H288.pull 4)
              refine XL_load_bxA (cs := [v33, v34, v35, .int .i64 x29.2.2.2.1, v36]) us32 uo32 il32 hB289 rfl rfl rfl ?_
              change XL _ _ _ _ _ ((22, .agg #[v33, v34, v35, .int .i64 x29.2.2.2.1, v36]) :: _) _
              refine WL_nil fun a ha => ⟨rfl, (?_ : XB _ _ _ _ _ _ _ _) a ha⟩
              refine XB_all [3] (by kernel_rfl) (by simp) (allc ?_ alln)
              · refine XB_do rfl ?_
                refine WL_call rfl rfl c11 (w_laws_eqHouse w282 ([.sl 84 (.pair (.int .i64) (.pair (.slice (.pair (.int .i64) (.int .i64))) (.int .i64))) v284 x55.1, .sl 3 (.int .i64) v285 x55.2.1, .sl 3 (.int .i64) v286 x55.2.2.1, .sl 50 (.pair (.int .i64) (.pair (.slice (.pair (.int .i64) (.int .i64))) (.slice (.int .i64)))) v287 x55.2.2.2.2, .bx b38 32 [v33, v34, v35, .int .i64 x29.2.2.2.1, v36], .sl 84 (.pair (.int .i64) (.pair (.slice (.pair (.int .i64) (.int .i64))) (.int .i64))) v33 x29.1, .sl 3 (.int .i64) v34 x29.2.1, .sl 3 (.int .i64) v35 x29.2.2.1, .sl 50 (.pair (.int .i64) (.pair (.slice (.pair (.int .i64) (.int .i64))) (.slice (.int .i64)))) v36 x29.2.2.2.2, .sl 84 (.pair (.int .i64) (.pair (.slice (.pair (.int .i64) (.int .i64))) (.int .i64))) v18 x14.1, .sl 3 (.int .i64) v19 x14.2.1, .sl 3 (.int .i64) v20 x14.2.2.1, .sl 50 (.pair (.int .i64) (.pair (.slice (.pair (.int .i64) (.int .i64))) (.slice (.int .i64)))) v21 x14.2.2.2.2, .bx b1 26 [vp0_0, vp0_1, vp0_2, .int .i64 p0_3, vp0_4]] ++ G) v33 x29.1 (Has.c (Has.c (Has.c (Has.c (Has.c (Has.hd)))))) v34 x29.2.1 (Has.c (Has.c (Has.c (Has.c (Has.c (Has.c (Has.hd))))))) v35 x29.2.2.1 (Has.c (Has.c (Has.c (Has.c (Has.c (Has.c (Has.c (Has.hd)))))))) x29.2.2.2.1 v36 x29.2.2.2.2 (Has.c (Has.c (Has.c (Has.c (Has.c (Has.c (Has.c (Has.c (Has.hd))))))))) v284 x55.1 (Has.hd) v285 x55.2.1 (Has.c (Has.hd)) v286 x55.2.2.1 (Has.c (Has.c (Has.hd))) x55.2.2.2.1 v287 x55.2.2.2.2 (Has.c (Has.c (Has.c (Has.hd)))) x64 hx65 H288.ctx) (by rfl) ?_
                rintro _ w290 ⟨rfl, H291⟩; refine ⟨_, rfl, ?_⟩
                have H292 : Holds (([] : List Res).flatMap Res.own) w w290 [.sl 84 (.pair (.int .i64) (.pair (.slice (.pair (.int .i64) (.int .i64))) (.int .i64))) v284 x55.1, .sl 3 (.int .i64) v285 x55.2.1, .sl 3 (.int .i64) v286 x55.2.2.1, .sl 50 (.pair (.int .i64) (.pair (.slice (.pair (.int .i64) (.int .i64))) (.slice (.int .i64)))) v287 x55.2.2.2.2, .bx b38 32 [v33, v34, v35, .int .i64 x29.2.2.2.1, v36], .sl 84 (.pair (.int .i64) (.pair (.slice (.pair (.int .i64) (.int .i64))) (.int .i64))) v33 x29.1, .sl 3 (.int .i64) v34 x29.2.1, .sl 3 (.int .i64) v35 x29.2.2.1, .sl 50 (.pair (.int .i64) (.pair (.slice (.pair (.int .i64) (.int .i64))) (.slice (.int .i64)))) v36 x29.2.2.2.2, .sl 84 (.pair (.int .i64) (.pair (.slice (.pair (.int .i64) (.int .i64))) (.int .i64))) v18 x14.1, .sl 3 (.int .i64) v19 x14.2.1, .sl 3 (.int .i64) v20 x14.2.2.1, .sl 50 (.pair (.int .i64) (.pair (.slice (.pair (.int .i64) (.int .i64))) (.slice (.int .i64)))) v21 x14.2.2.2.2, .bx b1 26 [vp0_0, vp0_1, vp0_2, .int .i64 p0_3, vp0_4]] G := H288.calledN (Rs := []) H291
                refine WL_nil fun a ha => ⟨rfl, (?_ : XB _ _ _ _ _ _ _ _) a ha⟩
                refine XB_take (i := 4) rfl (by kernel_rfl) (by kernel_rfl) (by kernel_rfl) rfl (fun _ => qt_not rfl) rfl rfl ?_
                refine XB_done (by kernel_rfl) (fun a ha => ?_)
                have H293 : Holds (([] : List Res).flatMap Res.own) w w290 [] G := ((((((((((((((H292.cut 0).cut 0).cut 0).cut 0).cut 0).cut 0).cut 0).cut 0).cut 0).cut 0).cut 0).cut 0).cut 0).cut 0)
                exact ⟨ha.sub ⟨rfl, trivial⟩, H293⟩
      · intro a w294 hI295
        obtain ⟨ha, H296⟩ := hI295
        refine WP.app ?_ ha
        clear ha
        refine WP_cond rfl (fun hc297 => ?_) (fun hc297 => ?_)
        · have h := if_t hc297 h
          refine WP_seq ?_
          refine WP_region ?_
          refine XL_q rfl (qt_assign rfl) rfl rfl ?_
          refine WL_nil_seq ?_
          refine WP_ret fun a ha => ?_
          obtain rfl := Option.some.inj h
          exact ret_seq (ret1 rfl ha rfl ⟨rfl, H296⟩)
        · have h := if_f hc297 h
          refine WP_skip_seq ?_
          refine WP_seq ?_
          refine WP_region ?_
          refine XL_q rfl (qt_assign rfl) rfl rfl ?_
          refine WL_nil_seq ?_
          refine WP_ret fun a ha => ?_
          obtain rfl := Option.some.inj h
          exact ret1 rfl ha rfl ⟨rfl, H296⟩
theorem w_spec_l7Tickets (w : World) (G : List Res) (vp0_0 : Value) (p0_0 : List (Int × (List (Int × Int)) × Int)) (hp0_0 : Has G (.pair (.int .i64) (.pair (.slice (.pair (.int .i64) (.int .i64))) (.int .i64))) vp0_0 p0_0) (vp0_1 : Value) (p0_1 : List Int) (hp0_1 : Has G (.int .i64) vp0_1 p0_1) (vp0_2 : Value) (p0_2 : List Int) (hp0_2 : Has G (.int .i64) vp0_2 p0_2) (p0_3 : Int) (vp0_4 : Value) (p0_4 : List (Int × (List (Int × Int)) × (List Int))) (hp0_4 : Has G (.pair (.int .i64) (.pair (.slice (.pair (.int .i64) (.int .i64))) (.slice (.int .i64)))) vp0_4 p0_4) (r : (List (List (Int × Int)))) (h : spec_l7TicketsS p0_0 p0_1 p0_2 p0_3 p0_4 = some r) (H : Ctx w G) : Calls Try.prog 41 #[.agg #[vp0_0, vp0_1, vp0_2, .int .i64 p0_3, vp0_4]] w fun e w' => ∃ (v1 : Value), e = .returned (v1) ∧ Holds (([] : List Res).flatMap Res.own) w w' [.sl 48 (.slice (.pair (.int .i64) (.int .i64))) v1 r] G := by
  have H : Holds (([] : List Res).flatMap Res.own) w w [] G := Holds.startN H
  refine calls_enter (args := [.agg #[vp0_0, vp0_1, vp0_2, .int .i64 p0_3, vp0_4]]) (n := 23) Try.func41 rfl rfl rfl ?_
  unfold spec_l7TicketsS at h
  refine WP_seq ?_
  refine WP_region ?_
  refine WL_box (cs := [vp0_0, vp0_1, vp0_2, .int .i64 p0_3, vp0_4]) H rfl rfl rfl rfl (fun b1 w2 H3 => ?_)
  have H4 : Holds (([] : List Res).flatMap Res.own) w w2 [.bx b1 32 [vp0_0, vp0_1, vp0_2, .int .i64 p0_3, vp0_4]] G := H3
  refine XL_q rfl (qt_assign rfl) rfl rfl ?_
  refine WL_nil_seq ?_
  refine WP_seq ?_
  refine WP_region ?_
  refine WL_buildH (t := (.slice (.pair (.int .i64) (.int .i64)))) (args := []) (xs := ([] : List (List (Int × Int)))) H4 (BltL.nil) u65 j48 rfl rfl rfl rfl rfl rfl (fun v5 w6 H7 => ?_)
  have H8 : Holds (([] : List Res).flatMap Res.own) w w6 [.sl 48 (.slice (.pair (.int .i64) (.int .i64))) v5 ([]), .bx b1 32 [vp0_0, vp0_1, vp0_2, .int .i64 p0_3, vp0_4]] G := H7
  refine XL_q rfl (qt_assign rfl) rfl rfl ?_
  refine WL_nil_seq ?_
  refine WP_seq ?_
  refine WP_seq ?_
  refine WP_region ?_
  refine XL_q rfl (qt_assign rfl) rfl rfl ?_
  refine WL_nil_seq ?_
  refine WP_block ?_
  obtain ⟨o11, ho12, h⟩ := bind_some h
  have H15 : Holds (([] : List Res).flatMap Res.own) w w6 [.bx b1 32 [vp0_0, vp0_1, vp0_2, .int .i64 p0_3, vp0_4], .sl 48 (.slice (.pair (.int .i64) (.int .i64))) v5 ([])] G := (H8.pull 1)
  refine fun a13 ha14 => wp_loop_fix (I := fun s a w2 => match s with | (s9, s10) => ∃ vs9, Fr a 23 [(1, .pointer (some ⟨b1, 0, none⟩)), (3, vs9), (4, .int .i64 s10)] ∧ Holds (([] : List Res).flatMap Res.own) w w2 [.bx b1 32 [vp0_0, vp0_1, vp0_2, .int .i64 p0_3, vp0_4], .sl 48 (.slice (.pair (.int .i64) (.int .i64))) vs9 s9] G) (O := fun o e a w2 => match o with | q0 => e = .exit 0 ∧ ∃ vq0, Fr a 23 [(3, vq0)] ∧ Holds (([] : List Res).flatMap Res.own) w w2 [.sl 48 (.slice (.pair (.int .i64) (.int .i64))) vq0 q0] G) ho12 ?_ ?_ ?_
  · exact ⟨v5, ha14.sub ⟨rfl, rfl, rfl, trivial⟩, H15⟩
  · clear ha14
    intro s o18 a w16 hs17 hI19
    obtain ⟨s9, s10⟩ := s
    obtain ⟨vs9, ha, H20⟩ := hI19
    refine WP.app ?_ ha
    clear ha
    refine WP_seq ?_
    refine WP_seq ?_
    refine WP_region ?_
    refine XL_q rfl (qt_move rfl) rfl rfl ?_
    refine XL_q rfl (qt_fieldAddr uf32 fi32_4 nz30 rfl) rfl rfl ?_
    have hB21 : Bx w16 b1 32 [vp0_0, vp0_1, vp0_2, .int .i64 p0_3, vp0_4] := Holds.bx (H20.pull 0)
    refine XL_load_bx u30 rfl hB21 rfl rfl rfl rfl ?_
    refine XL_lenH H20.ctx (t := (.pair (.int .i64) (.pair (.slice (.pair (.int .i64) (.int .i64))) (.slice (.int .i64))))) (hp0_4.c.c) u30 rfl rfl rfl ?_
    refine XL_q rfl (qt_lss rfl rfl) rfl rfl ?_
    refine WL_nil_seq ?_
    refine WP_cond rfl (fun hc22 => ?_) (fun hc22 => ?_)
    · have hs17 := if_t hc22 hs17
      refine WP_skip_seq ?_
      refine WP_seq ?_
      refine WP_block ?_
      refine WP_region ?_
      refine XL_q rfl (qt_move rfl) rfl rfl ?_
      refine XL_q rfl (qt_fieldAddr uf32 fi32_4 nz30 rfl) rfl rfl ?_
      have hB23 : Bx w16 b1 32 [vp0_0, vp0_1, vp0_2, .int .i64 p0_3, vp0_4] := Holds.bx (H20.pull 0)
      refine XL_load_bx u30 rfl hB23 rfl rfl rfl rfl ?_
      refine XL_q rfl (qt_move rfl) rfl rfl ?_
      obtain ⟨x24, hx25, hs17⟩ := bind_some hs17
      refine XL_indexH H20.ctx (hp0_4.c.c) hx25 u30 i50 rfl rfl rfl rfl (fun b26 off27 cap28 hv29 => ?_)
      refine XL_q rfl (qt_fieldAddr uf50 fi50_1 nz48 rfl) rfl rfl ?_
      obtain ⟨F30, hat31, hdup32⟩ := H20.at (hp0_4.c.c) hx25 hv29
      obtain ⟨F33, hat34, hin35⟩ := AtP.snd hat31
      obtain ⟨F36, hat37, hin38⟩ := AtP.fst hat34
      refine XL_load (t := (.slice (.pair (.int .i64) (.int .i64)))) u48 rfl rfl hat37 rfl rfl rfl (fun v39 hr40 => ?_)
      have H41 : Holds (([] : List Res).flatMap Res.own) w w16 [.ro (.pair (.int .i64) (.int .i64)) v39 x24.2.1, .bx b1 32 [vp0_0, vp0_1, vp0_2, .int .i64 p0_3, vp0_4], .sl 48 (.slice (.pair (.int .i64) (.int .i64))) vs9 s9] G := hdup32 _ _ _ _ hr40 (fun k h => (fun k h => (fun _ h => h) k (hin35 k h)) k (hin38 k h))
      refine WL_buildH (t := (.slice (.pair (.int .i64) (.int .i64)))) (args := [.tmp 19]) (xs := ([x24.2.1] : List (List (Int × Int)))) H41 (BltL.cons (Blt.slice (HasRo.hd)) (H41.ctx.sliceList (HasRo.has (HasRo.hd))) (BltL.nil)) u65 j48 rfl rfl rfl rfl rfl rfl (fun v42 w43 H44 => ?_)
      have H45 : Holds (([] : List Res).flatMap Res.own) w w43 [.sl 48 (.slice (.pair (.int .i64) (.int .i64))) v42 ([x24.2.1]), .ro (.pair (.int .i64) (.int .i64)) v39 x24.2.1, .bx b1 32 [vp0_0, vp0_1, vp0_2, .int .i64 p0_3, vp0_4], .sl 48 (.slice (.pair (.int .i64) (.int .i64))) vs9 s9] G := H44
      have H46 : Holds (([] : List Res).flatMap Res.own) w w43 [.sl 48 (.slice (.pair (.int .i64) (.int .i64))) vs9 s9, .sl 48 (.slice (.pair (.int .i64) (.int .i64))) v42 ([x24.2.1]), .ro (.pair (.int .i64) (.int .i64)) v39 x24.2.1, .bx b1 32 [vp0_0, vp0_1, vp0_2, .int .i64 p0_3, vp0_4]] G := H45.pull 3
      obtain ⟨x47, hx48, hs17⟩ := bind_some hs17
      refine WL_appendH H46 (Has.c (Has.hd)) hx48 u65 j48 rfl rfl rfl rfl rfl rfl (fun v49 w50 H51 => ?_)
      have H52 : Holds (([] : List Res).flatMap Res.own) w w50 [.sl 48 (.slice (.pair (.int .i64) (.int .i64))) v49 x47, .sl 48 (.slice (.pair (.int .i64) (.int .i64))) v42 ([x24.2.1]), .ro (.pair (.int .i64) (.int .i64)) v39 x24.2.1, .bx b1 32 [vp0_0, vp0_1, vp0_2, .int .i64 p0_3, vp0_4]] G := H51
      refine XL_q rfl (qt_assign rfl) rfl rfl ?_
      refine WL_nil fun a ha => ?_
      refine nrm_block (nrm_seq (WP.app ?_ ha))
      refine WP_region ?_
      refine XL_q rfl (qt_move rfl) rfl rfl ?_
      refine XL_q rfl (qt_add rfl rfl) rfl rfl ?_
      refine XL_q rfl (qt_assign rfl) rfl rfl ?_
      refine WL_nil fun a ha => ?_
      obtain rfl := Option.some.inj hs17
      have H53 : Holds (([] : List Res).flatMap Res.own) w w50 [.bx b1 32 [vp0_0, vp0_1, vp0_2, .int .i64 p0_3, vp0_4], .sl 48 (.slice (.pair (.int .i64) (.int .i64))) v49 x47] G := (((H52.cut 1).cut 1).pull 1)
      exact ⟨rfl, v49, ha.sub ⟨rfl, rfl, rfl, trivial⟩, H53⟩
    · have hs17 := if_f hc22 hs17
      refine WP_exit fun a ha => ?_
      obtain rfl := Option.some.inj hs17
      have H54 : Holds (([] : List Res).flatMap Res.own) w w16 [.sl 48 (.slice (.pair (.int .i64) (.int .i64))) vs9 s9] G := (H20.cut 0)
      exact exit_seq (⟨exit_ne, rfl, vs9, ha.sub ⟨rfl, trivial⟩, H54⟩)
  · intro e a13 w55 hO56
    obtain ⟨p57, rfl⟩ : ∃ z, z = o11 := ⟨o11, rfl⟩
    obtain ⟨rfl, hO59⟩ := hO56
    obtain ⟨vp57, ha, H58⟩ := hO59
    refine exit_block_eq (nrm_seq (WP.app ?_ ha))
    refine WP_seq ?_
    refine WP_region ?_
    refine XL_q rfl (qt_move rfl) rfl rfl ?_
    refine XL_q rfl (qt_assign rfl) rfl rfl ?_
    refine WL_nil_seq ?_
    refine WP_ret fun a ha => ?_
    obtain rfl := Option.some.inj h
    exact ret1 rfl ha rfl ⟨vp57, rfl, H58⟩
theorem w_spec_KitchenValid (w : World) (G : List Res) (vp0 : Value) (p0 : List (List (Int × Int))) (hp0 : Has G (.slice (.pair (.int .i64) (.int .i64))) vp0 p0) (r : Bool) (h : spec_KitchenValidS p0 = some r) (H : Ctx w G) : Calls Try.prog 62 #[vp0] w fun e w' => e = .returned (.bool r) ∧ Holds (([] : List Res).flatMap Res.own) w w' [] G := by
  have H : Holds (([] : List Res).flatMap Res.own) w w [] G := Holds.startN H
  refine calls_enter (args := [vp0]) (n := 19) Try.func62 rfl rfl rfl ?_
  unfold spec_KitchenValidS at h
  refine WP_seq ?_
  refine WP_region ?_
  refine XL_q rfl (qt_assign rfl) rfl rfl ?_
  refine WL_nil_seq ?_
  refine WP_seq ?_
  refine WP_seq ?_
  refine WP_region ?_
  refine XL_q rfl (qt_assign rfl) rfl rfl ?_
  refine WL_nil_seq ?_
  refine WP_block ?_
  obtain ⟨o2, ho3, h⟩ := bind_some h
  refine fun a4 ha5 => wp_loop_fix (I := fun s a w2 => match s with | s1 => (Fr a 19 [(0, vp0), (3, .int .i64 s1)] ∧ Holds (([] : List Res).flatMap Res.own) w w2 [] G)) (O := fun o e a w2 => match o with | .inl _ => e = .exit 0 ∧ (Fr a 19 [(0, vp0)] ∧ Holds (([] : List Res).flatMap Res.own) w w2 [] G) | .inr q0 => e = .ret ∧ (Fr a 19 [(2, .bool q0)] ∧ Holds (([] : List Res).flatMap Res.own) w w2 [] G)) ho3 ?_ ?_ ?_
  · exact ⟨ha5.sub ⟨rfl, rfl, trivial⟩, H⟩
  · clear ha5
    intro s o8 a w6 hs7 hI9
    obtain ⟨s1, rfl⟩ : ∃ z, z = s := ⟨s, rfl⟩
    obtain ⟨ha, H10⟩ := hI9
    refine WP.app ?_ ha
    clear ha
    refine WP_seq ?_
    refine WP_seq ?_
    refine WP_region ?_
    refine XL_q rfl (qt_move rfl) rfl rfl ?_
    refine XL_q rfl (qt_move rfl) rfl rfl ?_
    refine XL_lenH H10.ctx (t := (.slice (.pair (.int .i64) (.int .i64)))) (hp0) u65 rfl rfl rfl ?_
    refine XL_q rfl (qt_lss rfl rfl) rfl rfl ?_
    refine WL_nil_seq ?_
    refine WP_cond rfl (fun hc11 => ?_) (fun hc11 => ?_)
    · have hs7 := if_t hc11 hs7
      refine WP_skip_seq ?_
      refine WP_seq ?_
      refine WP_block ?_
      refine WP_seq ?_
      refine WP_still ?_
      refine XL_q rfl (qt_move rfl) rfl rfl ?_
      refine XL_q rfl (qt_move rfl) rfl rfl ?_
      obtain ⟨x12, hx13, hs7⟩ := bind_some hs7
      refine XL_indexH H10.ctx (hp0) hx13 u65 i48 rfl rfl rfl rfl (fun b14 off15 cap16 hv17 => ?_)
      obtain ⟨F18, hat19, hdup20⟩ := H10.at (hp0) hx13 hv17
      refine XL_load (t := (.slice (.pair (.int .i64) (.int .i64)))) u48 rfl rfl hat19 rfl rfl rfl (fun v21 hr22 => ?_)
      have H23 : Holds (([] : List Res).flatMap Res.own) w w6 [.ro (.pair (.int .i64) (.int .i64)) v21 x12] G := hdup20 _ _ _ _ hr22 (fun _ h => h)
      obtain ⟨x24, hx25, hs7⟩ := bind_some hs7
      refine QL_call rfl rfl c28 (fun w' hb => (w_spec_TicketValid w' ([.ro (.pair (.int .i64) (.int .i64)) v21 x12] ++ G) v21 x12 (HasRo.has (HasRo.hd)) x24 hx25 (H23.grow hb).ctx).mono fun e w'' hK => ⟨hK.1, hK.2.bel⟩) (by rfl) ?_
      refine XL_q rfl (qt_not rfl) rfl rfl ?_
      refine QL_nil fun a ha w26 hb27 => ?_
      have H28 : Holds (([] : List Res).flatMap Res.own) w w26 [.ro (.pair (.int .i64) (.int .i64)) v21 x12] G := H23.grow hb27
      refine nrm_seq (WP.app ?_ ha)
      refine WP_cond rfl (fun hc29 => ?_) (fun hc29 => ?_)
      · have hs7 := if_t hc29 hs7
        refine WP_seq ?_
        refine WP_region ?_
        refine XL_q rfl (qt_assign rfl) rfl rfl ?_
        refine WL_nil_seq ?_
        refine WP_ret fun a ha => ?_
        obtain rfl := Option.some.inj hs7
        have H30 : Holds (([] : List Res).flatMap Res.own) w w26 [] G := (H28.cut 0)
        exact ret_block (ret_seq (⟨ret_ne, rfl, ha.sub ⟨rfl, trivial⟩, H30⟩))
      · have hs7 := if_f hc29 hs7
        refine WP_skip fun a ha => ?_
        refine nrm_block (nrm_seq (WP.app ?_ ha))
        refine WP_region ?_
        refine XL_q rfl (qt_move rfl) rfl rfl ?_
        refine XL_q rfl (qt_add rfl rfl) rfl rfl ?_
        refine XL_q rfl (qt_assign rfl) rfl rfl ?_
        refine WL_nil fun a ha => ?_
        obtain rfl := Option.some.inj hs7
        have H31 : Holds (([] : List Res).flatMap Res.own) w w26 [] G := (H28.cut 0)
        exact ⟨rfl, ha.sub ⟨rfl, rfl, trivial⟩, H31⟩
    · have hs7 := if_f hc11 hs7
      refine WP_exit fun a ha => ?_
      obtain rfl := Option.some.inj hs7
      exact exit_seq (⟨exit_ne, rfl, ha.sub ⟨rfl, trivial⟩, H10⟩)
  · intro e a4 w32 hO33
    rcases o2 with o2 | o2
    · skip
      obtain ⟨rfl, hO35⟩ := hO33
      obtain ⟨ha, H34⟩ := hO35
      refine exit_block_eq (nrm_seq (WP.app ?_ ha))
      refine WP_seq ?_
      refine WP_region ?_
      refine XL_q rfl (qt_move rfl) rfl rfl ?_
      refine XL_lenH H34.ctx (t := (.slice (.pair (.int .i64) (.int .i64)))) (hp0) u65 rfl rfl rfl ?_
      refine XL_q rfl (qt_leq rfl rfl) rfl rfl ?_
      refine XL_q rfl (qt_assign rfl) rfl rfl ?_
      refine WL_nil_seq ?_
      refine WP_ret fun a ha => ?_
      obtain rfl := Option.some.inj h
      exact ret1 rfl ha rfl ⟨rfl, H34⟩
    · skip
      obtain ⟨p36, rfl⟩ : ∃ z, z = o2 := ⟨o2, rfl⟩
      obtain ⟨rfl, hO38⟩ := hO33
      obtain ⟨ha, H37⟩ := hO38
      obtain rfl := Option.some.inj h
      exact ret_block (ret_seq (ret1 rfl ha rfl ⟨rfl, H37⟩))
theorem w_spec_WorkLeft (w : World) (G : List Res) (vp0 : Value) (p0 : List (List (Int × Int))) (hp0 : Has G (.slice (.pair (.int .i64) (.int .i64))) vp0 p0) (r : Int) (h : spec_WorkLeftS p0 = some r) (H : Ctx w G) : Calls Try.prog 40 #[vp0] w fun e w' => e = .returned (.int .i64 r) ∧ Holds (([] : List Res).flatMap Res.own) w w' [] G := by
  have H : Holds (([] : List Res).flatMap Res.own) w w [] G := Holds.startN H
  refine calls_enter (args := [vp0]) (n := 37) Try.func40 rfl rfl rfl ?_
  unfold spec_WorkLeftS at h
  refine WP_seq ?_
  refine WP_region ?_
  refine XL_q rfl (qt_assign rfl) rfl rfl ?_
  refine WL_nil_seq ?_
  refine WP_seq ?_
  refine WP_seq ?_
  refine WP_still ?_
  refine XL_q rfl (qt_move rfl) rfl rfl ?_
  obtain ⟨x1, hx2, h⟩ := bind_some h
  refine QL_call rfl rfl c62 (fun w' hb => (w_spec_KitchenValid w' G vp0 p0 (hp0) x1 hx2 (H.grow hb).ctx).mono fun e w'' hK => ⟨hK.1, hK.2.bel⟩) (by rfl) ?_
  refine XL_q rfl (qt_not rfl) rfl rfl ?_
  refine QL_nil fun a ha w3 hb4 => ?_
  have H5 : Holds (([] : List Res).flatMap Res.own) w w3 [] G := H.grow hb4
  refine nrm_seq (WP.app ?_ ha)
  refine WP_cond rfl (fun hc6 => ?_) (fun hc6 => ?_)
  · have h := if_t hc6 h
    refine WP_seq ?_
    refine WP_region ?_
    refine XL_q rfl (qt_assign rfl) rfl rfl ?_
    refine WL_nil_seq ?_
    refine WP_ret fun a ha => ?_
    obtain rfl := Option.some.inj h
    exact ret_seq (ret1 rfl ha rfl ⟨rfl, H5⟩)
  · have h := if_f hc6 h
    refine WP_skip_seq ?_
    refine WP_seq ?_
    refine WP_region ?_
    refine XL_q rfl (qt_assign rfl) rfl rfl ?_
    refine WL_nil_seq ?_
    refine WP_seq ?_
    refine WP_seq ?_
    refine WP_region ?_
    refine XL_q rfl (qt_assign rfl) rfl rfl ?_
    refine WL_nil_seq ?_
    refine WP_block ?_
    obtain ⟨o9, ho10, h⟩ := bind_some h
    refine fun a11 ha12 => wp_loop_fix (I := fun s a w2 => match s with | (s7, s8) => (Fr a 37 [(0, vp0), (3, .int .i64 s7), (4, .int .i64 s8)] ∧ Holds (([] : List Res).flatMap Res.own) w w2 [] G)) (O := fun o e a w2 => match o with | q0 => e = .exit 0 ∧ (Fr a 37 [(3, .int .i64 q0)] ∧ Holds (([] : List Res).flatMap Res.own) w w2 [] G)) ho10 ?_ ?_ ?_
    · exact ⟨ha12.sub ⟨rfl, rfl, rfl, trivial⟩, H5⟩
    · clear ha12
      intro s o15 a w13 hs14 hI16
      obtain ⟨s7, s8⟩ := s
      obtain ⟨ha, H17⟩ := hI16
      refine WP.app ?_ ha
      clear ha
      refine WP_seq ?_
      refine WP_seq ?_
      refine WP_region ?_
      refine XL_q rfl (qt_move rfl) rfl rfl ?_
      refine XL_q rfl (qt_move rfl) rfl rfl ?_
      refine XL_lenH H17.ctx (t := (.slice (.pair (.int .i64) (.int .i64)))) (hp0) u65 rfl rfl rfl ?_
      refine XL_q rfl (qt_lss rfl rfl) rfl rfl ?_
      refine WL_nil_seq ?_
      refine WP_cond rfl (fun hc18 => ?_) (fun hc18 => ?_)
      · have hs14 := if_t hc18 hs14
        refine WP_skip_seq ?_
        refine WP_seq ?_
        refine WP_block ?_
        refine WP_seq ?_
        refine WP_region ?_
        refine XL_q rfl (qt_assign rfl) rfl rfl ?_
        refine WL_nil_seq ?_
        refine WP_block ?_
        obtain ⟨o21, ho22, hs14⟩ := bind_some hs14
        refine fun a23 ha24 => wp_loop_fix (I := fun s a w2 => match s with | (s19, s20) => (Fr a 37 [(0, vp0), (3, .int .i64 s19), (4, .int .i64 s8), (5, .int .i64 s20)] ∧ Holds (([] : List Res).flatMap Res.own) w w2 [] G)) (O := fun o e a w2 => match o with | q0 => e = .exit 2 ∧ (Fr a 37 [(0, vp0), (3, .int .i64 q0), (4, .int .i64 s8)] ∧ Holds (([] : List Res).flatMap Res.own) w w2 [] G)) ho22 ?_ ?_ ?_
        · exact ⟨ha24.sub ⟨rfl, rfl, rfl, rfl, trivial⟩, H17⟩
        · clear ha24
          intro s o27 a w25 hs26 hI28
          obtain ⟨s19, s20⟩ := s
          obtain ⟨ha, H29⟩ := hI28
          refine WP.app ?_ ha
          clear ha
          refine WP_seq ?_
          refine WP_seq ?_
          refine WP_region ?_
          refine XL_q rfl (qt_move rfl) rfl rfl ?_
          refine XL_q rfl (qt_move rfl) rfl rfl ?_
          refine XL_q rfl (qt_move rfl) rfl rfl ?_
          obtain ⟨x30, hx31, hs26⟩ := bind_some hs26
          refine XL_indexH H29.ctx (hp0) hx31 u65 i48 rfl rfl rfl rfl (fun b32 off33 cap34 hv35 => ?_)
          obtain ⟨F36, hat37, hdup38⟩ := H29.at (hp0) hx31 hv35
          refine XL_load (t := (.slice (.pair (.int .i64) (.int .i64)))) u48 rfl rfl hat37 rfl rfl rfl (fun v39 hr40 => ?_)
          have H41 : Holds (([] : List Res).flatMap Res.own) w w25 [.ro (.pair (.int .i64) (.int .i64)) v39 x30] G := hdup38 _ _ _ _ hr40 (fun _ h => h)
          refine XL_lenH H41.ctx (t := (.pair (.int .i64) (.int .i64))) (HasRo.has (HasRo.hd)) u48 rfl rfl rfl ?_
          refine XL_q rfl (qt_lss rfl rfl) rfl rfl ?_
          refine WL_nil_seq ?_
          refine WP_cond rfl (fun hc42 => ?_) (fun hc42 => ?_)
          · have hs26 := if_t hc42 hs26
            refine WP_skip_seq ?_
            refine WP_seq ?_
            refine WP_block ?_
            refine WP_region ?_
            refine XL_q rfl (qt_move rfl) rfl rfl ?_
            refine XL_q rfl (qt_move rfl) rfl rfl ?_
            refine XL_q rfl (qt_move rfl) rfl rfl ?_
            obtain ⟨x43, hx44, hs26⟩ := bind_some hs26
            refine XL_indexH H41.ctx (hp0.c) hx44 u65 i48 rfl rfl rfl rfl (fun b45 off46 cap47 hv48 => ?_)
            obtain ⟨F49, hat50, hdup51⟩ := H41.at (hp0.c) hx44 hv48
            refine XL_load (t := (.slice (.pair (.int .i64) (.int .i64)))) u48 rfl rfl hat50 rfl rfl rfl (fun v52 hr53 => ?_)
            have H54 : Holds (([] : List Res).flatMap Res.own) w w25 [.ro (.pair (.int .i64) (.int .i64)) v52 x43, .ro (.pair (.int .i64) (.int .i64)) v39 x30] G := hdup51 _ _ _ _ hr53 (fun _ h => h)
            refine XL_q rfl (qt_move rfl) rfl rfl ?_
            obtain ⟨x55, hx56, hs26⟩ := bind_some hs26
            refine XL_indexH H54.ctx (HasRo.has (HasRo.hd)) hx56 u48 i63 rfl rfl rfl rfl (fun b57 off58 cap59 hv60 => ?_)
            refine XL_q rfl (qt_fieldAddr uf63 fi63_1 nz3 rfl) rfl rfl ?_
            obtain ⟨F61, hat62, hdup63⟩ := H54.at (HasRo.has (HasRo.hd)) hx56 hv60
            obtain ⟨F64, hat65, hin66⟩ := AtP.snd hat62
            refine XL_load_int (k := .i64) u3 rfl hat65 rfl rfl rfl ?_
            refine XL_q rfl (qt_sub rfl rfl) rfl rfl ?_
            refine XL_q rfl (qt_max rfl rfl) rfl rfl ?_
            refine XL_q rfl (qt_add rfl rfl) rfl rfl ?_
            refine XL_q rfl (qt_assign rfl) rfl rfl ?_
            refine WL_nil fun a ha => ?_
            refine nrm_block (nrm_seq (WP.app ?_ ha))
            refine WP_region ?_
            refine XL_q rfl (qt_move rfl) rfl rfl ?_
            refine XL_q rfl (qt_add rfl rfl) rfl rfl ?_
            refine XL_q rfl (qt_assign rfl) rfl rfl ?_
            refine WL_nil fun a ha => ?_
            obtain rfl := Option.some.inj hs26
            have H67 : Holds (([] : List Res).flatMap Res.own) w w25 [] G := ((H54.cut 0).cut 0)
            exact ⟨rfl, ha.sub ⟨rfl, rfl, rfl, rfl, trivial⟩, H67⟩
          · have hs26 := if_f hc42 hs26
            refine WP_exit fun a ha => ?_
            obtain rfl := Option.some.inj hs26
            have H68 : Holds (([] : List Res).flatMap Res.own) w w25 [] G := (H41.cut 0)
            exact exit_seq (⟨exit_ne, rfl, ha.sub ⟨rfl, rfl, rfl, trivial⟩, H68⟩)
        · intro e a23 w69 hO70
          obtain ⟨p71, rfl⟩ : ∃ z, z = o21 := ⟨o21, rfl⟩
          obtain ⟨rfl, hO73⟩ := hO70
          obtain ⟨ha, H72⟩ := hO73
          refine exit_block_eq (nrm_block (nrm_seq (WP.app ?_ ha)))
          refine WP_region ?_
          refine XL_q rfl (qt_move rfl) rfl rfl ?_
          refine XL_q rfl (qt_add rfl rfl) rfl rfl ?_
          refine XL_q rfl (qt_assign rfl) rfl rfl ?_
          refine WL_nil fun a ha => ?_
          obtain rfl := Option.some.inj hs14
          exact ⟨rfl, ha.sub ⟨rfl, rfl, rfl, trivial⟩, H72⟩
      · have hs14 := if_f hc18 hs14
        refine WP_exit fun a ha => ?_
        obtain rfl := Option.some.inj hs14
        exact exit_seq (⟨exit_ne, rfl, ha.sub ⟨rfl, trivial⟩, H17⟩)
    · intro e a11 w74 hO75
      obtain ⟨p76, rfl⟩ : ∃ z, z = o9 := ⟨o9, rfl⟩
      obtain ⟨rfl, hO78⟩ := hO75
      obtain ⟨ha, H77⟩ := hO78
      refine exit_block_eq (nrm_seq (WP.app ?_ ha))
      refine WP_seq ?_
      refine WP_region ?_
      refine XL_q rfl (qt_move rfl) rfl rfl ?_
      refine XL_q rfl (qt_assign rfl) rfl rfl ?_
      refine WL_nil_seq ?_
      refine WP_ret fun a ha => ?_
      obtain rfl := Option.some.inj h
      exact ret1 rfl ha rfl ⟨rfl, H77⟩
theorem w_spec_EndDeeds (w : World) (G : List Res) (vp0_0 : Value) (p0_0 : List (Int × (List (Int × Int)) × Int)) (hp0_0 : Has G (.pair (.int .i64) (.pair (.slice (.pair (.int .i64) (.int .i64))) (.int .i64))) vp0_0 p0_0) (vp0_1 : Value) (p0_1 : List Int) (hp0_1 : Has G (.int .i64) vp0_1 p0_1) (vp0_2 : Value) (p0_2 : List Int) (hp0_2 : Has G (.int .i64) vp0_2 p0_2) (p0_3 : Int) (vp0_4 : Value) (p0_4 : List (Int × (List (Int × Int)) × (List Int))) (hp0_4 : Has G (.pair (.int .i64) (.pair (.slice (.pair (.int .i64) (.int .i64))) (.slice (.int .i64)))) vp0_4 p0_4) (r : (List (Int × Int × Int × Int))) (h : spec_EndDeedsS p0_0 p0_1 p0_2 p0_3 p0_4 = some r) (H : Ctx w G) : Calls Try.prog 16 #[.agg #[vp0_0, vp0_1, vp0_2, .int .i64 p0_3, vp0_4]] w fun e w' => ∃ (v1 : Value), e = .returned (v1) ∧ Holds (([] : List Res).flatMap Res.own) w w' [.sl 68 (.pair (.int .i64) (.pair (.int .i64) (.pair (.int .i64) (.int .i64)))) v1 r] G := by
  have H : Holds (([] : List Res).flatMap Res.own) w w [] G := Holds.startN H
  refine calls_enter (args := [.agg #[vp0_0, vp0_1, vp0_2, .int .i64 p0_3, vp0_4]]) (n := 34) Try.func16 rfl rfl rfl ?_
  unfold spec_EndDeedsS at h
  refine WP_seq ?_
  refine WP_region ?_
  refine WL_box (cs := [vp0_0, vp0_1, vp0_2, .int .i64 p0_3, vp0_4]) H rfl rfl rfl rfl (fun b1 w2 H3 => ?_)
  have H4 : Holds (([] : List Res).flatMap Res.own) w w2 [.bx b1 32 [vp0_0, vp0_1, vp0_2, .int .i64 p0_3, vp0_4]] G := H3
  refine XL_q rfl (qt_assign rfl) rfl rfl ?_
  refine WL_nil_seq ?_
  refine WP_seq ?_
  refine WP_region ?_
  refine WL_buildH (t := (.pair (.int .i64) (.pair (.int .i64) (.pair (.int .i64) (.int .i64))))) (args := []) (xs := ([] : List (Int × Int × Int × Int))) H4 (BltL.nil) u39 j68 rfl rfl rfl rfl rfl rfl (fun v5 w6 H7 => ?_)
  have H8 : Holds (([] : List Res).flatMap Res.own) w w6 [.sl 68 (.pair (.int .i64) (.pair (.int .i64) (.pair (.int .i64) (.int .i64)))) v5 ([]), .bx b1 32 [vp0_0, vp0_1, vp0_2, .int .i64 p0_3, vp0_4]] G := H7
  refine XL_q rfl (qt_assign rfl) rfl rfl ?_
  refine WL_nil_seq ?_
  refine WP_seq ?_
  refine WP_seq ?_
  refine WP_still ?_
  have hB9 : Bx w6 b1 32 [vp0_0, vp0_1, vp0_2, .int .i64 p0_3, vp0_4] := Holds.bx (H8.pull 1)
  refine XL_load_bxA (cs := [vp0_0, vp0_1, vp0_2, .int .i64 p0_3, vp0_4]) us32 uo32 il32 hB9 rfl rfl rfl ?_
  change XL _ _ _ _ _ ((7, .agg #[vp0_0, vp0_1, vp0_2, .int .i64 p0_3, vp0_4]) :: _) _
  obtain ⟨x10, hx11, h⟩ := bind_some h
  refine QL_call rfl rfl c8 (fun w' hb => (w_spec_HouseValid w' ([.sl 68 (.pair (.int .i64) (.pair (.int .i64) (.pair (.int .i64) (.int .i64)))) v5 ([]), .bx b1 32 [vp0_0, vp0_1, vp0_2, .int .i64 p0_3, vp0_4]] ++ G) vp0_0 p0_0 (hp0_0.c.c) vp0_1 p0_1 (hp0_1.c.c) vp0_2 p0_2 (hp0_2.c.c) p0_3 vp0_4 p0_4 (hp0_4.c.c) x10 hx11 (H8.grow hb).ctx).mono fun e w'' hK => ⟨hK.1, hK.2.bel⟩) (by rfl) ?_
  refine XL_q rfl (qt_not rfl) rfl rfl ?_
  refine QL_nil fun a ha w12 hb13 => ?_
  have H14 : Holds (([] : List Res).flatMap Res.own) w w12 [.sl 68 (.pair (.int .i64) (.pair (.int .i64) (.pair (.int .i64) (.int .i64)))) v5 ([]), .bx b1 32 [vp0_0, vp0_1, vp0_2, .int .i64 p0_3, vp0_4]] G := H8.grow hb13
  refine nrm_seq (WP.app ?_ ha)
  refine WP_cond rfl (fun hc15 => ?_) (fun hc15 => ?_)
  · have h := if_t hc15 h
    refine WP_seq ?_
    refine WP_region ?_
    refine XL_q rfl (qt_move rfl) rfl rfl ?_
    refine XL_q rfl (qt_assign rfl) rfl rfl ?_
    refine WL_nil_seq ?_
    refine WP_ret fun a ha => ?_
    obtain rfl := Option.some.inj h
    have H16 : Holds (([] : List Res).flatMap Res.own) w w12 [.sl 68 (.pair (.int .i64) (.pair (.int .i64) (.pair (.int .i64) (.int .i64)))) v5 ([])] G := (H14.cut 1)
    exact ret_seq (ret1 rfl ha rfl ⟨v5, rfl, H16⟩)
  · have h := if_f hc15 h
    refine WP_skip_seq ?_
    refine WP_seq ?_
    refine WP_seq ?_
    refine WP_region ?_
    have hB17 : Bx w12 b1 32 [vp0_0, vp0_1, vp0_2, .int .i64 p0_3, vp0_4] := Holds.bx (H14.pull 1)
    refine XL_load_bxA (cs := [vp0_0, vp0_1, vp0_2, .int .i64 p0_3, vp0_4]) us32 uo32 il32 hB17 rfl rfl rfl ?_
    change XL _ _ _ _ _ ((11, .agg #[vp0_0, vp0_1, vp0_2, .int .i64 p0_3, vp0_4]) :: _) _
    obtain ⟨x18, hx19, h⟩ := bind_some h
    refine WL_call rfl rfl c41 (w_spec_l7Tickets w12 ([.sl 68 (.pair (.int .i64) (.pair (.int .i64) (.pair (.int .i64) (.int .i64)))) v5 ([]), .bx b1 32 [vp0_0, vp0_1, vp0_2, .int .i64 p0_3, vp0_4]] ++ G) vp0_0 p0_0 (hp0_0.c.c) vp0_1 p0_1 (hp0_1.c.c) vp0_2 p0_2 (hp0_2.c.c) p0_3 vp0_4 p0_4 (hp0_4.c.c) x18 hx19 H14.ctx) (by rfl) ?_
    rintro _ w20 ⟨v22, rfl, H21⟩; refine ⟨_, rfl, ?_⟩
    have H23 : Holds (([] : List Res).flatMap Res.own) w w20 [.sl 48 (.slice (.pair (.int .i64) (.int .i64))) v22 x18, .sl 68 (.pair (.int .i64) (.pair (.int .i64) (.pair (.int .i64) (.int .i64)))) v5 ([]), .bx b1 32 [vp0_0, vp0_1, vp0_2, .int .i64 p0_3, vp0_4]] G := H14.calledN (Rs := []) H21
    obtain ⟨x24, hx25, h⟩ := bind_some h
    refine WL_call rfl rfl c40 (w_spec_WorkLeft w20 ([.sl 48 (.slice (.pair (.int .i64) (.int .i64))) v22 x18, .sl 68 (.pair (.int .i64) (.pair (.int .i64) (.pair (.int .i64) (.int .i64)))) v5 ([]), .bx b1 32 [vp0_0, vp0_1, vp0_2, .int .i64 p0_3, vp0_4]] ++ G) v22 x18 (Has.hd) x24 hx25 H23.ctx) (by rfl) ?_
    rintro _ w26 ⟨rfl, H27⟩; refine ⟨_, rfl, ?_⟩
    have H28 : Holds (([] : List Res).flatMap Res.own) w w26 [.sl 48 (.slice (.pair (.int .i64) (.int .i64))) v22 x18, .sl 68 (.pair (.int .i64) (.pair (.int .i64) (.pair (.int .i64) (.int .i64)))) v5 ([]), .bx b1 32 [vp0_0, vp0_1, vp0_2, .int .i64 p0_3, vp0_4]] G := H23.calledN (Rs := []) H27
    refine XL_q rfl (qt_assign rfl) rfl rfl ?_
    refine WL_nil_seq ?_
    refine WP_block ?_
    obtain ⟨o31, ho32, h⟩ := bind_some h
    have H35 : Holds (([] : List Res).flatMap Res.own) w w26 [.bx b1 32 [vp0_0, vp0_1, vp0_2, .int .i64 p0_3, vp0_4], .sl 68 (.pair (.int .i64) (.pair (.int .i64) (.pair (.int .i64) (.int .i64)))) v5 ([])] G := ((H28.cut 0).pull 1)
    refine fun a33 ha34 => wp_loop_fix (I := fun s a w2 => match s with | (s29, s30) => ∃ vs29, Fr a 34 [(1, .pointer (some ⟨b1, 0, none⟩)), (3, vs29), (4, .int .i64 s30)] ∧ Holds (([] : List Res).flatMap Res.own) w w2 [.bx b1 32 [vp0_0, vp0_1, vp0_2, .int .i64 p0_3, vp0_4], .sl 68 (.pair (.int .i64) (.pair (.int .i64) (.pair (.int .i64) (.int .i64)))) vs29 s29] G) (O := fun o e a w2 => match o with | q0 => e = .exit 0 ∧ ∃ vq0, Fr a 34 [(1, .pointer (some ⟨b1, 0, none⟩)), (3, vq0)] ∧ Holds (([] : List Res).flatMap Res.own) w w2 [.bx b1 32 [vp0_0, vp0_1, vp0_2, .int .i64 p0_3, vp0_4], .sl 68 (.pair (.int .i64) (.pair (.int .i64) (.pair (.int .i64) (.int .i64)))) vq0 q0] G) ho32 ?_ ?_ ?_
    · exact ⟨v5, ha34.sub ⟨rfl, rfl, rfl, trivial⟩, H35⟩
    · clear ha34
      intro s o38 a w36 hs37 hI39
      obtain ⟨s29, s30⟩ := s
      obtain ⟨vs29, ha, H40⟩ := hI39
      refine WP.app ?_ ha
      clear ha
      refine WP_seq ?_
      refine WP_seq ?_
      refine WP_region ?_
      refine XL_q rfl (qt_move rfl) rfl rfl ?_
      refine XL_q rfl (qt_gtr rfl rfl) rfl rfl ?_
      refine WL_nil_seq ?_
      refine WP_cond rfl (fun hc41 => ?_) (fun hc41 => ?_)
      · have hs37 := if_t hc41 hs37
        refine WP_skip_seq ?_
        refine WP_seq ?_
        refine WP_block ?_
        refine WP_region ?_
        refine XL_q rfl (qt_move rfl) rfl rfl ?_
        refine XL_q rfl (qt_build (args := [(0, .const (.int .i64 4))]) (css := [#[.int .i64 4]]) (cells := #[.int .i64 4, .int .i64 0, .int .i64 0, .int .i64 0]) rfl ⟨rfl, trivial⟩ (by kernel_rfl)) rfl rfl ?_
        refine WL_buildH (t := (.pair (.int .i64) (.pair (.int .i64) (.pair (.int .i64) (.int .i64))))) (args := [.tmp 19]) (xs := ([(4, 0, 0, 0)] : List (Int × Int × Int × Int))) H40 (BltL.cons (Blt.pair (Blt.int) (Blt.pair (Blt.int) (Blt.pair (Blt.int) (Blt.int)))) rfl (BltL.nil)) u39 j68 rfl rfl rfl rfl rfl rfl (fun v42 w43 H44 => ?_)
        have H45 : Holds (([] : List Res).flatMap Res.own) w w43 [.sl 68 (.pair (.int .i64) (.pair (.int .i64) (.pair (.int .i64) (.int .i64)))) v42 ([(4, 0, 0, 0)]), .bx b1 32 [vp0_0, vp0_1, vp0_2, .int .i64 p0_3, vp0_4], .sl 68 (.pair (.int .i64) (.pair (.int .i64) (.pair (.int .i64) (.int .i64)))) vs29 s29] G := H44
        have H46 : Holds (([] : List Res).flatMap Res.own) w w43 [.sl 68 (.pair (.int .i64) (.pair (.int .i64) (.pair (.int .i64) (.int .i64)))) vs29 s29, .sl 68 (.pair (.int .i64) (.pair (.int .i64) (.pair (.int .i64) (.int .i64)))) v42 ([(4, 0, 0, 0)]), .bx b1 32 [vp0_0, vp0_1, vp0_2, .int .i64 p0_3, vp0_4]] G := H45.pull 2
        obtain ⟨x47, hx48, hs37⟩ := bind_some hs37
        refine WL_appendH H46 (Has.c (Has.hd)) hx48 u39 j68 rfl rfl rfl rfl rfl rfl (fun v49 w50 H51 => ?_)
        have H52 : Holds (([] : List Res).flatMap Res.own) w w50 [.sl 68 (.pair (.int .i64) (.pair (.int .i64) (.pair (.int .i64) (.int .i64)))) v49 x47, .sl 68 (.pair (.int .i64) (.pair (.int .i64) (.pair (.int .i64) (.int .i64)))) v42 ([(4, 0, 0, 0)]), .bx b1 32 [vp0_0, vp0_1, vp0_2, .int .i64 p0_3, vp0_4]] G := H51
        refine XL_q rfl (qt_assign rfl) rfl rfl ?_
        refine WL_nil fun a ha => ?_
        refine nrm_block (nrm_seq (WP.app ?_ ha))
        refine WP_region ?_
        refine XL_q rfl (qt_move rfl) rfl rfl ?_
        refine XL_q rfl (qt_sub rfl rfl) rfl rfl ?_
        refine XL_q rfl (qt_assign rfl) rfl rfl ?_
        refine WL_nil fun a ha => ?_
        obtain rfl := Option.some.inj hs37
        have H53 : Holds (([] : List Res).flatMap Res.own) w w50 [.bx b1 32 [vp0_0, vp0_1, vp0_2, .int .i64 p0_3, vp0_4], .sl 68 (.pair (.int .i64) (.pair (.int .i64) (.pair (.int .i64) (.int .i64)))) v49 x47] G := ((H52.cut 1).pull 1)
        exact ⟨rfl, v49, ha.sub ⟨rfl, rfl, rfl, trivial⟩, H53⟩
      · have hs37 := if_f hc41 hs37
        refine WP_exit fun a ha => ?_
        obtain rfl := Option.some.inj hs37
        have H54 : Holds (([] : List Res).flatMap Res.own) w w36 [.bx b1 32 [vp0_0, vp0_1, vp0_2, .int .i64 p0_3, vp0_4], .sl 68 (.pair (.int .i64) (.pair (.int .i64) (.pair (.int .i64) (.int .i64)))) vs29 s29] G := ((H40.pull 1).pull 1)
        exact exit_seq (⟨exit_ne, rfl, vs29, ha.sub ⟨rfl, rfl, trivial⟩, H54⟩)
    · intro e a33 w55 hO56
      obtain ⟨p57, rfl⟩ : ∃ z, z = o31 := ⟨o31, rfl⟩
      obtain ⟨rfl, hO59⟩ := hO56
      obtain ⟨vp57, ha, H58⟩ := hO59
      refine exit_block_eq (nrm_seq (WP.app ?_ ha))
      refine WP_seq ?_
      refine WP_seq ?_
      refine WP_region ?_
      refine XL_q rfl (qt_assign rfl) rfl rfl ?_
      refine WL_nil_seq ?_
      refine WP_block ?_
      obtain ⟨o62, ho63, h⟩ := bind_some h
      have H66 : Holds (([] : List Res).flatMap Res.own) w w55 [.bx b1 32 [vp0_0, vp0_1, vp0_2, .int .i64 p0_3, vp0_4], .sl 68 (.pair (.int .i64) (.pair (.int .i64) (.pair (.int .i64) (.int .i64)))) vp57 p57] G := ((H58.pull 1).pull 1)
      refine fun a64 ha65 => wp_loop_fix (I := fun s a w2 => match s with | (s60, s61) => ∃ vs60, Fr a 34 [(1, .pointer (some ⟨b1, 0, none⟩)), (3, vs60), (5, .int .i64 s61)] ∧ Holds (([] : List Res).flatMap Res.own) w w2 [.bx b1 32 [vp0_0, vp0_1, vp0_2, .int .i64 p0_3, vp0_4], .sl 68 (.pair (.int .i64) (.pair (.int .i64) (.pair (.int .i64) (.int .i64)))) vs60 s60] G) (O := fun o e a w2 => match o with | q0 => e = .exit 2 ∧ ∃ vq0, Fr a 34 [(3, vq0)] ∧ Holds (([] : List Res).flatMap Res.own) w w2 [.sl 68 (.pair (.int .i64) (.pair (.int .i64) (.pair (.int .i64) (.int .i64)))) vq0 q0] G) ho63 ?_ ?_ ?_
      · exact ⟨vp57, ha65.sub ⟨rfl, rfl, rfl, trivial⟩, H66⟩
      · clear ha65
        intro s o69 a w67 hs68 hI70
        obtain ⟨s60, s61⟩ := s
        obtain ⟨vs60, ha, H71⟩ := hI70
        refine WP.app ?_ ha
        clear ha
        refine WP_seq ?_
        refine WP_seq ?_
        refine WP_region ?_
        refine XL_q rfl (qt_move rfl) rfl rfl ?_
        refine XL_q rfl (qt_fieldAddr uf32 fi32_4 nz30 rfl) rfl rfl ?_
        have hB72 : Bx w67 b1 32 [vp0_0, vp0_1, vp0_2, .int .i64 p0_3, vp0_4] := Holds.bx (H71.pull 0)
        refine XL_load_bx u30 rfl hB72 rfl rfl rfl rfl ?_
        refine XL_lenH H71.ctx (t := (.pair (.int .i64) (.pair (.slice (.pair (.int .i64) (.int .i64))) (.slice (.int .i64))))) (hp0_4.c.c) u30 rfl rfl rfl ?_
        refine XL_q rfl (qt_lss rfl rfl) rfl rfl ?_
        refine WL_nil_seq ?_
        refine WP_cond rfl (fun hc73 => ?_) (fun hc73 => ?_)
        · have hs68 := if_t hc73 hs68
          refine WP_skip_seq ?_
          refine WP_seq ?_
          refine WP_block ?_
          refine WP_region ?_
          refine XL_q rfl (qt_move rfl) rfl rfl ?_
          refine XL_q rfl (qt_build (args := [(0, .const (.int .i64 5))]) (css := [#[.int .i64 5]]) (cells := #[.int .i64 5, .int .i64 0, .int .i64 0, .int .i64 0]) rfl ⟨rfl, trivial⟩ (by kernel_rfl)) rfl rfl ?_
          refine WL_buildH (t := (.pair (.int .i64) (.pair (.int .i64) (.pair (.int .i64) (.int .i64))))) (args := [.tmp 30]) (xs := ([(5, 0, 0, 0)] : List (Int × Int × Int × Int))) H71 (BltL.cons (Blt.pair (Blt.int) (Blt.pair (Blt.int) (Blt.pair (Blt.int) (Blt.int)))) rfl (BltL.nil)) u39 j68 rfl rfl rfl rfl rfl rfl (fun v74 w75 H76 => ?_)
          have H77 : Holds (([] : List Res).flatMap Res.own) w w75 [.sl 68 (.pair (.int .i64) (.pair (.int .i64) (.pair (.int .i64) (.int .i64)))) v74 ([(5, 0, 0, 0)]), .bx b1 32 [vp0_0, vp0_1, vp0_2, .int .i64 p0_3, vp0_4], .sl 68 (.pair (.int .i64) (.pair (.int .i64) (.pair (.int .i64) (.int .i64)))) vs60 s60] G := H76
          have H78 : Holds (([] : List Res).flatMap Res.own) w w75 [.sl 68 (.pair (.int .i64) (.pair (.int .i64) (.pair (.int .i64) (.int .i64)))) vs60 s60, .sl 68 (.pair (.int .i64) (.pair (.int .i64) (.pair (.int .i64) (.int .i64)))) v74 ([(5, 0, 0, 0)]), .bx b1 32 [vp0_0, vp0_1, vp0_2, .int .i64 p0_3, vp0_4]] G := H77.pull 2
          obtain ⟨x79, hx80, hs68⟩ := bind_some hs68
          refine WL_appendH H78 (Has.c (Has.hd)) hx80 u39 j68 rfl rfl rfl rfl rfl rfl (fun v81 w82 H83 => ?_)
          have H84 : Holds (([] : List Res).flatMap Res.own) w w82 [.sl 68 (.pair (.int .i64) (.pair (.int .i64) (.pair (.int .i64) (.int .i64)))) v81 x79, .sl 68 (.pair (.int .i64) (.pair (.int .i64) (.pair (.int .i64) (.int .i64)))) v74 ([(5, 0, 0, 0)]), .bx b1 32 [vp0_0, vp0_1, vp0_2, .int .i64 p0_3, vp0_4]] G := H83
          refine XL_q rfl (qt_assign rfl) rfl rfl ?_
          refine WL_nil fun a ha => ?_
          refine nrm_block (nrm_seq (WP.app ?_ ha))
          refine WP_region ?_
          refine XL_q rfl (qt_move rfl) rfl rfl ?_
          refine XL_q rfl (qt_add rfl rfl) rfl rfl ?_
          refine XL_q rfl (qt_assign rfl) rfl rfl ?_
          refine WL_nil fun a ha => ?_
          obtain rfl := Option.some.inj hs68
          have H85 : Holds (([] : List Res).flatMap Res.own) w w82 [.bx b1 32 [vp0_0, vp0_1, vp0_2, .int .i64 p0_3, vp0_4], .sl 68 (.pair (.int .i64) (.pair (.int .i64) (.pair (.int .i64) (.int .i64)))) v81 x79] G := ((H84.cut 1).pull 1)
          exact ⟨rfl, v81, ha.sub ⟨rfl, rfl, rfl, trivial⟩, H85⟩
        · have hs68 := if_f hc73 hs68
          refine WP_exit fun a ha => ?_
          obtain rfl := Option.some.inj hs68
          have H86 : Holds (([] : List Res).flatMap Res.own) w w67 [.sl 68 (.pair (.int .i64) (.pair (.int .i64) (.pair (.int .i64) (.int .i64)))) vs60 s60] G := (H71.cut 0)
          exact exit_seq (⟨exit_ne, rfl, vs60, ha.sub ⟨rfl, trivial⟩, H86⟩)
      · intro e a64 w87 hO88
        obtain ⟨p89, rfl⟩ : ∃ z, z = o62 := ⟨o62, rfl⟩
        obtain ⟨rfl, hO91⟩ := hO88
        obtain ⟨vp89, ha, H90⟩ := hO91
        refine exit_block_eq (nrm_seq (WP.app ?_ ha))
        refine WP_seq ?_
        refine WP_region ?_
        refine XL_q rfl (qt_move rfl) rfl rfl ?_
        refine XL_q rfl (qt_assign rfl) rfl rfl ?_
        refine WL_nil_seq ?_
        refine WP_ret fun a ha => ?_
        obtain rfl := Option.some.inj h
        exact ret1 rfl ha rfl ⟨vp89, rfl, H90⟩
theorem w_impl_copyTicket (w : World) (G : List Res) (vp0 : Value) (p0 : List (Int × Int)) (hp0 : Has G (.pair (.int .i64) (.int .i64)) vp0 p0) (r : (List (Int × Int))) (h : impl_copyTicketS p0 = some r) (H : Ctx w G) : Calls Try.prog 65 #[vp0] w fun e w' => ∃ (v1 : Value), e = .returned (v1) ∧ Holds (([] : List Res).flatMap Res.own) w w' [.sl 63 (.pair (.int .i64) (.int .i64)) v1 r] G := by
  have H : Holds (([] : List Res).flatMap Res.own) w w [] G := Holds.startN H
  refine calls_enter (args := [vp0]) (n := 14) Try.func65 rfl rfl rfl ?_
  unfold impl_copyTicketS at h
  refine WP_seq ?_
  refine WP_region ?_
  refine XL_q rfl (qt_assign rfl) rfl rfl ?_
  refine WL_nil_seq ?_
  refine WP_seq ?_
  refine WP_seq ?_
  refine WP_region ?_
  refine XL_q rfl (qt_move rfl) rfl rfl ?_
  refine XL_lenH H.ctx (t := (.pair (.int .i64) (.int .i64))) (hp0) u48 rfl rfl rfl ?_
  refine XL_q rfl (qt_eql rfl rfl) rfl rfl ?_
  refine WL_nil_seq ?_
  refine WP_cond rfl (fun hc1 => ?_) (fun hc1 => ?_)
  · have h := if_t hc1 h
    refine WP_seq ?_
    refine WP_region ?_
    refine XL_q rfl (qt_assign rfl) rfl rfl ?_
    refine WL_nil_seq ?_
    refine WP_ret fun a ha => ?_
    obtain rfl := Option.some.inj h
    have H2 : Holds (([] : List Res).flatMap Res.own) w w [.sl 63 (.pair (.int .i64) (.int .i64)) (.slice none 0 0) ([])] G := H.nilSl
    exact ret_seq (ret1 rfl ha rfl ⟨(.slice none 0 0), rfl, H2⟩)
  · have h := if_f hc1 h
    refine WP_skip_seq ?_
    refine WP_seq ?_
    refine WP_region ?_
    refine XL_q rfl (qt_move rfl) rfl rfl ?_
    refine XL_lenH H.ctx (t := (.pair (.int .i64) (.int .i64))) (hp0) u48 rfl rfl rfl ?_
    obtain ⟨x3, hx4, h⟩ := bind_some h
    refine WL_makeH H hx4 u48 j63 rfl (fun _ => ⟨_, _, [], [], rfl, rfl, ⟨rfl, rfl⟩, ⟨rfl, rfl⟩⟩) rfl rfl rfl rfl rfl (fun v5 w6 H7 => ?_)
    have H8 : Holds (([] : List Res).flatMap Res.own) w w6 [.sl 63 (.pair (.int .i64) (.int .i64)) v5 x3] G := H7
    refine XL_q rfl (qt_assign rfl) rfl rfl ?_
    refine WL_nil_seq ?_
    refine WP_seq ?_
    refine WP_region ?_
    refine XL_q rfl (qt_move rfl) rfl rfl ?_
    refine XL_q rfl (qt_move rfl) rfl rfl ?_
    refine WL_copyH rfl H8 (hp0.c) rfl u48 i63 rfl rfl rfl rfl (fun w9 H10 => ?_)
    have H11 : Holds (([] : List Res).flatMap Res.own) w w9 [.sl 63 (.pair (.int .i64) (.int .i64)) v5 (List.take (List.length x3) p0 ++ List.drop (List.length p0) x3)] G := H10
    refine WL_nil_seq ?_
    refine WP_seq ?_
    refine WP_region ?_
    refine XL_q rfl (qt_move rfl) rfl rfl ?_
    refine XL_q rfl (qt_assign rfl) rfl rfl ?_
    refine WL_nil_seq ?_
    refine WP_ret fun a ha => ?_
    obtain rfl := Option.some.inj h
    exact ret1 rfl ha rfl ⟨v5, rfl, H11⟩
theorem w_impl_kitchenOf (w : World) (G : List Res) (vp0_0 : Value) (p0_0 : List (Int × (List (Int × Int)) × Int)) (hp0_0 : Has G (.pair (.int .i64) (.pair (.slice (.pair (.int .i64) (.int .i64))) (.int .i64))) vp0_0 p0_0) (vp0_1 : Value) (p0_1 : List Int) (hp0_1 : Has G (.int .i64) vp0_1 p0_1) (vp0_2 : Value) (p0_2 : List Int) (hp0_2 : Has G (.int .i64) vp0_2 p0_2) (p0_3 : Int) (vp0_4 : Value) (p0_4 : List (Int × (List (Int × Int)) × (List Int))) (hp0_4 : Has G (.pair (.int .i64) (.pair (.slice (.pair (.int .i64) (.int .i64))) (.slice (.int .i64)))) vp0_4 p0_4) (r : (List (List (Int × Int)))) (h : impl_kitchenOfS p0_0 p0_1 p0_2 p0_3 p0_4 = some r) (H : Ctx w G) : Calls Try.prog 43 #[.agg #[vp0_0, vp0_1, vp0_2, .int .i64 p0_3, vp0_4]] w fun e w' => ∃ (v1 : Value), e = .returned (v1) ∧ Holds (([] : List Res).flatMap Res.own) w w' [.sl 48 (.slice (.pair (.int .i64) (.int .i64))) v1 r] G := by
  have H : Holds (([] : List Res).flatMap Res.own) w w [] G := Holds.startN H
  refine calls_enter (args := [.agg #[vp0_0, vp0_1, vp0_2, .int .i64 p0_3, vp0_4]]) (n := 26) Try.func43 rfl rfl rfl ?_
  unfold impl_kitchenOfS at h
  refine WP_seq ?_
  refine WP_region ?_
  refine WL_box (cs := [vp0_0, vp0_1, vp0_2, .int .i64 p0_3, vp0_4]) H rfl rfl rfl rfl (fun b1 w2 H3 => ?_)
  have H4 : Holds (([] : List Res).flatMap Res.own) w w2 [.bx b1 32 [vp0_0, vp0_1, vp0_2, .int .i64 p0_3, vp0_4]] G := H3
  refine XL_q rfl (qt_assign rfl) rfl rfl ?_
  refine WL_nil_seq ?_
  refine WP_seq ?_
  refine WP_region ?_
  refine XL_q rfl (qt_fieldAddr uf32 fi32_4 nz30 rfl) rfl rfl ?_
  have hB5 : Bx w2 b1 32 [vp0_0, vp0_1, vp0_2, .int .i64 p0_3, vp0_4] := Holds.bx (H4.pull 0)
  refine XL_load_bx u30 rfl hB5 rfl rfl rfl rfl ?_
  refine XL_lenH H4.ctx (t := (.pair (.int .i64) (.pair (.slice (.pair (.int .i64) (.int .i64))) (.slice (.int .i64))))) (hp0_4.c) u30 rfl rfl rfl ?_
  obtain ⟨x6, hx7, h⟩ := bind_some h
  refine WL_makeH H4 hx7 u65 j48 rfl (fun _ => ⟨none, 0, rfl, Nat.le_refl _, .inl ⟨rfl, rfl⟩⟩) rfl rfl rfl rfl rfl (fun v8 w9 H10 => ?_)
  have H11 : Holds (([] : List Res).flatMap Res.own) w w9 [.sl 48 (.slice (.pair (.int .i64) (.int .i64))) v8 x6, .bx b1 32 [vp0_0, vp0_1, vp0_2, .int .i64 p0_3, vp0_4]] G := H10
  refine XL_q rfl (qt_assign rfl) rfl rfl ?_
  refine WL_nil_seq ?_
  refine WP_seq ?_
  refine WP_seq ?_
  refine WP_region ?_
  refine XL_q rfl (qt_fieldAddr uf32 fi32_4 nz30 rfl) rfl rfl ?_
  have hB12 : Bx w9 b1 32 [vp0_0, vp0_1, vp0_2, .int .i64 p0_3, vp0_4] := Holds.bx (H11.pull 1)
  refine XL_load_bx u30 rfl hB12 rfl rfl rfl rfl ?_
  refine XL_lenH H11.ctx (t := (.pair (.int .i64) (.pair (.slice (.pair (.int .i64) (.int .i64))) (.slice (.int .i64))))) (hp0_4.c.c) u30 rfl rfl rfl ?_
  refine XL_q rfl (qt_move rfl) rfl rfl ?_
  refine WL_nil_seq ?_
  refine WP_block ?_
  obtain ⟨o15, ho16, h⟩ := bind_some h
  have H19 : Holds (([] : List Res).flatMap Res.own) w w9 [.sl 48 (.slice (.pair (.int .i64) (.int .i64))) v8 x6] G := (H11.cut 1)
  refine fun a17 ha18 => wp_loop_fix (I := fun s a w2 => match s with | (s13, s14) => (Fr a 26 [(3, v8), (11, vp0_4), (12, .int .i64 (List.length p0_4 : Int)), (13, .int .i64 s13)] ∧ Holds (([] : List Res).flatMap Res.own) w w2 [.sl 48 (.slice (.pair (.int .i64) (.int .i64))) v8 s14] G)) (O := fun o e a w2 => match o with | q0 => e = .exit 0 ∧ (Fr a 26 [(3, v8)] ∧ Holds (([] : List Res).flatMap Res.own) w w2 [.sl 48 (.slice (.pair (.int .i64) (.int .i64))) v8 q0] G)) ho16 ?_ ?_ ?_
  · exact ⟨ha18.sub ⟨rfl, rfl, rfl, rfl, trivial⟩, H19⟩
  · clear ha18
    intro s o22 a w20 hs21 hI23
    obtain ⟨s13, s14⟩ := s
    obtain ⟨ha, H24⟩ := hI23
    refine WP.app ?_ ha
    clear ha
    refine WP_seq ?_
    refine WP_region ?_
    refine XL_q rfl (qt_lss rfl rfl) rfl rfl ?_
    refine WL_nil_seq ?_
    refine WP_seq ?_
    refine WP_cond rfl (fun hc25 => ?_) (fun hc25 => ?_)
    · have hs21 := if_t hc25 hs21
      refine WP_skip_seq ?_
      refine WP_seq ?_
      refine WP_block ?_
      refine WP_seq ?_
      refine WP_region ?_
      refine XL_q rfl (qt_move rfl) rfl rfl ?_
      obtain ⟨x26, hx27, hs21⟩ := bind_some hs21
      refine XL_indexH H24.ctx (hp0_4.c) hx27 u30 i50 rfl rfl rfl rfl (fun b28 off29 cap30 hv31 => ?_)
      obtain ⟨F32, hat33, hdup34⟩ := H24.atN (hp0_4.c) hx27 hv31
      refine XL_load_agg (t := (.pair (.int .i64) (.pair (.slice (.pair (.int .i64) (.int .i64))) (.slice (.int .i64))))) us50 uo50 i50 hat33 rfl rfl rfl (fun cs35 hr36 => ?_)
      obtain ⟨c37, c38, F39, F40, rfl, eF43, hr41, hr42⟩ := hr36
      obtain ⟨rfl, _⟩ := hr41
      obtain ⟨c44, c45, F46, F47, rfl, eF50, hr48, hr49⟩ := hr42
      obtain ⟨v51, rfl, hr52⟩ := Rep.sl_inv hr48
      obtain ⟨v53, rfl, hr54⟩ := Rep.sl_inv hr49
      have H55 : Holds (([] : List Res).flatMap Res.own) w w20 [.ro (.pair (.int .i64) (.int .i64)) v51 x26.2.1, .ro (.int .i64) v53 x26.2.2, .sl 48 (.slice (.pair (.int .i64) (.int .i64))) v8 s14] G := hdup34 [.ro (.pair (.int .i64) (.int .i64)) v51 x26.2.1, .ro (.int .i64) v53 x26.2.2] ⟨⟨_, _, _, _, rfl, hr52, (fun k h => (fun k h => (fun _ h => h) k (by rw [eF43]; exact List.mem_append_right _ h)) k (by rw [eF50]; exact List.mem_append_left _ h))⟩, ⟨_, _, _, _, rfl, hr54, (fun k h => (fun k h => (fun _ h => h) k (by rw [eF43]; exact List.mem_append_right _ h)) k (by rw [eF50]; exact List.mem_append_right _ h))⟩, trivial⟩
      change XL _ _ _ _ _ ((17, .agg #[.int .i64 x26.1, v51, v53]) :: _) _
      refine WL_alloc (cs := [.int .i64 0, .slice none 0 0, .slice none 0 0]) H55 z50 rfl rfl rfl (fun b56 w57 H58 => ?_)
      have H59 : Holds (([] : List Res).flatMap Res.own) w w57 [.bx b56 50 [.int .i64 0, .slice none 0 0, .slice none 0 0], .ro (.pair (.int .i64) (.int .i64)) v51 x26.2.1, .ro (.int .i64) v53 x26.2.2, .sl 48 (.slice (.pair (.int .i64) (.int .i64))) v8 s14] G := H58
      refine XL_q rfl (qt_assign rfl) rfl rfl ?_
      refine WL_store_bxA (cs' := [.int .i64 x26.1, v51, v53]) H59 rfl il50 rfl (allOne rfl (allOne (H59.ctx.sliceOne (HasRo.has (HasRo.c (HasRo.hd)))) (allOne (H59.ctx.sliceOne (HasRo.has (HasRo.c (HasRo.c (HasRo.hd))))) rfl))) rfl rfl rfl (fun w60 H61 => ?_)
      have H62 : Holds (([] : List Res).flatMap Res.own) w w60 [.bx b56 50 [.int .i64 x26.1, v51, v53], .ro (.pair (.int .i64) (.int .i64)) v51 x26.2.1, .ro (.int .i64) v53 x26.2.2, .sl 48 (.slice (.pair (.int .i64) (.int .i64))) v8 s14] G := H61
      refine WL_nil_seq ?_
      refine WP_region ?_
      refine XL_q rfl (qt_move rfl) rfl rfl ?_
      refine XL_q rfl (qt_move rfl) rfl rfl ?_
      refine XL_q rfl (qt_fieldAddr uf50 fi50_1 nz48 rfl) rfl rfl ?_
      have hB63 : Bx w60 b56 50 [.int .i64 x26.1, v51, v53] := Holds.bx (H62.pull 0)
      refine XL_load_bx u48 rfl hB63 rfl rfl rfl rfl ?_
      obtain ⟨x64, hx65, hs21⟩ := bind_some hs21
      refine WL_call rfl rfl c65 (w_impl_copyTicket w60 ([.bx b56 50 [.int .i64 x26.1, v51, v53], .ro (.pair (.int .i64) (.int .i64)) v51 x26.2.1, .ro (.int .i64) v53 x26.2.2, .sl 48 (.slice (.pair (.int .i64) (.int .i64))) v8 s14] ++ G) v51 x26.2.1 (HasRo.has (HasRo.c (HasRo.hd))) x64 hx65 H62.ctx) (by rfl) ?_
      rintro _ w66 ⟨v68, rfl, H67⟩; refine ⟨_, rfl, ?_⟩
      have H69 : Holds (([] : List Res).flatMap Res.own) w w66 [.sl 63 (.pair (.int .i64) (.int .i64)) v68 x64, .bx b56 50 [.int .i64 x26.1, v51, v53], .ro (.pair (.int .i64) (.int .i64)) v51 x26.2.1, .ro (.int .i64) v53 x26.2.2, .sl 48 (.slice (.pair (.int .i64) (.int .i64))) v8 s14] G := H62.calledN (Rs := []) H67
      obtain ⟨x70, hx71, hs21⟩ := bind_some hs21
      refine XL_indexH H69.ctx (Has.c (Has.c (Has.c (Has.c (Has.hd))))) hx71 u65 i48 rfl rfl rfl rfl (fun b72 off73 cap74 hv75 => ?_)
      have H76 : Holds (([] : List Res).flatMap Res.own) w w66 [.sl 48 (.slice (.pair (.int .i64) (.int .i64))) v8 s14, .sl 63 (.pair (.int .i64) (.int .i64)) v68 x64, .bx b56 50 [.int .i64 x26.1, v51, v53], .ro (.pair (.int .i64) (.int .i64)) v51 x26.2.1, .ro (.int .i64) v53 x26.2.2] G := H69.pull 4
      have H77 : Holds (([] : List Res).flatMap Res.own) w w66 [.sl 63 (.pair (.int .i64) (.int .i64)) v68 x64, .sl 48 (.slice (.pair (.int .i64) (.int .i64))) v8 s14, .bx b56 50 [.int .i64 x26.1, v51, v53], .ro (.pair (.int .i64) (.int .i64)) v51 x26.2.1, .ro (.int .i64) v53 x26.2.2] G := H76.pull 1
      have H78 : Holds (([] : List Res).flatMap Res.own) w w66 [.ro (.pair (.int .i64) (.int .i64)) v68 x64, .sl 48 (.slice (.pair (.int .i64) (.int .i64))) v8 s14, .bx b56 50 [.int .i64 x26.1, v51, v53], .ro (.pair (.int .i64) (.int .i64)) v51 x26.2.1, .ro (.int .i64) v53 x26.2.2] G := H77.freeze
      have H79 : Holds (([] : List Res).flatMap Res.own) w w66 [.sl 48 (.slice (.pair (.int .i64) (.int .i64))) v8 s14, .ro (.pair (.int .i64) (.int .i64)) v68 x64, .bx b56 50 [.int .i64 x26.1, v51, v53], .ro (.pair (.int .i64) (.int .i64)) v51 x26.2.1, .ro (.int .i64) v53 x26.2.2] G := H78.pull 1
      refine WL_storeH (fo := 0) (cs' := [v68]) H79 hx71 hv75 (Upd.whole (Blt.slice (HasRo.c (HasRo.hd)))) (H79.ctx.sliceList (HasRo.has (HasRo.c (HasRo.hd)))) il48 rfl rfl rfl rfl (fun w80 H81 => ?_)
      have H82 : Holds (([] : List Res).flatMap Res.own) w w80 [.sl 48 (.slice (.pair (.int .i64) (.int .i64))) v8 (List.set s14 (Int.toNat s13) x64), .ro (.pair (.int .i64) (.int .i64)) v68 x64, .bx b56 50 [.int .i64 x26.1, v51, v53], .ro (.pair (.int .i64) (.int .i64)) v51 x26.2.1, .ro (.int .i64) v53 x26.2.2] G := H81
      refine WL_nil fun a ha => ?_
      refine nrm_block (nrm_seq (WP.app ?_ ha))
      refine WP_region ?_
      refine XL_q rfl (qt_add rfl rfl) rfl rfl ?_
      refine XL_q rfl (qt_move rfl) rfl rfl ?_
      refine WL_nil fun a ha => ?_
      obtain rfl := Option.some.inj hs21
      have H83 : Holds (([] : List Res).flatMap Res.own) w w80 [.sl 48 (.slice (.pair (.int .i64) (.int .i64))) v8 (List.set s14 (Int.toNat s13) x64)] G := ((((H82.cut 1).cut 1).cut 1).cut 1)
      exact ⟨rfl, ha.sub ⟨rfl, rfl, rfl, rfl, trivial⟩, H83⟩
    · have hs21 := if_f hc25 hs21
      refine WP_exit fun a ha => ?_
      obtain rfl := Option.some.inj hs21
      exact exit_seq (⟨exit_ne, rfl, ha.sub ⟨rfl, trivial⟩, H24⟩)
  · intro e a17 w84 hO85
    obtain ⟨p86, rfl⟩ : ∃ z, z = o15 := ⟨o15, rfl⟩
    obtain ⟨rfl, hO88⟩ := hO85
    obtain ⟨ha, H87⟩ := hO88
    refine exit_block_eq (nrm_seq (WP.app ?_ ha))
    refine WP_seq ?_
    refine WP_region ?_
    refine XL_q rfl (qt_move rfl) rfl rfl ?_
    refine XL_q rfl (qt_assign rfl) rfl rfl ?_
    refine WL_nil_seq ?_
    refine WP_ret fun a ha => ?_
    obtain rfl := Option.some.inj h
    exact ret1 rfl ha rfl ⟨v8, rfl, H87⟩
theorem w_impl_KitchenValid (w : World) (G : List Res) (vp0 : Value) (p0 : List (List (Int × Int))) (hp0 : Has G (.slice (.pair (.int .i64) (.int .i64))) vp0 p0) (r : Bool) (h : impl_KitchenValidS p0 = some r) (H : Ctx w G) : Calls Try.prog 63 #[vp0] w fun e w' => e = .returned (.bool r) ∧ Holds (([] : List Res).flatMap Res.own) w w' [] G := by
  have H : Holds (([] : List Res).flatMap Res.own) w w [] G := Holds.startN H
  refine calls_enter (args := [vp0]) (n := 18) Try.func63 rfl rfl rfl ?_
  unfold impl_KitchenValidS at h
  refine WP_seq ?_
  refine WP_region ?_
  refine XL_q rfl (qt_assign rfl) rfl rfl ?_
  refine WL_nil_seq ?_
  refine WP_seq ?_
  refine WP_seq ?_
  refine WP_region ?_
  refine XL_q rfl (qt_move rfl) rfl rfl ?_
  refine XL_lenH H.ctx (t := (.slice (.pair (.int .i64) (.int .i64)))) (hp0) u65 rfl rfl rfl ?_
  refine XL_q rfl (qt_gtr rfl rfl) rfl rfl ?_
  refine WL_nil_seq ?_
  refine WP_cond rfl (fun hc1 => ?_) (fun hc1 => ?_)
  · have h := if_t hc1 h
    refine WP_seq ?_
    refine WP_region ?_
    refine XL_q rfl (qt_assign rfl) rfl rfl ?_
    refine WL_nil_seq ?_
    refine WP_ret fun a ha => ?_
    obtain rfl := Option.some.inj h
    exact ret_seq (ret1 rfl ha rfl ⟨rfl, H⟩)
  · have h := if_f hc1 h
    refine WP_skip_seq ?_
    refine WP_seq ?_
    refine WP_seq ?_
    refine WP_region ?_
    refine XL_q rfl (qt_move rfl) rfl rfl ?_
    refine XL_lenH H.ctx (t := (.slice (.pair (.int .i64) (.int .i64)))) (hp0) u65 rfl rfl rfl ?_
    refine XL_q rfl (qt_move rfl) rfl rfl ?_
    refine WL_nil_seq ?_
    refine WP_block ?_
    obtain ⟨o3, ho4, h⟩ := bind_some h
    refine fun a5 ha6 => wp_loop_fix (I := fun s a w2 => match s with | s2 => (Fr a 18 [(8, vp0), (9, .int .i64 (List.length p0 : Int)), (10, .int .i64 s2)] ∧ Holds (([] : List Res).flatMap Res.own) w w2 [] G)) (O := fun o e a w2 => match o with | .inl _ => e = .exit 0 ∧ (Fr a 18 [] ∧ Holds (([] : List Res).flatMap Res.own) w w2 [] G) | .inr q0 => e = .ret ∧ (Fr a 18 [(2, .bool q0)] ∧ Holds (([] : List Res).flatMap Res.own) w w2 [] G)) ho4 ?_ ?_ ?_
    · exact ⟨ha6.sub ⟨rfl, rfl, rfl, trivial⟩, H⟩
    · clear ha6
      intro s o9 a w7 hs8 hI10
      obtain ⟨s2, rfl⟩ : ∃ z, z = s := ⟨s, rfl⟩
      obtain ⟨ha, H11⟩ := hI10
      refine WP.app ?_ ha
      clear ha
      refine WP_seq ?_
      refine WP_region ?_
      refine XL_q rfl (qt_lss rfl rfl) rfl rfl ?_
      refine WL_nil_seq ?_
      refine WP_seq ?_
      refine WP_cond rfl (fun hc12 => ?_) (fun hc12 => ?_)
      · have hs8 := if_t hc12 hs8
        refine WP_skip_seq ?_
        refine WP_seq ?_
        refine WP_block ?_
        refine WP_seq ?_
        refine WP_region ?_
        obtain ⟨x13, hx14, hs8⟩ := bind_some hs8
        refine XL_indexH H11.ctx (hp0) hx14 u65 i48 rfl rfl rfl rfl (fun b15 off16 cap17 hv18 => ?_)
        obtain ⟨F19, hat20, hdup21⟩ := H11.at (hp0) hx14 hv18
        refine XL_load (t := (.slice (.pair (.int .i64) (.int .i64)))) u48 rfl rfl hat20 rfl rfl rfl (fun v22 hr23 => ?_)
        have H24 : Holds (([] : List Res).flatMap Res.own) w w7 [.ro (.pair (.int .i64) (.int .i64)) v22 x13] G := hdup21 _ _ _ _ hr23 (fun _ h => h)
        refine XL_q rfl (qt_assign rfl) rfl rfl ?_
        refine WL_nil_seq ?_
        refine WP_seq ?_
        refine WP_still ?_
        refine XL_q rfl (qt_move rfl) rfl rfl ?_
        obtain ⟨x25, hx26, hs8⟩ := bind_some hs8
        refine QL_call rfl rfl c57 (fun w' hb => (w_impl_TicketValid w' ([.ro (.pair (.int .i64) (.int .i64)) v22 x13] ++ G) v22 x13 (HasRo.has (HasRo.hd)) x25 hx26 (H24.grow hb).ctx).mono fun e w'' hK => ⟨hK.1, hK.2.bel⟩) (by rfl) ?_
        refine XL_q rfl (qt_not rfl) rfl rfl ?_
        refine QL_nil fun a ha w27 hb28 => ?_
        have H29 : Holds (([] : List Res).flatMap Res.own) w w27 [.ro (.pair (.int .i64) (.int .i64)) v22 x13] G := H24.grow hb28
        refine nrm_seq (WP.app ?_ ha)
        refine WP_cond rfl (fun hc30 => ?_) (fun hc30 => ?_)
        · have hs8 := if_t hc30 hs8
          refine WP_seq ?_
          refine WP_region ?_
          refine XL_q rfl (qt_assign rfl) rfl rfl ?_
          refine WL_nil_seq ?_
          refine WP_ret fun a ha => ?_
          obtain rfl := Option.some.inj hs8
          have H31 : Holds (([] : List Res).flatMap Res.own) w w27 [] G := (H29.cut 0)
          exact ret_block (ret_seq (⟨ret_ne, rfl, ha.sub ⟨rfl, trivial⟩, H31⟩))
        · have hs8 := if_f hc30 hs8
          refine WP_skip fun a ha => ?_
          refine nrm_block (nrm_seq (WP.app ?_ ha))
          refine WP_region ?_
          refine XL_q rfl (qt_add rfl rfl) rfl rfl ?_
          refine XL_q rfl (qt_move rfl) rfl rfl ?_
          refine WL_nil fun a ha => ?_
          obtain rfl := Option.some.inj hs8
          have H32 : Holds (([] : List Res).flatMap Res.own) w w27 [] G := (H29.cut 0)
          exact ⟨rfl, ha.sub ⟨rfl, rfl, rfl, trivial⟩, H32⟩
      · have hs8 := if_f hc12 hs8
        refine WP_exit fun a ha => ?_
        obtain rfl := Option.some.inj hs8
        exact exit_seq (⟨exit_ne, rfl, ha.sub trivial, H11⟩)
    · intro e a5 w33 hO34
      rcases o3 with o3 | o3
      · skip
        obtain ⟨rfl, hO36⟩ := hO34
        obtain ⟨ha, H35⟩ := hO36
        refine exit_block_eq (nrm_seq (WP.app ?_ ha))
        refine WP_seq ?_
        refine WP_region ?_
        refine XL_q rfl (qt_assign rfl) rfl rfl ?_
        refine WL_nil_seq ?_
        refine WP_ret fun a ha => ?_
        obtain rfl := Option.some.inj h
        exact ret1 rfl ha rfl ⟨rfl, H35⟩
      · skip
        obtain ⟨p37, rfl⟩ : ∃ z, z = o3 := ⟨o3, rfl⟩
        obtain ⟨rfl, hO39⟩ := hO34
        obtain ⟨ha, H38⟩ := hO39
        obtain rfl := Option.some.inj h
        exact ret_block (ret_seq (ret1 rfl ha rfl ⟨rfl, H38⟩))
theorem w_impl_WorkLeft (w : World) (G : List Res) (vp0 : Value) (p0 : List (List (Int × Int))) (hp0 : Has G (.slice (.pair (.int .i64) (.int .i64))) vp0 p0) (r : Int) (h : impl_WorkLeftS p0 = some r) (H : Ctx w G) : Calls Try.prog 42 #[vp0] w fun e w' => e = .returned (.int .i64 r) ∧ Holds (([] : List Res).flatMap Res.own) w w' [] G := by
  have H : Holds (([] : List Res).flatMap Res.own) w w [] G := Holds.startN H
  refine calls_enter (args := [vp0]) (n := 34) Try.func42 rfl rfl rfl ?_
  unfold impl_WorkLeftS at h
  refine WP_seq ?_
  refine WP_region ?_
  refine XL_q rfl (qt_assign rfl) rfl rfl ?_
  refine WL_nil_seq ?_
  refine WP_seq ?_
  refine WP_seq ?_
  refine WP_still ?_
  refine XL_q rfl (qt_move rfl) rfl rfl ?_
  obtain ⟨x1, hx2, h⟩ := bind_some h
  refine QL_call rfl rfl c63 (fun w' hb => (w_impl_KitchenValid w' G vp0 p0 (hp0) x1 hx2 (H.grow hb).ctx).mono fun e w'' hK => ⟨hK.1, hK.2.bel⟩) (by rfl) ?_
  refine XL_q rfl (qt_not rfl) rfl rfl ?_
  refine QL_nil fun a ha w3 hb4 => ?_
  have H5 : Holds (([] : List Res).flatMap Res.own) w w3 [] G := H.grow hb4
  refine nrm_seq (WP.app ?_ ha)
  refine WP_cond rfl (fun hc6 => ?_) (fun hc6 => ?_)
  · have h := if_t hc6 h
    refine WP_seq ?_
    refine WP_region ?_
    refine XL_q rfl (qt_assign rfl) rfl rfl ?_
    refine WL_nil_seq ?_
    refine WP_ret fun a ha => ?_
    obtain rfl := Option.some.inj h
    exact ret_seq (ret1 rfl ha rfl ⟨rfl, H5⟩)
  · have h := if_f hc6 h
    refine WP_skip_seq ?_
    refine WP_seq ?_
    refine WP_region ?_
    refine XL_q rfl (qt_assign rfl) rfl rfl ?_
    refine WL_nil_seq ?_
    refine WP_seq ?_
    refine WP_seq ?_
    refine WP_region ?_
    refine XL_q rfl (qt_move rfl) rfl rfl ?_
    refine XL_lenH H5.ctx (t := (.slice (.pair (.int .i64) (.int .i64)))) (hp0) u65 rfl rfl rfl ?_
    refine XL_q rfl (qt_move rfl) rfl rfl ?_
    refine WL_nil_seq ?_
    refine WP_block ?_
    obtain ⟨o9, ho10, h⟩ := bind_some h
    refine fun a11 ha12 => wp_loop_fix (I := fun s a w2 => match s with | (s7, s8) => (Fr a 34 [(3, .int .i64 s7), (11, vp0), (12, .int .i64 (List.length p0 : Int)), (13, .int .i64 s8)] ∧ Holds (([] : List Res).flatMap Res.own) w w2 [] G)) (O := fun o e a w2 => match o with | q0 => e = .exit 0 ∧ (Fr a 34 [(3, .int .i64 q0)] ∧ Holds (([] : List Res).flatMap Res.own) w w2 [] G)) ho10 ?_ ?_ ?_
    · exact ⟨ha12.sub ⟨rfl, rfl, rfl, rfl, trivial⟩, H5⟩
    · clear ha12
      intro s o15 a w13 hs14 hI16
      obtain ⟨s7, s8⟩ := s
      obtain ⟨ha, H17⟩ := hI16
      refine WP.app ?_ ha
      clear ha
      refine WP_seq ?_
      refine WP_region ?_
      refine XL_q rfl (qt_lss rfl rfl) rfl rfl ?_
      refine WL_nil_seq ?_
      refine WP_seq ?_
      refine WP_cond rfl (fun hc18 => ?_) (fun hc18 => ?_)
      · have hs14 := if_t hc18 hs14
        refine WP_skip_seq ?_
        refine WP_seq ?_
        refine WP_block ?_
        refine WP_seq ?_
        refine WP_region ?_
        obtain ⟨x19, hx20, hs14⟩ := bind_some hs14
        refine XL_indexH H17.ctx (hp0) hx20 u65 i48 rfl rfl rfl rfl (fun b21 off22 cap23 hv24 => ?_)
        obtain ⟨F25, hat26, hdup27⟩ := H17.at (hp0) hx20 hv24
        refine XL_load (t := (.slice (.pair (.int .i64) (.int .i64)))) u48 rfl rfl hat26 rfl rfl rfl (fun v28 hr29 => ?_)
        have H30 : Holds (([] : List Res).flatMap Res.own) w w13 [.ro (.pair (.int .i64) (.int .i64)) v28 x19] G := hdup27 _ _ _ _ hr29 (fun _ h => h)
        refine XL_q rfl (qt_assign rfl) rfl rfl ?_
        refine WL_nil_seq ?_
        refine WP_seq ?_
        refine WP_region ?_
        refine XL_q rfl (qt_move rfl) rfl rfl ?_
        refine XL_lenH H30.ctx (t := (.pair (.int .i64) (.int .i64))) (HasRo.has (HasRo.hd)) u48 rfl rfl rfl ?_
        refine XL_q rfl (qt_move rfl) rfl rfl ?_
        refine WL_nil_seq ?_
        refine WP_block ?_
        obtain ⟨o33, ho34, hs14⟩ := bind_some hs14
        refine fun a35 ha36 => wp_loop_fix (I := fun s a w2 => match s with | (s31, s32) => (Fr a 34 [(3, .int .i64 s31), (11, vp0), (12, .int .i64 (List.length p0 : Int)), (13, .int .i64 s8), (17, v28), (18, .int .i64 (List.length x19 : Int)), (19, .int .i64 s32)] ∧ Holds (([] : List Res).flatMap Res.own) w w2 [.ro (.pair (.int .i64) (.int .i64)) v28 x19] G)) (O := fun o e a w2 => match o with | q0 => e = .exit 2 ∧ (Fr a 34 [(3, .int .i64 q0), (11, vp0), (12, .int .i64 (List.length p0 : Int)), (13, .int .i64 s8)] ∧ Holds (([] : List Res).flatMap Res.own) w w2 [] G)) ho34 ?_ ?_ ?_
        · exact ⟨ha36.sub ⟨rfl, rfl, rfl, rfl, rfl, rfl, rfl, trivial⟩, H30⟩
        · clear ha36
          intro s o39 a w37 hs38 hI40
          obtain ⟨s31, s32⟩ := s
          obtain ⟨ha, H41⟩ := hI40
          refine WP.app ?_ ha
          clear ha
          refine WP_seq ?_
          refine WP_region ?_
          refine XL_q rfl (qt_lss rfl rfl) rfl rfl ?_
          refine WL_nil_seq ?_
          refine WP_seq ?_
          refine WP_cond rfl (fun hc42 => ?_) (fun hc42 => ?_)
          · have hs38 := if_t hc42 hs38
            refine WP_skip_seq ?_
            refine WP_seq ?_
            refine WP_block ?_
            refine WP_seq ?_
            refine WP_region ?_
            obtain ⟨x43, hx44, hs38⟩ := bind_some hs38
            refine XL_indexH H41.ctx (HasRo.has (HasRo.hd)) hx44 u48 i63 rfl rfl rfl rfl (fun b45 off46 cap47 hv48 => ?_)
            obtain ⟨F49, hat50, hdup51⟩ := H41.atN (HasRo.has (HasRo.hd)) hx44 hv48
            refine XL_load_agg (t := (.pair (.int .i64) (.int .i64))) us63 uo63 i63 hat50 rfl rfl rfl (fun cs52 hr53 => ?_)
            obtain ⟨c54, c55, F56, F57, rfl, eF60, hr58, hr59⟩ := hr53
            obtain ⟨rfl, _⟩ := hr58
            obtain ⟨rfl, _⟩ := hr59
            change XL _ _ _ _ _ ((22, .agg #[.int .i64 x43.1, .int .i64 x43.2]) :: _) _
            refine WL_alloc (cs := [.int .i64 0, .int .i64 0]) H41 z63 rfl rfl rfl (fun b61 w62 H63 => ?_)
            have H64 : Holds (([] : List Res).flatMap Res.own) w w62 [.bx b61 63 [.int .i64 0, .int .i64 0], .ro (.pair (.int .i64) (.int .i64)) v28 x19] G := H63
            refine WL_store_bxA (cs' := [.int .i64 x43.1, .int .i64 x43.2]) H64 rfl il63 rfl rfl rfl rfl rfl (fun w65 H66 => ?_)
            have H67 : Holds (([] : List Res).flatMap Res.own) w w65 [.bx b61 63 [.int .i64 x43.1, .int .i64 x43.2], .ro (.pair (.int .i64) (.int .i64)) v28 x19] G := H66
            refine WL_nil_seq ?_
            refine WP_seq ?_
            refine WP_still ?_
            have hB68 : Bx w65 b61 63 [.int .i64 x43.1, .int .i64 x43.2] := Holds.bx (H67.pull 0)
            refine XL_load_bxA (cs := [.int .i64 x43.1, .int .i64 x43.2]) us63 uo63 il63 hB68 rfl rfl rfl ?_
            change XL _ _ _ _ _ ((23, .agg #[.int .i64 x43.1, .int .i64 x43.2]) :: _) _
            obtain ⟨x69, hx70, hs38⟩ := bind_some hs38
            refine QL_call rfl rfl c64 (fun w' hb => (w_impl_finished w' ([.bx b61 63 [.int .i64 x43.1, .int .i64 x43.2], .ro (.pair (.int .i64) (.int .i64)) v28 x19] ++ G) x43.1 x43.2 x69 hx70 (H67.grow hb).ctx).mono fun e w'' hK => ⟨hK.1, hK.2.bel⟩) (by rfl) ?_
            refine XL_q rfl (qt_not rfl) rfl rfl ?_
            refine QL_nil fun a ha w71 hb72 => ?_
            have H73 : Holds (([] : List Res).flatMap Res.own) w w71 [.bx b61 63 [.int .i64 x43.1, .int .i64 x43.2], .ro (.pair (.int .i64) (.int .i64)) v28 x19] G := H67.grow hb72
            refine nrm_seq (WP.app ?_ ha)
            refine WP_cond rfl (fun hc74 => ?_) (fun hc74 => ?_)
            · have hs38 := if_t hc74 hs38
              refine WP_region ?_
              refine XL_q rfl (qt_move rfl) rfl rfl ?_
              refine XL_q rfl (qt_fieldAddr uf63 fi63_1 nz3 rfl) rfl rfl ?_
              have hB75 : Bx w71 b61 63 [.int .i64 x43.1, .int .i64 x43.2] := Holds.bx (H73.pull 0)
              refine XL_load_bx u3 rfl hB75 rfl rfl rfl rfl ?_
              refine XL_q rfl (qt_sub rfl rfl) rfl rfl ?_
              refine XL_q rfl (qt_add rfl rfl) rfl rfl ?_
              refine XL_q rfl (qt_assign rfl) rfl rfl ?_
              refine WL_nil fun a ha => ?_
              refine nrm_block (nrm_seq (WP.app ?_ ha))
              refine WP_region ?_
              refine XL_q rfl (qt_add rfl rfl) rfl rfl ?_
              refine XL_q rfl (qt_move rfl) rfl rfl ?_
              refine WL_nil fun a ha => ?_
              obtain rfl := Option.some.inj hs38
              have H76 : Holds (([] : List Res).flatMap Res.own) w w71 [.ro (.pair (.int .i64) (.int .i64)) v28 x19] G := (H73.cut 0)
              exact ⟨rfl, ha.sub ⟨rfl, rfl, rfl, rfl, rfl, rfl, rfl, trivial⟩, H76⟩
            · have hs38 := if_f hc74 hs38
              refine WP_skip fun a ha => ?_
              refine nrm_block (nrm_seq (WP.app ?_ ha))
              refine WP_region ?_
              refine XL_q rfl (qt_add rfl rfl) rfl rfl ?_
              refine XL_q rfl (qt_move rfl) rfl rfl ?_
              refine WL_nil fun a ha => ?_
              obtain rfl := Option.some.inj hs38
              have H77 : Holds (([] : List Res).flatMap Res.own) w w71 [.ro (.pair (.int .i64) (.int .i64)) v28 x19] G := (H73.cut 0)
              exact ⟨rfl, ha.sub ⟨rfl, rfl, rfl, rfl, rfl, rfl, rfl, trivial⟩, H77⟩
          · have hs38 := if_f hc42 hs38
            refine WP_exit fun a ha => ?_
            obtain rfl := Option.some.inj hs38
            have H78 : Holds (([] : List Res).flatMap Res.own) w w37 [] G := (H41.cut 0)
            exact exit_seq (⟨exit_ne, rfl, ha.sub ⟨rfl, rfl, rfl, rfl, trivial⟩, H78⟩)
        · intro e a35 w79 hO80
          obtain ⟨p81, rfl⟩ : ∃ z, z = o33 := ⟨o33, rfl⟩
          obtain ⟨rfl, hO83⟩ := hO80
          obtain ⟨ha, H82⟩ := hO83
          refine exit_block_eq (nrm_block (nrm_seq (WP.app ?_ ha)))
          refine WP_region ?_
          refine XL_q rfl (qt_add rfl rfl) rfl rfl ?_
          refine XL_q rfl (qt_move rfl) rfl rfl ?_
          refine WL_nil fun a ha => ?_
          obtain rfl := Option.some.inj hs14
          exact ⟨rfl, ha.sub ⟨rfl, rfl, rfl, rfl, trivial⟩, H82⟩
      · have hs14 := if_f hc18 hs14
        refine WP_exit fun a ha => ?_
        obtain rfl := Option.some.inj hs14
        exact exit_seq (⟨exit_ne, rfl, ha.sub ⟨rfl, trivial⟩, H17⟩)
    · intro e a11 w84 hO85
      obtain ⟨p86, rfl⟩ : ∃ z, z = o9 := ⟨o9, rfl⟩
      obtain ⟨rfl, hO88⟩ := hO85
      obtain ⟨ha, H87⟩ := hO88
      refine exit_block_eq (nrm_seq (WP.app ?_ ha))
      refine WP_seq ?_
      refine WP_region ?_
      refine XL_q rfl (qt_move rfl) rfl rfl ?_
      refine XL_q rfl (qt_assign rfl) rfl rfl ?_
      refine WL_nil_seq ?_
      refine WP_ret fun a ha => ?_
      obtain rfl := Option.some.inj h
      exact ret1 rfl ha rfl ⟨rfl, H87⟩
theorem w_impl_EndDeeds (w : World) (G : List Res) (vp0_0 : Value) (p0_0 : List (Int × (List (Int × Int)) × Int)) (hp0_0 : Has G (.pair (.int .i64) (.pair (.slice (.pair (.int .i64) (.int .i64))) (.int .i64))) vp0_0 p0_0) (vp0_1 : Value) (p0_1 : List Int) (hp0_1 : Has G (.int .i64) vp0_1 p0_1) (vp0_2 : Value) (p0_2 : List Int) (hp0_2 : Has G (.int .i64) vp0_2 p0_2) (p0_3 : Int) (vp0_4 : Value) (p0_4 : List (Int × (List (Int × Int)) × (List Int))) (hp0_4 : Has G (.pair (.int .i64) (.pair (.slice (.pair (.int .i64) (.int .i64))) (.slice (.int .i64)))) vp0_4 p0_4) (r : (List (Int × Int × Int × Int))) (h : impl_EndDeedsS p0_0 p0_1 p0_2 p0_3 p0_4 = some r) (H : Ctx w G) : Calls Try.prog 17 #[.agg #[vp0_0, vp0_1, vp0_2, .int .i64 p0_3, vp0_4]] w fun e w' => ∃ (v1 : Value), e = .returned (v1) ∧ Holds (([] : List Res).flatMap Res.own) w w' [.sl 68 (.pair (.int .i64) (.pair (.int .i64) (.pair (.int .i64) (.int .i64)))) v1 r] G := by
  have H : Holds (([] : List Res).flatMap Res.own) w w [] G := Holds.startN H
  refine calls_enter (args := [.agg #[vp0_0, vp0_1, vp0_2, .int .i64 p0_3, vp0_4]]) (n := 28) Try.func17 rfl rfl rfl ?_
  unfold impl_EndDeedsS at h
  refine WP_seq ?_
  refine WP_region ?_
  refine WL_box (cs := [vp0_0, vp0_1, vp0_2, .int .i64 p0_3, vp0_4]) H rfl rfl rfl rfl (fun b1 w2 H3 => ?_)
  have H4 : Holds (([] : List Res).flatMap Res.own) w w2 [.bx b1 32 [vp0_0, vp0_1, vp0_2, .int .i64 p0_3, vp0_4]] G := H3
  refine XL_q rfl (qt_assign rfl) rfl rfl ?_
  refine WL_nil_seq ?_
  refine WP_seq ?_
  refine WP_seq ?_
  refine WP_still ?_
  have hB5 : Bx w2 b1 32 [vp0_0, vp0_1, vp0_2, .int .i64 p0_3, vp0_4] := Holds.bx (H4.pull 0)
  refine XL_load_bxA (cs := [vp0_0, vp0_1, vp0_2, .int .i64 p0_3, vp0_4]) us32 uo32 il32 hB5 rfl rfl rfl ?_
  change XL _ _ _ _ _ ((4, .agg #[vp0_0, vp0_1, vp0_2, .int .i64 p0_3, vp0_4]) :: _) _
  obtain ⟨x6, hx7, h⟩ := bind_some h
  refine QL_call rfl rfl c10 (fun w' hb => (w_impl_HouseValid w' ([.bx b1 32 [vp0_0, vp0_1, vp0_2, .int .i64 p0_3, vp0_4]] ++ G) vp0_0 p0_0 (hp0_0.c) vp0_1 p0_1 (hp0_1.c) vp0_2 p0_2 (hp0_2.c) p0_3 vp0_4 p0_4 (hp0_4.c) x6 hx7 (H4.grow hb).ctx).mono fun e w'' hK => ⟨hK.1, hK.2.bel⟩) (by rfl) ?_
  refine XL_q rfl (qt_not rfl) rfl rfl ?_
  refine QL_nil fun a ha w8 hb9 => ?_
  have H10 : Holds (([] : List Res).flatMap Res.own) w w8 [.bx b1 32 [vp0_0, vp0_1, vp0_2, .int .i64 p0_3, vp0_4]] G := H4.grow hb9
  refine nrm_seq (WP.app ?_ ha)
  refine WP_cond rfl (fun hc11 => ?_) (fun hc11 => ?_)
  · have h := if_t hc11 h
    refine WP_seq ?_
    refine WP_region ?_
    refine XL_q rfl (qt_assign rfl) rfl rfl ?_
    refine WL_nil_seq ?_
    refine WP_ret fun a ha => ?_
    obtain rfl := Option.some.inj h
    have H12 : Holds (([] : List Res).flatMap Res.own) w w8 [.sl 68 (.pair (.int .i64) (.pair (.int .i64) (.pair (.int .i64) (.int .i64)))) (.slice none 0 0) ([]), .bx b1 32 [vp0_0, vp0_1, vp0_2, .int .i64 p0_3, vp0_4]] G := H10.nilSl
    have H13 : Holds (([] : List Res).flatMap Res.own) w w8 [.sl 68 (.pair (.int .i64) (.pair (.int .i64) (.pair (.int .i64) (.int .i64)))) (.slice none 0 0) ([])] G := (H12.cut 1)
    exact ret_seq (ret1 rfl ha rfl ⟨(.slice none 0 0), rfl, H13⟩)
  · have h := if_f hc11 h
    refine WP_skip_seq ?_
    refine WP_seq ?_
    refine WP_region ?_
    refine XL_q rfl (qt_assign rfl) rfl rfl ?_
    refine WL_nil_seq ?_
    refine WP_seq ?_
    refine WP_seq ?_
    refine WP_region ?_
    have hB14 : Bx w8 b1 32 [vp0_0, vp0_1, vp0_2, .int .i64 p0_3, vp0_4] := Holds.bx (H10.pull 0)
    refine XL_load_bxA (cs := [vp0_0, vp0_1, vp0_2, .int .i64 p0_3, vp0_4]) us32 uo32 il32 hB14 rfl rfl rfl ?_
    change XL _ _ _ _ _ ((7, .agg #[vp0_0, vp0_1, vp0_2, .int .i64 p0_3, vp0_4]) :: _) _
    obtain ⟨x15, hx16, h⟩ := bind_some h
    refine WL_call rfl rfl c43 (w_impl_kitchenOf w8 ([.bx b1 32 [vp0_0, vp0_1, vp0_2, .int .i64 p0_3, vp0_4]] ++ G) vp0_0 p0_0 (hp0_0.c) vp0_1 p0_1 (hp0_1.c) vp0_2 p0_2 (hp0_2.c) p0_3 vp0_4 p0_4 (hp0_4.c) x15 hx16 H10.ctx) (by rfl) ?_
    rintro _ w17 ⟨v19, rfl, H18⟩; refine ⟨_, rfl, ?_⟩
    have H20 : Holds (([] : List Res).flatMap Res.own) w w17 [.sl 48 (.slice (.pair (.int .i64) (.int .i64))) v19 x15, .bx b1 32 [vp0_0, vp0_1, vp0_2, .int .i64 p0_3, vp0_4]] G := H10.calledN (Rs := []) H18
    obtain ⟨x21, hx22, h⟩ := bind_some h
    refine WL_call rfl rfl c42 (w_impl_WorkLeft w17 ([.sl 48 (.slice (.pair (.int .i64) (.int .i64))) v19 x15, .bx b1 32 [vp0_0, vp0_1, vp0_2, .int .i64 p0_3, vp0_4]] ++ G) v19 x15 (Has.hd) x21 hx22 H20.ctx) (by rfl) ?_
    rintro _ w23 ⟨rfl, H24⟩; refine ⟨_, rfl, ?_⟩
    have H25 : Holds (([] : List Res).flatMap Res.own) w w23 [.sl 48 (.slice (.pair (.int .i64) (.int .i64))) v19 x15, .bx b1 32 [vp0_0, vp0_1, vp0_2, .int .i64 p0_3, vp0_4]] G := H20.calledN (Rs := []) H24
    refine XL_q rfl (qt_move rfl) rfl rfl ?_
    refine WL_nil_seq ?_
    refine WP_block ?_
    have H28 : Holds (([] : List Res).flatMap Res.own) w w23 [.sl 68 (.pair (.int .i64) (.pair (.int .i64) (.pair (.int .i64) (.int .i64)))) (.slice none 0 0) ([]), .sl 48 (.slice (.pair (.int .i64) (.int .i64))) v19 x15, .bx b1 32 [vp0_0, vp0_1, vp0_2, .int .i64 p0_3, vp0_4]] G := H25.nilSl
    obtain ⟨o29, ho30, h⟩ := bind_some h
    have H33 : Holds (([] : List Res).flatMap Res.own) w w23 [.bx b1 32 [vp0_0, vp0_1, vp0_2, .int .i64 p0_3, vp0_4], .sl 68 (.pair (.int .i64) (.pair (.int .i64) (.pair (.int .i64) (.int .i64)))) (.slice none 0 0) ([])] G := ((H28.cut 1).pull 1)
    refine fun a31 ha32 => wp_loop_fix (I := fun s a w2 => match s with | (s26, s27) => ∃ vs26, Fr a 28 [(1, .pointer (some ⟨b1, 0, none⟩)), (3, vs26), (9, .int .i64 x21), (10, .int .i64 s27)] ∧ Holds (([] : List Res).flatMap Res.own) w w2 [.bx b1 32 [vp0_0, vp0_1, vp0_2, .int .i64 p0_3, vp0_4], .sl 68 (.pair (.int .i64) (.pair (.int .i64) (.pair (.int .i64) (.int .i64)))) vs26 s26] G) (O := fun o e a w2 => match o with | q0 => e = .exit 0 ∧ ∃ vq0, Fr a 28 [(1, .pointer (some ⟨b1, 0, none⟩)), (3, vq0)] ∧ Holds (([] : List Res).flatMap Res.own) w w2 [.bx b1 32 [vp0_0, vp0_1, vp0_2, .int .i64 p0_3, vp0_4], .sl 68 (.pair (.int .i64) (.pair (.int .i64) (.pair (.int .i64) (.int .i64)))) vq0 q0] G) ho30 ?_ ?_ ?_
    · exact ⟨(.slice none 0 0), ha32.sub ⟨rfl, rfl, rfl, rfl, trivial⟩, H33⟩
    · clear ha32
      intro s o36 a w34 hs35 hI37
      obtain ⟨s26, s27⟩ := s
      obtain ⟨vs26, ha, H38⟩ := hI37
      refine WP.app ?_ ha
      clear ha
      refine WP_seq ?_
      refine WP_region ?_
      refine XL_q rfl (qt_lss rfl rfl) rfl rfl ?_
      refine WL_nil_seq ?_
      refine WP_seq ?_
      refine WP_cond rfl (fun hc39 => ?_) (fun hc39 => ?_)
      · have hs35 := if_t hc39 hs35
        refine WP_skip_seq ?_
        refine WP_seq ?_
        refine WP_block ?_
        refine WP_region ?_
        refine XL_q rfl (qt_move rfl) rfl rfl ?_
        refine XL_q rfl (qt_build (args := [(0, .const (.int .i64 4))]) (css := [#[.int .i64 4]]) (cells := #[.int .i64 4, .int .i64 0, .int .i64 0, .int .i64 0]) rfl ⟨rfl, trivial⟩ (by kernel_rfl)) rfl rfl ?_
        refine WL_buildH (t := (.pair (.int .i64) (.pair (.int .i64) (.pair (.int .i64) (.int .i64))))) (args := [.tmp 13]) (xs := ([(4, 0, 0, 0)] : List (Int × Int × Int × Int))) H38 (BltL.cons (Blt.pair (Blt.int) (Blt.pair (Blt.int) (Blt.pair (Blt.int) (Blt.int)))) rfl (BltL.nil)) u39 j68 rfl rfl rfl rfl rfl rfl (fun v40 w41 H42 => ?_)
        have H43 : Holds (([] : List Res).flatMap Res.own) w w41 [.sl 68 (.pair (.int .i64) (.pair (.int .i64) (.pair (.int .i64) (.int .i64)))) v40 ([(4, 0, 0, 0)]), .bx b1 32 [vp0_0, vp0_1, vp0_2, .int .i64 p0_3, vp0_4], .sl 68 (.pair (.int .i64) (.pair (.int .i64) (.pair (.int .i64) (.int .i64)))) vs26 s26] G := H42
        have H44 : Holds (([] : List Res).flatMap Res.own) w w41 [.sl 68 (.pair (.int .i64) (.pair (.int .i64) (.pair (.int .i64) (.int .i64)))) vs26 s26, .sl 68 (.pair (.int .i64) (.pair (.int .i64) (.pair (.int .i64) (.int .i64)))) v40 ([(4, 0, 0, 0)]), .bx b1 32 [vp0_0, vp0_1, vp0_2, .int .i64 p0_3, vp0_4]] G := H43.pull 2
        obtain ⟨x45, hx46, hs35⟩ := bind_some hs35
        refine WL_appendH H44 (Has.c (Has.hd)) hx46 u39 j68 rfl rfl rfl rfl rfl rfl (fun v47 w48 H49 => ?_)
        have H50 : Holds (([] : List Res).flatMap Res.own) w w48 [.sl 68 (.pair (.int .i64) (.pair (.int .i64) (.pair (.int .i64) (.int .i64)))) v47 x45, .sl 68 (.pair (.int .i64) (.pair (.int .i64) (.pair (.int .i64) (.int .i64)))) v40 ([(4, 0, 0, 0)]), .bx b1 32 [vp0_0, vp0_1, vp0_2, .int .i64 p0_3, vp0_4]] G := H49
        refine XL_q rfl (qt_assign rfl) rfl rfl ?_
        refine WL_nil fun a ha => ?_
        refine nrm_block (nrm_seq (WP.app ?_ ha))
        refine WP_region ?_
        refine XL_q rfl (qt_add rfl rfl) rfl rfl ?_
        refine XL_q rfl (qt_move rfl) rfl rfl ?_
        refine WL_nil fun a ha => ?_
        obtain rfl := Option.some.inj hs35
        have H51 : Holds (([] : List Res).flatMap Res.own) w w48 [.bx b1 32 [vp0_0, vp0_1, vp0_2, .int .i64 p0_3, vp0_4], .sl 68 (.pair (.int .i64) (.pair (.int .i64) (.pair (.int .i64) (.int .i64)))) v47 x45] G := ((H50.cut 1).pull 1)
        exact ⟨rfl, v47, ha.sub ⟨rfl, rfl, rfl, rfl, trivial⟩, H51⟩
      · have hs35 := if_f hc39 hs35
        refine WP_exit fun a ha => ?_
        obtain rfl := Option.some.inj hs35
        have H52 : Holds (([] : List Res).flatMap Res.own) w w34 [.bx b1 32 [vp0_0, vp0_1, vp0_2, .int .i64 p0_3, vp0_4], .sl 68 (.pair (.int .i64) (.pair (.int .i64) (.pair (.int .i64) (.int .i64)))) vs26 s26] G := ((H38.pull 1).pull 1)
        exact exit_seq (⟨exit_ne, rfl, vs26, ha.sub ⟨rfl, rfl, trivial⟩, H52⟩)
    · intro e a31 w53 hO54
      obtain ⟨p55, rfl⟩ : ∃ z, z = o29 := ⟨o29, rfl⟩
      obtain ⟨rfl, hO57⟩ := hO54
      obtain ⟨vp55, ha, H56⟩ := hO57
      refine exit_block_eq (nrm_seq (WP.app ?_ ha))
      refine WP_seq ?_
      refine WP_seq ?_
      refine WP_region ?_
      refine XL_q rfl (qt_fieldAddr uf32 fi32_4 nz30 rfl) rfl rfl ?_
      have hB58 : Bx w53 b1 32 [vp0_0, vp0_1, vp0_2, .int .i64 p0_3, vp0_4] := Holds.bx (H56.pull 0)
      refine XL_load_bx u30 rfl hB58 rfl rfl rfl rfl ?_
      refine XL_lenH H56.ctx (t := (.pair (.int .i64) (.pair (.slice (.pair (.int .i64) (.int .i64))) (.slice (.int .i64))))) (hp0_4.c.c) u30 rfl rfl rfl ?_
      refine XL_q rfl (qt_move rfl) rfl rfl ?_
      refine WL_nil_seq ?_
      refine WP_block ?_
      obtain ⟨o61, ho62, h⟩ := bind_some h
      have H65 : Holds (([] : List Res).flatMap Res.own) w w53 [.sl 68 (.pair (.int .i64) (.pair (.int .i64) (.pair (.int .i64) (.int .i64)))) vp55 p55] G := (H56.cut 0)
      refine fun a63 ha64 => wp_loop_fix (I := fun s a w2 => match s with | (s59, s60) => ∃ vs59, Fr a 28 [(3, vs59), (19, .int .i64 (List.length p0_4 : Int)), (20, .int .i64 s60)] ∧ Holds (([] : List Res).flatMap Res.own) w w2 [.sl 68 (.pair (.int .i64) (.pair (.int .i64) (.pair (.int .i64) (.int .i64)))) vs59 s59] G) (O := fun o e a w2 => match o with | q0 => e = .exit 2 ∧ ∃ vq0, Fr a 28 [(3, vq0)] ∧ Holds (([] : List Res).flatMap Res.own) w w2 [.sl 68 (.pair (.int .i64) (.pair (.int .i64) (.pair (.int .i64) (.int .i64)))) vq0 q0] G) ho62 ?_ ?_ ?_
      · exact ⟨vp55, ha64.sub ⟨rfl, rfl, rfl, trivial⟩, H65⟩
      · clear ha64
        intro s o68 a w66 hs67 hI69
        obtain ⟨s59, s60⟩ := s
        obtain ⟨vs59, ha, H70⟩ := hI69
        refine WP.app ?_ ha
        clear ha
        refine WP_seq ?_
        refine WP_region ?_
        refine XL_q rfl (qt_lss rfl rfl) rfl rfl ?_
        refine WL_nil_seq ?_
        refine WP_seq ?_
        refine WP_cond rfl (fun hc71 => ?_) (fun hc71 => ?_)
        · have hs67 := if_t hc71 hs67
          refine WP_skip_seq ?_
          refine WP_seq ?_
          refine WP_block ?_
          refine WP_region ?_
          refine XL_q rfl (qt_move rfl) rfl rfl ?_
          refine XL_q rfl (qt_build (args := [(0, .const (.int .i64 5))]) (css := [#[.int .i64 5]]) (cells := #[.int .i64 5, .int .i64 0, .int .i64 0, .int .i64 0]) rfl ⟨rfl, trivial⟩ (by kernel_rfl)) rfl rfl ?_
          refine WL_buildH (t := (.pair (.int .i64) (.pair (.int .i64) (.pair (.int .i64) (.int .i64))))) (args := [.tmp 23]) (xs := ([(5, 0, 0, 0)] : List (Int × Int × Int × Int))) H70 (BltL.cons (Blt.pair (Blt.int) (Blt.pair (Blt.int) (Blt.pair (Blt.int) (Blt.int)))) rfl (BltL.nil)) u39 j68 rfl rfl rfl rfl rfl rfl (fun v72 w73 H74 => ?_)
          have H75 : Holds (([] : List Res).flatMap Res.own) w w73 [.sl 68 (.pair (.int .i64) (.pair (.int .i64) (.pair (.int .i64) (.int .i64)))) v72 ([(5, 0, 0, 0)]), .sl 68 (.pair (.int .i64) (.pair (.int .i64) (.pair (.int .i64) (.int .i64)))) vs59 s59] G := H74
          have H76 : Holds (([] : List Res).flatMap Res.own) w w73 [.sl 68 (.pair (.int .i64) (.pair (.int .i64) (.pair (.int .i64) (.int .i64)))) vs59 s59, .sl 68 (.pair (.int .i64) (.pair (.int .i64) (.pair (.int .i64) (.int .i64)))) v72 ([(5, 0, 0, 0)])] G := H75.pull 1
          obtain ⟨x77, hx78, hs67⟩ := bind_some hs67
          refine WL_appendH H76 (Has.c (Has.hd)) hx78 u39 j68 rfl rfl rfl rfl rfl rfl (fun v79 w80 H81 => ?_)
          have H82 : Holds (([] : List Res).flatMap Res.own) w w80 [.sl 68 (.pair (.int .i64) (.pair (.int .i64) (.pair (.int .i64) (.int .i64)))) v79 x77, .sl 68 (.pair (.int .i64) (.pair (.int .i64) (.pair (.int .i64) (.int .i64)))) v72 ([(5, 0, 0, 0)])] G := H81
          refine XL_q rfl (qt_assign rfl) rfl rfl ?_
          refine WL_nil fun a ha => ?_
          refine nrm_block (nrm_seq (WP.app ?_ ha))
          refine WP_region ?_
          refine XL_q rfl (qt_add rfl rfl) rfl rfl ?_
          refine XL_q rfl (qt_move rfl) rfl rfl ?_
          refine WL_nil fun a ha => ?_
          obtain rfl := Option.some.inj hs67
          have H83 : Holds (([] : List Res).flatMap Res.own) w w80 [.sl 68 (.pair (.int .i64) (.pair (.int .i64) (.pair (.int .i64) (.int .i64)))) v79 x77] G := (H82.cut 1)
          exact ⟨rfl, v79, ha.sub ⟨rfl, rfl, rfl, trivial⟩, H83⟩
        · have hs67 := if_f hc71 hs67
          refine WP_exit fun a ha => ?_
          obtain rfl := Option.some.inj hs67
          exact exit_seq (⟨exit_ne, rfl, vs59, ha.sub ⟨rfl, trivial⟩, H70⟩)
      · intro e a63 w84 hO85
        obtain ⟨p86, rfl⟩ : ∃ z, z = o61 := ⟨o61, rfl⟩
        obtain ⟨rfl, hO88⟩ := hO85
        obtain ⟨vp86, ha, H87⟩ := hO88
        refine exit_block_eq (nrm_seq (WP.app ?_ ha))
        refine WP_seq ?_
        refine WP_region ?_
        refine XL_q rfl (qt_move rfl) rfl rfl ?_
        refine XL_q rfl (qt_assign rfl) rfl rfl ?_
        refine WL_nil_seq ?_
        refine WP_ret fun a ha => ?_
        obtain rfl := Option.some.inj h
        exact ret1 rfl ha rfl ⟨vp86, rfl, H87⟩
theorem w_laws_eqHouseDeed (w : World) (G : List Res) (p0_0 : Int) (p0_1 : Int) (p0_2 : Int) (p0_3 : Int) (p1_0 : Int) (p1_1 : Int) (p1_2 : Int) (p1_3 : Int) (r : Bool) (h : laws_eqHouseDeedS p0_0 p0_1 p0_2 p0_3 p1_0 p1_1 p1_2 p1_3 = some r) (H : Ctx w G) : Calls Try.prog 44 #[.agg #[.int .i64 p0_0, .int .i64 p0_1, .int .i64 p0_2, .int .i64 p0_3], .agg #[.int .i64 p1_0, .int .i64 p1_1, .int .i64 p1_2, .int .i64 p1_3]] w fun e w' => e = .returned (.bool r) ∧ Holds (([] : List Res).flatMap Res.own) w w' [] G := by
  have H : Holds (([] : List Res).flatMap Res.own) w w [] G := Holds.startN H
  refine calls_enter (args := [.agg #[.int .i64 p0_0, .int .i64 p0_1, .int .i64 p0_2, .int .i64 p0_3], .agg #[.int .i64 p1_0, .int .i64 p1_1, .int .i64 p1_2, .int .i64 p1_3]]) (n := 25) Try.func44 rfl rfl rfl ?_
  unfold laws_eqHouseDeedS at h
  refine WP_seq ?_
  refine WP_region ?_
  refine WL_box (cs := [.int .i64 p0_0, .int .i64 p0_1, .int .i64 p0_2, .int .i64 p0_3]) H rfl rfl rfl rfl (fun b1 w2 H3 => ?_)
  have H4 : Holds (([] : List Res).flatMap Res.own) w w2 [.bx b1 68 [.int .i64 p0_0, .int .i64 p0_1, .int .i64 p0_2, .int .i64 p0_3]] G := H3
  refine WL_box (cs := [.int .i64 p1_0, .int .i64 p1_1, .int .i64 p1_2, .int .i64 p1_3]) H4 rfl rfl rfl rfl (fun b5 w6 H7 => ?_)
  have H8 : Holds (([] : List Res).flatMap Res.own) w w6 [.bx b5 68 [.int .i64 p1_0, .int .i64 p1_1, .int .i64 p1_2, .int .i64 p1_3], .bx b1 68 [.int .i64 p0_0, .int .i64 p0_1, .int .i64 p0_2, .int .i64 p0_3]] G := H7
  refine XL_q rfl (qt_assign rfl) rfl rfl ?_
  refine WL_nil_seq ?_
  refine WP_seq ?_
  refine WP_seq ?_
  refine WP_region ?_
  refine XL_q rfl (qt_fieldAddr uf68 fi68_0 nz3 rfl) rfl rfl ?_
  have hB9 : Bx w6 b1 68 [.int .i64 p0_0, .int .i64 p0_1, .int .i64 p0_2, .int .i64 p0_3] := Holds.bx (H8.pull 1)
  refine XL_load_bx u3 rfl hB9 rfl rfl rfl rfl ?_
  refine XL_q rfl (qt_fieldAddr uf68 fi68_0 nz3 rfl) rfl rfl ?_
  have hB10 : Bx w6 b5 68 [.int .i64 p1_0, .int .i64 p1_1, .int .i64 p1_2, .int .i64 p1_3] := Holds.bx (H8.pull 0)
  refine XL_load_bx u3 rfl hB10 rfl rfl rfl rfl ?_
  refine XL_q rfl (qt_neq rfl rfl) rfl rfl ?_
  refine WL_nil_seq ?_
  refine WP_cond rfl (fun hc11 => ?_) (fun hc11 => ?_)
  · have h := if_t hc11 h
    refine WP_seq ?_
    refine WP_region ?_
    refine XL_q rfl (qt_assign rfl) rfl rfl ?_
    refine WL_nil_seq ?_
    refine WP_ret fun a ha => ?_
    obtain rfl := Option.some.inj h
    have H12 : Holds (([] : List Res).flatMap Res.own) w w6 [] G := ((H8.cut 0).cut 0)
    exact ret_seq (ret1 rfl ha rfl ⟨rfl, H12⟩)
  · have h := if_f hc11 h
    refine WP_skip_seq ?_
    refine WP_seq ?_
    refine WP_seq ?_
    refine WP_region ?_
    refine XL_q rfl (qt_fieldAddr uf68 fi68_1 nz3 rfl) rfl rfl ?_
    have hB13 : Bx w6 b1 68 [.int .i64 p0_0, .int .i64 p0_1, .int .i64 p0_2, .int .i64 p0_3] := Holds.bx (H8.pull 1)
    refine XL_load_bx u3 rfl hB13 rfl rfl rfl rfl ?_
    refine XL_q rfl (qt_fieldAddr uf68 fi68_1 nz3 rfl) rfl rfl ?_
    have hB14 : Bx w6 b5 68 [.int .i64 p1_0, .int .i64 p1_1, .int .i64 p1_2, .int .i64 p1_3] := Holds.bx (H8.pull 0)
    refine XL_load_bx u3 rfl hB14 rfl rfl rfl rfl ?_
    refine XL_q rfl (qt_neq rfl rfl) rfl rfl ?_
    refine WL_nil_seq ?_
    refine WP_cond rfl (fun hc15 => ?_) (fun hc15 => ?_)
    · have h := if_t hc15 h
      refine WP_seq ?_
      refine WP_region ?_
      refine XL_q rfl (qt_assign rfl) rfl rfl ?_
      refine WL_nil_seq ?_
      refine WP_ret fun a ha => ?_
      obtain rfl := Option.some.inj h
      have H16 : Holds (([] : List Res).flatMap Res.own) w w6 [] G := ((H8.cut 0).cut 0)
      exact ret_seq (ret1 rfl ha rfl ⟨rfl, H16⟩)
    · have h := if_f hc15 h
      refine WP_skip_seq ?_
      refine WP_seq ?_
      refine WP_seq ?_
      refine WP_region ?_
      refine XL_q rfl (qt_fieldAddr uf68 fi68_2 nz3 rfl) rfl rfl ?_
      have hB17 : Bx w6 b1 68 [.int .i64 p0_0, .int .i64 p0_1, .int .i64 p0_2, .int .i64 p0_3] := Holds.bx (H8.pull 1)
      refine XL_load_bx u3 rfl hB17 rfl rfl rfl rfl ?_
      refine XL_q rfl (qt_fieldAddr uf68 fi68_2 nz3 rfl) rfl rfl ?_
      have hB18 : Bx w6 b5 68 [.int .i64 p1_0, .int .i64 p1_1, .int .i64 p1_2, .int .i64 p1_3] := Holds.bx (H8.pull 0)
      refine XL_load_bx u3 rfl hB18 rfl rfl rfl rfl ?_
      refine XL_q rfl (qt_neq rfl rfl) rfl rfl ?_
      refine WL_nil_seq ?_
      refine WP_cond rfl (fun hc19 => ?_) (fun hc19 => ?_)
      · have h := if_t hc19 h
        refine WP_seq ?_
        refine WP_region ?_
        refine XL_q rfl (qt_assign rfl) rfl rfl ?_
        refine WL_nil_seq ?_
        refine WP_ret fun a ha => ?_
        obtain rfl := Option.some.inj h
        have H20 : Holds (([] : List Res).flatMap Res.own) w w6 [] G := ((H8.cut 0).cut 0)
        exact ret_seq (ret1 rfl ha rfl ⟨rfl, H20⟩)
      · have h := if_f hc19 h
        refine WP_skip_seq ?_
        refine WP_seq ?_
        refine WP_seq ?_
        refine WP_region ?_
        refine XL_q rfl (qt_fieldAddr uf68 fi68_3 nz3 rfl) rfl rfl ?_
        have hB21 : Bx w6 b1 68 [.int .i64 p0_0, .int .i64 p0_1, .int .i64 p0_2, .int .i64 p0_3] := Holds.bx (H8.pull 1)
        refine XL_load_bx u3 rfl hB21 rfl rfl rfl rfl ?_
        refine XL_q rfl (qt_fieldAddr uf68 fi68_3 nz3 rfl) rfl rfl ?_
        have hB22 : Bx w6 b5 68 [.int .i64 p1_0, .int .i64 p1_1, .int .i64 p1_2, .int .i64 p1_3] := Holds.bx (H8.pull 0)
        refine XL_load_bx u3 rfl hB22 rfl rfl rfl rfl ?_
        refine XL_q rfl (qt_neq rfl rfl) rfl rfl ?_
        refine WL_nil_seq ?_
        refine WP_cond rfl (fun hc23 => ?_) (fun hc23 => ?_)
        · have h := if_t hc23 h
          refine WP_seq ?_
          refine WP_region ?_
          refine XL_q rfl (qt_assign rfl) rfl rfl ?_
          refine WL_nil_seq ?_
          refine WP_ret fun a ha => ?_
          obtain rfl := Option.some.inj h
          have H24 : Holds (([] : List Res).flatMap Res.own) w w6 [] G := ((H8.cut 0).cut 0)
          exact ret_seq (ret1 rfl ha rfl ⟨rfl, H24⟩)
        · have h := if_f hc23 h
          refine WP_skip_seq ?_
          refine WP_seq ?_
          refine WP_region ?_
          refine XL_q rfl (qt_assign rfl) rfl rfl ?_
          refine WL_nil_seq ?_
          refine WP_ret fun a ha => ?_
          obtain rfl := Option.some.inj h
          have H25 : Holds (([] : List Res).flatMap Res.own) w w6 [] G := ((H8.cut 0).cut 0)
          exact ret1 rfl ha rfl ⟨rfl, H25⟩
theorem w_laws_eqHouseDeedS (w : World) (G : List Res) (vp0 : Value) (p0 : List (Int × Int × Int × Int)) (hp0 : Has G (.pair (.int .i64) (.pair (.int .i64) (.pair (.int .i64) (.int .i64)))) vp0 p0) (vp1 : Value) (p1 : List (Int × Int × Int × Int)) (hp1 : Has G (.pair (.int .i64) (.pair (.int .i64) (.pair (.int .i64) (.int .i64)))) vp1 p1) (r : Bool) (h : laws_eqHouseDeedSS p0 p1 = some r) (H : Ctx w G) : Calls Try.prog 18 #[vp0, vp1] w fun e w' => e = .returned (.bool r) ∧ Holds (([] : List Res).flatMap Res.own) w w' [] G := by
  have H : Holds (([] : List Res).flatMap Res.own) w w [] G := Holds.startN H
  refine calls_enter (args := [vp0, vp1]) (n := 27) Try.func18 rfl rfl rfl ?_
  unfold laws_eqHouseDeedSS at h
  refine WP_seq ?_
  refine WP_region ?_
  refine XL_q rfl (qt_assign rfl) rfl rfl ?_
  refine WL_nil_seq ?_
  refine WP_seq ?_
  refine WP_seq ?_
  refine WP_region ?_
  refine XL_q rfl (qt_move rfl) rfl rfl ?_
  refine XL_lenH H.ctx (t := (.pair (.int .i64) (.pair (.int .i64) (.pair (.int .i64) (.int .i64))))) (hp0) u39 rfl rfl rfl ?_
  refine XL_q rfl (qt_move rfl) rfl rfl ?_
  refine XL_lenH H.ctx (t := (.pair (.int .i64) (.pair (.int .i64) (.pair (.int .i64) (.int .i64))))) (hp1) u39 rfl rfl rfl ?_
  refine XL_q rfl (qt_neq rfl rfl) rfl rfl ?_
  refine WL_nil_seq ?_
  refine WP_cond rfl (fun hc1 => ?_) (fun hc1 => ?_)
  · have h := if_t hc1 h
    refine WP_seq ?_
    refine WP_region ?_
    refine XL_q rfl (qt_assign rfl) rfl rfl ?_
    refine WL_nil_seq ?_
    refine WP_ret fun a ha => ?_
    obtain rfl := Option.some.inj h
    exact ret_seq (ret1 rfl ha rfl ⟨rfl, H⟩)
  · have h := if_f hc1 h
    refine WP_skip_seq ?_
    refine WP_seq ?_
    refine WP_seq ?_
    refine WP_region ?_
    refine XL_q rfl (qt_assign rfl) rfl rfl ?_
    refine WL_nil_seq ?_
    refine WP_block ?_
    obtain ⟨o3, ho4, h⟩ := bind_some h
    refine fun a5 ha6 => wp_loop_fix (I := fun s a w2 => match s with | s2 => (Fr a 27 [(0, vp0), (1, vp1), (5, .int .i64 s2)] ∧ Holds (([] : List Res).flatMap Res.own) w w2 [] G)) (O := fun o e a w2 => match o with | .inl _ => e = .exit 0 ∧ (Fr a 27 [] ∧ Holds (([] : List Res).flatMap Res.own) w w2 [] G) | .inr q0 => e = .ret ∧ (Fr a 27 [(4, .bool q0)] ∧ Holds (([] : List Res).flatMap Res.own) w w2 [] G)) ho4 ?_ ?_ ?_
    · exact ⟨ha6.sub ⟨rfl, rfl, rfl, trivial⟩, H⟩
    · clear ha6
      intro s o9 a w7 hs8 hI10
      obtain ⟨s2, rfl⟩ : ∃ z, z = s := ⟨s, rfl⟩
      obtain ⟨ha, H11⟩ := hI10
      refine WP.app ?_ ha
      clear ha
      refine WP_seq ?_
      refine WP_seq ?_
      refine WP_region ?_
      refine XL_q rfl (qt_move rfl) rfl rfl ?_
      refine XL_q rfl (qt_move rfl) rfl rfl ?_
      refine XL_lenH H11.ctx (t := (.pair (.int .i64) (.pair (.int .i64) (.pair (.int .i64) (.int .i64))))) (hp0) u39 rfl rfl rfl ?_
      refine XL_q rfl (qt_lss rfl rfl) rfl rfl ?_
      refine WL_nil_seq ?_
      refine WP_cond rfl (fun hc12 => ?_) (fun hc12 => ?_)
      · have hs8 := if_t hc12 hs8
        refine WP_skip_seq ?_
        refine WP_seq ?_
        refine WP_block ?_
        refine WP_seq ?_
        refine WP_quiet (by kernel_rfl) (by kernel_rfl) ?_
        refine XL_q rfl (qt_move rfl) rfl rfl ?_
        refine XL_q rfl (qt_move rfl) rfl rfl ?_
        obtain ⟨x13, hx14, hs8⟩ := bind_some hs8
        refine XL_indexH H11.ctx (hp0) hx14 u39 i68 rfl rfl rfl rfl (fun b15 off16 cap17 hv18 => ?_)
        obtain ⟨F19, hat20, hdup21⟩ := H11.atN (hp0) hx14 hv18
        refine XL_load_agg (t := (.pair (.int .i64) (.pair (.int .i64) (.pair (.int .i64) (.int .i64))))) us68 uo68 i68 hat20 rfl rfl rfl (fun cs22 hr23 => ?_)
        obtain ⟨c24, c25, F26, F27, rfl, eF30, hr28, hr29⟩ := hr23
        obtain ⟨rfl, _⟩ := hr28
        obtain ⟨c31, c32, F33, F34, rfl, eF37, hr35, hr36⟩ := hr29
        obtain ⟨rfl, _⟩ := hr35
        obtain ⟨c38, c39, F40, F41, rfl, eF44, hr42, hr43⟩ := hr36
        obtain ⟨rfl, _⟩ := hr42
        obtain ⟨rfl, _⟩ := hr43
        change XL _ _ _ _ _ ((20, .agg #[.int .i64 x13.1, .int .i64 x13.2.1, .int .i64 x13.2.2.1, .int .i64 x13.2.2.2]) :: _) _
        refine XL_q rfl (qt_move rfl) rfl rfl ?_
        refine XL_q rfl (qt_move rfl) rfl rfl ?_
        obtain ⟨x45, hx46, hs8⟩ := bind_some hs8
        refine XL_indexH H11.ctx (hp1) hx46 u39 i68 rfl rfl rfl rfl (fun b47 off48 cap49 hv50 => ?_)
        obtain ⟨F51, hat52, hdup53⟩ := H11.atN (hp1) hx46 hv50
        refine XL_load_agg (t := (.pair (.int .i64) (.pair (.int .i64) (.pair (.int .i64) (.int .i64))))) us68 uo68 i68 hat52 rfl rfl rfl (fun cs54 hr55 => ?_)
        obtain ⟨c56, c57, F58, F59, rfl, eF62, hr60, hr61⟩ := hr55
        obtain ⟨rfl, _⟩ := hr60
        obtain ⟨c63, c64, F65, F66, rfl, eF69, hr67, hr68⟩ := hr61
        obtain ⟨rfl, _⟩ := hr67
        obtain ⟨c70, c71, F72, F73, rfl, eF76, hr74, hr75⟩ := hr68
        obtain ⟨rfl, _⟩ := hr74
        obtain ⟨rfl, _⟩ := hr75
        change XL _ _ _ _ _ ((24, .agg #[.int .i64 x45.1, .int .i64 x45.2.1, .int .i64 x45.2.2.1, .int .i64 x45.2.2.2]) :: _) _
        obtain ⟨x77, hx78, hs8⟩ := bind_some hs8
        refine QL_call rfl rfl c44 (fun w' hb => (w_laws_eqHouseDeed w' G x13.1 x13.2.1 x13.2.2.1 x13.2.2.2 x45.1 x45.2.1 x45.2.2.1 x45.2.2.2 x77 hx78 (H11.grow hb).ctx).mono fun e w'' hK => ⟨hK.1, hK.2.bel⟩) (by rfl) ?_
        refine XL_q rfl (qt_not rfl) rfl rfl ?_
        refine QL_nil fun a ha w79 hb80 => ?_
        have H81 : Holds (([] : List Res).flatMap Res.own) w w79 [] G := H11.grow hb80
        refine nrm_seq (WP.app ?_ ha)
        refine WP_cond rfl (fun hc82 => ?_) (fun hc82 => ?_)
        · have hs8 := if_t hc82 hs8
          refine WP_seq ?_
          refine WP_region ?_
          refine XL_q rfl (qt_assign rfl) rfl rfl ?_
          refine WL_nil_seq ?_
          refine WP_ret fun a ha => ?_
          obtain rfl := Option.some.inj hs8
          exact ret_block (ret_seq (⟨ret_ne, rfl, ha.sub ⟨rfl, trivial⟩, H81⟩))
        · have hs8 := if_f hc82 hs8
          refine WP_skip fun a ha => ?_
          refine nrm_block (nrm_seq (WP.app ?_ ha))
          refine WP_region ?_
          refine XL_q rfl (qt_move rfl) rfl rfl ?_
          refine XL_q rfl (qt_add rfl rfl) rfl rfl ?_
          refine XL_q rfl (qt_assign rfl) rfl rfl ?_
          refine WL_nil fun a ha => ?_
          obtain rfl := Option.some.inj hs8
          exact ⟨rfl, ha.sub ⟨rfl, rfl, rfl, trivial⟩, H81⟩
      · have hs8 := if_f hc12 hs8
        refine WP_exit fun a ha => ?_
        obtain rfl := Option.some.inj hs8
        exact exit_seq (⟨exit_ne, rfl, ha.sub trivial, H11⟩)
    · intro e a5 w83 hO84
      rcases o3 with o3 | o3
      · skip
        obtain ⟨rfl, hO86⟩ := hO84
        obtain ⟨ha, H85⟩ := hO86
        refine exit_block_eq (nrm_seq (WP.app ?_ ha))
        refine WP_seq ?_
        refine WP_region ?_
        refine XL_q rfl (qt_assign rfl) rfl rfl ?_
        refine WL_nil_seq ?_
        refine WP_ret fun a ha => ?_
        obtain rfl := Option.some.inj h
        exact ret1 rfl ha rfl ⟨rfl, H85⟩
      · skip
        obtain ⟨p87, rfl⟩ : ∃ z, z = o3 := ⟨o3, rfl⟩
        obtain ⟨rfl, hO89⟩ := hO84
        obtain ⟨ha, H88⟩ := hO89
        obtain rfl := Option.some.inj h
        exact ret_block (ret_seq (ret1 rfl ha rfl ⟨rfl, H88⟩))
theorem w_laws_markPartS (w : World) (G : List Res) (vp0 : Value) (p0 : List (Int × Int)) (p1 : Int) (r : (List (Int × Int)) × Int) (h : laws_markPartSS p0 p1 = some r) (H : Ctx w ([.sl 103 (.pair (.int .i64) (.int .i64)) vp0 p0] ++ G)) : Calls Try.prog 66 #[vp0, .int .i64 p1] w fun e w' => e = .returned (.int .i64 r.2) ∧ Holds (([.sl 103 (.pair (.int .i64) (.int .i64)) vp0 p0] : List Res).flatMap Res.own) w w' [.sl 103 (.pair (.int .i64) (.int .i64)) vp0 r.1] G := by
  have H : Holds (([.sl 103 (.pair (.int .i64) (.int .i64)) vp0 p0] : List Res).flatMap Res.own) w w [.sl 103 (.pair (.int .i64) (.int .i64)) vp0 p0] G := Holds.startN H
  refine calls_enter (args := [vp0, .int .i64 p1]) (n := 27) Try.func66 rfl rfl rfl ?_
  unfold laws_markPartSS at h
  refine WP_seq ?_
  refine WP_region ?_
  refine XL_q rfl (qt_assign rfl) rfl rfl ?_
  refine WL_nil_seq ?_
  refine WP_seq ?_
  refine WP_seq ?_
  refine WP_region ?_
  refine XL_q rfl (qt_assign rfl) rfl rfl ?_
  refine WL_nil_seq ?_
  refine WP_block ?_
  obtain ⟨o4, ho5, h⟩ := bind_some h
  refine fun a6 ha7 => wp_loop_fix (I := fun s a w2 => match s with | (s1, s2, s3) => (Fr a 27 [(0, vp0), (1, .int .i64 s1), (5, .int .i64 s2)] ∧ Holds (([.sl 103 (.pair (.int .i64) (.int .i64)) vp0 p0] : List Res).flatMap Res.own) w w2 [.sl 103 (.pair (.int .i64) (.int .i64)) vp0 s3] G)) (O := fun o e a w2 => match o with | (q0, q1) => e = .exit 0 ∧ (Fr a 27 [(0, vp0), (1, .int .i64 q0)] ∧ Holds (([.sl 103 (.pair (.int .i64) (.int .i64)) vp0 p0] : List Res).flatMap Res.own) w w2 [.sl 103 (.pair (.int .i64) (.int .i64)) vp0 q1] G)) ho5 ?_ ?_ ?_
  · exact ⟨ha7.sub ⟨rfl, rfl, rfl, trivial⟩, H⟩
  · clear ha7
    intro s o10 a w8 hs9 hI11
    obtain ⟨s1, s2, s3⟩ := s
    obtain ⟨ha, H12⟩ := hI11
    refine WP.app ?_ ha
    clear ha
    refine WP_seq ?_
    refine WP_seq ?_
    refine WP_region ?_
    refine XL_q rfl (qt_move rfl) rfl rfl ?_
    refine XL_q rfl (qt_move rfl) rfl rfl ?_
    refine XL_lenH H12.ctx (t := (.pair (.int .i64) (.int .i64))) (Has.hd) u82 rfl rfl rfl ?_
    refine XL_q rfl (qt_lss rfl rfl) rfl rfl ?_
    refine WL_nil_seq ?_
    refine WP_cond rfl (fun hc13 => ?_) (fun hc13 => ?_)
    · have hs9 := if_t hc13 hs9
      refine WP_skip_seq ?_
      refine WP_seq ?_
      refine WP_block ?_
      refine WP_seq ?_
      refine WP_region ?_
      refine XL_q rfl (qt_move rfl) rfl rfl ?_
      refine XL_q rfl (qt_move rfl) rfl rfl ?_
      refine XL_q rfl (qt_move rfl) rfl rfl ?_
      obtain ⟨x14, hx15, hs9⟩ := bind_some hs9
      refine XL_indexH H12.ctx (Has.hd) hx15 u82 i103 rfl rfl rfl rfl (fun b16 off17 cap18 hv19 => ?_)
      refine XL_q rfl (qt_fieldAddr uf103 fi103_0 nz3 rfl) rfl rfl ?_
      refine WL_storeH (fo := 0) (cs' := [.int .i64 s1]) H12 hx15 hv19 (Upd.fst (Upd.whole (Blt.int)) rfl) rfl il3 rfl rfl rfl rfl (fun w20 H21 => ?_)
      have H22 : Holds (([.sl 103 (.pair (.int .i64) (.int .i64)) vp0 p0] : List Res).flatMap Res.own) w w20 [.sl 103 (.pair (.int .i64) (.int .i64)) vp0 (List.set s3 (Int.toNat s2) (s1, x14.2))] G := H21
      refine WL_nil_seq ?_
      refine WP_seq ?_
      refine WP_region ?_
      refine XL_q rfl (qt_move rfl) rfl rfl ?_
      refine XL_q rfl (qt_add rfl rfl) rfl rfl ?_
      refine XL_q rfl (qt_assign rfl) rfl rfl ?_
      refine WL_nil_seq ?_
      refine WP_seq ?_
      refine WP_region ?_
      refine XL_q rfl (qt_move rfl) rfl rfl ?_
      refine XL_q rfl (qt_move rfl) rfl rfl ?_
      refine XL_q rfl (qt_move rfl) rfl rfl ?_
      obtain ⟨x23, hx24, hs9⟩ := bind_some hs9
      refine XL_indexH H22.ctx (Has.hd) hx24 u82 i103 rfl rfl rfl rfl (fun b25 off26 cap27 hv28 => ?_)
      refine XL_q rfl (qt_fieldAddr uf103 fi103_1 nz3 rfl) rfl rfl ?_
      refine WL_storeH (fo := 1) (cs' := [.int .i64 (IntKind.wrap .i64 (s1 + 1))]) H22 hx24 hv28 (Upd.snd (Upd.whole (Blt.int))) rfl il3 rfl rfl rfl rfl (fun w29 H30 => ?_)
      have H31 : Holds (([.sl 103 (.pair (.int .i64) (.int .i64)) vp0 p0] : List Res).flatMap Res.own) w w29 [.sl 103 (.pair (.int .i64) (.int .i64)) vp0 (List.set (List.set s3 (Int.toNat s2) (s1, x14.2)) (Int.toNat s2) (x23.1, IntKind.wrap .i64 (s1 + 1)))] G := H30
      refine WL_nil_seq ?_
      refine WP_region ?_
      refine XL_q rfl (qt_move rfl) rfl rfl ?_
      refine XL_q rfl (qt_add rfl rfl) rfl rfl ?_
      refine XL_q rfl (qt_assign rfl) rfl rfl ?_
      refine WL_nil fun a ha => ?_
      refine nrm_block (nrm_seq (WP.app ?_ ha))
      refine WP_region ?_
      refine XL_q rfl (qt_move rfl) rfl rfl ?_
      refine XL_q rfl (qt_add rfl rfl) rfl rfl ?_
      refine XL_q rfl (qt_assign rfl) rfl rfl ?_
      refine WL_nil fun a ha => ?_
      obtain rfl := Option.some.inj hs9
      exact ⟨rfl, ha.sub ⟨rfl, rfl, rfl, trivial⟩, H31⟩
    · have hs9 := if_f hc13 hs9
      refine WP_exit fun a ha => ?_
      obtain rfl := Option.some.inj hs9
      exact exit_seq (⟨exit_ne, rfl, ha.sub ⟨rfl, rfl, trivial⟩, H12⟩)
  · intro e a6 w32 hO33
    obtain ⟨p34, p35⟩ := o4
    obtain ⟨rfl, hO37⟩ := hO33
    obtain ⟨ha, H36⟩ := hO37
    refine exit_block_eq (nrm_seq (WP.app ?_ ha))
    refine WP_seq ?_
    refine WP_region ?_
    refine XL_q rfl (qt_move rfl) rfl rfl ?_
    refine XL_q rfl (qt_assign rfl) rfl rfl ?_
    refine WL_nil_seq ?_
    refine WP_ret fun a ha => ?_
    obtain rfl := Option.some.inj h
    exact ret1 rfl ha rfl ⟨rfl, H36⟩
theorem w_laws_markIntS (w : World) (G : List Res) (vp0 : Value) (p0 : List Int) (p1 : Int) (r : (List Int) × Int) (h : laws_markIntSS p0 p1 = some r) (H : Ctx w ([.sl 3 (.int .i64) vp0 p0] ++ G)) : Calls Try.prog 46 #[vp0, .int .i64 p1] w fun e w' => e = .returned (.int .i64 r.2) ∧ Holds (([.sl 3 (.int .i64) vp0 p0] : List Res).flatMap Res.own) w w' [.sl 3 (.int .i64) vp0 r.1] G := by
  have H : Holds (([.sl 3 (.int .i64) vp0 p0] : List Res).flatMap Res.own) w w [.sl 3 (.int .i64) vp0 p0] G := Holds.startN H
  refine calls_enter (args := [vp0, .int .i64 p1]) (n := 19) Try.func46 rfl rfl rfl ?_
  unfold laws_markIntSS at h
  refine WP_seq ?_
  refine WP_region ?_
  refine XL_q rfl (qt_assign rfl) rfl rfl ?_
  refine WL_nil_seq ?_
  refine WP_seq ?_
  refine WP_seq ?_
  refine WP_region ?_
  refine XL_q rfl (qt_assign rfl) rfl rfl ?_
  refine WL_nil_seq ?_
  refine WP_block ?_
  obtain ⟨o4, ho5, h⟩ := bind_some h
  refine fun a6 ha7 => wp_loop_fix (I := fun s a w2 => match s with | (s1, s2, s3) => (Fr a 19 [(0, vp0), (1, .int .i64 s1), (5, .int .i64 s2)] ∧ Holds (([.sl 3 (.int .i64) vp0 p0] : List Res).flatMap Res.own) w w2 [.sl 3 (.int .i64) vp0 s3] G)) (O := fun o e a w2 => match o with | (q0, q1) => e = .exit 0 ∧ (Fr a 19 [(0, vp0), (1, .int .i64 q0)] ∧ Holds (([.sl 3 (.int .i64) vp0 p0] : List Res).flatMap Res.own) w w2 [.sl 3 (.int .i64) vp0 q1] G)) ho5 ?_ ?_ ?_
  · exact ⟨ha7.sub ⟨rfl, rfl, rfl, trivial⟩, H⟩
  · clear ha7
    intro s o10 a w8 hs9 hI11
    obtain ⟨s1, s2, s3⟩ := s
    obtain ⟨ha, H12⟩ := hI11
    refine WP.app ?_ ha
    clear ha
    refine WP_seq ?_
    refine WP_seq ?_
    refine WP_region ?_
    refine XL_q rfl (qt_move rfl) rfl rfl ?_
    refine XL_q rfl (qt_move rfl) rfl rfl ?_
    refine XL_lenH H12.ctx (t := (.int .i64)) (Has.hd) u23 rfl rfl rfl ?_
    refine XL_q rfl (qt_lss rfl rfl) rfl rfl ?_
    refine WL_nil_seq ?_
    refine WP_cond rfl (fun hc13 => ?_) (fun hc13 => ?_)
    · have hs9 := if_t hc13 hs9
      refine WP_skip_seq ?_
      refine WP_seq ?_
      refine WP_block ?_
      refine WP_seq ?_
      refine WP_region ?_
      refine XL_q rfl (qt_move rfl) rfl rfl ?_
      refine XL_q rfl (qt_move rfl) rfl rfl ?_
      refine XL_q rfl (qt_move rfl) rfl rfl ?_
      obtain ⟨x14, hx15, hs9⟩ := bind_some hs9
      refine XL_indexH H12.ctx (Has.hd) hx15 u23 i3 rfl rfl rfl rfl (fun b16 off17 cap18 hv19 => ?_)
      refine WL_storeH (fo := 0) (cs' := [.int .i64 s1]) H12 hx15 hv19 (Upd.whole (Blt.int)) rfl il3 rfl rfl rfl rfl (fun w20 H21 => ?_)
      have H22 : Holds (([.sl 3 (.int .i64) vp0 p0] : List Res).flatMap Res.own) w w20 [.sl 3 (.int .i64) vp0 (List.set s3 (Int.toNat s2) s1)] G := H21
      refine WL_nil_seq ?_
      refine WP_region ?_
      refine XL_q rfl (qt_move rfl) rfl rfl ?_
      refine XL_q rfl (qt_add rfl rfl) rfl rfl ?_
      refine XL_q rfl (qt_assign rfl) rfl rfl ?_
      refine WL_nil fun a ha => ?_
      refine nrm_block (nrm_seq (WP.app ?_ ha))
      refine WP_region ?_
      refine XL_q rfl (qt_move rfl) rfl rfl ?_
      refine XL_q rfl (qt_add rfl rfl) rfl rfl ?_
      refine XL_q rfl (qt_assign rfl) rfl rfl ?_
      refine WL_nil fun a ha => ?_
      obtain rfl := Option.some.inj hs9
      exact ⟨rfl, ha.sub ⟨rfl, rfl, rfl, trivial⟩, H22⟩
    · have hs9 := if_f hc13 hs9
      refine WP_exit fun a ha => ?_
      obtain rfl := Option.some.inj hs9
      exact exit_seq (⟨exit_ne, rfl, ha.sub ⟨rfl, rfl, trivial⟩, H12⟩)
  · intro e a6 w23 hO24
    obtain ⟨p25, p26⟩ := o4
    obtain ⟨rfl, hO28⟩ := hO24
    obtain ⟨ha, H27⟩ := hO28
    refine exit_block_eq (nrm_seq (WP.app ?_ ha))
    refine WP_seq ?_
    refine WP_region ?_
    refine XL_q rfl (qt_move rfl) rfl rfl ?_
    refine XL_q rfl (qt_assign rfl) rfl rfl ?_
    refine WL_nil_seq ?_
    refine WP_ret fun a ha => ?_
    obtain rfl := Option.some.inj h
    exact ret1 rfl ha rfl ⟨rfl, H27⟩
theorem w_laws_markOrderS (w : World) (G : List Res) (vp0 : Value) (p0 : List (Int × Int)) (p1 : Int) (r : (List (Int × Int)) × Int) (h : laws_markOrderSS p0 p1 = some r) (H : Ctx w ([.sl 63 (.pair (.int .i64) (.int .i64)) vp0 p0] ++ G)) : Calls Try.prog 67 #[vp0, .int .i64 p1] w fun e w' => e = .returned (.int .i64 r.2) ∧ Holds (([.sl 63 (.pair (.int .i64) (.int .i64)) vp0 p0] : List Res).flatMap Res.own) w w' [.sl 63 (.pair (.int .i64) (.int .i64)) vp0 r.1] G := by
  have H : Holds (([.sl 63 (.pair (.int .i64) (.int .i64)) vp0 p0] : List Res).flatMap Res.own) w w [.sl 63 (.pair (.int .i64) (.int .i64)) vp0 p0] G := Holds.startN H
  refine calls_enter (args := [vp0, .int .i64 p1]) (n := 27) Try.func67 rfl rfl rfl ?_
  unfold laws_markOrderSS at h
  refine WP_seq ?_
  refine WP_region ?_
  refine XL_q rfl (qt_assign rfl) rfl rfl ?_
  refine WL_nil_seq ?_
  refine WP_seq ?_
  refine WP_seq ?_
  refine WP_region ?_
  refine XL_q rfl (qt_assign rfl) rfl rfl ?_
  refine WL_nil_seq ?_
  refine WP_block ?_
  obtain ⟨o4, ho5, h⟩ := bind_some h
  refine fun a6 ha7 => wp_loop_fix (I := fun s a w2 => match s with | (s1, s2, s3) => (Fr a 27 [(0, vp0), (1, .int .i64 s1), (5, .int .i64 s2)] ∧ Holds (([.sl 63 (.pair (.int .i64) (.int .i64)) vp0 p0] : List Res).flatMap Res.own) w w2 [.sl 63 (.pair (.int .i64) (.int .i64)) vp0 s3] G)) (O := fun o e a w2 => match o with | (q0, q1) => e = .exit 0 ∧ (Fr a 27 [(0, vp0), (1, .int .i64 q0)] ∧ Holds (([.sl 63 (.pair (.int .i64) (.int .i64)) vp0 p0] : List Res).flatMap Res.own) w w2 [.sl 63 (.pair (.int .i64) (.int .i64)) vp0 q1] G)) ho5 ?_ ?_ ?_
  · exact ⟨ha7.sub ⟨rfl, rfl, rfl, trivial⟩, H⟩
  · clear ha7
    intro s o10 a w8 hs9 hI11
    obtain ⟨s1, s2, s3⟩ := s
    obtain ⟨ha, H12⟩ := hI11
    refine WP.app ?_ ha
    clear ha
    refine WP_seq ?_
    refine WP_seq ?_
    refine WP_region ?_
    refine XL_q rfl (qt_move rfl) rfl rfl ?_
    refine XL_q rfl (qt_move rfl) rfl rfl ?_
    refine XL_lenH H12.ctx (t := (.pair (.int .i64) (.int .i64))) (Has.hd) u48 rfl rfl rfl ?_
    refine XL_q rfl (qt_lss rfl rfl) rfl rfl ?_
    refine WL_nil_seq ?_
    refine WP_cond rfl (fun hc13 => ?_) (fun hc13 => ?_)
    · have hs9 := if_t hc13 hs9
      refine WP_skip_seq ?_
      refine WP_seq ?_
      refine WP_block ?_
      refine WP_seq ?_
      refine WP_region ?_
      refine XL_q rfl (qt_move rfl) rfl rfl ?_
      refine XL_q rfl (qt_move rfl) rfl rfl ?_
      refine XL_q rfl (qt_move rfl) rfl rfl ?_
      obtain ⟨x14, hx15, hs9⟩ := bind_some hs9
      refine XL_indexH H12.ctx (Has.hd) hx15 u48 i63 rfl rfl rfl rfl (fun b16 off17 cap18 hv19 => ?_)
      refine XL_q rfl (qt_fieldAddr uf63 fi63_0 nz3 rfl) rfl rfl ?_
      refine WL_storeH (fo := 0) (cs' := [.int .i64 s1]) H12 hx15 hv19 (Upd.fst (Upd.whole (Blt.int)) rfl) rfl il3 rfl rfl rfl rfl (fun w20 H21 => ?_)
      have H22 : Holds (([.sl 63 (.pair (.int .i64) (.int .i64)) vp0 p0] : List Res).flatMap Res.own) w w20 [.sl 63 (.pair (.int .i64) (.int .i64)) vp0 (List.set s3 (Int.toNat s2) (s1, x14.2))] G := H21
      refine WL_nil_seq ?_
      refine WP_seq ?_
      refine WP_region ?_
      refine XL_q rfl (qt_move rfl) rfl rfl ?_
      refine XL_q rfl (qt_add rfl rfl) rfl rfl ?_
      refine XL_q rfl (qt_assign rfl) rfl rfl ?_
      refine WL_nil_seq ?_
      refine WP_seq ?_
      refine WP_region ?_
      refine XL_q rfl (qt_move rfl) rfl rfl ?_
      refine XL_q rfl (qt_move rfl) rfl rfl ?_
      refine XL_q rfl (qt_move rfl) rfl rfl ?_
      obtain ⟨x23, hx24, hs9⟩ := bind_some hs9
      refine XL_indexH H22.ctx (Has.hd) hx24 u48 i63 rfl rfl rfl rfl (fun b25 off26 cap27 hv28 => ?_)
      refine XL_q rfl (qt_fieldAddr uf63 fi63_1 nz3 rfl) rfl rfl ?_
      refine WL_storeH (fo := 1) (cs' := [.int .i64 (IntKind.wrap .i64 (s1 + 1))]) H22 hx24 hv28 (Upd.snd (Upd.whole (Blt.int))) rfl il3 rfl rfl rfl rfl (fun w29 H30 => ?_)
      have H31 : Holds (([.sl 63 (.pair (.int .i64) (.int .i64)) vp0 p0] : List Res).flatMap Res.own) w w29 [.sl 63 (.pair (.int .i64) (.int .i64)) vp0 (List.set (List.set s3 (Int.toNat s2) (s1, x14.2)) (Int.toNat s2) (x23.1, IntKind.wrap .i64 (s1 + 1)))] G := H30
      refine WL_nil_seq ?_
      refine WP_region ?_
      refine XL_q rfl (qt_move rfl) rfl rfl ?_
      refine XL_q rfl (qt_add rfl rfl) rfl rfl ?_
      refine XL_q rfl (qt_assign rfl) rfl rfl ?_
      refine WL_nil fun a ha => ?_
      refine nrm_block (nrm_seq (WP.app ?_ ha))
      refine WP_region ?_
      refine XL_q rfl (qt_move rfl) rfl rfl ?_
      refine XL_q rfl (qt_add rfl rfl) rfl rfl ?_
      refine XL_q rfl (qt_assign rfl) rfl rfl ?_
      refine WL_nil fun a ha => ?_
      obtain rfl := Option.some.inj hs9
      exact ⟨rfl, ha.sub ⟨rfl, rfl, rfl, trivial⟩, H31⟩
    · have hs9 := if_f hc13 hs9
      refine WP_exit fun a ha => ?_
      obtain rfl := Option.some.inj hs9
      exact exit_seq (⟨exit_ne, rfl, ha.sub ⟨rfl, rfl, trivial⟩, H12⟩)
  · intro e a6 w32 hO33
    obtain ⟨p34, p35⟩ := o4
    obtain ⟨rfl, hO37⟩ := hO33
    obtain ⟨ha, H36⟩ := hO37
    refine exit_block_eq (nrm_seq (WP.app ?_ ha))
    refine WP_seq ?_
    refine WP_region ?_
    refine XL_q rfl (qt_move rfl) rfl rfl ?_
    refine XL_q rfl (qt_assign rfl) rfl rfl ?_
    refine WL_nil_seq ?_
    refine WP_ret fun a ha => ?_
    obtain rfl := Option.some.inj h
    exact ret1 rfl ha rfl ⟨rfl, H36⟩
theorem w_laws_markHouseDeedS (w : World) (G : List Res) (vp0 : Value) (p0 : List (Int × Int × Int × Int)) (p1 : Int) (r : (List (Int × Int × Int × Int)) × Int) (h : laws_markHouseDeedSS p0 p1 = some r) (H : Ctx w ([.sl 68 (.pair (.int .i64) (.pair (.int .i64) (.pair (.int .i64) (.int .i64)))) vp0 p0] ++ G)) : Calls Try.prog 20 #[vp0, .int .i64 p1] w fun e w' => e = .returned (.int .i64 r.2) ∧ Holds (([.sl 68 (.pair (.int .i64) (.pair (.int .i64) (.pair (.int .i64) (.int .i64)))) vp0 p0] : List Res).flatMap Res.own) w w' [.sl 68 (.pair (.int .i64) (.pair (.int .i64) (.pair (.int .i64) (.int .i64)))) vp0 r.1] G := by
  have H : Holds (([.sl 68 (.pair (.int .i64) (.pair (.int .i64) (.pair (.int .i64) (.int .i64)))) vp0 p0] : List Res).flatMap Res.own) w w [.sl 68 (.pair (.int .i64) (.pair (.int .i64) (.pair (.int .i64) (.int .i64)))) vp0 p0] G := Holds.startN H
  refine calls_enter (args := [vp0, .int .i64 p1]) (n := 41) Try.func20 rfl rfl rfl ?_
  unfold laws_markHouseDeedSS at h
  refine WP_seq ?_
  refine WP_region ?_
  refine XL_q rfl (qt_assign rfl) rfl rfl ?_
  refine WL_nil_seq ?_
  refine WP_seq ?_
  refine WP_seq ?_
  refine WP_region ?_
  refine XL_q rfl (qt_assign rfl) rfl rfl ?_
  refine WL_nil_seq ?_
  refine WP_block ?_
  obtain ⟨o4, ho5, h⟩ := bind_some h
  refine fun a6 ha7 => wp_loop_fix (I := fun s a w2 => match s with | (s1, s2, s3) => (Fr a 41 [(0, vp0), (1, .int .i64 s1), (5, .int .i64 s2)] ∧ Holds (([.sl 68 (.pair (.int .i64) (.pair (.int .i64) (.pair (.int .i64) (.int .i64)))) vp0 p0] : List Res).flatMap Res.own) w w2 [.sl 68 (.pair (.int .i64) (.pair (.int .i64) (.pair (.int .i64) (.int .i64)))) vp0 s3] G)) (O := fun o e a w2 => match o with | (q0, q1) => e = .exit 0 ∧ (Fr a 41 [(0, vp0), (1, .int .i64 q0)] ∧ Holds (([.sl 68 (.pair (.int .i64) (.pair (.int .i64) (.pair (.int .i64) (.int .i64)))) vp0 p0] : List Res).flatMap Res.own) w w2 [.sl 68 (.pair (.int .i64) (.pair (.int .i64) (.pair (.int .i64) (.int .i64)))) vp0 q1] G)) ho5 ?_ ?_ ?_
  · exact ⟨ha7.sub ⟨rfl, rfl, rfl, trivial⟩, H⟩
  · clear ha7
    intro s o10 a w8 hs9 hI11
    obtain ⟨s1, s2, s3⟩ := s
    obtain ⟨ha, H12⟩ := hI11
    refine WP.app ?_ ha
    clear ha
    refine WP_seq ?_
    refine WP_seq ?_
    refine WP_region ?_
    refine XL_q rfl (qt_move rfl) rfl rfl ?_
    refine XL_q rfl (qt_move rfl) rfl rfl ?_
    refine XL_lenH H12.ctx (t := (.pair (.int .i64) (.pair (.int .i64) (.pair (.int .i64) (.int .i64))))) (Has.hd) u39 rfl rfl rfl ?_
    refine XL_q rfl (qt_lss rfl rfl) rfl rfl ?_
    refine WL_nil_seq ?_
    refine WP_cond rfl (fun hc13 => ?_) (fun hc13 => ?_)
    · have hs9 := if_t hc13 hs9
      refine WP_skip_seq ?_
      refine WP_seq ?_
      refine WP_block ?_
      refine WP_seq ?_
      refine WP_region ?_
      refine XL_q rfl (qt_move rfl) rfl rfl ?_
      refine XL_q rfl (qt_move rfl) rfl rfl ?_
      refine XL_q rfl (qt_move rfl) rfl rfl ?_
      obtain ⟨x14, hx15, hs9⟩ := bind_some hs9
      refine XL_indexH H12.ctx (Has.hd) hx15 u39 i68 rfl rfl rfl rfl (fun b16 off17 cap18 hv19 => ?_)
      refine XL_q rfl (qt_fieldAddr uf68 fi68_0 nz3 rfl) rfl rfl ?_
      refine WL_storeH (fo := 0) (cs' := [.int .i64 s1]) H12 hx15 hv19 (Upd.fst (Upd.whole (Blt.int)) rfl) rfl il3 rfl rfl rfl rfl (fun w20 H21 => ?_)
      have H22 : Holds (([.sl 68 (.pair (.int .i64) (.pair (.int .i64) (.pair (.int .i64) (.int .i64)))) vp0 p0] : List Res).flatMap Res.own) w w20 [.sl 68 (.pair (.int .i64) (.pair (.int .i64) (.pair (.int .i64) (.int .i64)))) vp0 (List.set s3 (Int.toNat s2) (s1, x14.2))] G := H21
      refine WL_nil_seq ?_
      refine WP_seq ?_
      refine WP_region ?_
      refine XL_q rfl (qt_move rfl) rfl rfl ?_
      refine XL_q rfl (qt_add rfl rfl) rfl rfl ?_
      refine XL_q rfl (qt_assign rfl) rfl rfl ?_
      refine WL_nil_seq ?_
      refine WP_seq ?_
      refine WP_region ?_
      refine XL_q rfl (qt_move rfl) rfl rfl ?_
      refine XL_q rfl (qt_move rfl) rfl rfl ?_
      refine XL_q rfl (qt_move rfl) rfl rfl ?_
      obtain ⟨x23, hx24, hs9⟩ := bind_some hs9
      refine XL_indexH H22.ctx (Has.hd) hx24 u39 i68 rfl rfl rfl rfl (fun b25 off26 cap27 hv28 => ?_)
      refine XL_q rfl (qt_fieldAddr uf68 fi68_1 nz3 rfl) rfl rfl ?_
      refine WL_storeH (fo := 1) (cs' := [.int .i64 (IntKind.wrap .i64 (s1 + 1))]) H22 hx24 hv28 (Upd.snd (Upd.fst (Upd.whole (Blt.int)) rfl)) rfl il3 rfl rfl rfl rfl (fun w29 H30 => ?_)
      have H31 : Holds (([.sl 68 (.pair (.int .i64) (.pair (.int .i64) (.pair (.int .i64) (.int .i64)))) vp0 p0] : List Res).flatMap Res.own) w w29 [.sl 68 (.pair (.int .i64) (.pair (.int .i64) (.pair (.int .i64) (.int .i64)))) vp0 (List.set (List.set s3 (Int.toNat s2) (s1, x14.2)) (Int.toNat s2) (x23.1, (IntKind.wrap .i64 (s1 + 1), x23.2.2)))] G := H30
      refine WL_nil_seq ?_
      refine WP_seq ?_
      refine WP_region ?_
      refine XL_q rfl (qt_move rfl) rfl rfl ?_
      refine XL_q rfl (qt_add rfl rfl) rfl rfl ?_
      refine XL_q rfl (qt_assign rfl) rfl rfl ?_
      refine WL_nil_seq ?_
      refine WP_seq ?_
      refine WP_region ?_
      refine XL_q rfl (qt_move rfl) rfl rfl ?_
      refine XL_q rfl (qt_move rfl) rfl rfl ?_
      refine XL_q rfl (qt_move rfl) rfl rfl ?_
      obtain ⟨x32, hx33, hs9⟩ := bind_some hs9
      refine XL_indexH H31.ctx (Has.hd) hx33 u39 i68 rfl rfl rfl rfl (fun b34 off35 cap36 hv37 => ?_)
      refine XL_q rfl (qt_fieldAddr uf68 fi68_2 nz3 rfl) rfl rfl ?_
      refine WL_storeH (fo := 2) (cs' := [.int .i64 (IntKind.wrap .i64 ((IntKind.wrap .i64 (s1 + 1)) + 1))]) H31 hx33 hv37 (Upd.snd (Upd.snd (Upd.fst (Upd.whole (Blt.int)) rfl))) rfl il3 rfl rfl rfl rfl (fun w38 H39 => ?_)
      have H40 : Holds (([.sl 68 (.pair (.int .i64) (.pair (.int .i64) (.pair (.int .i64) (.int .i64)))) vp0 p0] : List Res).flatMap Res.own) w w38 [.sl 68 (.pair (.int .i64) (.pair (.int .i64) (.pair (.int .i64) (.int .i64)))) vp0 (List.set (List.set (List.set s3 (Int.toNat s2) (s1, x14.2)) (Int.toNat s2) (x23.1, (IntKind.wrap .i64 (s1 + 1), x23.2.2))) (Int.toNat s2) (x32.1, (x32.2.1, (IntKind.wrap .i64 ((IntKind.wrap .i64 (s1 + 1)) + 1), x32.2.2.2))))] G := H39
      refine WL_nil_seq ?_
      refine WP_seq ?_
      refine WP_region ?_
      refine XL_q rfl (qt_move rfl) rfl rfl ?_
      refine XL_q rfl (qt_add rfl rfl) rfl rfl ?_
      refine XL_q rfl (qt_assign rfl) rfl rfl ?_
      refine WL_nil_seq ?_
      refine WP_seq ?_
      refine WP_region ?_
      refine XL_q rfl (qt_move rfl) rfl rfl ?_
      refine XL_q rfl (qt_move rfl) rfl rfl ?_
      refine XL_q rfl (qt_move rfl) rfl rfl ?_
      obtain ⟨x41, hx42, hs9⟩ := bind_some hs9
      refine XL_indexH H40.ctx (Has.hd) hx42 u39 i68 rfl rfl rfl rfl (fun b43 off44 cap45 hv46 => ?_)
      refine XL_q rfl (qt_fieldAddr uf68 fi68_3 nz3 rfl) rfl rfl ?_
      refine WL_storeH (fo := 3) (cs' := [.int .i64 (IntKind.wrap .i64 ((IntKind.wrap .i64 ((IntKind.wrap .i64 (s1 + 1)) + 1)) + 1))]) H40 hx42 hv46 (Upd.snd (Upd.snd (Upd.snd (Upd.whole (Blt.int))))) rfl il3 rfl rfl rfl rfl (fun w47 H48 => ?_)
      have H49 : Holds (([.sl 68 (.pair (.int .i64) (.pair (.int .i64) (.pair (.int .i64) (.int .i64)))) vp0 p0] : List Res).flatMap Res.own) w w47 [.sl 68 (.pair (.int .i64) (.pair (.int .i64) (.pair (.int .i64) (.int .i64)))) vp0 (List.set (List.set (List.set (List.set s3 (Int.toNat s2) (s1, x14.2)) (Int.toNat s2) (x23.1, (IntKind.wrap .i64 (s1 + 1), x23.2.2))) (Int.toNat s2) (x32.1, (x32.2.1, (IntKind.wrap .i64 ((IntKind.wrap .i64 (s1 + 1)) + 1), x32.2.2.2)))) (Int.toNat s2) (x41.1, (x41.2.1, (x41.2.2.1, IntKind.wrap .i64 ((IntKind.wrap .i64 ((IntKind.wrap .i64 (s1 + 1)) + 1)) + 1)))))] G := H48
      refine WL_nil_seq ?_
      refine WP_region ?_
      refine XL_q rfl (qt_move rfl) rfl rfl ?_
      refine XL_q rfl (qt_add rfl rfl) rfl rfl ?_
      refine XL_q rfl (qt_assign rfl) rfl rfl ?_
      refine WL_nil fun a ha => ?_
      refine nrm_block (nrm_seq (WP.app ?_ ha))
      refine WP_region ?_
      refine XL_q rfl (qt_move rfl) rfl rfl ?_
      refine XL_q rfl (qt_add rfl rfl) rfl rfl ?_
      refine XL_q rfl (qt_assign rfl) rfl rfl ?_
      refine WL_nil fun a ha => ?_
      obtain rfl := Option.some.inj hs9
      exact ⟨rfl, ha.sub ⟨rfl, rfl, rfl, trivial⟩, H49⟩
    · have hs9 := if_f hc13 hs9
      refine WP_exit fun a ha => ?_
      obtain rfl := Option.some.inj hs9
      exact exit_seq (⟨exit_ne, rfl, ha.sub ⟨rfl, rfl, trivial⟩, H12⟩)
  · intro e a6 w50 hO51
    obtain ⟨p52, p53⟩ := o4
    obtain ⟨rfl, hO55⟩ := hO51
    obtain ⟨ha, H54⟩ := hO55
    refine exit_block_eq (nrm_seq (WP.app ?_ ha))
    refine WP_seq ?_
    refine WP_region ?_
    refine XL_q rfl (qt_move rfl) rfl rfl ?_
    refine XL_q rfl (qt_assign rfl) rfl rfl ?_
    refine WL_nil_seq ?_
    refine WP_ret fun a ha => ?_
    obtain rfl := Option.some.inj h
    exact ret1 rfl ha rfl ⟨rfl, H54⟩
end Go.Proofs.Ytcjkbcdlpfgbgaa
