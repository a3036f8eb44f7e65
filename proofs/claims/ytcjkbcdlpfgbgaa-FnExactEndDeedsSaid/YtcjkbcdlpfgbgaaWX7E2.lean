/- The walks: each Go function computes its shallow function. Printed by a program. -/
import Derived.Test.YtcjkbcdlpfgbgaaWX7E1
set_option linter.unusedVariables false
set_option maxRecDepth 10000
namespace Go.Proofs.Ytcjkbcdlpfgbgaa
open Go Go.RowKit
theorem w_spec_HouseValid (w : World) (G : List Res) (vp0_0 : Value) (p0_0 : List (Int × (List (Int × Int)) × Int)) (hp0_0 : Has G (.pair (.int .i64) (.pair (.slice (.pair (.int .i64) (.int .i64))) (.int .i64))) vp0_0 p0_0) (vp0_1 : Value) (p0_1 : List Int) (hp0_1 : Has G (.int .i64) vp0_1 p0_1) (vp0_2 : Value) (p0_2 : List Int) (hp0_2 : Has G (.int .i64) vp0_2 p0_2) (p0_3 : Int) (vp0_4 : Value) (p0_4 : List (Int × (List (Int × Int)) × (List Int))) (hp0_4 : Has G (.pair (.int .i64) (.pair (.slice (.pair (.int .i64) (.int .i64))) (.slice (.int .i64)))) vp0_4 p0_4) (r : Bool) (h : spec_HouseValidS p0_0 p0_1 p0_2 p0_3 p0_4 = some r) (H : Ctx w G) : Calls Try.prog 8 #[.agg #[vp0_0, vp0_1, vp0_2, .int .i64 p0_3, vp0_4]] w fun e w' => e = .returned (.bool r) ∧ Holds (([] : List Res).flatMap Res.own) w w' [] G := by
  have H : Holds (([] : List Res).flatMap Res.own) w w [] G := Holds.startN H
  refine calls_enter (args := [.agg #[vp0_0, vp0_1, vp0_2, .int .i64 p0_3, vp0_4]]) (n := 84) Try.func8 rfl rfl rfl ?_
  unfold spec_HouseValidS at h
  refine WP_seq ?_
  refine WP_region ?_
  refine WL_box (cs := [vp0_0, vp0_1, vp0_2, .int .i64 p0_3, vp0_4]) H rfl rfl rfl rfl (fun b1 w2 H3 => ?_)
  have H4 : Holds (([] : List Res).flatMap Res.own) w w2 [.bx b1 32 [vp0_0, vp0_1, vp0_2, .int .i64 p0_3, vp0_4]] G := H3
  refine XL_q rfl (qt_assign rfl) rfl rfl ?_
  refine WL_nil_seq ?_
  refine WP_seq ?_
  refine WP_seq ?_
  refine WP_still ?_
  refine XL_q rfl (qt_fieldAddr uf32 fi32_0 nz29 rfl) rfl rfl ?_
  have hB5 : Bx w2 b1 32 [vp0_0, vp0_1, vp0_2, .int .i64 p0_3, vp0_4] := Holds.bx (H4.pull 0)
  refine XL_load_bx u29 rfl hB5 rfl rfl rfl rfl ?_
  refine XL_q rfl (qt_fieldAddr uf32 fi32_1 nz23 rfl) rfl rfl ?_
  have hB6 : Bx w2 b1 32 [vp0_0, vp0_1, vp0_2, .int .i64 p0_3, vp0_4] := Holds.bx (H4.pull 0)
  refine XL_load_bx u23 rfl hB6 rfl rfl rfl rfl ?_
  obtain ⟨x7, hx8, h⟩ := bind_some h
  refine QL_call rfl rfl c25 (fun w' hb => (w_spec_PricesValid w' ([.bx b1 32 [vp0_0, vp0_1, vp0_2, .int .i64 p0_3, vp0_4]] ++ G) vp0_0 p0_0 (hp0_0.c) vp0_1 p0_1 (hp0_1.c) x7 hx8 (H4.grow hb).ctx).mono fun e w'' hK => ⟨hK.1, hK.2.bel⟩) (by rfl) ?_
  refine XL_q rfl (qt_not rfl) rfl rfl ?_
  refine XL_q rfl (qt_move rfl) rfl rfl ?_
  obtain ⟨b9, hg10, h⟩ := bind_some h
  refine XL_join 7 20 (.bool b9) ?_ (fun md hmd hk => ?_)
  rotate_left
  · obtain ⟨K, rfl⟩ := Md.quiet_of hmd
    rcases btf (!x7) with hc11 | hc11
    · skip
      refine XL_skip (w_skip rfl hc11) rfl rfl ?_
      refine XL_skip (w_skip rfl hc11) rfl rfl ?_
      refine XL_skip (w_skip rfl hc11) rfl rfl ?_
      refine XL_skip (w_skip rfl hc11) rfl rfl ?_
      refine XL_skip (w_skip rfl hc11) rfl rfl ?_
      refine XL_skip (w_skip rfl hc11) rfl rfl ?_
      refine XL_q rfl (qt_pickT rfl hc11 rfl) rfl rfl ?_
      exact hk _ (Cov.same (vb (if_t hc11 hg10)) (Cov.fresh rfl (Cov.fresh rfl (Cov.fresh rfl (Cov.fresh rfl (Cov.fresh rfl (Cov.fresh rfl (Cov.refl))))))))
    · skip
      have hg10 := if_f hc11 hg10
      refine XL_q (w_take rfl hc11) (qt_fieldAddr uf32 fi32_0 nz29 rfl) rfl rfl ?_
      have hB12 : Bx w2 b1 32 [vp0_0, vp0_1, vp0_2, .int .i64 p0_3, vp0_4] := Holds.bx (H4.pull 0)
      refine XL_load_bx u29 rfl hB12 rfl (w_take rfl hc11) rfl rfl ?_
      refine XL_q (w_take rfl hc11) (qt_fieldAddr uf32 fi32_2 nz23 rfl) rfl rfl ?_
      have hB13 : Bx w2 b1 32 [vp0_0, vp0_1, vp0_2, .int .i64 p0_3, vp0_4] := Holds.bx (H4.pull 0)
      refine XL_load_bx u23 rfl hB13 rfl (w_take rfl hc11) rfl rfl ?_
      obtain ⟨x14, hx15, hg10⟩ := bind_some hg10
      refine QL_call (w_take rfl hc11) rfl c26 (fun w' hb => (w_spec_l1Amounts w' ([.bx b1 32 [vp0_0, vp0_1, vp0_2, .int .i64 p0_3, vp0_4]] ++ G) vp0_0 p0_0 (hp0_0.c) vp0_2 p0_2 (hp0_2.c) x14 hx15 (H4.grow hb).ctx).mono fun e w'' hK => ⟨hK.1, hK.2.bel⟩) (by rfl) ?_
      refine XL_q (w_take rfl hc11) (qt_not rfl) rfl rfl ?_
      refine XL_q rfl (qt_pickF rfl hc11 rfl) rfl rfl ?_
      exact hk _ (Cov.same (vb hg10) (Cov.fresh rfl (Cov.fresh rfl (Cov.fresh rfl (Cov.fresh rfl (Cov.fresh rfl (Cov.fresh rfl (Cov.refl))))))))
  refine XL_q rfl (qt_move rfl) rfl rfl ?_
  obtain ⟨b16, hg17, h⟩ := bind_some h
  refine XL_join 5 26 (.bool b16) ?_ (fun md hmd hk => ?_)
  rotate_left
  · obtain ⟨K, rfl⟩ := Md.quiet_of hmd
    rcases btf b9 with hc18 | hc18
    · skip
      refine XL_skip (w_skip rfl hc18) rfl rfl ?_
      refine XL_skip (w_skip rfl hc18) rfl rfl ?_
      refine XL_skip (w_skip rfl hc18) rfl rfl ?_
      refine XL_skip (w_skip rfl hc18) rfl rfl ?_
      refine XL_q rfl (qt_pickT rfl hc18 rfl) rfl rfl ?_
      exact hk _ (Cov.same (vb (if_t hc18 hg17)) (Cov.fresh rfl (Cov.fresh rfl (Cov.fresh rfl (Cov.fresh rfl (Cov.refl))))))
    · skip
      have hg17 := if_f hc18 hg17
      refine XL_q (w_take rfl hc18) (qt_fieldAddr uf32 fi32_3 nz3 rfl) rfl rfl ?_
      have hB19 : Bx w2 b1 32 [vp0_0, vp0_1, vp0_2, .int .i64 p0_3, vp0_4] := Holds.bx (H4.pull 0)
      refine XL_load_bx u3 rfl hB19 rfl (w_take rfl hc18) rfl rfl ?_
      obtain ⟨x20, hx21, hg17⟩ := bind_some hg17
      refine QL_call (w_take rfl hc18) rfl c27 (fun w' hb => (w_spec_l1In w' ([.bx b1 32 [vp0_0, vp0_1, vp0_2, .int .i64 p0_3, vp0_4]] ++ G) p0_3 0 99999 x20 hx21 (H4.grow hb).ctx).mono fun e w'' hK => ⟨hK.1, hK.2.bel⟩) (by rfl) ?_
      refine XL_q (w_take rfl hc18) (qt_not rfl) rfl rfl ?_
      refine XL_q rfl (qt_pickF rfl hc18 rfl) rfl rfl ?_
      exact hk _ (Cov.same (vb hg17) (Cov.fresh rfl (Cov.fresh rfl (Cov.fresh rfl (Cov.fresh rfl (Cov.refl))))))
  refine XL_q rfl (qt_move rfl) rfl rfl ?_
  refine XL_join 5 32 (.bool (b16 || (decide ((List.length p0_4 : Int) > 4)))) ?_ (fun md hmd hk => ?_)
  rotate_left
  · obtain ⟨K, rfl⟩ := Md.quiet_of hmd
    rcases btf b16 with hc22 | hc22
    · skip
      refine XL_skip (w_skip rfl hc22) rfl rfl ?_
      refine XL_skip (w_skip rfl hc22) rfl rfl ?_
      refine XL_skip (w_skip rfl hc22) rfl rfl ?_
      refine XL_skip (w_skip rfl hc22) rfl rfl ?_
      refine XL_q rfl (qt_pickT rfl hc22 rfl) rfl rfl ?_
      exact hk _ (Cov.same (by rw [hc22]; rfl) (Cov.fresh rfl (Cov.fresh rfl (Cov.fresh rfl (Cov.fresh rfl (Cov.refl))))))
    · skip
      refine XL_q (w_take rfl hc22) (qt_fieldAddr uf32 fi32_4 nz30 rfl) rfl rfl ?_
      have hB23 : Bx w2 b1 32 [vp0_0, vp0_1, vp0_2, .int .i64 p0_3, vp0_4] := Holds.bx (H4.pull 0)
      refine XL_load_bx u30 rfl hB23 rfl (w_take rfl hc22) rfl rfl ?_
      refine XL_lenH H4.ctx (t := (.pair (.int .i64) (.pair (.slice (.pair (.int .i64) (.int .i64))) (.slice (.int .i64))))) (hp0_4.c) u30 (w_take rfl hc22) rfl rfl ?_
      refine XL_q (w_take rfl hc22) (qt_gtr rfl rfl) rfl rfl ?_
      refine XL_q rfl (qt_pickF rfl hc22 rfl) rfl rfl ?_
      exact hk _ (Cov.same (by rw [hc22]; rfl) (Cov.fresh rfl (Cov.fresh rfl (Cov.fresh rfl (Cov.fresh rfl (Cov.refl))))))
  refine QL_nil fun a ha w24 hb25 => ?_
  have H26 : Holds (([] : List Res).flatMap Res.own) w w24 [.bx b1 32 [vp0_0, vp0_1, vp0_2, .int .i64 p0_3, vp0_4]] G := H4.grow hb25
  refine nrm_seq (WP.app ?_ ha)
  refine WP_cond rfl (fun hc27 => ?_) (fun hc27 => ?_)
  · have h := if_t hc27 h
    refine WP_seq ?_
    refine WP_region ?_
    refine XL_q rfl (qt_assign rfl) rfl rfl ?_
    refine WL_nil_seq ?_
    refine WP_ret fun a ha => ?_
    obtain rfl := Option.some.inj h
    have H28 : Holds (([] : List Res).flatMap Res.own) w w24 [] G := (H26.cut 0)
    exact ret_seq (ret1 rfl ha rfl ⟨rfl, H28⟩)
  · have h := if_f hc27 h
    refine WP_skip_seq ?_
    refine WP_seq ?_
    refine WP_seq ?_
    refine WP_region ?_
    refine XL_q rfl (qt_assign rfl) rfl rfl ?_
    refine WL_nil_seq ?_
    refine WP_block ?_
    obtain ⟨o30, ho31, h⟩ := bind_some h
    refine fun a32 ha33 => wp_loop_fix (I := fun s a w2 => match s with | s29 => (Fr a 84 [(1, .pointer (some ⟨b1, 0, none⟩)), (3, .int .i64 s29)] ∧ Holds (([] : List Res).flatMap Res.own) w w2 [.bx b1 32 [vp0_0, vp0_1, vp0_2, .int .i64 p0_3, vp0_4]] G)) (O := fun o e a w2 => match o with | .inl _ => e = .exit 0 ∧ (Fr a 84 [] ∧ Holds (([] : List Res).flatMap Res.own) w w2 [] G) | .inr q0 => e = .ret ∧ (Fr a 84 [(2, .bool q0)] ∧ Holds (([] : List Res).flatMap Res.own) w w2 [] G)) ho31 ?_ ?_ ?_
    · exact ⟨ha33.sub ⟨rfl, rfl, trivial⟩, H26⟩
    · clear ha33
      intro s o36 a w34 hs35 hI37
      obtain ⟨s29, rfl⟩ : ∃ z, z = s := ⟨s, rfl⟩
      obtain ⟨ha, H38⟩ := hI37
      refine WP.app ?_ ha
      clear ha
      refine WP_seq ?_
      refine WP_seq ?_
      refine WP_region ?_
      refine XL_q rfl (qt_move rfl) rfl rfl ?_
      refine XL_q rfl (qt_fieldAddr uf32 fi32_4 nz30 rfl) rfl rfl ?_
      have hB39 : Bx w34 b1 32 [vp0_0, vp0_1, vp0_2, .int .i64 p0_3, vp0_4] := Holds.bx (H38.pull 0)
      refine XL_load_bx u30 rfl hB39 rfl rfl rfl rfl ?_
      refine XL_lenH H38.ctx (t := (.pair (.int .i64) (.pair (.slice (.pair (.int .i64) (.int .i64))) (.slice (.int .i64))))) (hp0_4.c) u30 rfl rfl rfl ?_
      refine XL_q rfl (qt_lss rfl rfl) rfl rfl ?_
      refine WL_nil_seq ?_
      refine WP_cond rfl (fun hc40 => ?_) (fun hc40 => ?_)
      · have hs35 := if_t hc40 hs35
        refine WP_skip_seq ?_
        refine WP_seq ?_
        refine WP_block ?_
        refine WP_seq ?_
        refine WP_region ?_
        refine XL_q rfl (qt_fieldAddr uf32 fi32_4 nz30 rfl) rfl rfl ?_
        have hB41 : Bx w34 b1 32 [vp0_0, vp0_1, vp0_2, .int .i64 p0_3, vp0_4] := Holds.bx (H38.pull 0)
        refine XL_load_bx u30 rfl hB41 rfl rfl rfl rfl ?_
        refine XL_q rfl (qt_move rfl) rfl rfl ?_
        obtain ⟨x42, hx43, hs35⟩ := bind_some hs35
        refine XL_indexH H38.ctx (hp0_4.c) hx43 u30 i50 rfl rfl rfl rfl (fun b44 off45 cap46 hv47 => ?_)
        obtain ⟨F48, hat49, hdup50⟩ := H38.atN (hp0_4.c) hx43 hv47
        refine XL_load_agg (t := (.pair (.int .i64) (.pair (.slice (.pair (.int .i64) (.int .i64))) (.slice (.int .i64))))) us50 uo50 i50 hat49 rfl rfl rfl (fun cs51 hr52 => ?_)
        obtain ⟨c53, c54, F55, F56, rfl, eF59, hr57, hr58⟩ := hr52
        obtain ⟨rfl, _⟩ := hr57
        obtain ⟨c60, c61, F62, F63, rfl, eF66, hr64, hr65⟩ := hr58
        obtain ⟨v67, rfl, hr68⟩ := Rep.sl_inv hr64
        obtain ⟨v69, rfl, hr70⟩ := Rep.sl_inv hr65
        have H71 : Holds (([] : List Res).flatMap Res.own) w w34 [.ro (.pair (.int .i64) (.int .i64)) v67 x42.2.1, .ro (.int .i64) v69 x42.2.2, .bx b1 32 [vp0_0, vp0_1, vp0_2, .int .i64 p0_3, vp0_4]] G := hdup50 [.ro (.pair (.int .i64) (.int .i64)) v67 x42.2.1, .ro (.int .i64) v69 x42.2.2] ⟨⟨_, _, _, _, rfl, hr68, (fun k h => (fun k h => (fun _ h => h) k (by rw [eF59]; exact List.mem_append_right _ h)) k (by rw [eF66]; exact List.mem_append_left _ h))⟩, ⟨_, _, _, _, rfl, hr70, (fun k h => (fun k h => (fun _ h => h) k (by rw [eF59]; exact List.mem_append_right _ h)) k (by rw [eF66]; exact List.mem_append_right _ h))⟩, trivial⟩
        change XL _ _ _ _ _ ((44, .agg #[.int .i64 x42.1, v67, v69]) :: _) _
        refine WL_alloc (cs := [.int .i64 0, .slice none 0 0, .slice none 0 0]) H71 z50 rfl rfl rfl (fun b72 w73 H74 => ?_)
        have H75 : Holds (([] : List Res).flatMap Res.own) w w73 [.bx b72 50 [.int .i64 0, .slice none 0 0, .slice none 0 0], .ro (.pair (.int .i64) (.int .i64)) v67 x42.2.1, .ro (.int .i64) v69 x42.2.2, .bx b1 32 [vp0_0, vp0_1, vp0_2, .int .i64 p0_3, vp0_4]] G := H74
        refine WL_store_bxA (cs' := [.int .i64 x42.1, v67, v69]) H75 rfl il50 rfl (allOne rfl (allOne (H75.ctx.sliceOne (HasRo.has (HasRo.c (HasRo.hd)))) (allOne (H75.ctx.sliceOne (HasRo.has (HasRo.c (HasRo.c (HasRo.hd))))) rfl))) rfl rfl rfl (fun w76 H77 => ?_)
        have H78 : Holds (([] : List Res).flatMap Res.own) w w76 [.bx b72 50 [.int .i64 x42.1, v67, v69], .ro (.pair (.int .i64) (.int .i64)) v67 x42.2.1, .ro (.int .i64) v69 x42.2.2, .bx b1 32 [vp0_0, vp0_1, vp0_2, .int .i64 p0_3, vp0_4]] G := H77
        refine WL_nil_seq ?_
        refine WP_seq ?_
        refine WP_seq ?_
        refine WP_still ?_
        refine XL_q rfl (qt_fieldAddr uf50 fi50_0 nz3 rfl) rfl rfl ?_
        have hB79 : Bx w76 b72 50 [.int .i64 x42.1, v67, v69] := Holds.bx (H78.pull 0)
        refine XL_load_bx u3 rfl hB79 rfl rfl rfl rfl ?_
        obtain ⟨x80, hx81, hs35⟩ := bind_some hs35
        refine QL_call rfl rfl c27 (fun w' hb => (w_spec_l1In w' ([.bx b72 50 [.int .i64 x42.1, v67, v69], .ro (.pair (.int .i64) (.int .i64)) v67 x42.2.1, .ro (.int .i64) v69 x42.2.2, .bx b1 32 [vp0_0, vp0_1, vp0_2, .int .i64 p0_3, vp0_4]] ++ G) x42.1 0 31 x80 hx81 (H78.grow hb).ctx).mono fun e w'' hK => ⟨hK.1, hK.2.bel⟩) (by rfl) ?_
        refine XL_q rfl (qt_not rfl) rfl rfl ?_
        refine XL_q rfl (qt_move rfl) rfl rfl ?_
        obtain ⟨b82, hg83, hs35⟩ := bind_some hs35
        refine XL_join 5 54 (.bool b82) ?_ (fun md hmd hk => ?_)
        rotate_left
        · obtain ⟨K, rfl⟩ := Md.quiet_of hmd
          rcases btf (!x80) with hc84 | hc84
          · skip
            refine XL_skip (w_skip rfl hc84) rfl rfl ?_
            refine XL_skip (w_skip rfl hc84) rfl rfl ?_
            refine XL_skip (w_skip rfl hc84) rfl rfl ?_
            refine XL_skip (w_skip rfl hc84) rfl rfl ?_
            refine XL_q rfl (qt_pickT rfl hc84 rfl) rfl rfl ?_
            exact hk _ (Cov.same (vb (if_t hc84 hg83)) (Cov.fresh rfl (Cov.fresh rfl (Cov.fresh rfl (Cov.fresh rfl (Cov.refl))))))
          · skip
            have hg83 := if_f hc84 hg83
            refine XL_q (w_take rfl hc84) (qt_fieldAddr uf50 fi50_1 nz48 rfl) rfl rfl ?_
            have hB85 : Bx w76 b72 50 [.int .i64 x42.1, v67, v69] := Holds.bx (H78.pull 0)
            refine XL_load_bx u48 rfl hB85 rfl (w_take rfl hc84) rfl rfl ?_
            obtain ⟨x86, hx87, hg83⟩ := bind_some hg83
            refine QL_call (w_take rfl hc84) rfl c28 (fun w' hb => (w_spec_TicketValid w' ([.bx b72 50 [.int .i64 x42.1, v67, v69], .ro (.pair (.int .i64) (.int .i64)) v67 x42.2.1, .ro (.int .i64) v69 x42.2.2, .bx b1 32 [vp0_0, vp0_1, vp0_2, .int .i64 p0_3, vp0_4]] ++ G) v67 x42.2.1 (HasRo.has (HasRo.c (HasRo.hd))) x86 hx87 (H78.grow hb).ctx).mono fun e w'' hK => ⟨hK.1, hK.2.bel⟩) (by rfl) ?_
            refine XL_q (w_take rfl hc84) (qt_not rfl) rfl rfl ?_
            refine XL_q rfl (qt_pickF rfl hc84 rfl) rfl rfl ?_
            exact hk _ (Cov.same (vb hg83) (Cov.fresh rfl (Cov.fresh rfl (Cov.fresh rfl (Cov.fresh rfl (Cov.refl))))))
        refine XL_q rfl (qt_move rfl) rfl rfl ?_
        refine XL_join 8 63 (.bool (b82 || ((List.length x42.2.2 : Int) != (List.length x42.2.1 : Int)))) ?_ (fun md hmd hk => ?_)
        rotate_left
        · obtain ⟨K, rfl⟩ := Md.quiet_of hmd
          rcases btf b82 with hc88 | hc88
          · skip
            refine XL_skip (w_skip rfl hc88) rfl rfl ?_
            refine XL_skip (w_skip rfl hc88) rfl rfl ?_
            refine XL_skip (w_skip rfl hc88) rfl rfl ?_
            refine XL_skip (w_skip rfl hc88) rfl rfl ?_
            refine XL_skip (w_skip rfl hc88) rfl rfl ?_
            refine XL_skip (w_skip rfl hc88) rfl rfl ?_
            refine XL_skip (w_skip rfl hc88) rfl rfl ?_
            refine XL_q rfl (qt_pickT rfl hc88 rfl) rfl rfl ?_
            exact hk _ (Cov.same (by rw [hc88]; rfl) (Cov.fresh rfl (Cov.fresh rfl (Cov.fresh rfl (Cov.fresh rfl (Cov.fresh rfl (Cov.fresh rfl (Cov.fresh rfl (Cov.refl)))))))))
          · skip
            refine XL_q (w_take rfl hc88) (qt_fieldAddr uf50 fi50_2 nz23 rfl) rfl rfl ?_
            have hB89 : Bx w76 b72 50 [.int .i64 x42.1, v67, v69] := Holds.bx (H78.pull 0)
            refine XL_load_bx u23 rfl hB89 rfl (w_take rfl hc88) rfl rfl ?_
            refine XL_lenH H78.ctx (t := (.int .i64)) (HasRo.has (HasRo.c (HasRo.c (HasRo.hd)))) u23 (w_take rfl hc88) rfl rfl ?_
            refine XL_q (w_take rfl hc88) (qt_fieldAddr uf50 fi50_1 nz48 rfl) rfl rfl ?_
            have hB90 : Bx w76 b72 50 [.int .i64 x42.1, v67, v69] := Holds.bx (H78.pull 0)
            refine XL_load_bx u48 rfl hB90 rfl (w_take rfl hc88) rfl rfl ?_
            refine XL_lenH H78.ctx (t := (.pair (.int .i64) (.int .i64))) (HasRo.has (HasRo.c (HasRo.hd))) u48 (w_take rfl hc88) rfl rfl ?_
            refine XL_q (w_take rfl hc88) (qt_neq rfl rfl) rfl rfl ?_
            refine XL_q rfl (qt_pickF rfl hc88 rfl) rfl rfl ?_
            exact hk _ (Cov.same (by rw [hc88]; rfl) (Cov.fresh rfl (Cov.fresh rfl (Cov.fresh rfl (Cov.fresh rfl (Cov.fresh rfl (Cov.fresh rfl (Cov.fresh rfl (Cov.refl)))))))))
        refine QL_nil fun a ha w91 hb92 => ?_
        have H93 : Holds (([] : List Res).flatMap Res.own) w w91 [.bx b72 50 [.int .i64 x42.1, v67, v69], .ro (.pair (.int .i64) (.int .i64)) v67 x42.2.1, .ro (.int .i64) v69 x42.2.2, .bx b1 32 [vp0_0, vp0_1, vp0_2, .int .i64 p0_3, vp0_4]] G := H78.grow hb92
        refine nrm_seq (WP.app ?_ ha)
        refine WP_cond rfl (fun hc94 => ?_) (fun hc94 => ?_)
        · have hs35 := if_t hc94 hs35
          refine WP_seq ?_
          refine WP_region ?_
          refine XL_q rfl (qt_assign rfl) rfl rfl ?_
          refine WL_nil_seq ?_
          refine WP_ret fun a ha => ?_
          obtain rfl := Option.some.inj hs35
          have H95 : Holds (([] : List Res).flatMap Res.own) w w91 [] G := ((((H93.cut 0).cut 0).cut 0).cut 0)
          exact ret_seq (ret_block (ret_seq (⟨ret_ne, rfl, ha.sub ⟨rfl, trivial⟩, H95⟩)))
        · have hs35 := if_f hc94 hs35
          refine WP_skip_seq ?_
          refine WP_seq ?_
          refine WP_region ?_
          refine XL_q rfl (qt_fieldAddr uf32 fi32_0 nz29 rfl) rfl rfl ?_
          have hB96 : Bx w91 b1 32 [vp0_0, vp0_1, vp0_2, .int .i64 p0_3, vp0_4] := Holds.bx (H93.pull 3)
          refine XL_load_bx u29 rfl hB96 rfl rfl rfl rfl ?_
          refine XL_q rfl (qt_fieldAddr uf50 fi50_0 nz3 rfl) rfl rfl ?_
          have hB97 : Bx w91 b72 50 [.int .i64 x42.1, v67, v69] := Holds.bx (H93.pull 0)
          refine XL_load_bx u3 rfl hB97 rfl rfl rfl rfl ?_
          obtain ⟨x98, hx99, hs35⟩ := bind_some hs35
          refine WL_call rfl rfl c29 (w_spec_FreeOf w91 ([.bx b72 50 [.int .i64 x42.1, v67, v69], .ro (.pair (.int .i64) (.int .i64)) v67 x42.2.1, .ro (.int .i64) v69 x42.2.2, .bx b1 32 [vp0_0, vp0_1, vp0_2, .int .i64 p0_3, vp0_4]] ++ G) vp0_0 p0_0 (hp0_0.c.c.c.c) x42.1 x98 hx99 H93.ctx) (by rfl) ?_
          rintro _ w100 ⟨v102, rfl, H101⟩; refine ⟨_, rfl, ?_⟩
          have H103 : Holds (([] : List Res).flatMap Res.own) w w100 [.sl 3 (.int .i64) v102 x98, .bx b72 50 [.int .i64 x42.1, v67, v69], .ro (.pair (.int .i64) (.int .i64)) v67 x42.2.1, .ro (.int .i64) v69 x42.2.2, .bx b1 32 [vp0_0, vp0_1, vp0_2, .int .i64 p0_3, vp0_4]] G := H93.calledN (Rs := []) H101
          refine XL_q rfl (qt_assign rfl) rfl rfl ?_
          refine WL_nil_seq ?_
          refine WP_seq ?_
          refine WP_region ?_
          refine XL_q rfl (qt_assign rfl) rfl rfl ?_
          refine WL_nil_seq ?_
          refine WP_block ?_
          obtain ⟨o105, ho106, hs35⟩ := bind_some hs35
          have H109 : Holds (([] : List Res).flatMap Res.own) w w100 [.bx b1 32 [vp0_0, vp0_1, vp0_2, .int .i64 p0_3, vp0_4], .bx b72 50 [.int .i64 x42.1, v67, v69], .ro (.pair (.int .i64) (.int .i64)) v67 x42.2.1, .ro (.int .i64) v69 x42.2.2, .sl 3 (.int .i64) v102 x98] G := ((((H103.pull 3).pull 3).pull 3).pull 4)
          refine fun a107 ha108 => wp_loop_fix (I := fun s a w2 => match s with | s104 => (Fr a 84 [(1, .pointer (some ⟨b1, 0, none⟩)), (3, .int .i64 s29), (4, .pointer (some ⟨b72, 0, none⟩)), (5, v102), (6, .int .i64 s104)] ∧ Holds (([] : List Res).flatMap Res.own) w w2 [.bx b1 32 [vp0_0, vp0_1, vp0_2, .int .i64 p0_3, vp0_4], .bx b72 50 [.int .i64 x42.1, v67, v69], .ro (.pair (.int .i64) (.int .i64)) v67 x42.2.1, .ro (.int .i64) v69 x42.2.2, .sl 3 (.int .i64) v102 x98] G)) (O := fun o e a w2 => match o with | .inl _ => e = .exit 2 ∧ (Fr a 84 [(1, .pointer (some ⟨b1, 0, none⟩)), (3, .int .i64 s29)] ∧ Holds (([] : List Res).flatMap Res.own) w w2 [.bx b1 32 [vp0_0, vp0_1, vp0_2, .int .i64 p0_3, vp0_4]] G) | .inr q0 => e = .ret ∧ (Fr a 84 [(2, .bool q0)] ∧ Holds (([] : List Res).flatMap Res.own) w w2 [] G)) ho106 ?_ ?_ ?_
          · exact ⟨ha108.sub ⟨rfl, rfl, rfl, rfl, rfl, trivial⟩, H109⟩
          · clear ha108
            intro s o112 a w110 hs111 hI113
            obtain ⟨s104, rfl⟩ : ∃ z, z = s := ⟨s, rfl⟩
            obtain ⟨ha, H114⟩ := hI113
            refine WP.app ?_ ha
            clear ha
            refine WP_seq ?_
            refine WP_seq ?_
            refine WP_region ?_
            refine XL_q rfl (qt_move rfl) rfl rfl ?_
            refine XL_q rfl (qt_fieldAddr uf50 fi50_2 nz23 rfl) rfl rfl ?_
            have hB115 : Bx w110 b72 50 [.int .i64 x42.1, v67, v69] := Holds.bx (H114.pull 1)
            refine XL_load_bx u23 rfl hB115 rfl rfl rfl rfl ?_
            refine XL_lenH H114.ctx (t := (.int .i64)) (HasRo.has (HasRo.c (HasRo.c (HasRo.c (HasRo.hd))))) u23 rfl rfl rfl ?_
            refine XL_q rfl (qt_lss rfl rfl) rfl rfl ?_
            refine WL_nil_seq ?_
            refine WP_cond rfl (fun hc116 => ?_) (fun hc116 => ?_)
            · have hs111 := if_t hc116 hs111
              refine WP_skip_seq ?_
              refine WP_seq ?_
              refine WP_block ?_
              refine WP_seq ?_
              refine WP_still ?_
              refine XL_q rfl (qt_move rfl) rfl rfl ?_
              refine XL_q rfl (qt_fieldAddr uf50 fi50_2 nz23 rfl) rfl rfl ?_
              have hB117 : Bx w110 b72 50 [.int .i64 x42.1, v67, v69] := Holds.bx (H114.pull 1)
              refine XL_load_bx u23 rfl hB117 rfl rfl rfl rfl ?_
              refine XL_q rfl (qt_move rfl) rfl rfl ?_
              obtain ⟨x118, hx119, hs111⟩ := bind_some hs111
              refine XL_indexH H114.ctx (HasRo.has (HasRo.c (HasRo.c (HasRo.c (HasRo.hd))))) hx119 u23 i3 rfl rfl rfl rfl (fun b120 off121 cap122 hv123 => ?_)
              obtain ⟨F124, hat125, hdup126⟩ := H114.at (HasRo.has (HasRo.c (HasRo.c (HasRo.c (HasRo.hd))))) hx119 hv123
              refine XL_load_int (k := .i64) u3 rfl hat125 rfl rfl rfl ?_
              obtain ⟨x127, hx128, hs111⟩ := bind_some hs111
              refine QL_call rfl rfl c30 (fun w' hb => (w_spec_l1Has w' ([.bx b1 32 [vp0_0, vp0_1, vp0_2, .int .i64 p0_3, vp0_4], .bx b72 50 [.int .i64 x42.1, v67, v69], .ro (.pair (.int .i64) (.int .i64)) v67 x42.2.1, .ro (.int .i64) v69 x42.2.2, .sl 3 (.int .i64) v102 x98] ++ G) v102 x98 (Has.c (Has.c (Has.c (Has.c (Has.hd))))) x118 x127 hx128 (H114.grow hb).ctx).mono fun e w'' hK => ⟨hK.1, hK.2.bel⟩) (by rfl) ?_
              refine XL_q rfl (qt_not rfl) rfl rfl ?_
              refine QL_nil fun a ha w129 hb130 => ?_
              have H131 : Holds (([] : List Res).flatMap Res.own) w w129 [.bx b1 32 [vp0_0, vp0_1, vp0_2, .int .i64 p0_3, vp0_4], .bx b72 50 [.int .i64 x42.1, v67, v69], .ro (.pair (.int .i64) (.int .i64)) v67 x42.2.1, .ro (.int .i64) v69 x42.2.2, .sl 3 (.int .i64) v102 x98] G := H114.grow hb130
              refine nrm_seq (WP.app ?_ ha)
              refine WP_cond rfl (fun hc132 => ?_) (fun hc132 => ?_)
              · have hs111 := if_t hc132 hs111
                refine WP_seq ?_
                refine WP_region ?_
                refine XL_q rfl (qt_assign rfl) rfl rfl ?_
                refine WL_nil_seq ?_
                refine WP_ret fun a ha => ?_
                obtain rfl := Option.some.inj hs111
                have H133 : Holds (([] : List Res).flatMap Res.own) w w129 [] G := (((((H131.cut 0).cut 0).cut 0).cut 0).cut 0)
                exact ret_block (ret_seq (⟨ret_ne, rfl, ha.sub ⟨rfl, trivial⟩, H133⟩))
              · have hs111 := if_f hc132 hs111
                refine WP_skip fun a ha => ?_
                refine nrm_block (nrm_seq (WP.app ?_ ha))
                refine WP_region ?_
                refine XL_q rfl (qt_move rfl) rfl rfl ?_
                refine XL_q rfl (qt_add rfl rfl) rfl rfl ?_
                refine XL_q rfl (qt_assign rfl) rfl rfl ?_
                refine WL_nil fun a ha => ?_
                obtain rfl := Option.some.inj hs111
                have H134 : Holds (([] : List Res).flatMap Res.own) w w129 [.bx b1 32 [vp0_0, vp0_1, vp0_2, .int .i64 p0_3, vp0_4], .bx b72 50 [.int .i64 x42.1, v67, v69], .ro (.pair (.int .i64) (.int .i64)) v67 x42.2.1, .ro (.int .i64) v69 x42.2.2, .sl 3 (.int .i64) v102 x98] G := (((((H131.pull 4).pull 4).pull 4).pull 4).pull 4)
                exact ⟨rfl, ha.sub ⟨rfl, rfl, rfl, rfl, rfl, trivial⟩, H134⟩
            · have hs111 := if_f hc116 hs111
              refine WP_exit fun a ha => ?_
              obtain rfl := Option.some.inj hs111
              have H135 : Holds (([] : List Res).flatMap Res.own) w w110 [.bx b1 32 [vp0_0, vp0_1, vp0_2, .int .i64 p0_3, vp0_4]] G := ((((H114.cut 1).cut 1).cut 1).cut 1)
              exact exit_seq (⟨exit_ne, rfl, ha.sub ⟨rfl, rfl, trivial⟩, H135⟩)
          · intro e a107 w136 hO137
            rcases o105 with o105 | o105
            · skip
              obtain ⟨rfl, hO139⟩ := hO137
              obtain ⟨ha, H138⟩ := hO139
              refine exit_block_eq (nrm_block (nrm_seq (WP.app ?_ ha)))
              refine WP_region ?_
              refine XL_q rfl (qt_move rfl) rfl rfl ?_
              refine XL_q rfl (qt_add rfl rfl) rfl rfl ?_
              refine XL_q rfl (qt_assign rfl) rfl rfl ?_
              refine WL_nil fun a ha => ?_
              obtain rfl := Option.some.inj hs35
              exact ⟨rfl, ha.sub ⟨rfl, rfl, trivial⟩, H138⟩
            · skip
              obtain ⟨p140, rfl⟩ : ∃ z, z = o105 := ⟨o105, rfl⟩
              obtain ⟨rfl, hO142⟩ := hO137
              obtain ⟨ha, H141⟩ := hO142
              obtain rfl := Option.some.inj hs35
              exact ret_block (ret_block (ret_seq (⟨ret_ne, rfl, ha.sub ⟨rfl, trivial⟩, H141⟩)))
      · have hs35 := if_f hc40 hs35
        refine WP_exit fun a ha => ?_
        obtain rfl := Option.some.inj hs35
        have H143 : Holds (([] : List Res).flatMap Res.own) w w34 [] G := (H38.cut 0)
        exact exit_seq (⟨exit_ne, rfl, ha.sub trivial, H143⟩)
    · intro e a32 w144 hO145
      rcases o30 with o30 | o30
      · skip
        obtain ⟨rfl, hO147⟩ := hO145
        obtain ⟨ha, H146⟩ := hO147
        refine exit_block_eq (nrm_seq (WP.app ?_ ha))
        refine WP_seq ?_
        refine WP_region ?_
        refine XL_q rfl (qt_assign rfl) rfl rfl ?_
        refine WL_nil_seq ?_
        refine WP_ret fun a ha => ?_
        obtain rfl := Option.some.inj h
        exact ret1 rfl ha rfl ⟨rfl, H146⟩
      · skip
        obtain ⟨p148, rfl⟩ : ∃ z, z = o30 := ⟨o30, rfl⟩
        obtain ⟨rfl, hO150⟩ := hO145
        obtain ⟨ha, H149⟩ := hO150
        obtain rfl := Option.some.inj h
        exact ret_block (ret_seq (ret1 rfl ha rfl ⟨rfl, H149⟩))
theorem w_spec_l7Tickets (w : World) (G : List Res) (vp0_0 : Value) (p0_0 : List (Int × (List (Int × Int)) × Int)) (hp0_0 : Has G (.pair (.int .i64) (.pair (.slice (.pair (.int .i64) (.int .i64))) (.int .i64))) vp0_0 p0_0) (vp0_1 : Value) (p0_1 : List Int) (hp0_1 : Has G (.int .i64) vp0_1 p0_1) (vp0_2 : Value) (p0_2 : List Int) (hp0_2 : Has G (.int .i64) vp0_2 p0_2) (p0_3 : Int) (vp0_4 : Value) (p0_4 : List (Int × (List (Int × Int)) × (List Int))) (hp0_4 : Has G (.pair (.int .i64) (.pair (.slice (.pair (.int .i64) (.int .i64))) (.slice (.int .i64)))) vp0_4 p0_4) (r : (List (List (Int × Int)))) (h : spec_l7TicketsS p0_0 p0_1 p0_2 p0_3 p0_4 = some r) (H : Ctx w G) : Calls Try.prog 41 #[.agg #[vp0_0, vp0_1, vp0_2, .int .i64 p0_3, vp0_4]] w fun e w' => ∃ (v1 : Value), e = .returned (v1) ∧ Holds (([] : List Res).flatMap Res.own) w w' [.sl 48 (.slice (.pair (.int .i64) (.int .i64))) v1 r] G := by
  have H : Holds (([] : List Res).flatMap Res.own) w w [] G := Holds.startN H
  refine calls_enter (args := [.agg #[vp0_0, vp0_1, vp0_2, .int .i64 p0_3, vp0_4]]) (n := 23) Try.func41 rfl rfl rfl ?_
  unfold spec_l7TicketsS at h
  refine WP_seq ?_
  refine WP_region ?_
  refine WL_box (cs := [vp0_0, vp0_1, vp0_2, .int .i64 p0_3, vp0_4]) H rfl rfl rfl rfl (fun b1 w2 H3 => ?_)
  have H4 : Holds (([] : List Res).flatMap Res.own) w w2 [.bx b1 32 [vp0_0, vp0_1, vp0_2, .int .i64 p0_3, vp0_4]] G := H3
  refine XL_q rfl (qt_assign rfl) rfl rfl ?_
  refine WL_nil_seq ?_
  refine WP_seq ?_
  refine WP_region ?_
  refine WL_buildH (t := (.slice (.pair (.int .i64) (.int .i64)))) (args := []) (xs := ([] : List (List (Int × Int)))) H4 (BltL.nil) u65 j48 rfl rfl rfl rfl rfl rfl (fun v5 w6 H7 => ?_)
  have H8 : Holds (([] : List Res).flatMap Res.own) w w6 [.sl 48 (.slice (.pair (.int .i64) (.int .i64))) v5 ([]), .bx b1 32 [vp0_0, vp0_1, vp0_2, .int .i64 p0_3, vp0_4]] G := H7
  refine XL_q rfl (qt_assign rfl) rfl rfl ?_
  refine WL_nil_seq ?_
  refine WP_seq ?_
  refine WP_seq ?_
  refine WP_region ?_
  refine XL_q rfl (qt_assign rfl) rfl rfl ?_
  refine WL_nil_seq ?_
  refine WP_block ?_
  obtain ⟨o11, ho12, h⟩ := bind_some h
  have H15 : Holds (([] : List Res).flatMap Res.own) w w6 [.bx b1 32 [vp0_0, vp0_1, vp0_2, .int .i64 p0_3, vp0_4], .sl 48 (.slice (.pair (.int .i64) (.int .i64))) v5 ([])] G := (H8.pull 1)
  refine fun a13 ha14 => wp_loop_fix (I := fun s a w2 => match s with | (s9, s10) => ∃ vs9, Fr a 23 [(1, .pointer (some ⟨b1, 0, none⟩)), (3, vs9), (4, .int .i64 s10)] ∧ Holds (([] : List Res).flatMap Res.own) w w2 [.bx b1 32 [vp0_0, vp0_1, vp0_2, .int .i64 p0_3, vp0_4], .sl 48 (.slice (.pair (.int .i64) (.int .i64))) vs9 s9] G) (O := fun o e a w2 => match o with | q0 => e = .exit 0 ∧ ∃ vq0, Fr a 23 [(3, vq0)] ∧ Holds (([] : List Res).flatMap Res.own) w w2 [.sl 48 (.slice (.pair (.int .i64) (.int .i64))) vq0 q0] G) ho12 ?_ ?_ ?_
  · exact ⟨v5, ha14.sub ⟨rfl, rfl, rfl, trivial⟩, H15⟩
  · clear ha14
    intro s o18 a w16 hs17 hI19
    obtain ⟨s9, s10⟩ := s
    obtain ⟨vs9, ha, H20⟩ := hI19
    refine WP.app ?_ ha
    clear ha
    refine WP_seq ?_
    refine WP_seq ?_
    refine WP_region ?_
    refine XL_q rfl (qt_move rfl) rfl rfl ?_
    refine XL_q rfl (qt_fieldAddr uf32 fi32_4 nz30 rfl) rfl rfl ?_
    have hB21 : Bx w16 b1 32 [vp0_0, vp0_1, vp0_2, .int .i64 p0_3, vp0_4] := Holds.bx (H20.pull 0)
    refine XL_load_bx u30 rfl hB21 rfl rfl rfl rfl ?_
    refine XL_lenH H20.ctx (t := (.pair (.int .i64) (.pair (.slice (.pair (.int .i64) (.int .i64))) (.slice (.int .i64))))) (hp0_4.c.c) u30 rfl rfl rfl ?_
    refine XL_q rfl (qt_lss rfl rfl) rfl rfl ?_
    refine WL_nil_seq ?_
    refine WP_cond rfl (fun hc22 => ?_) (fun hc22 => ?_)
    · have hs17 := if_t hc22 hs17
      refine WP_skip_seq ?_
      refine WP_seq ?_
      refine WP_block ?_
      refine WP_region ?_
      refine XL_q rfl (qt_move rfl) rfl rfl ?_
      refine XL_q rfl (qt_fieldAddr uf32 fi32_4 nz30 rfl) rfl rfl ?_
      have hB23 : Bx w16 b1 32 [vp0_0, vp0_1, vp0_2, .int .i64 p0_3, vp0_4] := Holds.bx (H20.pull 0)
      refine XL_load_bx u30 rfl hB23 rfl rfl rfl rfl ?_
      refine XL_q rfl (qt_move rfl) rfl rfl ?_
      obtain ⟨x24, hx25, hs17⟩ := bind_some hs17
      refine XL_indexH H20.ctx (hp0_4.c.c) hx25 u30 i50 rfl rfl rfl rfl (fun b26 off27 cap28 hv29 => ?_)
      refine XL_q rfl (qt_fieldAddr uf50 fi50_1 nz48 rfl) rfl rfl ?_
      obtain ⟨F30, hat31, hdup32⟩ := H20.at (hp0_4.c.c) hx25 hv29
      obtain ⟨F33, hat34, hin35⟩ := AtP.snd hat31
      obtain ⟨F36, hat37, hin38⟩ := AtP.fst hat34
      refine XL_load (t := (.slice (.pair (.int .i64) (.int .i64)))) u48 rfl rfl hat37 rfl rfl rfl (fun v39 hr40 => ?_)
      have H41 : Holds (([] : List Res).flatMap Res.own) w w16 [.ro (.pair (.int .i64) (.int .i64)) v39 x24.2.1, .bx b1 32 [vp0_0, vp0_1, vp0_2, .int .i64 p0_3, vp0_4], .sl 48 (.slice (.pair (.int .i64) (.int .i64))) vs9 s9] G := hdup32 _ _ _ _ hr40 (fun k h => (fun k h => (fun _ h => h) k (hin35 k h)) k (hin38 k h))
      refine WL_buildH (t := (.slice (.pair (.int .i64) (.int .i64)))) (args := [.tmp 19]) (xs := ([x24.2.1] : List (List (Int × Int)))) H41 (BltL.cons (Blt.slice (HasRo.hd)) (H41.ctx.sliceList (HasRo.has (HasRo.hd))) (BltL.nil)) u65 j48 rfl rfl rfl rfl rfl rfl (fun v42 w43 H44 => ?_)
      have H45 : Holds (([] : List Res).flatMap Res.own) w w43 [.sl 48 (.slice (.pair (.int .i64) (.int .i64))) v42 ([x24.2.1]), .ro (.pair (.int .i64) (.int .i64)) v39 x24.2.1, .bx b1 32 [vp0_0, vp0_1, vp0_2, .int .i64 p0_3, vp0_4], .sl 48 (.slice (.pair (.int .i64) (.int .i64))) vs9 s9] G := H44
      have H46 : Holds (([] : List Res).flatMap Res.own) w w43 [.sl 48 (.slice (.pair (.int .i64) (.int .i64))) vs9 s9, .sl 48 (.slice (.pair (.int .i64) (.int .i64))) v42 ([x24.2.1]), .ro (.pair (.int .i64) (.int .i64)) v39 x24.2.1, .bx b1 32 [vp0_0, vp0_1, vp0_2, .int .i64 p0_3, vp0_4]] G := H45.pull 3
      obtain ⟨x47, hx48, hs17⟩ := bind_some hs17
      refine WL_appendH H46 (Has.c (Has.hd)) hx48 u65 j48 rfl rfl rfl rfl rfl rfl (fun v49 w50 H51 => ?_)
      have H52 : Holds (([] : List Res).flatMap Res.own) w w50 [.sl 48 (.slice (.pair (.int .i64) (.int .i64))) v49 x47, .sl 48 (.slice (.pair (.int .i64) (.int .i64))) v42 ([x24.2.1]), .ro (.pair (.int .i64) (.int .i64)) v39 x24.2.1, .bx b1 32 [vp0_0, vp0_1, vp0_2, .int .i64 p0_3, vp0_4]] G := H51
      refine XL_q rfl (qt_assign rfl) rfl rfl ?_
      refine WL_nil fun a ha => ?_
      refine nrm_block (nrm_seq (WP.app ?_ ha))
      refine WP_region ?_
      refine XL_q rfl (qt_move rfl) rfl rfl ?_
      refine XL_q rfl (qt_add rfl rfl) rfl rfl ?_
      refine XL_q rfl (qt_assign rfl) rfl rfl ?_
      refine WL_nil fun a ha => ?_
      obtain rfl := Option.some.inj hs17
      have H53 : Holds (([] : List Res).flatMap Res.own) w w50 [.bx b1 32 [vp0_0, vp0_1, vp0_2, .int .i64 p0_3, vp0_4], .sl 48 (.slice (.pair (.int .i64) (.int .i64))) v49 x47] G := (((H52.cut 1).cut 1).pull 1)
      exact ⟨rfl, v49, ha.sub ⟨rfl, rfl, rfl, trivial⟩, H53⟩
    · have hs17 := if_f hc22 hs17
      refine WP_exit fun a ha => ?_
      obtain rfl := Option.some.inj hs17
      have H54 : Holds (([] : List Res).flatMap Res.own) w w16 [.sl 48 (.slice (.pair (.int .i64) (.int .i64))) vs9 s9] G := (H20.cut 0)
      exact exit_seq (⟨exit_ne, rfl, vs9, ha.sub ⟨rfl, trivial⟩, H54⟩)
  · intro e a13 w55 hO56
    obtain ⟨p57, rfl⟩ : ∃ z, z = o11 := ⟨o11, rfl⟩
    obtain ⟨rfl, hO59⟩ := hO56
    obtain ⟨vp57, ha, H58⟩ := hO59
    refine exit_block_eq (nrm_seq (WP.app ?_ ha))
    refine WP_seq ?_
    refine WP_region ?_
    refine XL_q rfl (qt_move rfl) rfl rfl ?_
    refine XL_q rfl (qt_assign rfl) rfl rfl ?_
    refine WL_nil_seq ?_
    refine WP_ret fun a ha => ?_
    obtain rfl := Option.some.inj h
    exact ret1 rfl ha rfl ⟨vp57, rfl, H58⟩
theorem w_spec_KitchenValid (w : World) (G : List Res) (vp0 : Value) (p0 : List (List (Int × Int))) (hp0 : Has G (.slice (.pair (.int .i64) (.int .i64))) vp0 p0) (r : Bool) (h : spec_KitchenValidS p0 = some r) (H : Ctx w G) : Calls Try.prog 62 #[vp0] w fun e w' => e = .returned (.bool r) ∧ Holds (([] : List Res).flatMap Res.own) w w' [] G := by
  have H : Holds (([] : List Res).flatMap Res.own) w w [] G := Holds.startN H
  refine calls_enter (args := [vp0]) (n := 19) Try.func62 rfl rfl rfl ?_
  unfold spec_KitchenValidS at h
  refine WP_seq ?_
  refine WP_region ?_
  refine XL_q rfl (qt_assign rfl) rfl rfl ?_
  refine WL_nil_seq ?_
  refine WP_seq ?_
  refine WP_seq ?_
  refine WP_region ?_
  refine XL_q rfl (qt_assign rfl) rfl rfl ?_
  refine WL_nil_seq ?_
  refine WP_block ?_
  obtain ⟨o2, ho3, h⟩ := bind_some h
  refine fun a4 ha5 => wp_loop_fix (I := fun s a w2 => match s with | s1 => (Fr a 19 [(0, vp0), (3, .int .i64 s1)] ∧ Holds (([] : List Res).flatMap Res.own) w w2 [] G)) (O := fun o e a w2 => match o with | .inl _ => e = .exit 0 ∧ (Fr a 19 [(0, vp0)] ∧ Holds (([] : List Res).flatMap Res.own) w w2 [] G) | .inr q0 => e = .ret ∧ (Fr a 19 [(2, .bool q0)] ∧ Holds (([] : List Res).flatMap Res.own) w w2 [] G)) ho3 ?_ ?_ ?_
  · exact ⟨ha5.sub ⟨rfl, rfl, trivial⟩, H⟩
  · clear ha5
    intro s o8 a w6 hs7 hI9
    obtain ⟨s1, rfl⟩ : ∃ z, z = s := ⟨s, rfl⟩
    obtain ⟨ha, H10⟩ := hI9
    refine WP.app ?_ ha
    clear ha
    refine WP_seq ?_
    refine WP_seq ?_
    refine WP_region ?_
    refine XL_q rfl (qt_move rfl) rfl rfl ?_
    refine XL_q rfl (qt_move rfl) rfl rfl ?_
    refine XL_lenH H10.ctx (t := (.slice (.pair (.int .i64) (.int .i64)))) (hp0) u65 rfl rfl rfl ?_
    refine XL_q rfl (qt_lss rfl rfl) rfl rfl ?_
    refine WL_nil_seq ?_
    refine WP_cond rfl (fun hc11 => ?_) (fun hc11 => ?_)
    · have hs7 := if_t hc11 hs7
      refine WP_skip_seq ?_
      refine WP_seq ?_
      refine WP_block ?_
      refine WP_seq ?_
      refine WP_still ?_
      refine XL_q rfl (qt_move rfl) rfl rfl ?_
      refine XL_q rfl (qt_move rfl) rfl rfl ?_
      obtain ⟨x12, hx13, hs7⟩ := bind_some hs7
      refine XL_indexH H10.ctx (hp0) hx13 u65 i48 rfl rfl rfl rfl (fun b14 off15 cap16 hv17 => ?_)
      obtain ⟨F18, hat19, hdup20⟩ := H10.at (hp0) hx13 hv17
      refine XL_load (t := (.slice (.pair (.int .i64) (.int .i64)))) u48 rfl rfl hat19 rfl rfl rfl (fun v21 hr22 => ?_)
      have H23 : Holds (([] : List Res).flatMap Res.own) w w6 [.ro (.pair (.int .i64) (.int .i64)) v21 x12] G := hdup20 _ _ _ _ hr22 (fun _ h => h)
      obtain ⟨x24, hx25, hs7⟩ := bind_some hs7
      refine QL_call rfl rfl c28 (fun w' hb => (w_spec_TicketValid w' ([.ro (.pair (.int .i64) (.int .i64)) v21 x12] ++ G) v21 x12 (HasRo.has (HasRo.hd)) x24 hx25 (H23.grow hb).ctx).mono fun e w'' hK => ⟨hK.1, hK.2.bel⟩) (by rfl) ?_
      refine XL_q rfl (qt_not rfl) rfl rfl ?_
      refine QL_nil fun a ha w26 hb27 => ?_
      have H28 : Holds (([] : List Res).flatMap Res.own) w w26 [.ro (.pair (.int .i64) (.int .i64)) v21 x12] G := H23.grow hb27
      refine nrm_seq (WP.app ?_ ha)
      refine WP_cond rfl (fun hc29 => ?_) (fun hc29 => ?_)
      · have hs7 := if_t hc29 hs7
        refine WP_seq ?_
        refine WP_region ?_
        refine XL_q rfl (qt_assign rfl) rfl rfl ?_
        refine WL_nil_seq ?_
        refine WP_ret fun a ha => ?_
        obtain rfl := Option.some.inj hs7
        have H30 : Holds (([] : List Res).flatMap Res.own) w w26 [] G := (H28.cut 0)
        exact ret_block (ret_seq (⟨ret_ne, rfl, ha.sub ⟨rfl, trivial⟩, H30⟩))
      · have hs7 := if_f hc29 hs7
        refine WP_skip fun a ha => ?_
        refine nrm_block (nrm_seq (WP.app ?_ ha))
        refine WP_region ?_
        refine XL_q rfl (qt_move rfl) rfl rfl ?_
        refine XL_q rfl (qt_add rfl rfl) rfl rfl ?_
        refine XL_q rfl (qt_assign rfl) rfl rfl ?_
        refine WL_nil fun a ha => ?_
        obtain rfl := Option.some.inj hs7
        have H31 : Holds (([] : List Res).flatMap Res.own) w w26 [] G := (H28.cut 0)
        exact ⟨rfl, ha.sub ⟨rfl, rfl, trivial⟩, H31⟩
    · have hs7 := if_f hc11 hs7
      refine WP_exit fun a ha => ?_
      obtain rfl := Option.some.inj hs7
      exact exit_seq (⟨exit_ne, rfl, ha.sub ⟨rfl, trivial⟩, H10⟩)
  · intro e a4 w32 hO33
    rcases o2 with o2 | o2
    · skip
      obtain ⟨rfl, hO35⟩ := hO33
      obtain ⟨ha, H34⟩ := hO35
      refine exit_block_eq (nrm_seq (WP.app ?_ ha))
      refine WP_seq ?_
      refine WP_region ?_
      refine XL_q rfl (qt_move rfl) rfl rfl ?_
      refine XL_lenH H34.ctx (t := (.slice (.pair (.int .i64) (.int .i64)))) (hp0) u65 rfl rfl rfl ?_
      refine XL_q rfl (qt_leq rfl rfl) rfl rfl ?_
      refine XL_q rfl (qt_assign rfl) rfl rfl ?_
      refine WL_nil_seq ?_
      refine WP_ret fun a ha => ?_
      obtain rfl := Option.some.inj h
      exact ret1 rfl ha rfl ⟨rfl, H34⟩
    · skip
      obtain ⟨p36, rfl⟩ : ∃ z, z = o2 := ⟨o2, rfl⟩
      obtain ⟨rfl, hO38⟩ := hO33
      obtain ⟨ha, H37⟩ := hO38
      obtain rfl := Option.some.inj h
      exact ret_block (ret_seq (ret1 rfl ha rfl ⟨rfl, H37⟩))
theorem w_spec_WorkLeft (w : World) (G : List Res) (vp0 : Value) (p0 : List (List (Int × Int))) (hp0 : Has G (.slice (.pair (.int .i64) (.int .i64))) vp0 p0) (r : Int) (h : spec_WorkLeftS p0 = some r) (H : Ctx w G) : Calls Try.prog 40 #[vp0] w fun e w' => e = .returned (.int .i64 r) ∧ Holds (([] : List Res).flatMap Res.own) w w' [] G := by
  have H : Holds (([] : List Res).flatMap Res.own) w w [] G := Holds.startN H
  refine calls_enter (args := [vp0]) (n := 37) Try.func40 rfl rfl rfl ?_
  unfold spec_WorkLeftS at h
  refine WP_seq ?_
  refine WP_region ?_
  refine XL_q rfl (qt_assign rfl) rfl rfl ?_
  refine WL_nil_seq ?_
  refine WP_seq ?_
  refine WP_seq ?_
  refine WP_still ?_
  refine XL_q rfl (qt_move rfl) rfl rfl ?_
  obtain ⟨x1, hx2, h⟩ := bind_some h
  refine QL_call rfl rfl c62 (fun w' hb => (w_spec_KitchenValid w' G vp0 p0 (hp0) x1 hx2 (H.grow hb).ctx).mono fun e w'' hK => ⟨hK.1, hK.2.bel⟩) (by rfl) ?_
  refine XL_q rfl (qt_not rfl) rfl rfl ?_
  refine QL_nil fun a ha w3 hb4 => ?_
  have H5 : Holds (([] : List Res).flatMap Res.own) w w3 [] G := H.grow hb4
  refine nrm_seq (WP.app ?_ ha)
  refine WP_cond rfl (fun hc6 => ?_) (fun hc6 => ?_)
  · have h := if_t hc6 h
    refine WP_seq ?_
    refine WP_region ?_
    refine XL_q rfl (qt_assign rfl) rfl rfl ?_
    refine WL_nil_seq ?_
    refine WP_ret fun a ha => ?_
    obtain rfl := Option.some.inj h
    exact ret_seq (ret1 rfl ha rfl ⟨rfl, H5⟩)
  · have h := if_f hc6 h
    refine WP_skip_seq ?_
    refine WP_seq ?_
    refine WP_region ?_
    refine XL_q rfl (qt_assign rfl) rfl rfl ?_
    refine WL_nil_seq ?_
    refine WP_seq ?_
    refine WP_seq ?_
    refine WP_region ?_
    refine XL_q rfl (qt_assign rfl) rfl rfl ?_
    refine WL_nil_seq ?_
    refine WP_block ?_
    obtain ⟨o9, ho10, h⟩ := bind_some h
    refine fun a11 ha12 => wp_loop_fix (I := fun s a w2 => match s with | (s7, s8) => (Fr a 37 [(0, vp0), (3, .int .i64 s7), (4, .int .i64 s8)] ∧ Holds (([] : List Res).flatMap Res.own) w w2 [] G)) (O := fun o e a w2 => match o with | q0 => e = .exit 0 ∧ (Fr a 37 [(3, .int .i64 q0)] ∧ Holds (([] : List Res).flatMap Res.own) w w2 [] G)) ho10 ?_ ?_ ?_
    · exact ⟨ha12.sub ⟨rfl, rfl, rfl, trivial⟩, H5⟩
    · clear ha12
      intro s o15 a w13 hs14 hI16
      obtain ⟨s7, s8⟩ := s
      obtain ⟨ha, H17⟩ := hI16
      refine WP.app ?_ ha
      clear ha
      refine WP_seq ?_
      refine WP_seq ?_
      refine WP_region ?_
      refine XL_q rfl (qt_move rfl) rfl rfl ?_
      refine XL_q rfl (qt_move rfl) rfl rfl ?_
      refine XL_lenH H17.ctx (t := (.slice (.pair (.int .i64) (.int .i64)))) (hp0) u65 rfl rfl rfl ?_
      refine XL_q rfl (qt_lss rfl rfl) rfl rfl ?_
      refine WL_nil_seq ?_
      refine WP_cond rfl (fun hc18 => ?_) (fun hc18 => ?_)
      · have hs14 := if_t hc18 hs14
        refine WP_skip_seq ?_
        refine WP_seq ?_
        refine WP_block ?_
        refine WP_seq ?_
        refine WP_region ?_
        refine XL_q rfl (qt_assign rfl) rfl rfl ?_
        refine WL_nil_seq ?_
        refine WP_block ?_
        obtain ⟨o21, ho22, hs14⟩ := bind_some hs14
        refine fun a23 ha24 => wp_loop_fix (I := fun s a w2 => match s with | (s19, s20) => (Fr a 37 [(0, vp0), (3, .int .i64 s19), (4, .int .i64 s8), (5, .int .i64 s20)] ∧ Holds (([] : List Res).flatMap Res.own) w w2 [] G)) (O := fun o e a w2 => match o with | q0 => e = .exit 2 ∧ (Fr a 37 [(0, vp0), (3, .int .i64 q0), (4, .int .i64 s8)] ∧ Holds (([] : List Res).flatMap Res.own) w w2 [] G)) ho22 ?_ ?_ ?_
        · exact ⟨ha24.sub ⟨rfl, rfl, rfl, rfl, trivial⟩, H17⟩
        · clear ha24
          intro s o27 a w25 hs26 hI28
          obtain ⟨s19, s20⟩ := s
          obtain ⟨ha, H29⟩ := hI28
          refine WP.app ?_ ha
          clear ha
          refine WP_seq ?_
          refine WP_seq ?_
          refine WP_region ?_
          refine XL_q rfl (qt_move rfl) rfl rfl ?_
          refine XL_q rfl (qt_move rfl) rfl rfl ?_
          refine XL_q rfl (qt_move rfl) rfl rfl ?_
          obtain ⟨x30, hx31, hs26⟩ := bind_some hs26
          refine XL_indexH H29.ctx (hp0) hx31 u65 i48 rfl rfl rfl rfl (fun b32 off33 cap34 hv35 => ?_)
          obtain ⟨F36, hat37, hdup38⟩ := H29.at (hp0) hx31 hv35
          refine XL_load (t := (.slice (.pair (.int .i64) (.int .i64)))) u48 rfl rfl hat37 rfl rfl rfl (fun v39 hr40 => ?_)
          have H41 : Holds (([] : List Res).flatMap Res.own) w w25 [.ro (.pair (.int .i64) (.int .i64)) v39 x30] G := hdup38 _ _ _ _ hr40 (fun _ h => h)
          refine XL_lenH H41.ctx (t := (.pair (.int .i64) (.int .i64))) (HasRo.has (HasRo.hd)) u48 rfl rfl rfl ?_
          refine XL_q rfl (qt_lss rfl rfl) rfl rfl ?_
          refine WL_nil_seq ?_
          refine WP_cond rfl (fun hc42 => ?_) (fun hc42 => ?_)
          · have hs26 := if_t hc42 hs26
            refine WP_skip_seq ?_
            refine WP_seq ?_
            refine WP_block ?_
            refine WP_region ?_
            refine XL_q rfl (qt_move rfl) rfl rfl ?_
            refine XL_q rfl (qt_move rfl) rfl rfl ?_
            refine XL_q rfl (qt_move rfl) rfl rfl ?_
            obtain ⟨x43, hx44, hs26⟩ := bind_some hs26
            refine XL_indexH H41.ctx (hp0.c) hx44 u65 i48 rfl rfl rfl rfl (fun b45 off46 cap47 hv48 => ?_)
            obtain ⟨F49, hat50, hdup51⟩ := H41.at (hp0.c) hx44 hv48
            refine XL_load (t := (.slice (.pair (.int .i64) (.int .i64)))) u48 rfl rfl hat50 rfl rfl rfl (fun v52 hr53 => ?_)
            have H54 : Holds (([] : List Res).flatMap Res.own) w w25 [.ro (.pair (.int .i64) (.int .i64)) v52 x43, .ro (.pair (.int .i64) (.int .i64)) v39 x30] G := hdup51 _ _ _ _ hr53 (fun _ h => h)
            refine XL_q rfl (qt_move rfl) rfl rfl ?_
            obtain ⟨x55, hx56, hs26⟩ := bind_some hs26
            refine XL_indexH H54.ctx (HasRo.has (HasRo.hd)) hx56 u48 i63 rfl rfl rfl rfl (fun b57 off58 cap59 hv60 => ?_)
            refine XL_q rfl (qt_fieldAddr uf63 fi63_1 nz3 rfl) rfl rfl ?_
            obtain ⟨F61, hat62, hdup63⟩ := H54.at (HasRo.has (HasRo.hd)) hx56 hv60
            obtain ⟨F64, hat65, hin66⟩ := AtP.snd hat62
            refine XL_load_int (k := .i64) u3 rfl hat65 rfl rfl rfl ?_
            refine XL_q rfl (qt_sub rfl rfl) rfl rfl ?_
            refine XL_q rfl (qt_max rfl rfl) rfl rfl ?_
            refine XL_q rfl (qt_add rfl rfl) rfl rfl ?_
            refine XL_q rfl (qt_assign rfl) rfl rfl ?_
            refine WL_nil fun a ha => ?_
            refine nrm_block (nrm_seq (WP.app ?_ ha))
            refine WP_region ?_
            refine XL_q rfl (qt_move rfl) rfl rfl ?_
            refine XL_q rfl (qt_add rfl rfl) rfl rfl ?_
            refine XL_q rfl (qt_assign rfl) rfl rfl ?_
            refine WL_nil fun a ha => ?_
            obtain rfl := Option.some.inj hs26
            have H67 : Holds (([] : List Res).flatMap Res.own) w w25 [] G := ((H54.cut 0).cut 0)
            exact ⟨rfl, ha.sub ⟨rfl, rfl, rfl, rfl, trivial⟩, H67⟩
          · have hs26 := if_f hc42 hs26
            refine WP_exit fun a ha => ?_
            obtain rfl := Option.some.inj hs26
            have H68 : Holds (([] : List Res).flatMap Res.own) w w25 [] G := (H41.cut 0)
            exact exit_seq (⟨exit_ne, rfl, ha.sub ⟨rfl, rfl, rfl, trivial⟩, H68⟩)
        · intro e a23 w69 hO70
          obtain ⟨p71, rfl⟩ : ∃ z, z = o21 := ⟨o21, rfl⟩
          obtain ⟨rfl, hO73⟩ := hO70
          obtain ⟨ha, H72⟩ := hO73
          refine exit_block_eq (nrm_block (nrm_seq (WP.app ?_ ha)))
          refine WP_region ?_
          refine XL_q rfl (qt_move rfl) rfl rfl ?_
          refine XL_q rfl (qt_add rfl rfl) rfl rfl ?_
          refine XL_q rfl (qt_assign rfl) rfl rfl ?_
          refine WL_nil fun a ha => ?_
          obtain rfl := Option.some.inj hs14
          exact ⟨rfl, ha.sub ⟨rfl, rfl, rfl, trivial⟩, H72⟩
      · have hs14 := if_f hc18 hs14
        refine WP_exit fun a ha => ?_
        obtain rfl := Option.some.inj hs14
        exact exit_seq (⟨exit_ne, rfl, ha.sub ⟨rfl, trivial⟩, H17⟩)
    · intro e a11 w74 hO75
      obtain ⟨p76, rfl⟩ : ∃ z, z = o9 := ⟨o9, rfl⟩
      obtain ⟨rfl, hO78⟩ := hO75
      obtain ⟨ha, H77⟩ := hO78
      refine exit_block_eq (nrm_seq (WP.app ?_ ha))
      refine WP_seq ?_
      refine WP_region ?_
      refine XL_q rfl (qt_move rfl) rfl rfl ?_
      refine XL_q rfl (qt_assign rfl) rfl rfl ?_
      refine WL_nil_seq ?_
      refine WP_ret fun a ha => ?_
      obtain rfl := Option.some.inj h
      exact ret1 rfl ha rfl ⟨rfl, H77⟩
theorem w_spec_EndDeeds (w : World) (G : List Res) (vp0_0 : Value) (p0_0 : List (Int × (List (Int × Int)) × Int)) (hp0_0 : Has G (.pair (.int .i64) (.pair (.slice (.pair (.int .i64) (.int .i64))) (.int .i64))) vp0_0 p0_0) (vp0_1 : Value) (p0_1 : List Int) (hp0_1 : Has G (.int .i64) vp0_1 p0_1) (vp0_2 : Value) (p0_2 : List Int) (hp0_2 : Has G (.int .i64) vp0_2 p0_2) (p0_3 : Int) (vp0_4 : Value) (p0_4 : List (Int × (List (Int × Int)) × (List Int))) (hp0_4 : Has G (.pair (.int .i64) (.pair (.slice (.pair (.int .i64) (.int .i64))) (.slice (.int .i64)))) vp0_4 p0_4) (r : (List (Int × Int × Int × Int))) (h : spec_EndDeedsS p0_0 p0_1 p0_2 p0_3 p0_4 = some r) (H : Ctx w G) : Calls Try.prog 16 #[.agg #[vp0_0, vp0_1, vp0_2, .int .i64 p0_3, vp0_4]] w fun e w' => ∃ (v1 : Value), e = .returned (v1) ∧ Holds (([] : List Res).flatMap Res.own) w w' [.sl 68 (.pair (.int .i64) (.pair (.int .i64) (.pair (.int .i64) (.int .i64)))) v1 r] G := by
  have H : Holds (([] : List Res).flatMap Res.own) w w [] G := Holds.startN H
  refine calls_enter (args := [.agg #[vp0_0, vp0_1, vp0_2, .int .i64 p0_3, vp0_4]]) (n := 34) Try.func16 rfl rfl rfl ?_
  unfold spec_EndDeedsS at h
  refine WP_seq ?_
  refine WP_region ?_
  refine WL_box (cs := [vp0_0, vp0_1, vp0_2, .int .i64 p0_3, vp0_4]) H rfl rfl rfl rfl (fun b1 w2 H3 => ?_)
  have H4 : Holds (([] : List Res).flatMap Res.own) w w2 [.bx b1 32 [vp0_0, vp0_1, vp0_2, .int .i64 p0_3, vp0_4]] G := H3
  refine XL_q rfl (qt_assign rfl) rfl rfl ?_
  refine WL_nil_seq ?_
  refine WP_seq ?_
  refine WP_region ?_
  refine WL_buildH (t := (.pair (.int .i64) (.pair (.int .i64) (.pair (.int .i64) (.int .i64))))) (args := []) (xs := ([] : List (Int × Int × Int × Int))) H4 (BltL.nil) u39 j68 rfl rfl rfl rfl rfl rfl (fun v5 w6 H7 => ?_)
  have H8 : Holds (([] : List Res).flatMap Res.own) w w6 [.sl 68 (.pair (.int .i64) (.pair (.int .i64) (.pair (.int .i64) (.int .i64)))) v5 ([]), .bx b1 32 [vp0_0, vp0_1, vp0_2, .int .i64 p0_3, vp0_4]] G := H7
  refine XL_q rfl (qt_assign rfl) rfl rfl ?_
  refine WL_nil_seq ?_
  refine WP_seq ?_
  refine WP_seq ?_
  refine WP_still ?_
  have hB9 : Bx w6 b1 32 [vp0_0, vp0_1, vp0_2, .int .i64 p0_3, vp0_4] := Holds.bx (H8.pull 1)
  refine XL_load_bxA (cs := [vp0_0, vp0_1, vp0_2, .int .i64 p0_3, vp0_4]) us32 uo32 il32 hB9 rfl rfl rfl ?_
  change XL _ _ _ _ _ ((7, .agg #[vp0_0, vp0_1, vp0_2, .int .i64 p0_3, vp0_4]) :: _) _
  obtain ⟨x10, hx11, h⟩ := bind_some h
  refine QL_call rfl rfl c8 (fun w' hb => (w_spec_HouseValid w' ([.sl 68 (.pair (.int .i64) (.pair (.int .i64) (.pair (.int .i64) (.int .i64)))) v5 ([]), .bx b1 32 [vp0_0, vp0_1, vp0_2, .int .i64 p0_3, vp0_4]] ++ G) vp0_0 p0_0 (hp0_0.c.c) vp0_1 p0_1 (hp0_1.c.c) vp0_2 p0_2 (hp0_2.c.c) p0_3 vp0_4 p0_4 (hp0_4.c.c) x10 hx11 (H8.grow hb).ctx).mono fun e w'' hK => ⟨hK.1, hK.2.bel⟩) (by rfl) ?_
  refine XL_q rfl (qt_not rfl) rfl rfl ?_
  refine QL_nil fun a ha w12 hb13 => ?_
  have H14 : Holds (([] : List Res).flatMap Res.own) w w12 [.sl 68 (.pair (.int .i64) (.pair (.int .i64) (.pair (.int .i64) (.int .i64)))) v5 ([]), .bx b1 32 [vp0_0, vp0_1, vp0_2, .int .i64 p0_3, vp0_4]] G := H8.grow hb13
  refine nrm_seq (WP.app ?_ ha)
  refine WP_cond rfl (fun hc15 => ?_) (fun hc15 => ?_)
  · have h := if_t hc15 h
    refine WP_seq ?_
    refine WP_region ?_
    refine XL_q rfl (qt_move rfl) rfl rfl ?_
    refine XL_q rfl (qt_assign rfl) rfl rfl ?_
    refine WL_nil_seq ?_
    refine WP_ret fun a ha => ?_
    obtain rfl := Option.some.inj h
    have H16 : Holds (([] : List Res).flatMap Res.own) w w12 [.sl 68 (.pair (.int .i64) (.pair (.int .i64) (.pair (.int .i64) (.int .i64)))) v5 ([])] G := (H14.cut 1)
    exact ret_seq (ret1 rfl ha rfl ⟨v5, rfl, H16⟩)
  · have h := if_f hc15 h
    refine WP_skip_seq ?_
    refine WP_seq ?_
    refine WP_seq ?_
    refine WP_region ?_
    have hB17 : Bx w12 b1 32 [vp0_0, vp0_1, vp0_2, .int .i64 p0_3, vp0_4] := Holds.bx (H14.pull 1)
    refine XL_load_bxA (cs := [vp0_0, vp0_1, vp0_2, .int .i64 p0_3, vp0_4]) us32 uo32 il32 hB17 rfl rfl rfl ?_
    change XL _ _ _ _ _ ((11, .agg #[vp0_0, vp0_1, vp0_2, .int .i64 p0_3, vp0_4]) :: _) _
    obtain ⟨x18, hx19, h⟩ := bind_some h
    refine WL_call rfl rfl c41 (w_spec_l7Tickets w12 ([.sl 68 (.pair (.int .i64) (.pair (.int .i64) (.pair (.int .i64) (.int .i64)))) v5 ([]), .bx b1 32 [vp0_0, vp0_1, vp0_2, .int .i64 p0_3, vp0_4]] ++ G) vp0_0 p0_0 (hp0_0.c.c) vp0_1 p0_1 (hp0_1.c.c) vp0_2 p0_2 (hp0_2.c.c) p0_3 vp0_4 p0_4 (hp0_4.c.c) x18 hx19 H14.ctx) (by rfl) ?_
    rintro _ w20 ⟨v22, rfl, H21⟩; refine ⟨_, rfl, ?_⟩
    have H23 : Holds (([] : List Res).flatMap Res.own) w w20 [.sl 48 (.slice (.pair (.int .i64) (.int .i64))) v22 x18, .sl 68 (.pair (.int .i64) (.pair (.int .i64) (.pair (.int .i64) (.int .i64)))) v5 ([]), .bx b1 32 [vp0_0, vp0_1, vp0_2, .int .i64 p0_3, vp0_4]] G := H14.calledN (Rs := []) H21
    obtain ⟨x24, hx25, h⟩ := bind_some h
    refine WL_call rfl rfl c40 (w_spec_WorkLeft w20 ([.sl 48 (.slice (.pair (.int .i64) (.int .i64))) v22 x18, .sl 68 (.pair (.int .i64) (.pair (.int .i64) (.pair (.int .i64) (.int .i64)))) v5 ([]), .bx b1 32 [vp0_0, vp0_1, vp0_2, .int .i64 p0_3, vp0_4]] ++ G) v22 x18 (Has.hd) x24 hx25 H23.ctx) (by rfl) ?_
    rintro _ w26 ⟨rfl, H27⟩; refine ⟨_, rfl, ?_⟩
    have H28 : Holds (([] : List Res).flatMap Res.own) w w26 [.sl 48 (.slice (.pair (.int .i64) (.int .i64))) v22 x18, .sl 68 (.pair (.int .i64) (.pair (.int .i64) (.pair (.int .i64) (.int .i64)))) v5 ([]), .bx b1 32 [vp0_0, vp0_1, vp0_2, .int .i64 p0_3, vp0_4]] G := H23.calledN (Rs := []) H27
    refine XL_q rfl (qt_assign rfl) rfl rfl ?_
    refine WL_nil_seq ?_
    refine WP_block ?_
    obtain ⟨o31, ho32, h⟩ := bind_some h
    have H35 : Holds (([] : List Res).flatMap Res.own) w w26 [.bx b1 32 [vp0_0, vp0_1, vp0_2, .int .i64 p0_3, vp0_4], .sl 68 (.pair (.int .i64) (.pair (.int .i64) (.pair (.int .i64) (.int .i64)))) v5 ([])] G := ((H28.cut 0).pull 1)
    refine fun a33 ha34 => wp_loop_fix (I := fun s a w2 => match s with | (s29, s30) => ∃ vs29, Fr a 34 [(1, .pointer (some ⟨b1, 0, none⟩)), (3, vs29), (4, .int .i64 s30)] ∧ Holds (([] : List Res).flatMap Res.own) w w2 [.bx b1 32 [vp0_0, vp0_1, vp0_2, .int .i64 p0_3, vp0_4], .sl 68 (.pair (.int .i64) (.pair (.int .i64) (.pair (.int .i64) (.int .i64)))) vs29 s29] G) (O := fun o e a w2 => match o with | q0 => e = .exit 0 ∧ ∃ vq0, Fr a 34 [(1, .pointer (some ⟨b1, 0, none⟩)), (3, vq0)] ∧ Holds (([] : List Res).flatMap Res.own) w w2 [.bx b1 32 [vp0_0, vp0_1, vp0_2, .int .i64 p0_3, vp0_4], .sl 68 (.pair (.int .i64) (.pair (.int .i64) (.pair (.int .i64) (.int .i64)))) vq0 q0] G) ho32 ?_ ?_ ?_
    · exact ⟨v5, ha34.sub ⟨rfl, rfl, rfl, trivial⟩, H35⟩
    · clear ha34
      intro s o38 a w36 hs37 hI39
      obtain ⟨s29, s30⟩ := s
      obtain ⟨vs29, ha, H40⟩ := hI39
      refine WP.app ?_ ha
      clear ha
      refine WP_seq ?_
      refine WP_seq ?_
      refine WP_region ?_
      refine XL_q rfl (qt_move rfl) rfl rfl ?_
      refine XL_q rfl (qt_gtr rfl rfl) rfl rfl ?_
      refine WL_nil_seq ?_
      refine WP_cond rfl (fun hc41 => ?_) (fun hc41 => ?_)
      · have hs37 := if_t hc41 hs37
        refine WP_skip_seq ?_
        refine WP_seq ?_
        refine WP_block ?_
        refine WP_region ?_
        refine XL_q rfl (qt_move rfl) rfl rfl ?_
        refine XL_q rfl (qt_build (args := [(0, .const (.int .i64 4))]) (css := [#[.int .i64 4]]) (cells := #[.int .i64 4, .int .i64 0, .int .i64 0, .int .i64 0]) rfl ⟨rfl, trivial⟩ (by kernel_rfl)) rfl rfl ?_
        refine WL_buildH (t := (.pair (.int .i64) (.pair (.int .i64) (.pair (.int .i64) (.int .i64))))) (args := [.tmp 19]) (xs := ([(4, 0, 0, 0)] : List (Int × Int × Int × Int))) H40 (BltL.cons (Blt.pair (Blt.int) (Blt.pair (Blt.int) (Blt.pair (Blt.int) (Blt.int)))) rfl (BltL.nil)) u39 j68 rfl rfl rfl rfl rfl rfl (fun v42 w43 H44 => ?_)
        have H45 : Holds (([] : List Res).flatMap Res.own) w w43 [.sl 68 (.pair (.int .i64) (.pair (.int .i64) (.pair (.int .i64) (.int .i64)))) v42 ([(4, 0, 0, 0)]), .bx b1 32 [vp0_0, vp0_1, vp0_2, .int .i64 p0_3, vp0_4], .sl 68 (.pair (.int .i64) (.pair (.int .i64) (.pair (.int .i64) (.int .i64)))) vs29 s29] G := H44
        have H46 : Holds (([] : List Res).flatMap Res.own) w w43 [.sl 68 (.pair (.int .i64) (.pair (.int .i64) (.pair (.int .i64) (.int .i64)))) vs29 s29, .sl 68 (.pair (.int .i64) (.pair (.int .i64) (.pair (.int .i64) (.int .i64)))) v42 ([(4, 0, 0, 0)]), .bx b1 32 [vp0_0, vp0_1, vp0_2, .int .i64 p0_3, vp0_4]] G := H45.pull 2
        obtain ⟨x47, hx48, hs37⟩ := bind_some hs37
        refine WL_appendH H46 (Has.c (Has.hd)) hx48 u39 j68 rfl rfl rfl rfl rfl rfl (fun v49 w50 H51 => ?_)
        have H52 : Holds (([] : List Res).flatMap Res.own) w w50 [.sl 68 (.pair (.int .i64) (.pair (.int .i64) (.pair (.int .i64) (.int .i64)))) v49 x47, .sl 68 (.pair (.int .i64) (.pair (.int .i64) (.pair (.int .i64) (.int .i64)))) v42 ([(4, 0, 0, 0)]), .bx b1 32 [vp0_0, vp0_1, vp0_2, .int .i64 p0_3, vp0_4]] G := H51
        refine XL_q rfl (qt_assign rfl) rfl rfl ?_
        refine WL_nil fun a ha => ?_
        refine nrm_block (nrm_seq (WP.app ?_ ha))
        refine WP_region ?_
        refine XL_q rfl (qt_move rfl) rfl rfl ?_
        refine XL_q rfl (qt_sub rfl rfl) rfl rfl ?_
        refine XL_q rfl (qt_assign rfl) rfl rfl ?_
        refine WL_nil fun a ha => ?_
        obtain rfl := Option.some.inj hs37
        have H53 : Holds (([] : List Res).flatMap Res.own) w w50 [.bx b1 32 [vp0_0, vp0_1, vp0_2, .int .i64 p0_3, vp0_4], .sl 68 (.pair (.int .i64) (.pair (.int .i64) (.pair (.int .i64) (.int .i64)))) v49 x47] G := ((H52.cut 1).pull 1)
        exact ⟨rfl, v49, ha.sub ⟨rfl, rfl, rfl, trivial⟩, H53⟩
      · have hs37 := if_f hc41 hs37
        refine WP_exit fun a ha => ?_
        obtain rfl := Option.some.inj hs37
        have H54 : Holds (([] : List Res).flatMap Res.own) w w36 [.bx b1 32 [vp0_0, vp0_1, vp0_2, .int .i64 p0_3, vp0_4], .sl 68 (.pair (.int .i64) (.pair (.int .i64) (.pair (.int .i64) (.int .i64)))) vs29 s29] G := ((H40.pull 1).pull 1)
        exact exit_seq (⟨exit_ne, rfl, vs29, ha.sub ⟨rfl, rfl, trivial⟩, H54⟩)
    · intro e a33 w55 hO56
      obtain ⟨p57, rfl⟩ : ∃ z, z = o31 := ⟨o31, rfl⟩
      obtain ⟨rfl, hO59⟩ := hO56
      obtain ⟨vp57, ha, H58⟩ := hO59
      refine exit_block_eq (nrm_seq (WP.app ?_ ha))
      refine WP_seq ?_
      refine WP_seq ?_
      refine WP_region ?_
      refine XL_q rfl (qt_assign rfl) rfl rfl ?_
      refine WL_nil_seq ?_
      refine WP_block ?_
      obtain ⟨o62, ho63, h⟩ := bind_some h
      have H66 : Holds (([] : List Res).flatMap Res.own) w w55 [.bx b1 32 [vp0_0, vp0_1, vp0_2, .int .i64 p0_3, vp0_4], .sl 68 (.pair (.int .i64) (.pair (.int .i64) (.pair (.int .i64) (.int .i64)))) vp57 p57] G := ((H58.pull 1).pull 1)
      refine fun a64 ha65 => wp_loop_fix (I := fun s a w2 => match s with | (s60, s61) => ∃ vs60, Fr a 34 [(1, .pointer (some ⟨b1, 0, none⟩)), (3, vs60), (5, .int .i64 s61)] ∧ Holds (([] : List Res).flatMap Res.own) w w2 [.bx b1 32 [vp0_0, vp0_1, vp0_2, .int .i64 p0_3, vp0_4], .sl 68 (.pair (.int .i64) (.pair (.int .i64) (.pair (.int .i64) (.int .i64)))) vs60 s60] G) (O := fun o e a w2 => match o with | q0 => e = .exit 2 ∧ ∃ vq0, Fr a 34 [(3, vq0)] ∧ Holds (([] : List Res).flatMap Res.own) w w2 [.sl 68 (.pair (.int .i64) (.pair (.int .i64) (.pair (.int .i64) (.int .i64)))) vq0 q0] G) ho63 ?_ ?_ ?_
      · exact ⟨vp57, ha65.sub ⟨rfl, rfl, rfl, trivial⟩, H66⟩
      · clear ha65
        intro s o69 a w67 hs68 hI70
        obtain ⟨s60, s61⟩ := s
        obtain ⟨vs60, ha, H71⟩ := hI70
        refine WP.app ?_ ha
        clear ha
        refine WP_seq ?_
        refine WP_seq ?_
        refine WP_region ?_
        refine XL_q rfl (qt_move rfl) rfl rfl ?_
        refine XL_q rfl (qt_fieldAddr uf32 fi32_4 nz30 rfl) rfl rfl ?_
        have hB72 : Bx w67 b1 32 [vp0_0, vp0_1, vp0_2, .int .i64 p0_3, vp0_4] := Holds.bx (H71.pull 0)
        refine XL_load_bx u30 rfl hB72 rfl rfl rfl rfl ?_
        refine XL_lenH H71.ctx (t := (.pair (.int .i64) (.pair (.slice (.pair (.int .i64) (.int .i64))) (.slice (.int .i64))))) (hp0_4.c.c) u30 rfl rfl rfl ?_
        refine XL_q rfl (qt_lss rfl rfl) rfl rfl ?_
        refine WL_nil_seq ?_
        refine WP_cond rfl (fun hc73 => ?_) (fun hc73 => ?_)
        · have hs68 := if_t hc73 hs68
          refine WP_skip_seq ?_
          refine WP_seq ?_
          refine WP_block ?_
          refine WP_region ?_
          refine XL_q rfl (qt_move rfl) rfl rfl ?_
          refine XL_q rfl (qt_build (args := [(0, .const (.int .i64 5))]) (css := [#[.int .i64 5]]) (cells := #[.int .i64 5, .int .i64 0, .int .i64 0, .int .i64 0]) rfl ⟨rfl, trivial⟩ (by kernel_rfl)) rfl rfl ?_
          refine WL_buildH (t := (.pair (.int .i64) (.pair (.int .i64) (.pair (.int .i64) (.int .i64))))) (args := [.tmp 30]) (xs := ([(5, 0, 0, 0)] : List (Int × Int × Int × Int))) H71 (BltL.cons (Blt.pair (Blt.int) (Blt.pair (Blt.int) (Blt.pair (Blt.int) (Blt.int)))) rfl (BltL.nil)) u39 j68 rfl rfl rfl rfl rfl rfl (fun v74 w75 H76 => ?_)
          have H77 : Holds (([] : List Res).flatMap Res.own) w w75 [.sl 68 (.pair (.int .i64) (.pair (.int .i64) (.pair (.int .i64) (.int .i64)))) v74 ([(5, 0, 0, 0)]), .bx b1 32 [vp0_0, vp0_1, vp0_2, .int .i64 p0_3, vp0_4], .sl 68 (.pair (.int .i64) (.pair (.int .i64) (.pair (.int .i64) (.int .i64)))) vs60 s60] G := H76
          have H78 : Holds (([] : List Res).flatMap Res.own) w w75 [.sl 68 (.pair (.int .i64) (.pair (.int .i64) (.pair (.int .i64) (.int .i64)))) vs60 s60, .sl 68 (.pair (.int .i64) (.pair (.int .i64) (.pair (.int .i64) (.int .i64)))) v74 ([(5, 0, 0, 0)]), .bx b1 32 [vp0_0, vp0_1, vp0_2, .int .i64 p0_3, vp0_4]] G := H77.pull 2
          obtain ⟨x79, hx80, hs68⟩ := bind_some hs68
          refine WL_appendH H78 (Has.c (Has.hd)) hx80 u39 j68 rfl rfl rfl rfl rfl rfl (fun v81 w82 H83 => ?_)
          have H84 : Holds (([] : List Res).flatMap Res.own) w w82 [.sl 68 (.pair (.int .i64) (.pair (.int .i64) (.pair (.int .i64) (.int .i64)))) v81 x79, .sl 68 (.pair (.int .i64) (.pair (.int .i64) (.pair (.int .i64) (.int .i64)))) v74 ([(5, 0, 0, 0)]), .bx b1 32 [vp0_0, vp0_1, vp0_2, .int .i64 p0_3, vp0_4]] G := H83
          refine XL_q rfl (qt_assign rfl) rfl rfl ?_
          refine WL_nil fun a ha => ?_
          refine nrm_block (nrm_seq (WP.app ?_ ha))
          refine WP_region ?_
          refine XL_q rfl (qt_move rfl) rfl rfl ?_
          refine XL_q rfl (qt_add rfl rfl) rfl rfl ?_
          refine XL_q rfl (qt_assign rfl) rfl rfl ?_
          refine WL_nil fun a ha => ?_
          obtain rfl := Option.some.inj hs68
          have H85 : Holds (([] : List Res).flatMap Res.own) w w82 [.bx b1 32 [vp0_0, vp0_1, vp0_2, .int .i64 p0_3, vp0_4], .sl 68 (.pair (.int .i64) (.pair (.int .i64) (.pair (.int .i64) (.int .i64)))) v81 x79] G := ((H84.cut 1).pull 1)
          exact ⟨rfl, v81, ha.sub ⟨rfl, rfl, rfl, trivial⟩, H85⟩
        · have hs68 := if_f hc73 hs68
          refine WP_exit fun a ha => ?_
          obtain rfl := Option.some.inj hs68
          have H86 : Holds (([] : List Res).flatMap Res.own) w w67 [.sl 68 (.pair (.int .i64) (.pair (.int .i64) (.pair (.int .i64) (.int .i64)))) vs60 s60] G := (H71.cut 0)
          exact exit_seq (⟨exit_ne, rfl, vs60, ha.sub ⟨rfl, trivial⟩, H86⟩)
      · intro e a64 w87 hO88
        obtain ⟨p89, rfl⟩ : ∃ z, z = o62 := ⟨o62, rfl⟩
        obtain ⟨rfl, hO91⟩ := hO88
        obtain ⟨vp89, ha, H90⟩ := hO91
        refine exit_block_eq (nrm_seq (WP.app ?_ ha))
        refine WP_seq ?_
        refine WP_region ?_
        refine XL_q rfl (qt_move rfl) rfl rfl ?_
        refine XL_q rfl (qt_assign rfl) rfl rfl ?_
        refine WL_nil_seq ?_
        refine WP_ret fun a ha => ?_
        obtain rfl := Option.some.inj h
        exact ret1 rfl ha rfl ⟨vp89, rfl, H90⟩
theorem w_impl_partsValid (w : World) (G : List Res) (vp0 : Value) (p0 : List (Int × Int)) (hp0 : Has G (.pair (.int .i64) (.int .i64)) vp0 p0) (p1 : Int) (r : Bool) (h : impl_partsValidS p0 p1 = some r) (H : Ctx w G) : Calls Try.prog 83 #[vp0, .int .i64 p1] w fun e w' => e = .returned (.bool r) ∧ Holds (([] : List Res).flatMap Res.own) w w' [] G := by
  have H : Holds (([] : List Res).flatMap Res.own) w w [] G := Holds.startN H
  refine calls_enter (args := [vp0, .int .i64 p1]) (n := 45) Try.func83 rfl rfl rfl ?_
  unfold impl_partsValidS at h
  refine WP_seq ?_
  refine WP_region ?_
  refine XL_q rfl (qt_assign rfl) rfl rfl ?_
  refine WL_nil_seq ?_
  refine WP_seq ?_
  refine WP_seq ?_
  refine WP_region ?_
  refine XL_q rfl (qt_move rfl) rfl rfl ?_
  refine XL_lenH H.ctx (t := (.pair (.int .i64) (.int .i64))) (hp0) u82 rfl rfl rfl ?_
  refine XL_q rfl (qt_lss rfl rfl) rfl rfl ?_
  refine XL_q rfl (qt_move rfl) rfl rfl ?_
  refine XL_join 4 15 (.bool ((decide ((List.length p0 : Int) < 1)) || (decide ((List.length p0 : Int) > 3)))) ?_ (fun md hmd hk => ?_)
  rotate_left
  · obtain ⟨Q, rfl⟩ := Md.seq_of hmd
    rcases btf (decide ((List.length p0 : Int) < 1)) with hc1 | hc1
    · skip
      refine XL_skip (w_skip rfl hc1) rfl rfl ?_
      refine XL_skip (w_skip rfl hc1) rfl rfl ?_
      refine XL_skip (w_skip rfl hc1) rfl rfl ?_
      refine XL_q rfl (qt_pickT rfl hc1 rfl) rfl rfl ?_
      exact hk _ (Cov.same (by rw [hc1]; rfl) (Cov.fresh rfl (Cov.fresh rfl (Cov.fresh rfl (Cov.refl)))))
    · skip
      refine XL_q (w_take rfl hc1) (qt_move rfl) rfl rfl ?_
      refine XL_lenH H.ctx (t := (.pair (.int .i64) (.int .i64))) (hp0) u82 (w_take rfl hc1) rfl rfl ?_
      refine XL_q (w_take rfl hc1) (qt_gtr rfl rfl) rfl rfl ?_
      refine XL_q rfl (qt_pickF rfl hc1 rfl) rfl rfl ?_
      exact hk _ (Cov.same (by rw [hc1]; rfl) (Cov.fresh rfl (Cov.fresh rfl (Cov.fresh rfl (Cov.refl)))))
  refine WL_nil_seq ?_
  refine WP_cond rfl (fun hc2 => ?_) (fun hc2 => ?_)
  · have h := if_t hc2 h
    refine WP_seq ?_
    refine WP_region ?_
    refine XL_q rfl (qt_assign rfl) rfl rfl ?_
    refine WL_nil_seq ?_
    refine WP_ret fun a ha => ?_
    obtain rfl := Option.some.inj h
    exact ret_seq (ret1 rfl ha rfl ⟨rfl, H⟩)
  · have h := if_f hc2 h
    refine WP_skip_seq ?_
    refine WP_seq ?_
    refine WP_region ?_
    refine XL_q rfl (qt_assign rfl) rfl rfl ?_
    refine WL_nil_seq ?_
    refine WP_seq ?_
    refine WP_seq ?_
    refine WP_region ?_
    refine XL_q rfl (qt_move rfl) rfl rfl ?_
    refine XL_lenH H.ctx (t := (.pair (.int .i64) (.int .i64))) (hp0) u82 rfl rfl rfl ?_
    refine XL_q rfl (qt_move rfl) rfl rfl ?_
    refine WL_nil_seq ?_
    refine WP_block ?_
    obtain ⟨o5, ho6, h⟩ := bind_some h
    refine fun a7 ha8 => wp_loop_fix (I := fun s a w2 => match s with | (s3, s4) => (Fr a 45 [(1, .int .i64 p1), (5, .int .i64 s3), (16, vp0), (17, .int .i64 (List.length p0 : Int)), (18, .int .i64 s4)] ∧ Holds (([] : List Res).flatMap Res.own) w w2 [] G)) (O := fun o e a w2 => match o with | .inl _ => e = .exit 0 ∧ (Fr a 45 [] ∧ Holds (([] : List Res).flatMap Res.own) w w2 [] G) | .inr q0 => e = .ret ∧ (Fr a 45 [(4, .bool q0)] ∧ Holds (([] : List Res).flatMap Res.own) w w2 [] G)) ho6 ?_ ?_ ?_
    · exact ⟨ha8.sub ⟨rfl, rfl, rfl, rfl, rfl, trivial⟩, H⟩
    · clear ha8
      intro s o11 a w9 hs10 hI12
      obtain ⟨s3, s4⟩ := s
      obtain ⟨ha, H13⟩ := hI12
      refine WP.app ?_ ha
      clear ha
      refine WP_seq ?_
      refine WP_region ?_
      refine XL_q rfl (qt_lss rfl rfl) rfl rfl ?_
      refine WL_nil_seq ?_
      refine WP_seq ?_
      refine WP_cond rfl (fun hc14 => ?_) (fun hc14 => ?_)
      · have hs10 := if_t hc14 hs10
        refine WP_skip_seq ?_
        refine WP_seq ?_
        refine WP_block ?_
        refine WP_seq ?_
        refine WP_region ?_
        obtain ⟨x15, hx16, hs10⟩ := bind_some hs10
        refine XL_indexH H13.ctx (hp0) hx16 u82 i103 rfl rfl rfl rfl (fun b17 off18 cap19 hv20 => ?_)
        obtain ⟨F21, hat22, hdup23⟩ := H13.atN (hp0) hx16 hv20
        refine XL_load_agg (t := (.pair (.int .i64) (.int .i64))) us103 uo103 i103 hat22 rfl rfl rfl (fun cs24 hr25 => ?_)
        obtain ⟨c26, c27, F28, F29, rfl, eF32, hr30, hr31⟩ := hr25
        obtain ⟨rfl, _⟩ := hr30
        obtain ⟨rfl, _⟩ := hr31
        change XL _ _ _ _ _ ((21, .agg #[.int .i64 x15.1, .int .i64 x15.2]) :: _) _
        refine WL_alloc (cs := [.int .i64 0, .int .i64 0]) H13 z103 rfl rfl rfl (fun b33 w34 H35 => ?_)
        have H36 : Holds (([] : List Res).flatMap Res.own) w w34 [.bx b33 103 [.int .i64 0, .int .i64 0]] G := H35
        refine WL_store_bxA (cs' := [.int .i64 x15.1, .int .i64 x15.2]) H36 rfl il103 rfl rfl rfl rfl rfl (fun w37 H38 => ?_)
        have H39 : Holds (([] : List Res).flatMap Res.own) w w37 [.bx b33 103 [.int .i64 x15.1, .int .i64 x15.2]] G := H38
        refine WL_nil_seq ?_
        refine WP_seq ?_
        refine WP_seq ?_
        refine WP_region ?_
        refine XL_q rfl (qt_fieldAddr uf103 fi103_0 nz3 rfl) rfl rfl ?_
        have hB40 : Bx w37 b33 103 [.int .i64 x15.1, .int .i64 x15.2] := Holds.bx (H39.pull 0)
        refine XL_load_bx u3 rfl hB40 rfl rfl rfl rfl ?_
        refine XL_q rfl (qt_move rfl) rfl rfl ?_
        refine XL_q rfl (qt_leq rfl rfl) rfl rfl ?_
        refine XL_q rfl (qt_move rfl) rfl rfl ?_
        refine XL_join 5 31 (.bool ((decide (x15.1 ≤ s3)) || (decide (x15.1 ≥ p1)))) ?_ (fun md hmd hk => ?_)
        rotate_left
        · obtain ⟨Q, rfl⟩ := Md.seq_of hmd
          rcases btf (decide (x15.1 ≤ s3)) with hc41 | hc41
          · skip
            refine XL_skip (w_skip rfl hc41) rfl rfl ?_
            refine XL_skip (w_skip rfl hc41) rfl rfl ?_
            refine XL_skip (w_skip rfl hc41) rfl rfl ?_
            refine XL_skip (w_skip rfl hc41) rfl rfl ?_
            refine XL_q rfl (qt_pickT rfl hc41 rfl) rfl rfl ?_
            exact hk _ (Cov.same (by rw [hc41]; rfl) (Cov.fresh rfl (Cov.fresh rfl (Cov.fresh rfl (Cov.fresh rfl (Cov.refl))))))
          · skip
            refine XL_q (w_take rfl hc41) (qt_fieldAddr uf103 fi103_0 nz3 rfl) rfl rfl ?_
            have hB42 : Bx w37 b33 103 [.int .i64 x15.1, .int .i64 x15.2] := Holds.bx (H39.pull 0)
            refine XL_load_bx u3 rfl hB42 rfl (w_take rfl hc41) rfl rfl ?_
            refine XL_q (w_take rfl hc41) (qt_move rfl) rfl rfl ?_
            refine XL_q (w_take rfl hc41) (qt_geq rfl rfl) rfl rfl ?_
            refine XL_q rfl (qt_pickF rfl hc41 rfl) rfl rfl ?_
            exact hk _ (Cov.same (by rw [hc41]; rfl) (Cov.fresh rfl (Cov.fresh rfl (Cov.fresh rfl (Cov.fresh rfl (Cov.refl))))))
        refine XL_q rfl (qt_move rfl) rfl rfl ?_
        refine XL_join 4 36 (.bool (((decide (x15.1 ≤ s3)) || (decide (x15.1 ≥ p1))) || (decide (x15.2 < 1)))) ?_ (fun md hmd hk => ?_)
        rotate_left
        · obtain ⟨Q, rfl⟩ := Md.seq_of hmd
          rcases btf ((decide (x15.1 ≤ s3)) || (decide (x15.1 ≥ p1))) with hc43 | hc43
          · skip
            refine XL_skip (w_skip rfl hc43) rfl rfl ?_
            refine XL_skip (w_skip rfl hc43) rfl rfl ?_
            refine XL_skip (w_skip rfl hc43) rfl rfl ?_
            refine XL_q rfl (qt_pickT rfl hc43 rfl) rfl rfl ?_
            exact hk _ (Cov.same (by rw [hc43]; rfl) (Cov.fresh rfl (Cov.fresh rfl (Cov.fresh rfl (Cov.refl)))))
          · skip
            refine XL_q (w_take rfl hc43) (qt_fieldAddr uf103 fi103_1 nz3 rfl) rfl rfl ?_
            have hB44 : Bx w37 b33 103 [.int .i64 x15.1, .int .i64 x15.2] := Holds.bx (H39.pull 0)
            refine XL_load_bx u3 rfl hB44 rfl (w_take rfl hc43) rfl rfl ?_
            refine XL_q (w_take rfl hc43) (qt_lss rfl rfl) rfl rfl ?_
            refine XL_q rfl (qt_pickF rfl hc43 rfl) rfl rfl ?_
            exact hk _ (Cov.same (by rw [hc43]; rfl) (Cov.fresh rfl (Cov.fresh rfl (Cov.fresh rfl (Cov.refl)))))
        refine XL_q rfl (qt_move rfl) rfl rfl ?_
        refine XL_join 4 41 (.bool ((((decide (x15.1 ≤ s3)) || (decide (x15.1 ≥ p1))) || (decide (x15.2 < 1))) || (decide (x15.2 > 6)))) ?_ (fun md hmd hk => ?_)
        rotate_left
        · obtain ⟨Q, rfl⟩ := Md.seq_of hmd
          rcases btf (((decide (x15.1 ≤ s3)) || (decide (x15.1 ≥ p1))) || (decide (x15.2 < 1))) with hc45 | hc45
          · skip
            refine XL_skip (w_skip rfl hc45) rfl rfl ?_
            refine XL_skip (w_skip rfl hc45) rfl rfl ?_
            refine XL_skip (w_skip rfl hc45) rfl rfl ?_
            refine XL_q rfl (qt_pickT rfl hc45 rfl) rfl rfl ?_
            exact hk _ (Cov.same (by rw [hc45]; rfl) (Cov.fresh rfl (Cov.fresh rfl (Cov.fresh rfl (Cov.refl)))))
          · skip
            refine XL_q (w_take rfl hc45) (qt_fieldAddr uf103 fi103_1 nz3 rfl) rfl rfl ?_
            have hB46 : Bx w37 b33 103 [.int .i64 x15.1, .int .i64 x15.2] := Holds.bx (H39.pull 0)
            refine XL_load_bx u3 rfl hB46 rfl (w_take rfl hc45) rfl rfl ?_
            refine XL_q (w_take rfl hc45) (qt_gtr rfl rfl) rfl rfl ?_
            refine XL_q rfl (qt_pickF rfl hc45 rfl) rfl rfl ?_
            exact hk _ (Cov.same (by rw [hc45]; rfl) (Cov.fresh rfl (Cov.fresh rfl (Cov.fresh rfl (Cov.refl)))))
        refine WL_nil_seq ?_
        refine WP_cond rfl (fun hc47 => ?_) (fun hc47 => ?_)
        · have hs10 := if_t hc47 hs10
          refine WP_seq ?_
          refine WP_region ?_
          refine XL_q rfl (qt_assign rfl) rfl rfl ?_
          refine WL_nil_seq ?_
          refine WP_ret fun a ha => ?_
          obtain rfl := Option.some.inj hs10
          have H48 : Holds (([] : List Res).flatMap Res.own) w w37 [] G := (H39.cut 0)
          exact ret_seq (ret_block (ret_seq (⟨ret_ne, rfl, ha.sub ⟨rfl, trivial⟩, H48⟩)))
        · have hs10 := if_f hc47 hs10
          refine WP_skip_seq ?_
          refine WP_region ?_
          refine XL_q rfl (qt_fieldAddr uf103 fi103_0 nz3 rfl) rfl rfl ?_
          have hB49 : Bx w37 b33 103 [.int .i64 x15.1, .int .i64 x15.2] := Holds.bx (H39.pull 0)
          refine XL_load_bx u3 rfl hB49 rfl rfl rfl rfl ?_
          refine XL_q rfl (qt_assign rfl) rfl rfl ?_
          refine WL_nil fun a ha => ?_
          refine nrm_block (nrm_seq (WP.app ?_ ha))
          refine WP_region ?_
          refine XL_q rfl (qt_add rfl rfl) rfl rfl ?_
          refine XL_q rfl (qt_move rfl) rfl rfl ?_
          refine WL_nil fun a ha => ?_
          obtain rfl := Option.some.inj hs10
          have H50 : Holds (([] : List Res).flatMap Res.own) w w37 [] G := (H39.cut 0)
          exact ⟨rfl, ha.sub ⟨rfl, rfl, rfl, rfl, rfl, trivial⟩, H50⟩
      · have hs10 := if_f hc14 hs10
        refine WP_exit fun a ha => ?_
        obtain rfl := Option.some.inj hs10
        exact exit_seq (⟨exit_ne, rfl, ha.sub trivial, H13⟩)
    · intro e a7 w51 hO52
      rcases o5 with o5 | o5
      · skip
        obtain ⟨rfl, hO54⟩ := hO52
        obtain ⟨ha, H53⟩ := hO54
        refine exit_block_eq (nrm_seq (WP.app ?_ ha))
        refine WP_seq ?_
        refine WP_region ?_
        refine XL_q rfl (qt_assign rfl) rfl rfl ?_
        refine WL_nil_seq ?_
        refine WP_ret fun a ha => ?_
        obtain rfl := Option.some.inj h
        exact ret1 rfl ha rfl ⟨rfl, H53⟩
      · skip
        obtain ⟨p55, rfl⟩ : ∃ z, z = o5 := ⟨o5, rfl⟩
        obtain ⟨rfl, hO57⟩ := hO52
        obtain ⟨ha, H56⟩ := hO57
        obtain rfl := Option.some.inj h
        exact ret_block (ret_seq (ret1 rfl ha rfl ⟨rfl, H56⟩))
theorem w_impl_itemValid (w : World) (G : List Res) (p0_0 : Int) (vp0_1 : Value) (p0_1 : List (Int × Int)) (hp0_1 : Has G (.pair (.int .i64) (.int .i64)) vp0_1 p0_1) (p0_2 : Int) (p1 : Int) (r : Bool) (h : impl_itemValidS p0_0 p0_1 p0_2 p1 = some r) (H : Ctx w G) : Calls Try.prog 75 #[.agg #[.int .i64 p0_0, vp0_1, .int .i64 p0_2], .int .i64 p1] w fun e w' => e = .returned (.bool r) ∧ Holds (([] : List Res).flatMap Res.own) w w' [] G := by
  have H : Holds (([] : List Res).flatMap Res.own) w w [] G := Holds.startN H
  refine calls_enter (args := [.agg #[.int .i64 p0_0, vp0_1, .int .i64 p0_2], .int .i64 p1]) (n := 34) Try.func75 rfl rfl rfl ?_
  unfold impl_itemValidS at h
  refine WP_seq ?_
  refine WP_region ?_
  refine WL_box (cs := [.int .i64 p0_0, vp0_1, .int .i64 p0_2]) H rfl rfl rfl rfl (fun b1 w2 H3 => ?_)
  have H4 : Holds (([] : List Res).flatMap Res.own) w w2 [.bx b1 84 [.int .i64 p0_0, vp0_1, .int .i64 p0_2]] G := H3
  refine XL_q rfl (qt_assign rfl) rfl rfl ?_
  refine WL_nil_seq ?_
  refine WP_seq ?_
  refine WP_seq ?_
  refine WP_region ?_
  refine XL_q rfl (qt_fieldAddr uf84 fi84_2 nz3 rfl) rfl rfl ?_
  have hB5 : Bx w2 b1 84 [.int .i64 p0_0, vp0_1, .int .i64 p0_2] := Holds.bx (H4.pull 0)
  refine XL_load_bx u3 rfl hB5 rfl rfl rfl rfl ?_
  refine XL_q rfl (qt_lss rfl rfl) rfl rfl ?_
  refine XL_q rfl (qt_move rfl) rfl rfl ?_
  refine XL_join 4 12 (.bool ((decide (p0_2 < 0)) || (decide (p0_2 > 31)))) ?_ (fun md hmd hk => ?_)
  rotate_left
  · obtain ⟨Q, rfl⟩ := Md.seq_of hmd
    rcases btf (decide (p0_2 < 0)) with hc6 | hc6
    · skip
      refine XL_skip (w_skip rfl hc6) rfl rfl ?_
      refine XL_skip (w_skip rfl hc6) rfl rfl ?_
      refine XL_skip (w_skip rfl hc6) rfl rfl ?_
      refine XL_q rfl (qt_pickT rfl hc6 rfl) rfl rfl ?_
      exact hk _ (Cov.same (by rw [hc6]; rfl) (Cov.fresh rfl (Cov.fresh rfl (Cov.fresh rfl (Cov.refl)))))
    · skip
      refine XL_q (w_take rfl hc6) (qt_fieldAddr uf84 fi84_2 nz3 rfl) rfl rfl ?_
      have hB7 : Bx w2 b1 84 [.int .i64 p0_0, vp0_1, .int .i64 p0_2] := Holds.bx (H4.pull 0)
      refine XL_load_bx u3 rfl hB7 rfl (w_take rfl hc6) rfl rfl ?_
      refine XL_q (w_take rfl hc6) (qt_gtr rfl rfl) rfl rfl ?_
      refine XL_q rfl (qt_pickF rfl hc6 rfl) rfl rfl ?_
      exact hk _ (Cov.same (by rw [hc6]; rfl) (Cov.fresh rfl (Cov.fresh rfl (Cov.fresh rfl (Cov.refl)))))
  refine WL_nil_seq ?_
  refine WP_cond rfl (fun hc8 => ?_) (fun hc8 => ?_)
  · have h := if_t hc8 h
    refine WP_seq ?_
    refine WP_region ?_
    refine XL_q rfl (qt_assign rfl) rfl rfl ?_
    refine WL_nil_seq ?_
    refine WP_ret fun a ha => ?_
    obtain rfl := Option.some.inj h
    have H9 : Holds (([] : List Res).flatMap Res.own) w w2 [] G := (H4.cut 0)
    exact ret_seq (ret1 rfl ha rfl ⟨rfl, H9⟩)
  · have h := if_f hc8 h
    refine WP_skip_seq ?_
    refine WP_seq ?_
    refine WP_seq ?_
    refine WP_region ?_
    refine XL_q rfl (qt_fieldAddr uf84 fi84_0 nz3 rfl) rfl rfl ?_
    have hB10 : Bx w2 b1 84 [.int .i64 p0_0, vp0_1, .int .i64 p0_2] := Holds.bx (H4.pull 0)
    refine XL_load_bx u3 rfl hB10 rfl rfl rfl rfl ?_
    refine XL_q rfl (qt_eql rfl rfl) rfl rfl ?_
    refine WL_nil_seq ?_
    refine WP_cond rfl (fun hc11 => ?_) (fun hc11 => ?_)
    · have h := if_t hc11 h
      refine WP_seq ?_
      refine WP_region ?_
      refine XL_q rfl (qt_fieldAddr uf84 fi84_1 nz82 rfl) rfl rfl ?_
      have hB12 : Bx w2 b1 84 [.int .i64 p0_0, vp0_1, .int .i64 p0_2] := Holds.bx (H4.pull 0)
      refine XL_load_bx u82 rfl hB12 rfl rfl rfl rfl ?_
      refine XL_lenH H4.ctx (t := (.pair (.int .i64) (.int .i64))) (hp0_1.c) u82 rfl rfl rfl ?_
      refine XL_q rfl (qt_eql rfl rfl) rfl rfl ?_
      refine XL_q rfl (qt_assign rfl) rfl rfl ?_
      refine WL_nil_seq ?_
      refine WP_ret fun a ha => ?_
      obtain rfl := Option.some.inj h
      have H13 : Holds (([] : List Res).flatMap Res.own) w w2 [] G := (H4.cut 0)
      exact ret_seq (ret1 rfl ha rfl ⟨rfl, H13⟩)
    · have h := if_f hc11 h
      refine WP_skip_seq ?_
      refine WP_seq ?_
      refine WP_still ?_
      refine XL_q rfl (qt_fieldAddr uf84 fi84_0 nz3 rfl) rfl rfl ?_
      have hB14 : Bx w2 b1 84 [.int .i64 p0_0, vp0_1, .int .i64 p0_2] := Holds.bx (H4.pull 0)
      refine XL_load_bx u3 rfl hB14 rfl rfl rfl rfl ?_
      refine XL_q rfl (qt_geq rfl rfl) rfl rfl ?_
      refine XL_q rfl (qt_move rfl) rfl rfl ?_
      refine XL_join 4 27 (.bool ((decide (p0_0 ≥ 1)) && (decide (p0_0 ≤ 6)))) ?_ (fun md hmd hk => ?_)
      rotate_left
      · obtain ⟨K, rfl⟩ := Md.quiet_of hmd
        rcases btf (decide (p0_0 ≥ 1)) with hc15 | hc15
        · skip
          refine XL_q (w_take rfl hc15) (qt_fieldAddr uf84 fi84_0 nz3 rfl) rfl rfl ?_
          have hB16 : Bx w2 b1 84 [.int .i64 p0_0, vp0_1, .int .i64 p0_2] := Holds.bx (H4.pull 0)
          refine XL_load_bx u3 rfl hB16 rfl (w_take rfl hc15) rfl rfl ?_
          refine XL_q (w_take rfl hc15) (qt_leq rfl rfl) rfl rfl ?_
          refine XL_q rfl (qt_pickT rfl hc15 rfl) rfl rfl ?_
          exact hk _ (Cov.same (by rw [hc15]; rfl) (Cov.fresh rfl (Cov.fresh rfl (Cov.fresh rfl (Cov.refl)))))
        · skip
          refine XL_skip (w_skip rfl hc15) rfl rfl ?_
          refine XL_skip (w_skip rfl hc15) rfl rfl ?_
          refine XL_skip (w_skip rfl hc15) rfl rfl ?_
          refine XL_q rfl (qt_pickF rfl hc15 rfl) rfl rfl ?_
          exact hk _ (Cov.same (by rw [hc15]; rfl) (Cov.fresh rfl (Cov.fresh rfl (Cov.fresh rfl (Cov.refl)))))
      refine XL_q rfl (qt_move rfl) rfl rfl ?_
      obtain ⟨b17, hg18, h⟩ := bind_some h
      refine XL_join 5 33 (.bool b17) ?_ (fun md hmd hk => ?_)
      rotate_left
      · obtain ⟨K, rfl⟩ := Md.quiet_of hmd
        rcases btf ((decide (p0_0 ≥ 1)) && (decide (p0_0 ≤ 6))) with hc19 | hc19
        · skip
          have hg18 := if_t hc19 hg18
          refine XL_q (w_take rfl hc19) (qt_fieldAddr uf84 fi84_1 nz82 rfl) rfl rfl ?_
          have hB20 : Bx w2 b1 84 [.int .i64 p0_0, vp0_1, .int .i64 p0_2] := Holds.bx (H4.pull 0)
          refine XL_load_bx u82 rfl hB20 rfl (w_take rfl hc19) rfl rfl ?_
          refine XL_q (w_take rfl hc19) (qt_move rfl) rfl rfl ?_
          obtain ⟨x21, hx22, hg18⟩ := bind_some hg18
          refine QL_call (w_take rfl hc19) rfl c83 (fun w' hb => (w_impl_partsValid w' ([.bx b1 84 [.int .i64 p0_0, vp0_1, .int .i64 p0_2]] ++ G) vp0_1 p0_1 (hp0_1.c) p1 x21 hx22 (H4.grow hb).ctx).mono fun e w'' hK => ⟨hK.1, hK.2.bel⟩) (by rfl) ?_
          refine XL_q rfl (qt_pickT rfl hc19 rfl) rfl rfl ?_
          exact hk _ (Cov.same (vb hg18) (Cov.fresh rfl (Cov.fresh rfl (Cov.fresh rfl (Cov.fresh rfl (Cov.refl))))))
        · skip
          refine XL_skip (w_skip rfl hc19) rfl rfl ?_
          refine XL_skip (w_skip rfl hc19) rfl rfl ?_
          refine XL_skip (w_skip rfl hc19) rfl rfl ?_
          refine XL_skip (w_skip rfl hc19) rfl rfl ?_
          refine XL_q rfl (qt_pickF rfl hc19 rfl) rfl rfl ?_
          exact hk _ (Cov.same (vb (if_f hc19 hg18)) (Cov.fresh rfl (Cov.fresh rfl (Cov.fresh rfl (Cov.fresh rfl (Cov.refl))))))
      refine XL_q rfl (qt_assign rfl) rfl rfl ?_
      refine QL_nil fun a ha w23 hb24 => ?_
      have H25 : Holds (([] : List Res).flatMap Res.own) w w23 [.bx b1 84 [.int .i64 p0_0, vp0_1, .int .i64 p0_2]] G := H4.grow hb24
      refine nrm_seq (WP.app ?_ ha)
      refine WP_ret fun a ha => ?_
      obtain rfl := Option.some.inj h
      have H26 : Holds (([] : List Res).flatMap Res.own) w w23 [] G := (H25.cut 0)
      exact ret1 rfl ha rfl ⟨rfl, H26⟩
theorem w_impl_ItemsValid (w : World) (G : List Res) (vp0 : Value) (p0 : List (Int × (List (Int × Int)) × Int)) (hp0 : Has G (.pair (.int .i64) (.pair (.slice (.pair (.int .i64) (.int .i64))) (.int .i64))) vp0 p0) (r : Bool) (h : impl_ItemsValidS p0 = some r) (H : Ctx w G) : Calls Try.prog 56 #[vp0] w fun e w' => e = .returned (.bool r) ∧ Holds (([] : List Res).flatMap Res.own) w w' [] G := by
  have H : Holds (([] : List Res).flatMap Res.own) w w [] G := Holds.startN H
  refine calls_enter (args := [vp0]) (n := 20) Try.func56 rfl rfl rfl ?_
  unfold impl_ItemsValidS at h
  refine WP_seq ?_
  refine WP_region ?_
  refine XL_q rfl (qt_assign rfl) rfl rfl ?_
  refine WL_nil_seq ?_
  refine WP_seq ?_
  refine WP_seq ?_
  refine WP_region ?_
  refine XL_q rfl (qt_move rfl) rfl rfl ?_
  refine XL_lenH H.ctx (t := (.pair (.int .i64) (.pair (.slice (.pair (.int .i64) (.int .i64))) (.int .i64)))) (hp0) u29 rfl rfl rfl ?_
  refine XL_q rfl (qt_gtr rfl rfl) rfl rfl ?_
  refine WL_nil_seq ?_
  refine WP_cond rfl (fun hc1 => ?_) (fun hc1 => ?_)
  · have h := if_t hc1 h
    refine WP_seq ?_
    refine WP_region ?_
    refine XL_q rfl (qt_assign rfl) rfl rfl ?_
    refine WL_nil_seq ?_
    refine WP_ret fun a ha => ?_
    obtain rfl := Option.some.inj h
    exact ret_seq (ret1 rfl ha rfl ⟨rfl, H⟩)
  · have h := if_f hc1 h
    refine WP_skip_seq ?_
    refine WP_seq ?_
    refine WP_seq ?_
    refine WP_region ?_
    refine XL_q rfl (qt_move rfl) rfl rfl ?_
    refine XL_lenH H.ctx (t := (.pair (.int .i64) (.pair (.slice (.pair (.int .i64) (.int .i64))) (.int .i64)))) (hp0) u29 rfl rfl rfl ?_
    refine XL_q rfl (qt_move rfl) rfl rfl ?_
    refine WL_nil_seq ?_
    refine WP_block ?_
    obtain ⟨o3, ho4, h⟩ := bind_some h
    refine fun a5 ha6 => wp_loop_fix (I := fun s a w2 => match s with | s2 => (Fr a 20 [(8, vp0), (9, .int .i64 (List.length p0 : Int)), (10, .int .i64 s2)] ∧ Holds (([] : List Res).flatMap Res.own) w w2 [] G)) (O := fun o e a w2 => match o with | .inl _ => e = .exit 0 ∧ (Fr a 20 [] ∧ Holds (([] : List Res).flatMap Res.own) w w2 [] G) | .inr q0 => e = .ret ∧ (Fr a 20 [(2, .bool q0)] ∧ Holds (([] : List Res).flatMap Res.own) w w2 [] G)) ho4 ?_ ?_ ?_
    · exact ⟨ha6.sub ⟨rfl, rfl, rfl, trivial⟩, H⟩
    · clear ha6
      intro s o9 a w7 hs8 hI10
      obtain ⟨s2, rfl⟩ : ∃ z, z = s := ⟨s, rfl⟩
      obtain ⟨ha, H11⟩ := hI10
      refine WP.app ?_ ha
      clear ha
      refine WP_seq ?_
      refine WP_region ?_
      refine XL_q rfl (qt_lss rfl rfl) rfl rfl ?_
      refine WL_nil_seq ?_
      refine WP_seq ?_
      refine WP_cond rfl (fun hc12 => ?_) (fun hc12 => ?_)
      · have hs8 := if_t hc12 hs8
        refine WP_skip_seq ?_
        refine WP_seq ?_
        refine WP_block ?_
        refine WP_seq ?_
        refine WP_region ?_
        refine XL_q rfl (qt_move rfl) rfl rfl ?_
        obtain ⟨x13, hx14, hs8⟩ := bind_some hs8
        refine XL_indexH H11.ctx (hp0) hx14 u29 i84 rfl rfl rfl rfl (fun b15 off16 cap17 hv18 => ?_)
        obtain ⟨F19, hat20, hdup21⟩ := H11.atN (hp0) hx14 hv18
        refine XL_load_agg (t := (.pair (.int .i64) (.pair (.slice (.pair (.int .i64) (.int .i64))) (.int .i64)))) us84 uo84 i84 hat20 rfl rfl rfl (fun cs22 hr23 => ?_)
        obtain ⟨c24, c25, F26, F27, rfl, eF30, hr28, hr29⟩ := hr23
        obtain ⟨rfl, _⟩ := hr28
        obtain ⟨c31, c32, F33, F34, rfl, eF37, hr35, hr36⟩ := hr29
        obtain ⟨v38, rfl, hr39⟩ := Rep.sl_inv hr35
        obtain ⟨rfl, _⟩ := hr36
        have H40 : Holds (([] : List Res).flatMap Res.own) w w7 [.ro (.pair (.int .i64) (.int .i64)) v38 x13.2.1] G := hdup21 [.ro (.pair (.int .i64) (.int .i64)) v38 x13.2.1] ⟨⟨_, _, _, _, rfl, hr39, (fun k h => (fun k h => (fun _ h => h) k (by rw [eF30]; exact List.mem_append_right _ h)) k (by rw [eF37]; exact List.mem_append_left _ h))⟩, trivial⟩
        change XL _ _ _ _ _ ((14, .agg #[.int .i64 x13.1, v38, .int .i64 x13.2.2]) :: _) _
        refine WL_alloc (cs := [.int .i64 0, .slice none 0 0, .int .i64 0]) H40 z84 rfl rfl rfl (fun b41 w42 H43 => ?_)
        have H44 : Holds (([] : List Res).flatMap Res.own) w w42 [.bx b41 84 [.int .i64 0, .slice none 0 0, .int .i64 0], .ro (.pair (.int .i64) (.int .i64)) v38 x13.2.1] G := H43
        refine XL_q rfl (qt_assign rfl) rfl rfl ?_
        refine WL_store_bxA (cs' := [.int .i64 x13.1, v38, .int .i64 x13.2.2]) H44 rfl il84 rfl (allOne rfl (allOne (H44.ctx.sliceOne (HasRo.has (HasRo.c (HasRo.hd)))) (allOne rfl rfl))) rfl rfl rfl (fun w45 H46 => ?_)
        have H47 : Holds (([] : List Res).flatMap Res.own) w w45 [.bx b41 84 [.int .i64 x13.1, v38, .int .i64 x13.2.2], .ro (.pair (.int .i64) (.int .i64)) v38 x13.2.1] G := H46
        refine WL_nil_seq ?_
        refine WP_seq ?_
        refine WP_still ?_
        have hB48 : Bx w45 b41 84 [.int .i64 x13.1, v38, .int .i64 x13.2.2] := Holds.bx (H47.pull 0)
        refine XL_load_bxA (cs := [.int .i64 x13.1, v38, .int .i64 x13.2.2]) us84 uo84 il84 hB48 rfl rfl rfl ?_
        change XL _ _ _ _ _ ((15, .agg #[.int .i64 x13.1, v38, .int .i64 x13.2.2]) :: _) _
        refine XL_q rfl (qt_move rfl) rfl rfl ?_
        obtain ⟨x49, hx50, hs8⟩ := bind_some hs8
        refine QL_call rfl rfl c75 (fun w' hb => (w_impl_itemValid w' ([.bx b41 84 [.int .i64 x13.1, v38, .int .i64 x13.2.2], .ro (.pair (.int .i64) (.int .i64)) v38 x13.2.1] ++ G) x13.1 v38 x13.2.1 (HasRo.has (HasRo.c (HasRo.hd))) x13.2.2 s2 x49 hx50 (H47.grow hb).ctx).mono fun e w'' hK => ⟨hK.1, hK.2.bel⟩) (by rfl) ?_
        refine XL_q rfl (qt_not rfl) rfl rfl ?_
        refine QL_nil fun a ha w51 hb52 => ?_
        have H53 : Holds (([] : List Res).flatMap Res.own) w w51 [.bx b41 84 [.int .i64 x13.1, v38, .int .i64 x13.2.2], .ro (.pair (.int .i64) (.int .i64)) v38 x13.2.1] G := H47.grow hb52
        refine nrm_seq (WP.app ?_ ha)
        refine WP_cond rfl (fun hc54 => ?_) (fun hc54 => ?_)
        · have hs8 := if_t hc54 hs8
          refine WP_seq ?_
          refine WP_region ?_
          refine XL_q rfl (qt_assign rfl) rfl rfl ?_
          refine WL_nil_seq ?_
          refine WP_ret fun a ha => ?_
          obtain rfl := Option.some.inj hs8
          have H55 : Holds (([] : List Res).flatMap Res.own) w w51 [] G := ((H53.cut 0).cut 0)
          exact ret_block (ret_seq (⟨ret_ne, rfl, ha.sub ⟨rfl, trivial⟩, H55⟩))
        · have hs8 := if_f hc54 hs8
          refine WP_skip fun a ha => ?_
          refine nrm_block (nrm_seq (WP.app ?_ ha))
          refine WP_region ?_
          refine XL_q rfl (qt_add rfl rfl) rfl rfl ?_
          refine XL_q rfl (qt_move rfl) rfl rfl ?_
          refine WL_nil fun a ha => ?_
          obtain rfl := Option.some.inj hs8
          have H56 : Holds (([] : List Res).flatMap Res.own) w w51 [] G := ((H53.cut 0).cut 0)
          exact ⟨rfl, ha.sub ⟨rfl, rfl, rfl, trivial⟩, H56⟩
      · have hs8 := if_f hc12 hs8
        refine WP_exit fun a ha => ?_
        obtain rfl := Option.some.inj hs8
        exact exit_seq (⟨exit_ne, rfl, ha.sub trivial, H11⟩)
    · intro e a5 w57 hO58
      rcases o3 with o3 | o3
      · skip
        obtain ⟨rfl, hO60⟩ := hO58
        obtain ⟨ha, H59⟩ := hO60
        refine exit_block_eq (nrm_seq (WP.app ?_ ha))
        refine WP_seq ?_
        refine WP_region ?_
        refine XL_q rfl (qt_assign rfl) rfl rfl ?_
        refine WL_nil_seq ?_
        refine WP_ret fun a ha => ?_
        obtain rfl := Option.some.inj h
        exact ret1 rfl ha rfl ⟨rfl, H59⟩
      · skip
        obtain ⟨p61, rfl⟩ : ∃ z, z = o3 := ⟨o3, rfl⟩
        obtain ⟨rfl, hO63⟩ := hO58
        obtain ⟨ha, H62⟩ := hO63
        obtain rfl := Option.some.inj h
        exact ret_block (ret_seq (ret1 rfl ha rfl ⟨rfl, H62⟩))
theorem w_impl_amountsOk (w : World) (G : List Res) (vp0 : Value) (p0 : List Int) (hp0 : Has G (.int .i64) vp0 p0) (p1 : Int) (p2 : Int) (r : Bool) (h : impl_amountsOkS p0 p1 p2 = some r) (H : Ctx w G) : Calls Try.prog 35 #[vp0, .int .i64 p1, .int .i64 p2] w fun e w' => e = .returned (.bool r) ∧ Holds (([] : List Res).flatMap Res.own) w w' [] G := by
  have H : Holds (([] : List Res).flatMap Res.own) w w [] G := Holds.startN H
  refine calls_enter (args := [vp0, .int .i64 p1, .int .i64 p2]) (n := 27) Try.func35 rfl rfl rfl ?_
  unfold impl_amountsOkS at h
  refine WP_seq ?_
  refine WP_region ?_
  refine XL_q rfl (qt_assign rfl) rfl rfl ?_
  refine WL_nil_seq ?_
  refine WP_seq ?_
  refine WP_seq ?_
  refine WP_region ?_
  refine XL_q rfl (qt_move rfl) rfl rfl ?_
  refine XL_lenH H.ctx (t := (.int .i64)) (hp0) u23 rfl rfl rfl ?_
  refine XL_q rfl (qt_move rfl) rfl rfl ?_
  refine XL_q rfl (qt_neq rfl rfl) rfl rfl ?_
  refine WL_nil_seq ?_
  refine WP_cond rfl (fun hc1 => ?_) (fun hc1 => ?_)
  · have h := if_t hc1 h
    refine WP_seq ?_
    refine WP_region ?_
    refine XL_q rfl (qt_assign rfl) rfl rfl ?_
    refine WL_nil_seq ?_
    refine WP_ret fun a ha => ?_
    obtain rfl := Option.some.inj h
    exact ret_seq (ret1 rfl ha rfl ⟨rfl, H⟩)
  · have h := if_f hc1 h
    refine WP_skip_seq ?_
    refine WP_seq ?_
    refine WP_seq ?_
    refine WP_region ?_
    refine XL_q rfl (qt_move rfl) rfl rfl ?_
    refine XL_lenH H.ctx (t := (.int .i64)) (hp0) u23 rfl rfl rfl ?_
    refine XL_q rfl (qt_move rfl) rfl rfl ?_
    refine WL_nil_seq ?_
    refine WP_block ?_
    obtain ⟨o3, ho4, h⟩ := bind_some h
    refine fun a5 ha6 => wp_loop_fix (I := fun s a w2 => match s with | s2 => (Fr a 27 [(2, .int .i64 p2), (13, vp0), (14, .int .i64 (List.length p0 : Int)), (15, .int .i64 s2)] ∧ Holds (([] : List Res).flatMap Res.own) w w2 [] G)) (O := fun o e a w2 => match o with | .inl _ => e = .exit 0 ∧ (Fr a 27 [] ∧ Holds (([] : List Res).flatMap Res.own) w w2 [] G) | .inr q0 => e = .ret ∧ (Fr a 27 [(6, .bool q0)] ∧ Holds (([] : List Res).flatMap Res.own) w w2 [] G)) ho4 ?_ ?_ ?_
    · exact ⟨ha6.sub ⟨rfl, rfl, rfl, rfl, trivial⟩, H⟩
    · clear ha6
      intro s o9 a w7 hs8 hI10
      obtain ⟨s2, rfl⟩ : ∃ z, z = s := ⟨s, rfl⟩
      obtain ⟨ha, H11⟩ := hI10
      refine WP.app ?_ ha
      clear ha
      refine WP_seq ?_
      refine WP_region ?_
      refine XL_q rfl (qt_lss rfl rfl) rfl rfl ?_
      refine WL_nil_seq ?_
      refine WP_seq ?_
      refine WP_cond rfl (fun hc12 => ?_) (fun hc12 => ?_)
      · have hs8 := if_t hc12 hs8
        refine WP_skip_seq ?_
        refine WP_seq ?_
        refine WP_block ?_
        refine WP_seq ?_
        refine WP_region ?_
        obtain ⟨x13, hx14, hs8⟩ := bind_some hs8
        refine XL_indexH H11.ctx (hp0) hx14 u23 i3 rfl rfl rfl rfl (fun b15 off16 cap17 hv18 => ?_)
        obtain ⟨F19, hat20, hdup21⟩ := H11.at (hp0) hx14 hv18
        refine XL_load_int (k := .i64) u3 rfl hat20 rfl rfl rfl ?_
        refine XL_q rfl (qt_assign rfl) rfl rfl ?_
        refine WL_nil_seq ?_
        refine WP_seq ?_
        refine WP_region ?_
        refine XL_q rfl (qt_move rfl) rfl rfl ?_
        refine XL_q rfl (qt_lss rfl rfl) rfl rfl ?_
        refine XL_q rfl (qt_move rfl) rfl rfl ?_
        refine XL_join 4 25 (.bool ((decide (x13 < 0)) || (decide (x13 > p2)))) ?_ (fun md hmd hk => ?_)
        rotate_left
        · obtain ⟨Q, rfl⟩ := Md.seq_of hmd
          rcases btf (decide (x13 < 0)) with hc22 | hc22
          · skip
            refine XL_skip (w_skip rfl hc22) rfl rfl ?_
            refine XL_skip (w_skip rfl hc22) rfl rfl ?_
            refine XL_skip (w_skip rfl hc22) rfl rfl ?_
            refine XL_q rfl (qt_pickT rfl hc22 rfl) rfl rfl ?_
            exact hk _ (Cov.same (by rw [hc22]; rfl) (Cov.fresh rfl (Cov.fresh rfl (Cov.fresh rfl (Cov.refl)))))
          · skip
            refine XL_q (w_take rfl hc22) (qt_move rfl) rfl rfl ?_
            refine XL_q (w_take rfl hc22) (qt_move rfl) rfl rfl ?_
            refine XL_q (w_take rfl hc22) (qt_gtr rfl rfl) rfl rfl ?_
            refine XL_q rfl (qt_pickF rfl hc22 rfl) rfl rfl ?_
            exact hk _ (Cov.same (by rw [hc22]; rfl) (Cov.fresh rfl (Cov.fresh rfl (Cov.fresh rfl (Cov.refl)))))
        refine WL_nil_seq ?_
        refine WP_cond rfl (fun hc23 => ?_) (fun hc23 => ?_)
        · have hs8 := if_t hc23 hs8
          refine WP_seq ?_
          refine WP_region ?_
          refine XL_q rfl (qt_assign rfl) rfl rfl ?_
          refine WL_nil_seq ?_
          refine WP_ret fun a ha => ?_
          obtain rfl := Option.some.inj hs8
          exact ret_block (ret_seq (⟨ret_ne, rfl, ha.sub ⟨rfl, trivial⟩, H11⟩))
        · have hs8 := if_f hc23 hs8
          refine WP_skip fun a ha => ?_
          refine nrm_block (nrm_seq (WP.app ?_ ha))
          refine WP_region ?_
          refine XL_q rfl (qt_add rfl rfl) rfl rfl ?_
          refine XL_q rfl (qt_move rfl) rfl rfl ?_
          refine WL_nil fun a ha => ?_
          obtain rfl := Option.some.inj hs8
          exact ⟨rfl, ha.sub ⟨rfl, rfl, rfl, rfl, trivial⟩, H11⟩
      · have hs8 := if_f hc12 hs8
        refine WP_exit fun a ha => ?_
        obtain rfl := Option.some.inj hs8
        exact exit_seq (⟨exit_ne, rfl, ha.sub trivial, H11⟩)
    · intro e a5 w24 hO25
      rcases o3 with o3 | o3
      · skip
        obtain ⟨rfl, hO27⟩ := hO25
        obtain ⟨ha, H26⟩ := hO27
        refine exit_block_eq (nrm_seq (WP.app ?_ ha))
        refine WP_seq ?_
        refine WP_region ?_
        refine XL_q rfl (qt_assign rfl) rfl rfl ?_
        refine WL_nil_seq ?_
        refine WP_ret fun a ha => ?_
        obtain rfl := Option.some.inj h
        exact ret1 rfl ha rfl ⟨rfl, H26⟩
      · skip
        obtain ⟨p28, rfl⟩ : ∃ z, z = o3 := ⟨o3, rfl⟩
        obtain ⟨rfl, hO30⟩ := hO25
        obtain ⟨ha, H29⟩ := hO30
        obtain rfl := Option.some.inj h
        exact ret_block (ret_seq (ret1 rfl ha rfl ⟨rfl, H29⟩))
theorem w_impl_PricesValid (w : World) (G : List Res) (vp0 : Value) (p0 : List (Int × (List (Int × Int)) × Int)) (hp0 : Has G (.pair (.int .i64) (.pair (.slice (.pair (.int .i64) (.int .i64))) (.int .i64))) vp0 p0) (vp1 : Value) (p1 : List Int) (hp1 : Has G (.int .i64) vp1 p1) (r : Bool) (h : impl_PricesValidS p0 p1 = some r) (H : Ctx w G) : Calls Try.prog 34 #[vp0, vp1] w fun e w' => e = .returned (.bool r) ∧ Holds (([] : List Res).flatMap Res.own) w w' [] G := by
  have H : Holds (([] : List Res).flatMap Res.own) w w [] G := Holds.startN H
  refine calls_enter (args := [vp0, vp1]) (n := 13) Try.func34 rfl rfl rfl ?_
  unfold impl_PricesValidS at h
  refine WP_seq ?_
  refine WP_region ?_
  refine XL_q rfl (qt_assign rfl) rfl rfl ?_
  refine WL_nil_seq ?_
  refine WP_seq ?_
  refine WP_still ?_
  refine XL_q rfl (qt_move rfl) rfl rfl ?_
  obtain ⟨x1, hx2, h⟩ := bind_some h
  refine QL_call rfl rfl c56 (fun w' hb => (w_impl_ItemsValid w' G vp0 p0 (hp0) x1 hx2 (H.grow hb).ctx).mono fun e w'' hK => ⟨hK.1, hK.2.bel⟩) (by rfl) ?_
  refine XL_q rfl (qt_move rfl) rfl rfl ?_
  obtain ⟨b3, hg4, h⟩ := bind_some h
  refine XL_join 5 12 (.bool b3) ?_ (fun md hmd hk => ?_)
  rotate_left
  · obtain ⟨K, rfl⟩ := Md.quiet_of hmd
    rcases btf x1 with hc5 | hc5
    · skip
      have hg4 := if_t hc5 hg4
      refine XL_q (w_take rfl hc5) (qt_move rfl) rfl rfl ?_
      refine XL_q (w_take rfl hc5) (qt_move rfl) rfl rfl ?_
      refine XL_lenH H.ctx (t := (.pair (.int .i64) (.pair (.slice (.pair (.int .i64) (.int .i64))) (.int .i64)))) (hp0) u29 (w_take rfl hc5) rfl rfl ?_
      obtain ⟨x6, hx7, hg4⟩ := bind_some hg4
      refine QL_call (w_take rfl hc5) rfl c35 (fun w' hb => (w_impl_amountsOk w' G vp1 p1 (hp1) (List.length p0 : Int) 20 x6 hx7 (H.grow hb).ctx).mono fun e w'' hK => ⟨hK.1, hK.2.bel⟩) (by rfl) ?_
      refine XL_q rfl (qt_pickT rfl hc5 rfl) rfl rfl ?_
      exact hk _ (Cov.same (vb hg4) (Cov.fresh rfl (Cov.fresh rfl (Cov.fresh rfl (Cov.fresh rfl (Cov.refl))))))
    · skip
      refine XL_skip (w_skip rfl hc5) rfl rfl ?_
      refine XL_skip (w_skip rfl hc5) rfl rfl ?_
      refine XL_skip (w_skip rfl hc5) rfl rfl ?_
      refine XL_skip (w_skip rfl hc5) rfl rfl ?_
      refine XL_q rfl (qt_pickF rfl hc5 rfl) rfl rfl ?_
      exact hk _ (Cov.same (vb (if_f hc5 hg4)) (Cov.fresh rfl (Cov.fresh rfl (Cov.fresh rfl (Cov.fresh rfl (Cov.refl))))))
  refine XL_q rfl (qt_assign rfl) rfl rfl ?_
  refine QL_nil fun a ha w8 hb9 => ?_
  have H10 : Holds (([] : List Res).flatMap Res.own) w w8 [] G := H.grow hb9
  refine nrm_seq (WP.app ?_ ha)
  refine WP_ret fun a ha => ?_
  obtain rfl := Option.some.inj h
  exact ret1 rfl ha rfl ⟨rfl, H10⟩
theorem w_impl_finished (w : World) (G : List Res) (p0_0 : Int) (p0_1 : Int) (r : Bool) (h : impl_finishedS p0_0 p0_1 = some r) (H : Ctx w G) : Calls Try.prog 64 #[.agg #[.int .i64 p0_0, .int .i64 p0_1]] w fun e w' => e = .returned (.bool r) ∧ Holds (([] : List Res).flatMap Res.own) w w' [] G := by
  have H : Holds (([] : List Res).flatMap Res.own) w w [] G := Holds.startN H
  refine calls_enter (args := [.agg #[.int .i64 p0_0, .int .i64 p0_1]]) (n := 11) Try.func64 rfl rfl rfl ?_
  unfold impl_finishedS at h
  refine WP_seq ?_
  refine WP_region ?_
  refine WL_box (cs := [.int .i64 p0_0, .int .i64 p0_1]) H rfl rfl rfl rfl (fun b1 w2 H3 => ?_)
  have H4 : Holds (([] : List Res).flatMap Res.own) w w2 [.bx b1 63 [.int .i64 p0_0, .int .i64 p0_1]] G := H3
  refine XL_q rfl (qt_assign rfl) rfl rfl ?_
  refine WL_nil_seq ?_
  refine WP_seq ?_
  refine WP_region ?_
  refine XL_q rfl (qt_fieldAddr uf63 fi63_1 nz3 rfl) rfl rfl ?_
  have hB5 : Bx w2 b1 63 [.int .i64 p0_0, .int .i64 p0_1] := Holds.bx (H4.pull 0)
  refine XL_load_bx u3 rfl hB5 rfl rfl rfl rfl ?_
  refine XL_q rfl (qt_eql rfl rfl) rfl rfl ?_
  refine XL_q rfl (qt_move rfl) rfl rfl ?_
  refine XL_join 4 10 (.bool ((p0_1 == 3) || (p0_1 == 4))) ?_ (fun md hmd hk => ?_)
  rotate_left
  · obtain ⟨Q, rfl⟩ := Md.seq_of hmd
    rcases btf (p0_1 == 3) with hc6 | hc6
    · skip
      refine XL_skip (w_skip rfl hc6) rfl rfl ?_
      refine XL_skip (w_skip rfl hc6) rfl rfl ?_
      refine XL_skip (w_skip rfl hc6) rfl rfl ?_
      refine XL_q rfl (qt_pickT rfl hc6 rfl) rfl rfl ?_
      exact hk _ (Cov.same (by rw [hc6]; rfl) (Cov.fresh rfl (Cov.fresh rfl (Cov.fresh rfl (Cov.refl)))))
    · skip
      refine XL_q (w_take rfl hc6) (qt_fieldAddr uf63 fi63_1 nz3 rfl) rfl rfl ?_
      have hB7 : Bx w2 b1 63 [.int .i64 p0_0, .int .i64 p0_1] := Holds.bx (H4.pull 0)
      refine XL_load_bx u3 rfl hB7 rfl (w_take rfl hc6) rfl rfl ?_
      refine XL_q (w_take rfl hc6) (qt_eql rfl rfl) rfl rfl ?_
      refine XL_q rfl (qt_pickF rfl hc6 rfl) rfl rfl ?_
      exact hk _ (Cov.same (by rw [hc6]; rfl) (Cov.fresh rfl (Cov.fresh rfl (Cov.fresh rfl (Cov.refl)))))
  refine XL_q rfl (qt_assign rfl) rfl rfl ?_
  refine WL_nil_seq ?_
  refine WP_ret fun a ha => ?_
  obtain rfl := Option.some.inj h
  have H8 : Holds (([] : List Res).flatMap Res.own) w w2 [] G := (H4.cut 0)
  exact ret1 rfl ha rfl ⟨rfl, H8⟩
theorem w_impl_reached (w : World) (G : List Res) (vp0 : Value) (p0 : List (Int × Int)) (hp0 : Has G (.pair (.int .i64) (.int .i64)) vp0 p0) (p1 : Int) (r : Bool) (h : impl_reachedS p0 p1 = some r) (H : Ctx w G) : Calls Try.prog 76 #[vp0, .int .i64 p1] w fun e w' => e = .returned (.bool r) ∧ Holds (([] : List Res).flatMap Res.own) w w' [] G := by
  have H : Holds (([] : List Res).flatMap Res.own) w w [] G := Holds.startN H
  refine calls_enter (args := [vp0, .int .i64 p1]) (n := 23) Try.func76 rfl rfl rfl ?_
  unfold impl_reachedS at h
  refine WP_seq ?_
  refine WP_region ?_
  refine XL_q rfl (qt_assign rfl) rfl rfl ?_
  refine WL_nil_seq ?_
  refine WP_seq ?_
  refine WP_seq ?_
  refine WP_region ?_
  refine XL_q rfl (qt_move rfl) rfl rfl ?_
  refine XL_lenH H.ctx (t := (.pair (.int .i64) (.int .i64))) (hp0) u48 rfl rfl rfl ?_
  refine XL_q rfl (qt_move rfl) rfl rfl ?_
  refine WL_nil_seq ?_
  refine WP_block ?_
  obtain ⟨o2, ho3, h⟩ := bind_some h
  refine fun a4 ha5 => wp_loop_fix (I := fun s a w2 => match s with | s1 => (Fr a 23 [(1, .int .i64 p1), (7, vp0), (8, .int .i64 (List.length p0 : Int)), (9, .int .i64 s1)] ∧ Holds (([] : List Res).flatMap Res.own) w w2 [] G)) (O := fun o e a w2 => match o with | .inl _ => e = .exit 0 ∧ (Fr a 23 [] ∧ Holds (([] : List Res).flatMap Res.own) w w2 [] G) | .inr q0 => e = .ret ∧ (Fr a 23 [(4, .bool q0)] ∧ Holds (([] : List Res).flatMap Res.own) w w2 [] G)) ho3 ?_ ?_ ?_
  · exact ⟨ha5.sub ⟨rfl, rfl, rfl, rfl, trivial⟩, H⟩
  · clear ha5
    intro s o8 a w6 hs7 hI9
    obtain ⟨s1, rfl⟩ : ∃ z, z = s := ⟨s, rfl⟩
    obtain ⟨ha, H10⟩ := hI9
    refine WP.app ?_ ha
    clear ha
    refine WP_seq ?_
    refine WP_region ?_
    refine XL_q rfl (qt_lss rfl rfl) rfl rfl ?_
    refine WL_nil_seq ?_
    refine WP_seq ?_
    refine WP_cond rfl (fun hc11 => ?_) (fun hc11 => ?_)
    · have hs7 := if_t hc11 hs7
      refine WP_skip_seq ?_
      refine WP_seq ?_
      refine WP_block ?_
      refine WP_seq ?_
      refine WP_region ?_
      obtain ⟨x12, hx13, hs7⟩ := bind_some hs7
      refine XL_indexH H10.ctx (hp0) hx13 u48 i63 rfl rfl rfl rfl (fun b14 off15 cap16 hv17 => ?_)
      obtain ⟨F18, hat19, hdup20⟩ := H10.atN (hp0) hx13 hv17
      refine XL_load_agg (t := (.pair (.int .i64) (.int .i64))) us63 uo63 i63 hat19 rfl rfl rfl (fun cs21 hr22 => ?_)
      obtain ⟨c23, c24, F25, F26, rfl, eF29, hr27, hr28⟩ := hr22
      obtain ⟨rfl, _⟩ := hr27
      obtain ⟨rfl, _⟩ := hr28
      change XL _ _ _ _ _ ((12, .agg #[.int .i64 x12.1, .int .i64 x12.2]) :: _) _
      refine WL_alloc (cs := [.int .i64 0, .int .i64 0]) H10 z63 rfl rfl rfl (fun b30 w31 H32 => ?_)
      have H33 : Holds (([] : List Res).flatMap Res.own) w w31 [.bx b30 63 [.int .i64 0, .int .i64 0]] G := H32
      refine WL_store_bxA (cs' := [.int .i64 x12.1, .int .i64 x12.2]) H33 rfl il63 rfl rfl rfl rfl rfl (fun w34 H35 => ?_)
      have H36 : Holds (([] : List Res).flatMap Res.own) w w34 [.bx b30 63 [.int .i64 x12.1, .int .i64 x12.2]] G := H35
      refine WL_nil_seq ?_
      refine WP_seq ?_
      refine WP_still ?_
      refine XL_q rfl (qt_fieldAddr uf63 fi63_0 nz3 rfl) rfl rfl ?_
      have hB37 : Bx w34 b30 63 [.int .i64 x12.1, .int .i64 x12.2] := Holds.bx (H36.pull 0)
      refine XL_load_bx u3 rfl hB37 rfl rfl rfl rfl ?_
      refine XL_q rfl (qt_move rfl) rfl rfl ?_
      refine XL_q rfl (qt_lss rfl rfl) rfl rfl ?_
      refine XL_q rfl (qt_move rfl) rfl rfl ?_
      obtain ⟨b38, hg39, hs7⟩ := bind_some hs7
      refine XL_join 4 21 (.bool b38) ?_ (fun md hmd hk => ?_)
      rotate_left
      · obtain ⟨K, rfl⟩ := Md.quiet_of hmd
        rcases btf (decide (x12.1 < p1)) with hc40 | hc40
        · skip
          have hg39 := if_t hc40 hg39
          have hB41 : Bx w34 b30 63 [.int .i64 x12.1, .int .i64 x12.2] := Holds.bx (H36.pull 0)
          refine XL_load_bxA (cs := [.int .i64 x12.1, .int .i64 x12.2]) us63 uo63 il63 hB41 (w_take rfl hc40) rfl rfl ?_
          change XL _ _ _ _ _ ((18, .agg #[.int .i64 x12.1, .int .i64 x12.2]) :: _) _
          obtain ⟨x42, hx43, hg39⟩ := bind_some hg39
          refine QL_call (w_take rfl hc40) rfl c64 (fun w' hb => (w_impl_finished w' ([.bx b30 63 [.int .i64 x12.1, .int .i64 x12.2]] ++ G) x12.1 x12.2 x42 hx43 (H36.grow hb).ctx).mono fun e w'' hK => ⟨hK.1, hK.2.bel⟩) (by rfl) ?_
          refine XL_q (w_take rfl hc40) (qt_not rfl) rfl rfl ?_
          refine XL_q rfl (qt_pickT rfl hc40 rfl) rfl rfl ?_
          exact hk _ (Cov.same (vb hg39) (Cov.fresh rfl (Cov.fresh rfl (Cov.fresh rfl (Cov.refl)))))
        · skip
          refine XL_skip (w_skip rfl hc40) rfl rfl ?_
          refine XL_skip (w_skip rfl hc40) rfl rfl ?_
          refine XL_skip (w_skip rfl hc40) rfl rfl ?_
          refine XL_q rfl (qt_pickF rfl hc40 rfl) rfl rfl ?_
          exact hk _ (Cov.same (vb (if_f hc40 hg39)) (Cov.fresh rfl (Cov.fresh rfl (Cov.fresh rfl (Cov.refl)))))
      refine QL_nil fun a ha w44 hb45 => ?_
      have H46 : Holds (([] : List Res).flatMap Res.own) w w44 [.bx b30 63 [.int .i64 x12.1, .int .i64 x12.2]] G := H36.grow hb45
      refine nrm_seq (WP.app ?_ ha)
      refine WP_cond rfl (fun hc47 => ?_) (fun hc47 => ?_)
      · have hs7 := if_t hc47 hs7
        refine WP_seq ?_
        refine WP_region ?_
        refine XL_q rfl (qt_assign rfl) rfl rfl ?_
        refine WL_nil_seq ?_
        refine WP_ret fun a ha => ?_
        obtain rfl := Option.some.inj hs7
        have H48 : Holds (([] : List Res).flatMap Res.own) w w44 [] G := (H46.cut 0)
        exact ret_block (ret_seq (⟨ret_ne, rfl, ha.sub ⟨rfl, trivial⟩, H48⟩))
      · have hs7 := if_f hc47 hs7
        refine WP_skip fun a ha => ?_
        refine nrm_block (nrm_seq (WP.app ?_ ha))
        refine WP_region ?_
        refine XL_q rfl (qt_add rfl rfl) rfl rfl ?_
        refine XL_q rfl (qt_move rfl) rfl rfl ?_
        refine WL_nil fun a ha => ?_
        obtain rfl := Option.some.inj hs7
        have H49 : Holds (([] : List Res).flatMap Res.own) w w44 [] G := (H46.cut 0)
        exact ⟨rfl, ha.sub ⟨rfl, rfl, rfl, rfl, trivial⟩, H49⟩
    · have hs7 := if_f hc11 hs7
      refine WP_exit fun a ha => ?_
      obtain rfl := Option.some.inj hs7
      exact exit_seq (⟨exit_ne, rfl, ha.sub trivial, H10⟩)
  · intro e a4 w50 hO51
    rcases o2 with o2 | o2
    · skip
      obtain ⟨rfl, hO53⟩ := hO51
      obtain ⟨ha, H52⟩ := hO53
      refine exit_block_eq (nrm_seq (WP.app ?_ ha))
      refine WP_seq ?_
      refine WP_region ?_
      refine XL_q rfl (qt_assign rfl) rfl rfl ?_
      refine WL_nil_seq ?_
      refine WP_ret fun a ha => ?_
      obtain rfl := Option.some.inj h
      exact ret1 rfl ha rfl ⟨rfl, H52⟩
    · skip
      obtain ⟨p54, rfl⟩ : ∃ z, z = o2 := ⟨o2, rfl⟩
      obtain ⟨rfl, hO56⟩ := hO51
      obtain ⟨ha, H55⟩ := hO56
      obtain rfl := Option.some.inj h
      exact ret_block (ret_seq (ret1 rfl ha rfl ⟨rfl, H55⟩))
theorem w_impl_TicketValid (w : World) (G : List Res) (vp0 : Value) (p0 : List (Int × Int)) (hp0 : Has G (.pair (.int .i64) (.int .i64)) vp0 p0) (r : Bool) (h : impl_TicketValidS p0 = some r) (H : Ctx w G) : Calls Try.prog 57 #[vp0] w fun e w' => e = .returned (.bool r) ∧ Holds (([] : List Res).flatMap Res.own) w w' [] G := by
  have H : Holds (([] : List Res).flatMap Res.own) w w [] G := Holds.startN H
  refine calls_enter (args := [vp0]) (n := 57) Try.func57 rfl rfl rfl ?_
  unfold impl_TicketValidS at h
  refine WP_seq ?_
  refine WP_region ?_
  refine XL_q rfl (qt_assign rfl) rfl rfl ?_
  refine WL_nil_seq ?_
  refine WP_seq ?_
  refine WP_seq ?_
  refine WP_region ?_
  refine XL_q rfl (qt_move rfl) rfl rfl ?_
  refine XL_lenH H.ctx (t := (.pair (.int .i64) (.int .i64))) (hp0) u48 rfl rfl rfl ?_
  refine XL_q rfl (qt_gtr rfl rfl) rfl rfl ?_
  refine WL_nil_seq ?_
  refine WP_cond rfl (fun hc1 => ?_) (fun hc1 => ?_)
  · have h := if_t hc1 h
    refine WP_seq ?_
    refine WP_region ?_
    refine XL_q rfl (qt_assign rfl) rfl rfl ?_
    refine WL_nil_seq ?_
    refine WP_ret fun a ha => ?_
    obtain rfl := Option.some.inj h
    exact ret_seq (ret1 rfl ha rfl ⟨rfl, H⟩)
  · have h := if_f hc1 h
    refine WP_skip_seq ?_
    refine WP_seq ?_
    refine WP_seq ?_
    refine WP_region ?_
    refine XL_q rfl (qt_move rfl) rfl rfl ?_
    refine XL_lenH H.ctx (t := (.pair (.int .i64) (.int .i64))) (hp0) u48 rfl rfl rfl ?_
    refine XL_q rfl (qt_move rfl) rfl rfl ?_
    refine WL_nil_seq ?_
    refine WP_block ?_
    obtain ⟨o3, ho4, h⟩ := bind_some h
    refine fun a5 ha6 => wp_loop_fix (I := fun s a w2 => match s with | s2 => (Fr a 57 [(0, vp0), (10, vp0), (11, .int .i64 (List.length p0 : Int)), (12, .int .i64 s2)] ∧ Holds (([] : List Res).flatMap Res.own) w w2 [] G)) (O := fun o e a w2 => match o with | .inl _ => e = .exit 0 ∧ (Fr a 57 [(0, vp0)] ∧ Holds (([] : List Res).flatMap Res.own) w w2 [] G) | .inr q0 => e = .ret ∧ (Fr a 57 [(2, .bool q0)] ∧ Holds (([] : List Res).flatMap Res.own) w w2 [] G)) ho4 ?_ ?_ ?_
    · exact ⟨ha6.sub ⟨rfl, rfl, rfl, rfl, trivial⟩, H⟩
    · clear ha6
      intro s o9 a w7 hs8 hI10
      obtain ⟨s2, rfl⟩ : ∃ z, z = s := ⟨s, rfl⟩
      obtain ⟨ha, H11⟩ := hI10
      refine WP.app ?_ ha
      clear ha
      refine WP_seq ?_
      refine WP_region ?_
      refine XL_q rfl (qt_lss rfl rfl) rfl rfl ?_
      refine WL_nil_seq ?_
      refine WP_seq ?_
      refine WP_cond rfl (fun hc12 => ?_) (fun hc12 => ?_)
      · have hs8 := if_t hc12 hs8
        refine WP_skip_seq ?_
        refine WP_seq ?_
        refine WP_block ?_
        refine WP_seq ?_
        refine WP_region ?_
        obtain ⟨x13, hx14, hs8⟩ := bind_some hs8
        refine XL_indexH H11.ctx (hp0) hx14 u48 i63 rfl rfl rfl rfl (fun b15 off16 cap17 hv18 => ?_)
        obtain ⟨F19, hat20, hdup21⟩ := H11.atN (hp0) hx14 hv18
        refine XL_load_agg (t := (.pair (.int .i64) (.int .i64))) us63 uo63 i63 hat20 rfl rfl rfl (fun cs22 hr23 => ?_)
        obtain ⟨c24, c25, F26, F27, rfl, eF30, hr28, hr29⟩ := hr23
        obtain ⟨rfl, _⟩ := hr28
        obtain ⟨rfl, _⟩ := hr29
        change XL _ _ _ _ _ ((15, .agg #[.int .i64 x13.1, .int .i64 x13.2]) :: _) _
        refine WL_alloc (cs := [.int .i64 0, .int .i64 0]) H11 z63 rfl rfl rfl (fun b31 w32 H33 => ?_)
        have H34 : Holds (([] : List Res).flatMap Res.own) w w32 [.bx b31 63 [.int .i64 0, .int .i64 0]] G := H33
        refine WL_store_bxA (cs' := [.int .i64 x13.1, .int .i64 x13.2]) H34 rfl il63 rfl rfl rfl rfl rfl (fun w35 H36 => ?_)
        have H37 : Holds (([] : List Res).flatMap Res.own) w w35 [.bx b31 63 [.int .i64 x13.1, .int .i64 x13.2]] G := H36
        refine WL_nil_seq ?_
        refine WP_seq ?_
        refine WP_region ?_
        refine XL_q rfl (qt_fieldAddr uf63 fi63_0 nz3 rfl) rfl rfl ?_
        have hB38 : Bx w35 b31 63 [.int .i64 x13.1, .int .i64 x13.2] := Holds.bx (H37.pull 0)
        refine XL_load_bx u3 rfl hB38 rfl rfl rfl rfl ?_
        refine XL_q rfl (qt_lss rfl rfl) rfl rfl ?_
        refine XL_q rfl (qt_move rfl) rfl rfl ?_
        refine XL_join 4 23 (.bool ((decide (x13.1 < 0)) || (decide (x13.1 > 2)))) ?_ (fun md hmd hk => ?_)
        rotate_left
        · obtain ⟨Q, rfl⟩ := Md.seq_of hmd
          rcases btf (decide (x13.1 < 0)) with hc39 | hc39
          · skip
            refine XL_skip (w_skip rfl hc39) rfl rfl ?_
            refine XL_skip (w_skip rfl hc39) rfl rfl ?_
            refine XL_skip (w_skip rfl hc39) rfl rfl ?_
            refine XL_q rfl (qt_pickT rfl hc39 rfl) rfl rfl ?_
            exact hk _ (Cov.same (by rw [hc39]; rfl) (Cov.fresh rfl (Cov.fresh rfl (Cov.fresh rfl (Cov.refl)))))
          · skip
            refine XL_q (w_take rfl hc39) (qt_fieldAddr uf63 fi63_0 nz3 rfl) rfl rfl ?_
            have hB40 : Bx w35 b31 63 [.int .i64 x13.1, .int .i64 x13.2] := Holds.bx (H37.pull 0)
            refine XL_load_bx u3 rfl hB40 rfl (w_take rfl hc39) rfl rfl ?_
            refine XL_q (w_take rfl hc39) (qt_gtr rfl rfl) rfl rfl ?_
            refine XL_q rfl (qt_pickF rfl hc39 rfl) rfl rfl ?_
            exact hk _ (Cov.same (by rw [hc39]; rfl) (Cov.fresh rfl (Cov.fresh rfl (Cov.fresh rfl (Cov.refl)))))
        refine XL_q rfl (qt_move rfl) rfl rfl ?_
        refine XL_join 4 28 (.bool (((decide (x13.1 < 0)) || (decide (x13.1 > 2))) || (decide (x13.2 < 0)))) ?_ (fun md hmd hk => ?_)
        rotate_left
        · obtain ⟨Q, rfl⟩ := Md.seq_of hmd
          rcases btf ((decide (x13.1 < 0)) || (decide (x13.1 > 2))) with hc41 | hc41
          · skip
            refine XL_skip (w_skip rfl hc41) rfl rfl ?_
            refine XL_skip (w_skip rfl hc41) rfl rfl ?_
            refine XL_skip (w_skip rfl hc41) rfl rfl ?_
            refine XL_q rfl (qt_pickT rfl hc41 rfl) rfl rfl ?_
            exact hk _ (Cov.same (by rw [hc41]; rfl) (Cov.fresh rfl (Cov.fresh rfl (Cov.fresh rfl (Cov.refl)))))
          · skip
            refine XL_q (w_take rfl hc41) (qt_fieldAddr uf63 fi63_1 nz3 rfl) rfl rfl ?_
            have hB42 : Bx w35 b31 63 [.int .i64 x13.1, .int .i64 x13.2] := Holds.bx (H37.pull 0)
            refine XL_load_bx u3 rfl hB42 rfl (w_take rfl hc41) rfl rfl ?_
            refine XL_q (w_take rfl hc41) (qt_lss rfl rfl) rfl rfl ?_
            refine XL_q rfl (qt_pickF rfl hc41 rfl) rfl rfl ?_
            exact hk _ (Cov.same (by rw [hc41]; rfl) (Cov.fresh rfl (Cov.fresh rfl (Cov.fresh rfl (Cov.refl)))))
        refine XL_q rfl (qt_move rfl) rfl rfl ?_
        refine XL_join 4 33 (.bool ((((decide (x13.1 < 0)) || (decide (x13.1 > 2))) || (decide (x13.2 < 0))) || (decide (x13.2 > 4)))) ?_ (fun md hmd hk => ?_)
        rotate_left
        · obtain ⟨Q, rfl⟩ := Md.seq_of hmd
          rcases btf (((decide (x13.1 < 0)) || (decide (x13.1 > 2))) || (decide (x13.2 < 0))) with hc43 | hc43
          · skip
            refine XL_skip (w_skip rfl hc43) rfl rfl ?_
            refine XL_skip (w_skip rfl hc43) rfl rfl ?_
            refine XL_skip (w_skip rfl hc43) rfl rfl ?_
            refine XL_q rfl (qt_pickT rfl hc43 rfl) rfl rfl ?_
            exact hk _ (Cov.same (by rw [hc43]; rfl) (Cov.fresh rfl (Cov.fresh rfl (Cov.fresh rfl (Cov.refl)))))
          · skip
            refine XL_q (w_take rfl hc43) (qt_fieldAddr uf63 fi63_1 nz3 rfl) rfl rfl ?_
            have hB44 : Bx w35 b31 63 [.int .i64 x13.1, .int .i64 x13.2] := Holds.bx (H37.pull 0)
            refine XL_load_bx u3 rfl hB44 rfl (w_take rfl hc43) rfl rfl ?_
            refine XL_q (w_take rfl hc43) (qt_gtr rfl rfl) rfl rfl ?_
            refine XL_q rfl (qt_pickF rfl hc43 rfl) rfl rfl ?_
            exact hk _ (Cov.same (by rw [hc43]; rfl) (Cov.fresh rfl (Cov.fresh rfl (Cov.fresh rfl (Cov.refl)))))
        refine WL_nil_seq ?_
        refine WP_cond rfl (fun hc45 => ?_) (fun hc45 => ?_)
        · have hs8 := if_t hc45 hs8
          refine WP_seq ?_
          refine WP_region ?_
          refine XL_q rfl (qt_assign rfl) rfl rfl ?_
          refine WL_nil_seq ?_
          refine WP_ret fun a ha => ?_
          obtain rfl := Option.some.inj hs8
          have H46 : Holds (([] : List Res).flatMap Res.own) w w35 [] G := (H37.cut 0)
          exact ret_block (ret_seq (⟨ret_ne, rfl, ha.sub ⟨rfl, trivial⟩, H46⟩))
        · have hs8 := if_f hc45 hs8
          refine WP_skip fun a ha => ?_
          refine nrm_block (nrm_seq (WP.app ?_ ha))
          refine WP_region ?_
          refine XL_q rfl (qt_add rfl rfl) rfl rfl ?_
          refine XL_q rfl (qt_move rfl) rfl rfl ?_
          refine WL_nil fun a ha => ?_
          obtain rfl := Option.some.inj hs8
          have H47 : Holds (([] : List Res).flatMap Res.own) w w35 [] G := (H37.cut 0)
          exact ⟨rfl, ha.sub ⟨rfl, rfl, rfl, rfl, trivial⟩, H47⟩
      · have hs8 := if_f hc12 hs8
        refine WP_exit fun a ha => ?_
        obtain rfl := Option.some.inj hs8
        exact exit_seq (⟨exit_ne, rfl, ha.sub ⟨rfl, trivial⟩, H11⟩)
    · intro e a5 w48 hO49
      rcases o3 with o3 | o3
      · skip
        obtain ⟨rfl, hO51⟩ := hO49
        obtain ⟨ha, H50⟩ := hO51
        refine exit_block_eq (nrm_seq (WP.app ?_ ha))
        refine WP_seq ?_
        refine WP_seq ?_
        refine WP_region ?_
        refine XL_q rfl (qt_move rfl) rfl rfl ?_
        refine XL_lenH H50.ctx (t := (.pair (.int .i64) (.int .i64))) (hp0) u48 rfl rfl rfl ?_
        refine XL_q rfl (qt_move rfl) rfl rfl ?_
        refine WL_nil_seq ?_
        refine WP_block ?_
        obtain ⟨o53, ho54, h⟩ := bind_some h
        refine fun a55 ha56 => wp_loop_fix (I := fun s a w2 => match s with | s52 => (Fr a 57 [(0, vp0), (35, vp0), (36, .int .i64 (List.length p0 : Int)), (37, .int .i64 s52)] ∧ Holds (([] : List Res).flatMap Res.own) w w2 [] G)) (O := fun o e a w2 => match o with | .inl _ => e = .exit 2 ∧ (Fr a 57 [] ∧ Holds (([] : List Res).flatMap Res.own) w w2 [] G) | .inr q0 => e = .ret ∧ (Fr a 57 [(2, .bool q0)] ∧ Holds (([] : List Res).flatMap Res.own) w w2 [] G)) ho54 ?_ ?_ ?_
        · exact ⟨ha56.sub ⟨rfl, rfl, rfl, rfl, trivial⟩, H50⟩
        · clear ha56
          intro s o59 a w57 hs58 hI60
          obtain ⟨s52, rfl⟩ : ∃ z, z = s := ⟨s, rfl⟩
          obtain ⟨ha, H61⟩ := hI60
          refine WP.app ?_ ha
          clear ha
          refine WP_seq ?_
          refine WP_region ?_
          refine XL_q rfl (qt_lss rfl rfl) rfl rfl ?_
          refine WL_nil_seq ?_
          refine WP_seq ?_
          refine WP_cond rfl (fun hc62 => ?_) (fun hc62 => ?_)
          · have hs58 := if_t hc62 hs58
            refine WP_skip_seq ?_
            refine WP_seq ?_
            refine WP_block ?_
            refine WP_seq ?_
            refine WP_region ?_
            obtain ⟨x63, hx64, hs58⟩ := bind_some hs58
            refine XL_indexH H61.ctx (hp0) hx64 u48 i63 rfl rfl rfl rfl (fun b65 off66 cap67 hv68 => ?_)
            obtain ⟨F69, hat70, hdup71⟩ := H61.atN (hp0) hx64 hv68
            refine XL_load_agg (t := (.pair (.int .i64) (.int .i64))) us63 uo63 i63 hat70 rfl rfl rfl (fun cs72 hr73 => ?_)
            obtain ⟨c74, c75, F76, F77, rfl, eF80, hr78, hr79⟩ := hr73
            obtain ⟨rfl, _⟩ := hr78
            obtain ⟨rfl, _⟩ := hr79
            change XL _ _ _ _ _ ((40, .agg #[.int .i64 x63.1, .int .i64 x63.2]) :: _) _
            refine WL_alloc (cs := [.int .i64 0, .int .i64 0]) H61 z63 rfl rfl rfl (fun b81 w82 H83 => ?_)
            have H84 : Holds (([] : List Res).flatMap Res.own) w w82 [.bx b81 63 [.int .i64 0, .int .i64 0]] G := H83
            refine WL_store_bxA (cs' := [.int .i64 x63.1, .int .i64 x63.2]) H84 rfl il63 rfl rfl rfl rfl rfl (fun w85 H86 => ?_)
            have H87 : Holds (([] : List Res).flatMap Res.own) w w85 [.bx b81 63 [.int .i64 x63.1, .int .i64 x63.2]] G := H86
            refine WL_nil_seq ?_
            refine WP_seq ?_
            refine WP_still ?_
            refine XL_q rfl (qt_fieldAddr uf63 fi63_1 nz3 rfl) rfl rfl ?_
            have hB88 : Bx w85 b81 63 [.int .i64 x63.1, .int .i64 x63.2] := Holds.bx (H87.pull 0)
            refine XL_load_bx u3 rfl hB88 rfl rfl rfl rfl ?_
            refine XL_q rfl (qt_neq rfl rfl) rfl rfl ?_
            refine XL_q rfl (qt_move rfl) rfl rfl ?_
            refine XL_join 4 48 (.bool ((x63.2 != 0) && (x63.2 != 4))) ?_ (fun md hmd hk => ?_)
            rotate_left
            · obtain ⟨K, rfl⟩ := Md.quiet_of hmd
              rcases btf (x63.2 != 0) with hc89 | hc89
              · skip
                refine XL_q (w_take rfl hc89) (qt_fieldAddr uf63 fi63_1 nz3 rfl) rfl rfl ?_
                have hB90 : Bx w85 b81 63 [.int .i64 x63.1, .int .i64 x63.2] := Holds.bx (H87.pull 0)
                refine XL_load_bx u3 rfl hB90 rfl (w_take rfl hc89) rfl rfl ?_
                refine XL_q (w_take rfl hc89) (qt_neq rfl rfl) rfl rfl ?_
                refine XL_q rfl (qt_pickT rfl hc89 rfl) rfl rfl ?_
                exact hk _ (Cov.same (by rw [hc89]; rfl) (Cov.fresh rfl (Cov.fresh rfl (Cov.fresh rfl (Cov.refl)))))
              · skip
                refine XL_skip (w_skip rfl hc89) rfl rfl ?_
                refine XL_skip (w_skip rfl hc89) rfl rfl ?_
                refine XL_skip (w_skip rfl hc89) rfl rfl ?_
                refine XL_q rfl (qt_pickF rfl hc89 rfl) rfl rfl ?_
                exact hk _ (Cov.same (by rw [hc89]; rfl) (Cov.fresh rfl (Cov.fresh rfl (Cov.fresh rfl (Cov.refl)))))
            refine XL_q rfl (qt_move rfl) rfl rfl ?_
            obtain ⟨b91, hg92, hs58⟩ := bind_some hs58
            refine XL_join 6 55 (.bool b91) ?_ (fun md hmd hk => ?_)
            rotate_left
            · obtain ⟨K, rfl⟩ := Md.quiet_of hmd
              rcases btf ((x63.2 != 0) && (x63.2 != 4)) with hc93 | hc93
              · skip
                have hg92 := if_t hc93 hg92
                refine XL_q (w_take rfl hc93) (qt_move rfl) rfl rfl ?_
                refine XL_q (w_take rfl hc93) (qt_fieldAddr uf63 fi63_0 nz3 rfl) rfl rfl ?_
                have hB94 : Bx w85 b81 63 [.int .i64 x63.1, .int .i64 x63.2] := Holds.bx (H87.pull 0)
                refine XL_load_bx u3 rfl hB94 rfl (w_take rfl hc93) rfl rfl ?_
                obtain ⟨x95, hx96, hg92⟩ := bind_some hg92
                refine QL_call (w_take rfl hc93) rfl c76 (fun w' hb => (w_impl_reached w' ([.bx b81 63 [.int .i64 x63.1, .int .i64 x63.2]] ++ G) vp0 p0 (hp0.c) x63.1 x95 hx96 (H87.grow hb).ctx).mono fun e w'' hK => ⟨hK.1, hK.2.bel⟩) (by rfl) ?_
                refine XL_q (w_take rfl hc93) (qt_not rfl) rfl rfl ?_
                refine XL_q rfl (qt_pickT rfl hc93 rfl) rfl rfl ?_
                exact hk _ (Cov.same (vb hg92) (Cov.fresh rfl (Cov.fresh rfl (Cov.fresh rfl (Cov.fresh rfl (Cov.fresh rfl (Cov.refl)))))))
              · skip
                refine XL_skip (w_skip rfl hc93) rfl rfl ?_
                refine XL_skip (w_skip rfl hc93) rfl rfl ?_
                refine XL_skip (w_skip rfl hc93) rfl rfl ?_
                refine XL_skip (w_skip rfl hc93) rfl rfl ?_
                refine XL_skip (w_skip rfl hc93) rfl rfl ?_
                refine XL_q rfl (qt_pickF rfl hc93 rfl) rfl rfl ?_
                exact hk _ (Cov.same (vb (if_f hc93 hg92)) (Cov.fresh rfl (Cov.fresh rfl (Cov.fresh rfl (Cov.fresh rfl (Cov.fresh rfl (Cov.refl)))))))
            refine QL_nil fun a ha w97 hb98 => ?_
            have H99 : Holds (([] : List Res).flatMap Res.own) w w97 [.bx b81 63 [.int .i64 x63.1, .int .i64 x63.2]] G := H87.grow hb98
            refine nrm_seq (WP.app ?_ ha)
            refine WP_cond rfl (fun hc100 => ?_) (fun hc100 => ?_)
            · have hs58 := if_t hc100 hs58
              refine WP_seq ?_
              refine WP_region ?_
              refine XL_q rfl (qt_assign rfl) rfl rfl ?_
              refine WL_nil_seq ?_
              refine WP_ret fun a ha => ?_
              obtain rfl := Option.some.inj hs58
              have H101 : Holds (([] : List Res).flatMap Res.own) w w97 [] G := (H99.cut 0)
              exact ret_block (ret_seq (⟨ret_ne, rfl, ha.sub ⟨rfl, trivial⟩, H101⟩))
            · have hs58 := if_f hc100 hs58
              refine WP_skip fun a ha => ?_
              refine nrm_block (nrm_seq (WP.app ?_ ha))
              refine WP_region ?_
              refine XL_q rfl (qt_add rfl rfl) rfl rfl ?_
              refine XL_q rfl (qt_move rfl) rfl rfl ?_
              refine WL_nil fun a ha => ?_
              obtain rfl := Option.some.inj hs58
              have H102 : Holds (([] : List Res).flatMap Res.own) w w97 [] G := (H99.cut 0)
              exact ⟨rfl, ha.sub ⟨rfl, rfl, rfl, rfl, trivial⟩, H102⟩
          · have hs58 := if_f hc62 hs58
            refine WP_exit fun a ha => ?_
            obtain rfl := Option.some.inj hs58
            exact exit_seq (⟨exit_ne, rfl, ha.sub trivial, H61⟩)
        · intro e a55 w103 hO104
          rcases o53 with o53 | o53
          · skip
            obtain ⟨rfl, hO106⟩ := hO104
            obtain ⟨ha, H105⟩ := hO106
            refine exit_block_eq (nrm_seq (WP.app ?_ ha))
            refine WP_seq ?_
            refine WP_region ?_
            refine XL_q rfl (qt_assign rfl) rfl rfl ?_
            refine WL_nil_seq ?_
            refine WP_ret fun a ha => ?_
            obtain rfl := Option.some.inj h
            exact ret1 rfl ha rfl ⟨rfl, H105⟩
          · skip
            obtain ⟨p107, rfl⟩ : ∃ z, z = o53 := ⟨o53, rfl⟩
            obtain ⟨rfl, hO109⟩ := hO104
            obtain ⟨ha, H108⟩ := hO109
            obtain rfl := Option.some.inj h
            exact ret_block (ret_seq (ret1 rfl ha rfl ⟨rfl, H108⟩))
      · skip
        obtain ⟨p110, rfl⟩ : ∃ z, z = o3 := ⟨o3, rfl⟩
        obtain ⟨rfl, hO112⟩ := hO49
        obtain ⟨ha, H111⟩ := hO112
        obtain rfl := Option.some.inj h
        exact ret_block (ret_seq (ret1 rfl ha rfl ⟨rfl, H111⟩))
theorem w_impl_UsesOf (w : World) (G : List Res) (vp0 : Value) (p0 : List (Int × (List (Int × Int)) × Int)) (hp0 : Has G (.pair (.int .i64) (.pair (.slice (.pair (.int .i64) (.int .i64))) (.int .i64))) vp0 p0) (p1 : Int) (r : Int) (h : impl_UsesOfS p0 p1 = some r) (H : Ctx w G) : Calls Try.prog 84 #[vp0, .int .i64 p1] w fun e w' => e = .returned (.int .i64 r) ∧ Holds (([] : List Res).flatMap Res.own) w w' [] G := by
  have H : Holds (([] : List Res).flatMap Res.own) w w [] G := Holds.startN H
  refine calls_enter (args := [vp0, .int .i64 p1]) (n := 51) Try.func84 rfl rfl rfl ?_
  unfold impl_UsesOfS at h
  refine WP_seq ?_
  refine WP_region ?_
  refine XL_q rfl (qt_assign rfl) rfl rfl ?_
  refine WL_nil_seq ?_
  refine WP_seq ?_
  refine WP_seq ?_
  refine WP_still ?_
  refine XL_q rfl (qt_move rfl) rfl rfl ?_
  obtain ⟨x1, hx2, h⟩ := bind_some h
  refine QL_call rfl rfl c56 (fun w' hb => (w_impl_ItemsValid w' G vp0 p0 (hp0) x1 hx2 (H.grow hb).ctx).mono fun e w'' hK => ⟨hK.1, hK.2.bel⟩) (by rfl) ?_
  refine XL_q rfl (qt_not rfl) rfl rfl ?_
  refine XL_q rfl (qt_move rfl) rfl rfl ?_
  refine XL_join 3 15 (.bool ((!x1) || (decide (p1 < 0)))) ?_ (fun md hmd hk => ?_)
  rotate_left
  · obtain ⟨K, rfl⟩ := Md.quiet_of hmd
    rcases btf (!x1) with hc3 | hc3
    · skip
      refine XL_skip (w_skip rfl hc3) rfl rfl ?_
      refine XL_skip (w_skip rfl hc3) rfl rfl ?_
      refine XL_q rfl (qt_pickT rfl hc3 rfl) rfl rfl ?_
      exact hk _ (Cov.same (by rw [hc3]; rfl) (Cov.fresh rfl (Cov.fresh rfl (Cov.refl))))
    · skip
      refine XL_q (w_take rfl hc3) (qt_move rfl) rfl rfl ?_
      refine XL_q (w_take rfl hc3) (qt_lss rfl rfl) rfl rfl ?_
      refine XL_q rfl (qt_pickF rfl hc3 rfl) rfl rfl ?_
      exact hk _ (Cov.same (by rw [hc3]; rfl) (Cov.fresh rfl (Cov.fresh rfl (Cov.refl))))
  refine XL_q rfl (qt_move rfl) rfl rfl ?_
  refine XL_join 5 21 (.bool (((!x1) || (decide (p1 < 0))) || (decide (p1 ≥ (List.length p0 : Int))))) ?_ (fun md hmd hk => ?_)
  rotate_left
  · obtain ⟨K, rfl⟩ := Md.quiet_of hmd
    rcases btf ((!x1) || (decide (p1 < 0))) with hc4 | hc4
    · skip
      refine XL_skip (w_skip rfl hc4) rfl rfl ?_
      refine XL_skip (w_skip rfl hc4) rfl rfl ?_
      refine XL_skip (w_skip rfl hc4) rfl rfl ?_
      refine XL_skip (w_skip rfl hc4) rfl rfl ?_
      refine XL_q rfl (qt_pickT rfl hc4 rfl) rfl rfl ?_
      exact hk _ (Cov.same (by rw [hc4]; rfl) (Cov.fresh rfl (Cov.fresh rfl (Cov.fresh rfl (Cov.fresh rfl (Cov.refl))))))
    · skip
      refine XL_q (w_take rfl hc4) (qt_move rfl) rfl rfl ?_
      refine XL_q (w_take rfl hc4) (qt_move rfl) rfl rfl ?_
      refine XL_lenH H.ctx (t := (.pair (.int .i64) (.pair (.slice (.pair (.int .i64) (.int .i64))) (.int .i64)))) (hp0) u29 (w_take rfl hc4) rfl rfl ?_
      refine XL_q (w_take rfl hc4) (qt_geq rfl rfl) rfl rfl ?_
      refine XL_q rfl (qt_pickF rfl hc4 rfl) rfl rfl ?_
      exact hk _ (Cov.same (by rw [hc4]; rfl) (Cov.fresh rfl (Cov.fresh rfl (Cov.fresh rfl (Cov.fresh rfl (Cov.refl))))))
  refine QL_nil fun a ha w5 hb6 => ?_
  have H7 : Holds (([] : List Res).flatMap Res.own) w w5 [] G := H.grow hb6
  refine nrm_seq (WP.app ?_ ha)
  refine WP_cond rfl (fun hc8 => ?_) (fun hc8 => ?_)
  · have h := if_t hc8 h
    refine WP_seq ?_
    refine WP_region ?_
    refine XL_q rfl (qt_assign rfl) rfl rfl ?_
    refine WL_nil_seq ?_
    refine WP_ret fun a ha => ?_
    obtain rfl := Option.some.inj h
    exact ret_seq (ret1 rfl ha rfl ⟨rfl, H7⟩)
  · have h := if_f hc8 h
    refine WP_skip_seq ?_
    refine WP_seq ?_
    refine WP_region ?_
    refine XL_q rfl (qt_move rfl) rfl rfl ?_
    obtain ⟨x9, hx10, h⟩ := bind_some h
    refine XL_q rfl (qt_shlO rfl rfl hx10) rfl rfl ?_
    refine XL_q rfl (qt_assign rfl) rfl rfl ?_
    refine WL_nil_seq ?_
    refine WP_seq ?_
    refine WP_seq ?_
    refine WP_region ?_
    refine XL_q rfl (qt_move rfl) rfl rfl ?_
    refine XL_q rfl (qt_assign rfl) rfl rfl ?_
    refine WL_nil_seq ?_
    refine WP_block ?_
    obtain ⟨o13, ho14, h⟩ := bind_some h
    refine fun a15 ha16 => wp_loop_fix (I := fun s a w2 => match s with | (s11, s12) => (Fr a 51 [(0, vp0), (5, .int .i64 s11), (6, .int .i64 s12)] ∧ Holds (([] : List Res).flatMap Res.own) w w2 [] G)) (O := fun o e a w2 => match o with | q0 => e = .exit 0 ∧ (Fr a 51 [(5, .int .i64 q0)] ∧ Holds (([] : List Res).flatMap Res.own) w w2 [] G)) ho14 ?_ ?_ ?_
    · exact ⟨ha16.sub ⟨rfl, rfl, rfl, trivial⟩, H7⟩
    · clear ha16
      intro s o19 a w17 hs18 hI20
      obtain ⟨s11, s12⟩ := s
      obtain ⟨ha, H21⟩ := hI20
      refine WP.app ?_ ha
      clear ha
      refine WP_seq ?_
      refine WP_seq ?_
      refine WP_region ?_
      refine XL_q rfl (qt_move rfl) rfl rfl ?_
      refine XL_q rfl (qt_geq rfl rfl) rfl rfl ?_
      refine WL_nil_seq ?_
      refine WP_cond rfl (fun hc22 => ?_) (fun hc22 => ?_)
      · have hs18 := if_t hc22 hs18
        refine WP_skip_seq ?_
        refine WP_seq ?_
        refine WP_block ?_
        refine WP_seq ?_
        refine WP_seq ?_
        refine WP_region ?_
        refine XL_q rfl (qt_move rfl) rfl rfl ?_
        refine XL_q rfl (qt_move rfl) rfl rfl ?_
        obtain ⟨x23, hx24, hs18⟩ := bind_some hs18
        refine XL_q rfl (qt_shlO rfl rfl hx24) rfl rfl ?_
        refine XL_q rfl (qt_and rfl rfl) rfl rfl ?_
        refine XL_q rfl (qt_eql rfl rfl) rfl rfl ?_
        refine WL_nil_seq ?_
        refine WP_cond rfl (fun hc25 => ?_) (fun hc25 => ?_)
        · have hs18 := if_t hc25 hs18
          refine WP_exit fun a ha => ?_
          refine exit_seq (exit_block_eq (nrm_seq (WP.app ?_ ha)))
          refine WP_region ?_
          refine XL_q rfl (qt_move rfl) rfl rfl ?_
          refine XL_q rfl (qt_sub rfl rfl) rfl rfl ?_
          refine XL_q rfl (qt_assign rfl) rfl rfl ?_
          refine WL_nil fun a ha => ?_
          obtain rfl := Option.some.inj hs18
          exact ⟨rfl, ha.sub ⟨rfl, rfl, rfl, trivial⟩, H21⟩
        · have hs18 := if_f hc25 hs18
          refine WP_skip_seq ?_
          refine WP_seq ?_
          refine WP_region ?_
          refine XL_q rfl (qt_move rfl) rfl rfl ?_
          refine XL_q rfl (qt_move rfl) rfl rfl ?_
          obtain ⟨x26, hx27, hs18⟩ := bind_some hs18
          refine XL_indexH H21.ctx (hp0) hx27 u29 i84 rfl rfl rfl rfl (fun b28 off29 cap30 hv31 => ?_)
          refine XL_q rfl (qt_fieldAddr uf84 fi84_1 nz82 rfl) rfl rfl ?_
          obtain ⟨F32, hat33, hdup34⟩ := H21.at (hp0) hx27 hv31
          obtain ⟨F35, hat36, hin37⟩ := AtP.snd hat33
          obtain ⟨F38, hat39, hin40⟩ := AtP.fst hat36
          refine XL_load (t := (.slice (.pair (.int .i64) (.int .i64)))) u82 rfl rfl hat39 rfl rfl rfl (fun v41 hr42 => ?_)
          have H43 : Holds (([] : List Res).flatMap Res.own) w w17 [.ro (.pair (.int .i64) (.int .i64)) v41 x26.2.1] G := hdup34 _ _ _ _ hr42 (fun k h => (fun k h => (fun _ h => h) k (hin37 k h)) k (hin40 k h))
          refine XL_lenH H43.ctx (t := (.pair (.int .i64) (.int .i64))) (HasRo.has (HasRo.hd)) u82 rfl rfl rfl ?_
          refine XL_q rfl (qt_move rfl) rfl rfl ?_
          refine WL_nil_seq ?_
          refine WP_block ?_
          obtain ⟨o46, ho47, hs18⟩ := bind_some hs18
          refine fun a48 ha49 => wp_loop_fix (I := fun s a w2 => match s with | (s44, s45) => (Fr a 51 [(0, vp0), (5, .int .i64 s44), (6, .int .i64 s12), (38, v41), (39, .int .i64 (List.length x26.2.1 : Int)), (40, .int .i64 s45)] ∧ Holds (([] : List Res).flatMap Res.own) w w2 [.ro (.pair (.int .i64) (.int .i64)) v41 x26.2.1] G)) (O := fun o e a w2 => match o with | q0 => e = .exit 2 ∧ (Fr a 51 [(0, vp0), (5, .int .i64 q0), (6, .int .i64 s12)] ∧ Holds (([] : List Res).flatMap Res.own) w w2 [] G)) ho47 ?_ ?_ ?_
          · exact ⟨ha49.sub ⟨rfl, rfl, rfl, rfl, rfl, rfl, trivial⟩, H43⟩
          · clear ha49
            intro s o52 a w50 hs51 hI53
            obtain ⟨s44, s45⟩ := s
            obtain ⟨ha, H54⟩ := hI53
            refine WP.app ?_ ha
            clear ha
            refine WP_seq ?_
            refine WP_region ?_
            refine XL_q rfl (qt_lss rfl rfl) rfl rfl ?_
            refine WL_nil_seq ?_
            refine WP_seq ?_
            refine WP_cond rfl (fun hc55 => ?_) (fun hc55 => ?_)
            · have hs51 := if_t hc55 hs51
              refine WP_skip_seq ?_
              refine WP_seq ?_
              refine WP_block ?_
              refine WP_seq ?_
              refine WP_region ?_
              obtain ⟨x56, hx57, hs51⟩ := bind_some hs51
              refine XL_indexH H54.ctx (HasRo.has (HasRo.hd)) hx57 u82 i103 rfl rfl rfl rfl (fun b58 off59 cap60 hv61 => ?_)
              obtain ⟨F62, hat63, hdup64⟩ := H54.atN (HasRo.has (HasRo.hd)) hx57 hv61
              refine XL_load_agg (t := (.pair (.int .i64) (.int .i64))) us103 uo103 i103 hat63 rfl rfl rfl (fun cs65 hr66 => ?_)
              obtain ⟨c67, c68, F69, F70, rfl, eF73, hr71, hr72⟩ := hr66
              obtain ⟨rfl, _⟩ := hr71
              obtain ⟨rfl, _⟩ := hr72
              change XL _ _ _ _ _ ((43, .agg #[.int .i64 x56.1, .int .i64 x56.2]) :: _) _
              refine WL_alloc (cs := [.int .i64 0, .int .i64 0]) H54 z103 rfl rfl rfl (fun b74 w75 H76 => ?_)
              have H77 : Holds (([] : List Res).flatMap Res.own) w w75 [.bx b74 103 [.int .i64 0, .int .i64 0], .ro (.pair (.int .i64) (.int .i64)) v41 x26.2.1] G := H76
              refine WL_store_bxA (cs' := [.int .i64 x56.1, .int .i64 x56.2]) H77 rfl il103 rfl rfl rfl rfl rfl (fun w78 H79 => ?_)
              have H80 : Holds (([] : List Res).flatMap Res.own) w w78 [.bx b74 103 [.int .i64 x56.1, .int .i64 x56.2], .ro (.pair (.int .i64) (.int .i64)) v41 x26.2.1] G := H79
              refine WL_nil_seq ?_
              refine WP_region ?_
              refine XL_q rfl (qt_move rfl) rfl rfl ?_
              refine XL_q rfl (qt_fieldAddr uf103 fi103_0 nz3 rfl) rfl rfl ?_
              have hB81 : Bx w78 b74 103 [.int .i64 x56.1, .int .i64 x56.2] := Holds.bx (H80.pull 0)
              refine XL_load_bx u3 rfl hB81 rfl rfl rfl rfl ?_
              obtain ⟨x82, hx83, hs51⟩ := bind_some hs51
              refine XL_q rfl (qt_shlO rfl rfl hx83) rfl rfl ?_
              refine XL_q rfl (qt_or rfl rfl) rfl rfl ?_
              refine XL_q rfl (qt_assign rfl) rfl rfl ?_
              refine WL_nil fun a ha => ?_
              refine nrm_block (nrm_seq (WP.app ?_ ha))
              refine WP_region ?_
              refine XL_q rfl (qt_add rfl rfl) rfl rfl ?_
              refine XL_q rfl (qt_move rfl) rfl rfl ?_
              refine WL_nil fun a ha => ?_
              obtain rfl := Option.some.inj hs51
              have H84 : Holds (([] : List Res).flatMap Res.own) w w78 [.ro (.pair (.int .i64) (.int .i64)) v41 x26.2.1] G := (H80.cut 0)
              exact ⟨rfl, ha.sub ⟨rfl, rfl, rfl, rfl, rfl, rfl, trivial⟩, H84⟩
            · have hs51 := if_f hc55 hs51
              refine WP_exit fun a ha => ?_
              obtain rfl := Option.some.inj hs51
              have H85 : Holds (([] : List Res).flatMap Res.own) w w50 [] G := (H54.cut 0)
              exact exit_seq (⟨exit_ne, rfl, ha.sub ⟨rfl, rfl, rfl, trivial⟩, H85⟩)
          · intro e a48 w86 hO87
            obtain ⟨p88, rfl⟩ : ∃ z, z = o46 := ⟨o46, rfl⟩
            obtain ⟨rfl, hO90⟩ := hO87
            obtain ⟨ha, H89⟩ := hO90
            refine exit_block_eq (nrm_block (nrm_seq (WP.app ?_ ha)))
            refine WP_region ?_
            refine XL_q rfl (qt_move rfl) rfl rfl ?_
            refine XL_q rfl (qt_sub rfl rfl) rfl rfl ?_
            refine XL_q rfl (qt_assign rfl) rfl rfl ?_
            refine WL_nil fun a ha => ?_
            obtain rfl := Option.some.inj hs18
            exact ⟨rfl, ha.sub ⟨rfl, rfl, rfl, trivial⟩, H89⟩
      · have hs18 := if_f hc22 hs18
        refine WP_exit fun a ha => ?_
        obtain rfl := Option.some.inj hs18
        exact exit_seq (⟨exit_ne, rfl, ha.sub ⟨rfl, trivial⟩, H21⟩)
    · intro e a15 w91 hO92
      obtain ⟨p93, rfl⟩ : ∃ z, z = o13 := ⟨o13, rfl⟩
      obtain ⟨rfl, hO95⟩ := hO92
      obtain ⟨ha, H94⟩ := hO95
      refine exit_block_eq (nrm_seq (WP.app ?_ ha))
      refine WP_seq ?_
      refine WP_region ?_
      refine XL_q rfl (qt_move rfl) rfl rfl ?_
      refine XL_q rfl (qt_assign rfl) rfl rfl ?_
      refine WL_nil_seq ?_
      refine WP_ret fun a ha => ?_
      obtain rfl := Option.some.inj h
      exact ret1 rfl ha rfl ⟨rfl, H94⟩
theorem w_impl_MarksOf (w : World) (G : List Res) (vp0 : Value) (p0 : List (Int × (List (Int × Int)) × Int)) (hp0 : Has G (.pair (.int .i64) (.pair (.slice (.pair (.int .i64) (.int .i64))) (.int .i64))) vp0 p0) (p1 : Int) (r : Int) (h : impl_MarksOfS p0 p1 = some r) (H : Ctx w G) : Calls Try.prog 77 #[vp0, .int .i64 p1] w fun e w' => e = .returned (.int .i64 r) ∧ Holds (([] : List Res).flatMap Res.own) w w' [] G := by
  have H : Holds (([] : List Res).flatMap Res.own) w w [] G := Holds.startN H
  refine calls_enter (args := [vp0, .int .i64 p1]) (n := 32) Try.func77 rfl rfl rfl ?_
  unfold impl_MarksOfS at h
  refine WP_seq ?_
  refine WP_region ?_
  refine XL_q rfl (qt_assign rfl) rfl rfl ?_
  refine WL_nil_seq ?_
  refine WP_seq ?_
  refine WP_still ?_
  refine XL_q rfl (qt_move rfl) rfl rfl ?_
  refine XL_q rfl (qt_move rfl) rfl rfl ?_
  obtain ⟨x1, hx2, h⟩ := bind_some h
  refine QL_call rfl rfl c84 (fun w' hb => (w_impl_UsesOf w' G vp0 p0 (hp0) p1 x1 hx2 (H.grow hb).ctx).mono fun e w'' hK => ⟨hK.1, hK.2.bel⟩) (by rfl) ?_
  refine XL_q rfl (qt_assign rfl) rfl rfl ?_
  refine QL_nil fun a ha w3 hb4 => ?_
  have H5 : Holds (([] : List Res).flatMap Res.own) w w3 [] G := H.grow hb4
  refine nrm_seq (WP.app ?_ ha)
  refine WP_seq ?_
  refine WP_seq ?_
  refine WP_region ?_
  refine XL_q rfl (qt_move rfl) rfl rfl ?_
  refine XL_q rfl (qt_lss rfl rfl) rfl rfl ?_
  refine WL_nil_seq ?_
  refine WP_cond rfl (fun hc6 => ?_) (fun hc6 => ?_)
  · have h := if_t hc6 h
    refine WP_seq ?_
    refine WP_region ?_
    refine XL_q rfl (qt_assign rfl) rfl rfl ?_
    refine WL_nil_seq ?_
    refine WP_ret fun a ha => ?_
    obtain rfl := Option.some.inj h
    exact ret_seq (ret1 rfl ha rfl ⟨rfl, H5⟩)
  · have h := if_f hc6 h
    refine WP_skip_seq ?_
    refine WP_seq ?_
    refine WP_region ?_
    refine XL_q rfl (qt_assign rfl) rfl rfl ?_
    refine WL_nil_seq ?_
    refine WP_seq ?_
    refine WP_seq ?_
    refine WP_region ?_
    refine XL_q rfl (qt_move rfl) rfl rfl ?_
    refine XL_lenH H5.ctx (t := (.pair (.int .i64) (.pair (.slice (.pair (.int .i64) (.int .i64))) (.int .i64)))) (hp0) u29 rfl rfl rfl ?_
    refine XL_q rfl (qt_move rfl) rfl rfl ?_
    refine WL_nil_seq ?_
    refine WP_block ?_
    obtain ⟨o9, ho10, h⟩ := bind_some h
    refine fun a11 ha12 => wp_loop_fix (I := fun s a w2 => match s with | (s7, s8) => (Fr a 32 [(5, .int .i64 x1), (6, .int .i64 s7), (14, vp0), (15, .int .i64 (List.length p0 : Int)), (16, .int .i64 s8)] ∧ Holds (([] : List Res).flatMap Res.own) w w2 [] G)) (O := fun o e a w2 => match o with | q0 => e = .exit 0 ∧ (Fr a 32 [(6, .int .i64 q0)] ∧ Holds (([] : List Res).flatMap Res.own) w w2 [] G)) ho10 ?_ ?_ ?_
    · exact ⟨ha12.sub ⟨rfl, rfl, rfl, rfl, rfl, trivial⟩, H5⟩
    · clear ha12
      intro s o15 a w13 hs14 hI16
      obtain ⟨s7, s8⟩ := s
      obtain ⟨ha, H17⟩ := hI16
      refine WP.app ?_ ha
      clear ha
      refine WP_seq ?_
      refine WP_region ?_
      refine XL_q rfl (qt_lss rfl rfl) rfl rfl ?_
      refine WL_nil_seq ?_
      refine WP_seq ?_
      refine WP_cond rfl (fun hc18 => ?_) (fun hc18 => ?_)
      · have hs14 := if_t hc18 hs14
        refine WP_skip_seq ?_
        refine WP_seq ?_
        refine WP_block ?_
        refine WP_seq ?_
        refine WP_region ?_
        refine XL_q rfl (qt_move rfl) rfl rfl ?_
        obtain ⟨x19, hx20, hs14⟩ := bind_some hs14
        refine XL_indexH H17.ctx (hp0) hx20 u29 i84 rfl rfl rfl rfl (fun b21 off22 cap23 hv24 => ?_)
        obtain ⟨F25, hat26, hdup27⟩ := H17.atN (hp0) hx20 hv24
        refine XL_load_agg (t := (.pair (.int .i64) (.pair (.slice (.pair (.int .i64) (.int .i64))) (.int .i64)))) us84 uo84 i84 hat26 rfl rfl rfl (fun cs28 hr29 => ?_)
        obtain ⟨c30, c31, F32, F33, rfl, eF36, hr34, hr35⟩ := hr29
        obtain ⟨rfl, _⟩ := hr34
        obtain ⟨c37, c38, F39, F40, rfl, eF43, hr41, hr42⟩ := hr35
        obtain ⟨v44, rfl, hr45⟩ := Rep.sl_inv hr41
        obtain ⟨rfl, _⟩ := hr42
        have H46 : Holds (([] : List Res).flatMap Res.own) w w13 [.ro (.pair (.int .i64) (.int .i64)) v44 x19.2.1] G := hdup27 [.ro (.pair (.int .i64) (.int .i64)) v44 x19.2.1] ⟨⟨_, _, _, _, rfl, hr45, (fun k h => (fun k h => (fun _ h => h) k (by rw [eF36]; exact List.mem_append_right _ h)) k (by rw [eF43]; exact List.mem_append_left _ h))⟩, trivial⟩
        change XL _ _ _ _ _ ((20, .agg #[.int .i64 x19.1, v44, .int .i64 x19.2.2]) :: _) _
        refine WL_alloc (cs := [.int .i64 0, .slice none 0 0, .int .i64 0]) H46 z84 rfl rfl rfl (fun b47 w48 H49 => ?_)
        have H50 : Holds (([] : List Res).flatMap Res.own) w w48 [.bx b47 84 [.int .i64 0, .slice none 0 0, .int .i64 0], .ro (.pair (.int .i64) (.int .i64)) v44 x19.2.1] G := H49
        refine XL_q rfl (qt_assign rfl) rfl rfl ?_
        refine WL_store_bxA (cs' := [.int .i64 x19.1, v44, .int .i64 x19.2.2]) H50 rfl il84 rfl (allOne rfl (allOne (H50.ctx.sliceOne (HasRo.has (HasRo.c (HasRo.hd)))) (allOne rfl rfl))) rfl rfl rfl (fun w51 H52 => ?_)
        have H53 : Holds (([] : List Res).flatMap Res.own) w w51 [.bx b47 84 [.int .i64 x19.1, v44, .int .i64 x19.2.2], .ro (.pair (.int .i64) (.int .i64)) v44 x19.2.1] G := H52
        refine WL_nil_seq ?_
        refine WP_seq ?_
        refine WP_region ?_
        refine XL_q rfl (qt_move rfl) rfl rfl ?_
        refine XL_q rfl (qt_move rfl) rfl rfl ?_
        obtain ⟨x54, hx55, hs14⟩ := bind_some hs14
        refine XL_q rfl (qt_shlO rfl rfl hx55) rfl rfl ?_
        refine XL_q rfl (qt_and rfl rfl) rfl rfl ?_
        refine XL_q rfl (qt_neq rfl rfl) rfl rfl ?_
        refine WL_nil_seq ?_
        refine WP_cond rfl (fun hc56 => ?_) (fun hc56 => ?_)
        · have hs14 := if_t hc56 hs14
          refine WP_region ?_
          refine XL_q rfl (qt_move rfl) rfl rfl ?_
          refine XL_q rfl (qt_fieldAddr uf84 fi84_2 nz3 rfl) rfl rfl ?_
          have hB57 : Bx w51 b47 84 [.int .i64 x19.1, v44, .int .i64 x19.2.2] := Holds.bx (H53.pull 0)
          refine XL_load_bx u3 rfl hB57 rfl rfl rfl rfl ?_
          refine XL_q rfl (qt_or rfl rfl) rfl rfl ?_
          refine XL_q rfl (qt_assign rfl) rfl rfl ?_
          refine WL_nil fun a ha => ?_
          refine nrm_block (nrm_seq (WP.app ?_ ha))
          refine WP_region ?_
          refine XL_q rfl (qt_add rfl rfl) rfl rfl ?_
          refine XL_q rfl (qt_move rfl) rfl rfl ?_
          refine WL_nil fun a ha => ?_
          obtain rfl := Option.some.inj hs14
          have H58 : Holds (([] : List Res).flatMap Res.own) w w51 [] G := ((H53.cut 0).cut 0)
          exact ⟨rfl, ha.sub ⟨rfl, rfl, rfl, rfl, rfl, trivial⟩, H58⟩
        · have hs14 := if_f hc56 hs14
          refine WP_skip fun a ha => ?_
          refine nrm_block (nrm_seq (WP.app ?_ ha))
          refine WP_region ?_
          refine XL_q rfl (qt_add rfl rfl) rfl rfl ?_
          refine XL_q rfl (qt_move rfl) rfl rfl ?_
          refine WL_nil fun a ha => ?_
          obtain rfl := Option.some.inj hs14
          have H59 : Holds (([] : List Res).flatMap Res.own) w w51 [] G := ((H53.cut 0).cut 0)
          exact ⟨rfl, ha.sub ⟨rfl, rfl, rfl, rfl, rfl, trivial⟩, H59⟩
      · have hs14 := if_f hc18 hs14
        refine WP_exit fun a ha => ?_
        obtain rfl := Option.some.inj hs14
        exact exit_seq (⟨exit_ne, rfl, ha.sub ⟨rfl, trivial⟩, H17⟩)
    · intro e a11 w60 hO61
      obtain ⟨p62, rfl⟩ : ∃ z, z = o9 := ⟨o9, rfl⟩
      obtain ⟨rfl, hO64⟩ := hO61
      obtain ⟨ha, H63⟩ := hO64
      refine exit_block_eq (nrm_seq (WP.app ?_ ha))
      refine WP_seq ?_
      refine WP_region ?_
      refine XL_q rfl (qt_move rfl) rfl rfl ?_
      refine XL_q rfl (qt_assign rfl) rfl rfl ?_
      refine WL_nil_seq ?_
      refine WP_ret fun a ha => ?_
      obtain rfl := Option.some.inj h
      exact ret1 rfl ha rfl ⟨rfl, H63⟩
theorem w_impl_FreeOf (w : World) (G : List Res) (vp0 : Value) (p0 : List (Int × (List (Int × Int)) × Int)) (hp0 : Has G (.pair (.int .i64) (.pair (.slice (.pair (.int .i64) (.int .i64))) (.int .i64))) vp0 p0) (p1 : Int) (r : (List Int)) (h : impl_FreeOfS p0 p1 = some r) (H : Ctx w G) : Calls Try.prog 58 #[vp0, .int .i64 p1] w fun e w' => ∃ (v1 : Value), e = .returned (v1) ∧ Holds (([] : List Res).flatMap Res.own) w w' [.sl 3 (.int .i64) v1 r] G := by
  have H : Holds (([] : List Res).flatMap Res.own) w w [] G := Holds.startN H
  refine calls_enter (args := [vp0, .int .i64 p1]) (n := 43) Try.func58 rfl rfl rfl ?_
  unfold impl_FreeOfS at h
  refine WP_seq ?_
  refine WP_region ?_
  refine XL_q rfl (qt_assign rfl) rfl rfl ?_
  refine WL_nil_seq ?_
  refine WP_seq ?_
  refine WP_seq ?_
  refine WP_still ?_
  refine XL_q rfl (qt_move rfl) rfl rfl ?_
  obtain ⟨x1, hx2, h⟩ := bind_some h
  refine QL_call rfl rfl c56 (fun w' hb => (w_impl_ItemsValid w' G vp0 p0 (hp0) x1 hx2 (H.grow hb).ctx).mono fun e w'' hK => ⟨hK.1, hK.2.bel⟩) (by rfl) ?_
  refine XL_q rfl (qt_not rfl) rfl rfl ?_
  refine XL_q rfl (qt_move rfl) rfl rfl ?_
  refine XL_join 3 14 (.bool ((!x1) || (decide (p1 < 0)))) ?_ (fun md hmd hk => ?_)
  rotate_left
  · obtain ⟨K, rfl⟩ := Md.quiet_of hmd
    rcases btf (!x1) with hc3 | hc3
    · skip
      refine XL_skip (w_skip rfl hc3) rfl rfl ?_
      refine XL_skip (w_skip rfl hc3) rfl rfl ?_
      refine XL_q rfl (qt_pickT rfl hc3 rfl) rfl rfl ?_
      exact hk _ (Cov.same (by rw [hc3]; rfl) (Cov.fresh rfl (Cov.fresh rfl (Cov.refl))))
    · skip
      refine XL_q (w_take rfl hc3) (qt_move rfl) rfl rfl ?_
      refine XL_q (w_take rfl hc3) (qt_lss rfl rfl) rfl rfl ?_
      refine XL_q rfl (qt_pickF rfl hc3 rfl) rfl rfl ?_
      exact hk _ (Cov.same (by rw [hc3]; rfl) (Cov.fresh rfl (Cov.fresh rfl (Cov.refl))))
  refine XL_q rfl (qt_move rfl) rfl rfl ?_
  refine XL_join 3 18 (.bool (((!x1) || (decide (p1 < 0))) || (decide (p1 > 31)))) ?_ (fun md hmd hk => ?_)
  rotate_left
  · obtain ⟨K, rfl⟩ := Md.quiet_of hmd
    rcases btf ((!x1) || (decide (p1 < 0))) with hc4 | hc4
    · skip
      refine XL_skip (w_skip rfl hc4) rfl rfl ?_
      refine XL_skip (w_skip rfl hc4) rfl rfl ?_
      refine XL_q rfl (qt_pickT rfl hc4 rfl) rfl rfl ?_
      exact hk _ (Cov.same (by rw [hc4]; rfl) (Cov.fresh rfl (Cov.fresh rfl (Cov.refl))))
    · skip
      refine XL_q (w_take rfl hc4) (qt_move rfl) rfl rfl ?_
      refine XL_q (w_take rfl hc4) (qt_gtr rfl rfl) rfl rfl ?_
      refine XL_q rfl (qt_pickF rfl hc4 rfl) rfl rfl ?_
      exact hk _ (Cov.same (by rw [hc4]; rfl) (Cov.fresh rfl (Cov.fresh rfl (Cov.refl))))
  refine QL_nil fun a ha w5 hb6 => ?_
  have H7 : Holds (([] : List Res).flatMap Res.own) w w5 [] G := H.grow hb6
  refine nrm_seq (WP.app ?_ ha)
  refine WP_cond rfl (fun hc8 => ?_) (fun hc8 => ?_)
  · have h := if_t hc8 h
    refine WP_seq ?_
    refine WP_region ?_
    refine XL_q rfl (qt_assign rfl) rfl rfl ?_
    refine WL_nil_seq ?_
    refine WP_ret fun a ha => ?_
    obtain rfl := Option.some.inj h
    have H9 : Holds (([] : List Res).flatMap Res.own) w w5 [.sl 3 (.int .i64) (.slice none 0 0) ([])] G := H7.nilSl
    exact ret_seq (ret1 rfl ha rfl ⟨(.slice none 0 0), rfl, H9⟩)
  · have h := if_f hc8 h
    refine WP_skip_seq ?_
    refine WP_seq ?_
    refine WP_region ?_
    refine XL_q rfl (qt_assign rfl) rfl rfl ?_
    refine WL_nil_seq ?_
    refine WP_seq ?_
    refine WP_seq ?_
    refine WP_region ?_
    refine XL_q rfl (qt_move rfl) rfl rfl ?_
    refine XL_lenH H7.ctx (t := (.pair (.int .i64) (.pair (.slice (.pair (.int .i64) (.int .i64))) (.int .i64)))) (hp0) u29 rfl rfl rfl ?_
    refine XL_q rfl (qt_move rfl) rfl rfl ?_
    refine WL_nil_seq ?_
    refine WP_block ?_
    have H12 : Holds (([] : List Res).flatMap Res.own) w w5 [.sl 3 (.int .i64) (.slice none 0 0) ([])] G := H7.nilSl
    obtain ⟨o13, ho14, h⟩ := bind_some h
    refine fun a15 ha16 => wp_loop_fix (I := fun s a w2 => match s with | (s10, s11) => ∃ vs10, Fr a 43 [(0, vp0), (1, .int .i64 p1), (5, vs10), (19, vp0), (20, .int .i64 (List.length p0 : Int)), (21, .int .i64 s11)] ∧ Holds (([] : List Res).flatMap Res.own) w w2 [.sl 3 (.int .i64) vs10 s10] G) (O := fun o e a w2 => match o with | q0 => e = .exit 0 ∧ ∃ vq0, Fr a 43 [(5, vq0)] ∧ Holds (([] : List Res).flatMap Res.own) w w2 [.sl 3 (.int .i64) vq0 q0] G) ho14 ?_ ?_ ?_
    · exact ⟨(.slice none 0 0), ha16.sub ⟨rfl, rfl, rfl, rfl, rfl, rfl, trivial⟩, H12⟩
    · clear ha16
      intro s o19 a w17 hs18 hI20
      obtain ⟨s10, s11⟩ := s
      obtain ⟨vs10, ha, H21⟩ := hI20
      refine WP.app ?_ ha
      clear ha
      refine WP_seq ?_
      refine WP_region ?_
      refine XL_q rfl (qt_lss rfl rfl) rfl rfl ?_
      refine WL_nil_seq ?_
      refine WP_seq ?_
      refine WP_cond rfl (fun hc22 => ?_) (fun hc22 => ?_)
      · have hs18 := if_t hc22 hs18
        refine WP_skip_seq ?_
        refine WP_seq ?_
        refine WP_block ?_
        refine WP_seq ?_
        refine WP_region ?_
        refine XL_q rfl (qt_move rfl) rfl rfl ?_
        obtain ⟨x23, hx24, hs18⟩ := bind_some hs18
        refine XL_indexH H21.ctx (hp0.c) hx24 u29 i84 rfl rfl rfl rfl (fun b25 off26 cap27 hv28 => ?_)
        obtain ⟨F29, hat30, hdup31⟩ := H21.atN (hp0.c) hx24 hv28
        refine XL_load_agg (t := (.pair (.int .i64) (.pair (.slice (.pair (.int .i64) (.int .i64))) (.int .i64)))) us84 uo84 i84 hat30 rfl rfl rfl (fun cs32 hr33 => ?_)
        obtain ⟨c34, c35, F36, F37, rfl, eF40, hr38, hr39⟩ := hr33
        obtain ⟨rfl, _⟩ := hr38
        obtain ⟨c41, c42, F43, F44, rfl, eF47, hr45, hr46⟩ := hr39
        obtain ⟨v48, rfl, hr49⟩ := Rep.sl_inv hr45
        obtain ⟨rfl, _⟩ := hr46
        have H50 : Holds (([] : List Res).flatMap Res.own) w w17 [.ro (.pair (.int .i64) (.int .i64)) v48 x23.2.1, .sl 3 (.int .i64) vs10 s10] G := hdup31 [.ro (.pair (.int .i64) (.int .i64)) v48 x23.2.1] ⟨⟨_, _, _, _, rfl, hr49, (fun k h => (fun k h => (fun _ h => h) k (by rw [eF40]; exact List.mem_append_right _ h)) k (by rw [eF47]; exact List.mem_append_left _ h))⟩, trivial⟩
        change XL _ _ _ _ _ ((25, .agg #[.int .i64 x23.1, v48, .int .i64 x23.2.2]) :: _) _
        refine WL_alloc (cs := [.int .i64 0, .slice none 0 0, .int .i64 0]) H50 z84 rfl rfl rfl (fun b51 w52 H53 => ?_)
        have H54 : Holds (([] : List Res).flatMap Res.own) w w52 [.bx b51 84 [.int .i64 0, .slice none 0 0, .int .i64 0], .ro (.pair (.int .i64) (.int .i64)) v48 x23.2.1, .sl 3 (.int .i64) vs10 s10] G := H53
        refine XL_q rfl (qt_assign rfl) rfl rfl ?_
        refine WL_store_bxA (cs' := [.int .i64 x23.1, v48, .int .i64 x23.2.2]) H54 rfl il84 rfl (allOne rfl (allOne (H54.ctx.sliceOne (HasRo.has (HasRo.c (HasRo.hd)))) (allOne rfl rfl))) rfl rfl rfl (fun w55 H56 => ?_)
        have H57 : Holds (([] : List Res).flatMap Res.own) w w55 [.bx b51 84 [.int .i64 x23.1, v48, .int .i64 x23.2.2], .ro (.pair (.int .i64) (.int .i64)) v48 x23.2.1, .sl 3 (.int .i64) vs10 s10] G := H56
        refine WL_nil_seq ?_
        refine WP_seq ?_
        refine WP_still ?_
        refine XL_q rfl (qt_fieldAddr uf84 fi84_0 nz3 rfl) rfl rfl ?_
        have hB58 : Bx w55 b51 84 [.int .i64 x23.1, v48, .int .i64 x23.2.2] := Holds.bx (H57.pull 0)
        refine XL_load_bx u3 rfl hB58 rfl rfl rfl rfl ?_
        refine XL_q rfl (qt_gtr rfl rfl) rfl rfl ?_
        refine XL_q rfl (qt_move rfl) rfl rfl ?_
        obtain ⟨b59, hg60, hs18⟩ := bind_some hs18
        refine XL_join 7 36 (.bool b59) ?_ (fun md hmd hk => ?_)
        rotate_left
        · obtain ⟨K, rfl⟩ := Md.quiet_of hmd
          rcases btf (decide (x23.1 > 0)) with hc61 | hc61
          · skip
            have hg60 := if_t hc61 hg60
            refine XL_q (w_take rfl hc61) (qt_move rfl) rfl rfl ?_
            refine XL_q (w_take rfl hc61) (qt_move rfl) rfl rfl ?_
            obtain ⟨x62, hx63, hg60⟩ := bind_some hg60
            refine QL_call (w_take rfl hc61) rfl c77 (fun w' hb => (w_impl_MarksOf w' ([.bx b51 84 [.int .i64 x23.1, v48, .int .i64 x23.2.2], .ro (.pair (.int .i64) (.int .i64)) v48 x23.2.1, .sl 3 (.int .i64) vs10 s10] ++ G) vp0 p0 (hp0.c.c.c) s11 x62 hx63 (H57.grow hb).ctx).mono fun e w'' hK => ⟨hK.1, hK.2.bel⟩) (by rfl) ?_
            refine XL_q (w_take rfl hc61) (qt_move rfl) rfl rfl ?_
            refine XL_q (w_take rfl hc61) (qt_and rfl rfl) rfl rfl ?_
            refine XL_q (w_take rfl hc61) (qt_eql rfl rfl) rfl rfl ?_
            refine XL_q rfl (qt_pickT rfl hc61 rfl) rfl rfl ?_
            exact hk _ (Cov.same (vb hg60) (Cov.fresh rfl (Cov.fresh rfl (Cov.fresh rfl (Cov.fresh rfl (Cov.fresh rfl (Cov.fresh rfl (Cov.refl))))))))
          · skip
            refine XL_skip (w_skip rfl hc61) rfl rfl ?_
            refine XL_skip (w_skip rfl hc61) rfl rfl ?_
            refine XL_skip (w_skip rfl hc61) rfl rfl ?_
            refine XL_skip (w_skip rfl hc61) rfl rfl ?_
            refine XL_skip (w_skip rfl hc61) rfl rfl ?_
            refine XL_skip (w_skip rfl hc61) rfl rfl ?_
            refine XL_q rfl (qt_pickF rfl hc61 rfl) rfl rfl ?_
            exact hk _ (Cov.same (vb (if_f hc61 hg60)) (Cov.fresh rfl (Cov.fresh rfl (Cov.fresh rfl (Cov.fresh rfl (Cov.fresh rfl (Cov.fresh rfl (Cov.refl))))))))
        refine QL_nil fun a ha w64 hb65 => ?_
        have H66 : Holds (([] : List Res).flatMap Res.own) w w64 [.bx b51 84 [.int .i64 x23.1, v48, .int .i64 x23.2.2], .ro (.pair (.int .i64) (.int .i64)) v48 x23.2.1, .sl 3 (.int .i64) vs10 s10] G := H57.grow hb65
        refine nrm_seq (WP.app ?_ ha)
        refine WP_cond rfl (fun hc67 => ?_) (fun hc67 => ?_)
        · have hs18 := if_t hc67 hs18
          refine WP_region ?_
          refine XL_q rfl (qt_move rfl) rfl rfl ?_
          refine XL_q rfl (qt_move rfl) rfl rfl ?_
          refine WL_buildH (t := (.int .i64)) (args := [.tmp 38]) (xs := ([s11] : List Int)) H66 (BltL.cons (Blt.int) rfl (BltL.nil)) u23 j3 rfl rfl rfl rfl rfl rfl (fun v68 w69 H70 => ?_)
          have H71 : Holds (([] : List Res).flatMap Res.own) w w69 [.sl 3 (.int .i64) v68 ([s11]), .bx b51 84 [.int .i64 x23.1, v48, .int .i64 x23.2.2], .ro (.pair (.int .i64) (.int .i64)) v48 x23.2.1, .sl 3 (.int .i64) vs10 s10] G := H70
          have H72 : Holds (([] : List Res).flatMap Res.own) w w69 [.sl 3 (.int .i64) vs10 s10, .sl 3 (.int .i64) v68 ([s11]), .bx b51 84 [.int .i64 x23.1, v48, .int .i64 x23.2.2], .ro (.pair (.int .i64) (.int .i64)) v48 x23.2.1] G := H71.pull 3
          obtain ⟨x73, hx74, hs18⟩ := bind_some hs18
          refine WL_appendH H72 (Has.c (Has.hd)) hx74 u23 j3 rfl rfl rfl rfl rfl rfl (fun v75 w76 H77 => ?_)
          have H78 : Holds (([] : List Res).flatMap Res.own) w w76 [.sl 3 (.int .i64) v75 x73, .sl 3 (.int .i64) v68 ([s11]), .bx b51 84 [.int .i64 x23.1, v48, .int .i64 x23.2.2], .ro (.pair (.int .i64) (.int .i64)) v48 x23.2.1] G := H77
          refine XL_q rfl (qt_assign rfl) rfl rfl ?_
          refine WL_nil fun a ha => ?_
          refine nrm_block (nrm_seq (WP.app ?_ ha))
          refine WP_region ?_
          refine XL_q rfl (qt_add rfl rfl) rfl rfl ?_
          refine XL_q rfl (qt_move rfl) rfl rfl ?_
          refine WL_nil fun a ha => ?_
          obtain rfl := Option.some.inj hs18
          have H79 : Holds (([] : List Res).flatMap Res.own) w w76 [.sl 3 (.int .i64) v75 x73] G := (((H78.cut 1).cut 1).cut 1)
          exact ⟨rfl, v75, ha.sub ⟨rfl, rfl, rfl, rfl, rfl, rfl, trivial⟩, H79⟩
        · have hs18 := if_f hc67 hs18
          refine WP_skip fun a ha => ?_
          refine nrm_block (nrm_seq (WP.app ?_ ha))
          refine WP_region ?_
          refine XL_q rfl (qt_add rfl rfl) rfl rfl ?_
          refine XL_q rfl (qt_move rfl) rfl rfl ?_
          refine WL_nil fun a ha => ?_
          obtain rfl := Option.some.inj hs18
          have H80 : Holds (([] : List Res).flatMap Res.own) w w64 [.sl 3 (.int .i64) vs10 s10] G := ((H66.cut 0).cut 0)
          exact ⟨rfl, vs10, ha.sub ⟨rfl, rfl, rfl, rfl, rfl, rfl, trivial⟩, H80⟩
      · have hs18 := if_f hc22 hs18
        refine WP_exit fun a ha => ?_
        obtain rfl := Option.some.inj hs18
        exact exit_seq (⟨exit_ne, rfl, vs10, ha.sub ⟨rfl, trivial⟩, H21⟩)
    · intro e a15 w81 hO82
      obtain ⟨p83, rfl⟩ : ∃ z, z = o13 := ⟨o13, rfl⟩
      obtain ⟨rfl, hO85⟩ := hO82
      obtain ⟨vp83, ha, H84⟩ := hO85
      refine exit_block_eq (nrm_seq (WP.app ?_ ha))
      refine WP_seq ?_
      refine WP_region ?_
      refine XL_q rfl (qt_move rfl) rfl rfl ?_
      refine XL_q rfl (qt_assign rfl) rfl rfl ?_
      refine WL_nil_seq ?_
      refine WP_ret fun a ha => ?_
      obtain rfl := Option.some.inj h
      exact ret1 rfl ha rfl ⟨vp83, rfl, H84⟩
theorem w_slices_Index___int_int (w : World) (G : List Res) (vp0 : Value) (p0 : List Int) (hp0 : Has G (.int .i64) vp0 p0) (p1 : Int) (r : Int) (h : slices_Index___int_intS p0 p1 = some r) (H : Ctx w G) : Calls Try.prog 78 #[vp0, .int .i64 p1] w fun e w' => e = .returned (.int .i64 r) ∧ Holds (([] : List Res).flatMap Res.own) w w' [] G := by
  have H : Holds (([] : List Res).flatMap Res.own) w w [] G := Holds.startN H
  refine calls_enter (args := [vp0, .int .i64 p1]) (n := 19) Try.func78 rfl rfl rfl ?_
  unfold slices_Index___int_intS at h
  refine WP_seq ?_
  refine WP_region ?_
  refine XL_q rfl (qt_assign rfl) rfl rfl ?_
  refine WL_nil_seq ?_
  refine WP_seq ?_
  refine WP_seq ?_
  refine WP_region ?_
  refine XL_q rfl (qt_move rfl) rfl rfl ?_
  refine XL_lenH H.ctx (t := (.int .i64)) (hp0) u23 rfl rfl rfl ?_
  refine XL_q rfl (qt_move rfl) rfl rfl ?_
  refine WL_nil_seq ?_
  refine WP_block ?_
  obtain ⟨o2, ho3, h⟩ := bind_some h
  refine fun a4 ha5 => wp_loop_fix (I := fun s a w2 => match s with | s1 => (Fr a 19 [(0, vp0), (1, .int .i64 p1), (7, .int .i64 (List.length p0 : Int)), (8, .int .i64 s1)] ∧ Holds (([] : List Res).flatMap Res.own) w w2 [] G)) (O := fun o e a w2 => match o with | .inl _ => e = .exit 0 ∧ (Fr a 19 [] ∧ Holds (([] : List Res).flatMap Res.own) w w2 [] G) | .inr q0 => e = .ret ∧ (Fr a 19 [(4, .int .i64 q0)] ∧ Holds (([] : List Res).flatMap Res.own) w w2 [] G)) ho3 ?_ ?_ ?_
  · exact ⟨ha5.sub ⟨rfl, rfl, rfl, rfl, trivial⟩, H⟩
  · clear ha5
    intro s o8 a w6 hs7 hI9
    obtain ⟨s1, rfl⟩ : ∃ z, z = s := ⟨s, rfl⟩
    obtain ⟨ha, H10⟩ := hI9
    refine WP.app ?_ ha
    clear ha
    refine WP_seq ?_
    refine WP_region ?_
    refine XL_q rfl (qt_lss rfl rfl) rfl rfl ?_
    refine WL_nil_seq ?_
    refine WP_seq ?_
    refine WP_cond rfl (fun hc11 => ?_) (fun hc11 => ?_)
    · have hs7 := if_t hc11 hs7
      refine WP_skip_seq ?_
      refine WP_seq ?_
      refine WP_block ?_
      refine WP_seq ?_
      refine WP_region ?_
      refine XL_q rfl (qt_move rfl) rfl rfl ?_
      refine XL_q rfl (qt_assign rfl) rfl rfl ?_
      refine WL_nil_seq ?_
      refine WP_seq ?_
      refine WP_region ?_
      refine XL_q rfl (qt_move rfl) rfl rfl ?_
      refine XL_q rfl (qt_move rfl) rfl rfl ?_
      refine XL_q rfl (qt_move rfl) rfl rfl ?_
      obtain ⟨x12, hx13, hs7⟩ := bind_some hs7
      refine XL_indexH H10.ctx (hp0) hx13 u23 i3 rfl rfl rfl rfl (fun b14 off15 cap16 hv17 => ?_)
      obtain ⟨F18, hat19, hdup20⟩ := H10.at (hp0) hx13 hv17
      refine XL_load_int (k := .i64) u3 rfl hat19 rfl rfl rfl ?_
      refine XL_q rfl (qt_eql rfl rfl) rfl rfl ?_
      refine WL_nil_seq ?_
      refine WP_cond rfl (fun hc21 => ?_) (fun hc21 => ?_)
      · have hs7 := if_t hc21 hs7
        refine WP_seq ?_
        refine WP_region ?_
        refine XL_q rfl (qt_move rfl) rfl rfl ?_
        refine XL_q rfl (qt_assign rfl) rfl rfl ?_
        refine WL_nil_seq ?_
        refine WP_ret fun a ha => ?_
        obtain rfl := Option.some.inj hs7
        exact ret_block (ret_seq (⟨ret_ne, rfl, ha.sub ⟨rfl, trivial⟩, H10⟩))
      · have hs7 := if_f hc21 hs7
        refine WP_skip fun a ha => ?_
        refine nrm_block (nrm_seq (WP.app ?_ ha))
        refine WP_region ?_
        refine XL_q rfl (qt_add rfl rfl) rfl rfl ?_
        refine XL_q rfl (qt_move rfl) rfl rfl ?_
        refine WL_nil fun a ha => ?_
        obtain rfl := Option.some.inj hs7
        exact ⟨rfl, ha.sub ⟨rfl, rfl, rfl, rfl, trivial⟩, H10⟩
    · have hs7 := if_f hc11 hs7
      refine WP_exit fun a ha => ?_
      obtain rfl := Option.some.inj hs7
      exact exit_seq (⟨exit_ne, rfl, ha.sub trivial, H10⟩)
  · intro e a4 w22 hO23
    rcases o2 with o2 | o2
    · skip
      obtain ⟨rfl, hO25⟩ := hO23
      obtain ⟨ha, H24⟩ := hO25
      refine exit_block_eq (nrm_seq (WP.app ?_ ha))
      refine WP_seq ?_
      refine WP_region ?_
      refine XL_q rfl (qt_assign rfl) rfl rfl ?_
      refine WL_nil_seq ?_
      refine WP_ret fun a ha => ?_
      obtain rfl := Option.some.inj h
      exact ret1 rfl ha rfl ⟨rfl, H24⟩
    · skip
      obtain ⟨p26, rfl⟩ : ∃ z, z = o2 := ⟨o2, rfl⟩
      obtain ⟨rfl, hO28⟩ := hO23
      obtain ⟨ha, H27⟩ := hO28
      obtain rfl := Option.some.inj h
      exact ret_block (ret_seq (ret1 rfl ha rfl ⟨rfl, H27⟩))
theorem w_slices_Contains___int_int (w : World) (G : List Res) (vp0 : Value) (p0 : List Int) (hp0 : Has G (.int .i64) vp0 p0) (p1 : Int) (r : Bool) (h : slices_Contains___int_intS p0 p1 = some r) (H : Ctx w G) : Calls Try.prog 59 #[vp0, .int .i64 p1] w fun e w' => e = .returned (.bool r) ∧ Holds (([] : List Res).flatMap Res.own) w w' [] G := by
  have H : Holds (([] : List Res).flatMap Res.own) w w [] G := Holds.startN H
  refine calls_enter (args := [vp0, .int .i64 p1]) (n := 9) Try.func59 rfl rfl rfl ?_
  unfold slices_Contains___int_intS at h
  refine WP_seq ?_
  refine WP_region ?_
  refine XL_q rfl (qt_assign rfl) rfl rfl ?_
  refine WL_nil_seq ?_
  refine WP_seq ?_
  refine WP_still ?_
  refine XL_q rfl (qt_move rfl) rfl rfl ?_
  refine XL_q rfl (qt_move rfl) rfl rfl ?_
  obtain ⟨x1, hx2, h⟩ := bind_some h
  refine QL_call rfl rfl c78 (fun w' hb => (w_slices_Index___int_int w' G vp0 p0 (hp0) p1 x1 hx2 (H.grow hb).ctx).mono fun e w'' hK => ⟨hK.1, hK.2.bel⟩) (by rfl) ?_
  refine XL_q rfl (qt_geq rfl rfl) rfl rfl ?_
  refine XL_q rfl (qt_assign rfl) rfl rfl ?_
  refine QL_nil fun a ha w3 hb4 => ?_
  have H5 : Holds (([] : List Res).flatMap Res.own) w w3 [] G := H.grow hb4
  refine nrm_seq (WP.app ?_ ha)
  refine WP_ret fun a ha => ?_
  obtain rfl := Option.some.inj h
  exact ret1 rfl ha rfl ⟨rfl, H5⟩
theorem w_impl_tableValid (w : World) (G : List Res) (vp0 : Value) (p0 : List (Int × (List (Int × Int)) × Int)) (hp0 : Has G (.pair (.int .i64) (.pair (.slice (.pair (.int .i64) (.int .i64))) (.int .i64))) vp0 p0) (p1_0 : Int) (vp1_1 : Value) (p1_1 : List (Int × Int)) (hp1_1 : Has G (.pair (.int .i64) (.int .i64)) vp1_1 p1_1) (vp1_2 : Value) (p1_2 : List Int) (hp1_2 : Has G (.int .i64) vp1_2 p1_2) (r : Bool) (h : impl_tableValidS p0 p1_0 p1_1 p1_2 = some r) (H : Ctx w G) : Calls Try.prog 36 #[vp0, .agg #[.int .i64 p1_0, vp1_1, vp1_2]] w fun e w' => e = .returned (.bool r) ∧ Holds (([] : List Res).flatMap Res.own) w w' [] G := by
  have H : Holds (([] : List Res).flatMap Res.own) w w [] G := Holds.startN H
  refine calls_enter (args := [vp0, .agg #[.int .i64 p1_0, vp1_1, vp1_2]]) (n := 47) Try.func36 rfl rfl rfl ?_
  unfold impl_tableValidS at h
  refine WP_seq ?_
  refine WP_region ?_
  refine WL_box (cs := [.int .i64 p1_0, vp1_1, vp1_2]) H rfl rfl rfl rfl (fun b1 w2 H3 => ?_)
  have H4 : Holds (([] : List Res).flatMap Res.own) w w2 [.bx b1 50 [.int .i64 p1_0, vp1_1, vp1_2]] G := H3
  refine XL_q rfl (qt_assign rfl) rfl rfl ?_
  refine WL_nil_seq ?_
  refine WP_seq ?_
  refine WP_seq ?_
  refine WP_still ?_
  refine XL_q rfl (qt_fieldAddr uf50 fi50_0 nz3 rfl) rfl rfl ?_
  have hB5 : Bx w2 b1 50 [.int .i64 p1_0, vp1_1, vp1_2] := Holds.bx (H4.pull 0)
  refine XL_load_bx u3 rfl hB5 rfl rfl rfl rfl ?_
  refine XL_q rfl (qt_lss rfl rfl) rfl rfl ?_
  refine XL_q rfl (qt_move rfl) rfl rfl ?_
  refine XL_join 4 15 (.bool ((decide (p1_0 < 0)) || (decide (p1_0 > 31)))) ?_ (fun md hmd hk => ?_)
  rotate_left
  · obtain ⟨K, rfl⟩ := Md.quiet_of hmd
    rcases btf (decide (p1_0 < 0)) with hc6 | hc6
    · skip
      refine XL_skip (w_skip rfl hc6) rfl rfl ?_
      refine XL_skip (w_skip rfl hc6) rfl rfl ?_
      refine XL_skip (w_skip rfl hc6) rfl rfl ?_
      refine XL_q rfl (qt_pickT rfl hc6 rfl) rfl rfl ?_
      exact hk _ (Cov.same (by rw [hc6]; rfl) (Cov.fresh rfl (Cov.fresh rfl (Cov.fresh rfl (Cov.refl)))))
    · skip
      refine XL_q (w_take rfl hc6) (qt_fieldAddr uf50 fi50_0 nz3 rfl) rfl rfl ?_
      have hB7 : Bx w2 b1 50 [.int .i64 p1_0, vp1_1, vp1_2] := Holds.bx (H4.pull 0)
      refine XL_load_bx u3 rfl hB7 rfl (w_take rfl hc6) rfl rfl ?_
      refine XL_q (w_take rfl hc6) (qt_gtr rfl rfl) rfl rfl ?_
      refine XL_q rfl (qt_pickF rfl hc6 rfl) rfl rfl ?_
      exact hk _ (Cov.same (by rw [hc6]; rfl) (Cov.fresh rfl (Cov.fresh rfl (Cov.fresh rfl (Cov.refl)))))
  refine XL_q rfl (qt_move rfl) rfl rfl ?_
  obtain ⟨b8, hg9, h⟩ := bind_some h
  refine XL_join 5 21 (.bool b8) ?_ (fun md hmd hk => ?_)
  rotate_left
  · obtain ⟨K, rfl⟩ := Md.quiet_of hmd
    rcases btf ((decide (p1_0 < 0)) || (decide (p1_0 > 31))) with hc10 | hc10
    · skip
      refine XL_skip (w_skip rfl hc10) rfl rfl ?_
      refine XL_skip (w_skip rfl hc10) rfl rfl ?_
      refine XL_skip (w_skip rfl hc10) rfl rfl ?_
      refine XL_skip (w_skip rfl hc10) rfl rfl ?_
      refine XL_q rfl (qt_pickT rfl hc10 rfl) rfl rfl ?_
      exact hk _ (Cov.same (vb (if_t hc10 hg9)) (Cov.fresh rfl (Cov.fresh rfl (Cov.fresh rfl (Cov.fresh rfl (Cov.refl))))))
    · skip
      have hg9 := if_f hc10 hg9
      refine XL_q (w_take rfl hc10) (qt_fieldAddr uf50 fi50_1 nz48 rfl) rfl rfl ?_
      have hB11 : Bx w2 b1 50 [.int .i64 p1_0, vp1_1, vp1_2] := Holds.bx (H4.pull 0)
      refine XL_load_bx u48 rfl hB11 rfl (w_take rfl hc10) rfl rfl ?_
      obtain ⟨x12, hx13, hg9⟩ := bind_some hg9
      refine QL_call (w_take rfl hc10) rfl c57 (fun w' hb => (w_impl_TicketValid w' ([.bx b1 50 [.int .i64 p1_0, vp1_1, vp1_2]] ++ G) vp1_1 p1_1 (hp1_1.c) x12 hx13 (H4.grow hb).ctx).mono fun e w'' hK => ⟨hK.1, hK.2.bel⟩) (by rfl) ?_
      refine XL_q (w_take rfl hc10) (qt_not rfl) rfl rfl ?_
      refine XL_q rfl (qt_pickF rfl hc10 rfl) rfl rfl ?_
      exact hk _ (Cov.same (vb hg9) (Cov.fresh rfl (Cov.fresh rfl (Cov.fresh rfl (Cov.fresh rfl (Cov.refl))))))
  refine XL_q rfl (qt_move rfl) rfl rfl ?_
  refine XL_join 8 30 (.bool (b8 || ((List.length p1_2 : Int) != (List.length p1_1 : Int)))) ?_ (fun md hmd hk => ?_)
  rotate_left
  · obtain ⟨K, rfl⟩ := Md.quiet_of hmd
    rcases btf b8 with hc14 | hc14
    · skip
      refine XL_skip (w_skip rfl hc14) rfl rfl ?_
      refine XL_skip (w_skip rfl hc14) rfl rfl ?_
      refine XL_skip (w_skip rfl hc14) rfl rfl ?_
      refine XL_skip (w_skip rfl hc14) rfl rfl ?_
      refine XL_skip (w_skip rfl hc14) rfl rfl ?_
      refine XL_skip (w_skip rfl hc14) rfl rfl ?_
      refine XL_skip (w_skip rfl hc14) rfl rfl ?_
      refine XL_q rfl (qt_pickT rfl hc14 rfl) rfl rfl ?_
      exact hk _ (Cov.same (by rw [hc14]; rfl) (Cov.fresh rfl (Cov.fresh rfl (Cov.fresh rfl (Cov.fresh rfl (Cov.fresh rfl (Cov.fresh rfl (Cov.fresh rfl (Cov.refl)))))))))
    · skip
      refine XL_q (w_take rfl hc14) (qt_fieldAddr uf50 fi50_2 nz23 rfl) rfl rfl ?_
      have hB15 : Bx w2 b1 50 [.int .i64 p1_0, vp1_1, vp1_2] := Holds.bx (H4.pull 0)
      refine XL_load_bx u23 rfl hB15 rfl (w_take rfl hc14) rfl rfl ?_
      refine XL_lenH H4.ctx (t := (.int .i64)) (hp1_2.c) u23 (w_take rfl hc14) rfl rfl ?_
      refine XL_q (w_take rfl hc14) (qt_fieldAddr uf50 fi50_1 nz48 rfl) rfl rfl ?_
      have hB16 : Bx w2 b1 50 [.int .i64 p1_0, vp1_1, vp1_2] := Holds.bx (H4.pull 0)
      refine XL_load_bx u48 rfl hB16 rfl (w_take rfl hc14) rfl rfl ?_
      refine XL_lenH H4.ctx (t := (.pair (.int .i64) (.int .i64))) (hp1_1.c) u48 (w_take rfl hc14) rfl rfl ?_
      refine XL_q (w_take rfl hc14) (qt_neq rfl rfl) rfl rfl ?_
      refine XL_q rfl (qt_pickF rfl hc14 rfl) rfl rfl ?_
      exact hk _ (Cov.same (by rw [hc14]; rfl) (Cov.fresh rfl (Cov.fresh rfl (Cov.fresh rfl (Cov.fresh rfl (Cov.fresh rfl (Cov.fresh rfl (Cov.fresh rfl (Cov.refl)))))))))
  refine QL_nil fun a ha w17 hb18 => ?_
  have H19 : Holds (([] : List Res).flatMap Res.own) w w17 [.bx b1 50 [.int .i64 p1_0, vp1_1, vp1_2]] G := H4.grow hb18
  refine nrm_seq (WP.app ?_ ha)
  refine WP_cond rfl (fun hc20 => ?_) (fun hc20 => ?_)
  · have h := if_t hc20 h
    refine WP_seq ?_
    refine WP_region ?_
    refine XL_q rfl (qt_assign rfl) rfl rfl ?_
    refine WL_nil_seq ?_
    refine WP_ret fun a ha => ?_
    obtain rfl := Option.some.inj h
    have H21 : Holds (([] : List Res).flatMap Res.own) w w17 [] G := (H19.cut 0)
    exact ret_seq (ret1 rfl ha rfl ⟨rfl, H21⟩)
  · have h := if_f hc20 h
    refine WP_skip_seq ?_
    refine WP_seq ?_
    refine WP_region ?_
    refine XL_q rfl (qt_move rfl) rfl rfl ?_
    refine XL_q rfl (qt_fieldAddr uf50 fi50_0 nz3 rfl) rfl rfl ?_
    have hB22 : Bx w17 b1 50 [.int .i64 p1_0, vp1_1, vp1_2] := Holds.bx (H19.pull 0)
    refine XL_load_bx u3 rfl hB22 rfl rfl rfl rfl ?_
    obtain ⟨x23, hx24, h⟩ := bind_some h
    refine WL_call rfl rfl c58 (w_impl_FreeOf w17 ([.bx b1 50 [.int .i64 p1_0, vp1_1, vp1_2]] ++ G) vp0 p0 (hp0.c) p1_0 x23 hx24 H19.ctx) (by rfl) ?_
    rintro _ w25 ⟨v27, rfl, H26⟩; refine ⟨_, rfl, ?_⟩
    have H28 : Holds (([] : List Res).flatMap Res.own) w w25 [.sl 3 (.int .i64) v27 x23, .bx b1 50 [.int .i64 p1_0, vp1_1, vp1_2]] G := H19.calledN (Rs := []) H26
    refine XL_q rfl (qt_assign rfl) rfl rfl ?_
    refine WL_nil_seq ?_
    refine WP_seq ?_
    refine WP_seq ?_
    refine WP_region ?_
    refine XL_q rfl (qt_fieldAddr uf50 fi50_2 nz23 rfl) rfl rfl ?_
    have hB29 : Bx w25 b1 50 [.int .i64 p1_0, vp1_1, vp1_2] := Holds.bx (H28.pull 1)
    refine XL_load_bx u23 rfl hB29 rfl rfl rfl rfl ?_
    refine XL_lenH H28.ctx (t := (.int .i64)) (hp1_2.c.c) u23 rfl rfl rfl ?_
    refine XL_q rfl (qt_move rfl) rfl rfl ?_
    refine WL_nil_seq ?_
    refine WP_block ?_
    obtain ⟨o31, ho32, h⟩ := bind_some h
    have H35 : Holds (([] : List Res).flatMap Res.own) w w25 [.sl 3 (.int .i64) v27 x23] G := (H28.cut 1)
    refine fun a33 ha34 => wp_loop_fix (I := fun s a w2 => match s with | s30 => (Fr a 47 [(5, v27), (36, vp1_2), (37, .int .i64 (List.length p1_2 : Int)), (38, .int .i64 s30)] ∧ Holds (([] : List Res).flatMap Res.own) w w2 [.sl 3 (.int .i64) v27 x23] G)) (O := fun o e a w2 => match o with | .inl _ => e = .exit 0 ∧ (Fr a 47 [] ∧ Holds (([] : List Res).flatMap Res.own) w w2 [] G) | .inr q0 => e = .ret ∧ (Fr a 47 [(4, .bool q0)] ∧ Holds (([] : List Res).flatMap Res.own) w w2 [] G)) ho32 ?_ ?_ ?_
    · exact ⟨ha34.sub ⟨rfl, rfl, rfl, rfl, trivial⟩, H35⟩
    · clear ha34
      intro s o38 a w36 hs37 hI39
      obtain ⟨s30, rfl⟩ : ∃ z, z = s := ⟨s, rfl⟩
      obtain ⟨ha, H40⟩ := hI39
      refine WP.app ?_ ha
      clear ha
      refine WP_seq ?_
      refine WP_region ?_
      refine XL_q rfl (qt_lss rfl rfl) rfl rfl ?_
      refine WL_nil_seq ?_
      refine WP_seq ?_
      refine WP_cond rfl (fun hc41 => ?_) (fun hc41 => ?_)
      · have hs37 := if_t hc41 hs37
        refine WP_skip_seq ?_
        refine WP_seq ?_
        refine WP_block ?_
        refine WP_seq ?_
        refine WP_region ?_
        obtain ⟨x42, hx43, hs37⟩ := bind_some hs37
        refine XL_indexH H40.ctx (hp1_2.c) hx43 u23 i3 rfl rfl rfl rfl (fun b44 off45 cap46 hv47 => ?_)
        obtain ⟨F48, hat49, hdup50⟩ := H40.at (hp1_2.c) hx43 hv47
        refine XL_load_int (k := .i64) u3 rfl hat49 rfl rfl rfl ?_
        refine XL_q rfl (qt_assign rfl) rfl rfl ?_
        refine WL_nil_seq ?_
        refine WP_seq ?_
        refine WP_still ?_
        refine XL_q rfl (qt_move rfl) rfl rfl ?_
        refine XL_q rfl (qt_move rfl) rfl rfl ?_
        obtain ⟨x51, hx52, hs37⟩ := bind_some hs37
        refine QL_call rfl rfl c59 (fun w' hb => (w_slices_Contains___int_int w' ([.sl 3 (.int .i64) v27 x23] ++ G) v27 x23 (Has.hd) x42 x51 hx52 (H40.grow hb).ctx).mono fun e w'' hK => ⟨hK.1, hK.2.bel⟩) (by rfl) ?_
        refine XL_q rfl (qt_not rfl) rfl rfl ?_
        refine QL_nil fun a ha w53 hb54 => ?_
        have H55 : Holds (([] : List Res).flatMap Res.own) w w53 [.sl 3 (.int .i64) v27 x23] G := H40.grow hb54
        refine nrm_seq (WP.app ?_ ha)
        refine WP_cond rfl (fun hc56 => ?_) (fun hc56 => ?_)
        · have hs37 := if_t hc56 hs37
          refine WP_seq ?_
          refine WP_region ?_
          refine XL_q rfl (qt_assign rfl) rfl rfl ?_
          refine WL_nil_seq ?_
          refine WP_ret fun a ha => ?_
          obtain rfl := Option.some.inj hs37
          have H57 : Holds (([] : List Res).flatMap Res.own) w w53 [] G := (H55.cut 0)
          exact ret_block (ret_seq (⟨ret_ne, rfl, ha.sub ⟨rfl, trivial⟩, H57⟩))
        · have hs37 := if_f hc56 hs37
          refine WP_skip fun a ha => ?_
          refine nrm_block (nrm_seq (WP.app ?_ ha))
          refine WP_region ?_
          refine XL_q rfl (qt_add rfl rfl) rfl rfl ?_
          refine XL_q rfl (qt_move rfl) rfl rfl ?_
          refine WL_nil fun a ha => ?_
          obtain rfl := Option.some.inj hs37
          exact ⟨rfl, ha.sub ⟨rfl, rfl, rfl, rfl, trivial⟩, H55⟩
      · have hs37 := if_f hc41 hs37
        refine WP_exit fun a ha => ?_
        obtain rfl := Option.some.inj hs37
        have H58 : Holds (([] : List Res).flatMap Res.own) w w36 [] G := (H40.cut 0)
        exact exit_seq (⟨exit_ne, rfl, ha.sub trivial, H58⟩)
    · intro e a33 w59 hO60
      rcases o31 with o31 | o31
      · skip
        obtain ⟨rfl, hO62⟩ := hO60
        obtain ⟨ha, H61⟩ := hO62
        refine exit_block_eq (nrm_seq (WP.app ?_ ha))
        refine WP_seq ?_
        refine WP_region ?_
        refine XL_q rfl (qt_assign rfl) rfl rfl ?_
        refine WL_nil_seq ?_
        refine WP_ret fun a ha => ?_
        obtain rfl := Option.some.inj h
        exact ret1 rfl ha rfl ⟨rfl, H61⟩
      · skip
        obtain ⟨p63, rfl⟩ : ∃ z, z = o31 := ⟨o31, rfl⟩
        obtain ⟨rfl, hO65⟩ := hO60
        obtain ⟨ha, H64⟩ := hO65
        obtain rfl := Option.some.inj h
        exact ret_block (ret_seq (ret1 rfl ha rfl ⟨rfl, H64⟩))
theorem w_impl_HouseValid (w : World) (G : List Res) (vp0_0 : Value) (p0_0 : List (Int × (List (Int × Int)) × Int)) (hp0_0 : Has G (.pair (.int .i64) (.pair (.slice (.pair (.int .i64) (.int .i64))) (.int .i64))) vp0_0 p0_0) (vp0_1 : Value) (p0_1 : List Int) (hp0_1 : Has G (.int .i64) vp0_1 p0_1) (vp0_2 : Value) (p0_2 : List Int) (hp0_2 : Has G (.int .i64) vp0_2 p0_2) (p0_3 : Int) (vp0_4 : Value) (p0_4 : List (Int × (List (Int × Int)) × (List Int))) (hp0_4 : Has G (.pair (.int .i64) (.pair (.slice (.pair (.int .i64) (.int .i64))) (.slice (.int .i64)))) vp0_4 p0_4) (r : Bool) (h : impl_HouseValidS p0_0 p0_1 p0_2 p0_3 p0_4 = some r) (H : Ctx w G) : Calls Try.prog 10 #[.agg #[vp0_0, vp0_1, vp0_2, .int .i64 p0_3, vp0_4]] w fun e w' => e = .returned (.bool r) ∧ Holds (([] : List Res).flatMap Res.own) w w' [] G := by
  have H : Holds (([] : List Res).flatMap Res.own) w w [] G := Holds.startN H
  refine calls_enter (args := [.agg #[vp0_0, vp0_1, vp0_2, .int .i64 p0_3, vp0_4]]) (n := 47) Try.func10 rfl rfl rfl ?_
  unfold impl_HouseValidS at h
  refine WP_seq ?_
  refine WP_region ?_
  refine WL_box (cs := [vp0_0, vp0_1, vp0_2, .int .i64 p0_3, vp0_4]) H rfl rfl rfl rfl (fun b1 w2 H3 => ?_)
  have H4 : Holds (([] : List Res).flatMap Res.own) w w2 [.bx b1 32 [vp0_0, vp0_1, vp0_2, .int .i64 p0_3, vp0_4]] G := H3
  refine XL_q rfl (qt_assign rfl) rfl rfl ?_
  refine WL_nil_seq ?_
  refine WP_seq ?_
  refine WP_seq ?_
  refine WP_still ?_
  refine XL_q rfl (qt_fieldAddr uf32 fi32_0 nz29 rfl) rfl rfl ?_
  have hB5 : Bx w2 b1 32 [vp0_0, vp0_1, vp0_2, .int .i64 p0_3, vp0_4] := Holds.bx (H4.pull 0)
  refine XL_load_bx u29 rfl hB5 rfl rfl rfl rfl ?_
  refine XL_q rfl (qt_fieldAddr uf32 fi32_1 nz23 rfl) rfl rfl ?_
  have hB6 : Bx w2 b1 32 [vp0_0, vp0_1, vp0_2, .int .i64 p0_3, vp0_4] := Holds.bx (H4.pull 0)
  refine XL_load_bx u23 rfl hB6 rfl rfl rfl rfl ?_
  obtain ⟨x7, hx8, h⟩ := bind_some h
  refine QL_call rfl rfl c34 (fun w' hb => (w_impl_PricesValid w' ([.bx b1 32 [vp0_0, vp0_1, vp0_2, .int .i64 p0_3, vp0_4]] ++ G) vp0_0 p0_0 (hp0_0.c) vp0_1 p0_1 (hp0_1.c) x7 hx8 (H4.grow hb).ctx).mono fun e w'' hK => ⟨hK.1, hK.2.bel⟩) (by rfl) ?_
  refine XL_q rfl (qt_not rfl) rfl rfl ?_
  refine XL_q rfl (qt_move rfl) rfl rfl ?_
  obtain ⟨b9, hg10, h⟩ := bind_some h
  refine XL_join 8 19 (.bool b9) ?_ (fun md hmd hk => ?_)
  rotate_left
  · obtain ⟨K, rfl⟩ := Md.quiet_of hmd
    rcases btf (!x7) with hc11 | hc11
    · skip
      refine XL_skip (w_skip rfl hc11) rfl rfl ?_
      refine XL_skip (w_skip rfl hc11) rfl rfl ?_
      refine XL_skip (w_skip rfl hc11) rfl rfl ?_
      refine XL_skip (w_skip rfl hc11) rfl rfl ?_
      refine XL_skip (w_skip rfl hc11) rfl rfl ?_
      refine XL_skip (w_skip rfl hc11) rfl rfl ?_
      refine XL_skip (w_skip rfl hc11) rfl rfl ?_
      refine XL_q rfl (qt_pickT rfl hc11 rfl) rfl rfl ?_
      exact hk _ (Cov.same (vb (if_t hc11 hg10)) (Cov.fresh rfl (Cov.fresh rfl (Cov.fresh rfl (Cov.fresh rfl (Cov.fresh rfl (Cov.fresh rfl (Cov.fresh rfl (Cov.refl)))))))))
    · skip
      have hg10 := if_f hc11 hg10
      refine XL_q (w_take rfl hc11) (qt_fieldAddr uf32 fi32_2 nz23 rfl) rfl rfl ?_
      have hB12 : Bx w2 b1 32 [vp0_0, vp0_1, vp0_2, .int .i64 p0_3, vp0_4] := Holds.bx (H4.pull 0)
      refine XL_load_bx u23 rfl hB12 rfl (w_take rfl hc11) rfl rfl ?_
      refine XL_q (w_take rfl hc11) (qt_fieldAddr uf32 fi32_0 nz29 rfl) rfl rfl ?_
      have hB13 : Bx w2 b1 32 [vp0_0, vp0_1, vp0_2, .int .i64 p0_3, vp0_4] := Holds.bx (H4.pull 0)
      refine XL_load_bx u29 rfl hB13 rfl (w_take rfl hc11) rfl rfl ?_
      refine XL_lenH H4.ctx (t := (.pair (.int .i64) (.pair (.slice (.pair (.int .i64) (.int .i64))) (.int .i64)))) (hp0_0.c) u29 (w_take rfl hc11) rfl rfl ?_
      obtain ⟨x14, hx15, hg10⟩ := bind_some hg10
      refine QL_call (w_take rfl hc11) rfl c35 (fun w' hb => (w_impl_amountsOk w' ([.bx b1 32 [vp0_0, vp0_1, vp0_2, .int .i64 p0_3, vp0_4]] ++ G) vp0_2 p0_2 (hp0_2.c) (List.length p0_0 : Int) 50 x14 hx15 (H4.grow hb).ctx).mono fun e w'' hK => ⟨hK.1, hK.2.bel⟩) (by rfl) ?_
      refine XL_q (w_take rfl hc11) (qt_not rfl) rfl rfl ?_
      refine XL_q rfl (qt_pickF rfl hc11 rfl) rfl rfl ?_
      exact hk _ (Cov.same (vb hg10) (Cov.fresh rfl (Cov.fresh rfl (Cov.fresh rfl (Cov.fresh rfl (Cov.fresh rfl (Cov.fresh rfl (Cov.fresh rfl (Cov.refl)))))))))
  refine QL_nil fun a ha w16 hb17 => ?_
  have H18 : Holds (([] : List Res).flatMap Res.own) w w16 [.bx b1 32 [vp0_0, vp0_1, vp0_2, .int .i64 p0_3, vp0_4]] G := H4.grow hb17
  refine nrm_seq (WP.app ?_ ha)
  refine WP_cond rfl (fun hc19 => ?_) (fun hc19 => ?_)
  · have h := if_t hc19 h
    refine WP_seq ?_
    refine WP_region ?_
    refine XL_q rfl (qt_assign rfl) rfl rfl ?_
    refine WL_nil_seq ?_
    refine WP_ret fun a ha => ?_
    obtain rfl := Option.some.inj h
    have H20 : Holds (([] : List Res).flatMap Res.own) w w16 [] G := (H18.cut 0)
    exact ret_seq (ret1 rfl ha rfl ⟨rfl, H20⟩)
  · have h := if_f hc19 h
    refine WP_skip_seq ?_
    refine WP_seq ?_
    refine WP_seq ?_
    refine WP_region ?_
    refine XL_q rfl (qt_fieldAddr uf32 fi32_3 nz3 rfl) rfl rfl ?_
    have hB21 : Bx w16 b1 32 [vp0_0, vp0_1, vp0_2, .int .i64 p0_3, vp0_4] := Holds.bx (H18.pull 0)
    refine XL_load_bx u3 rfl hB21 rfl rfl rfl rfl ?_
    refine XL_q rfl (qt_lss rfl rfl) rfl rfl ?_
    refine XL_q rfl (qt_move rfl) rfl rfl ?_
    refine XL_join 4 27 (.bool ((decide (p0_3 < 0)) || (decide (p0_3 > 99999)))) ?_ (fun md hmd hk => ?_)
    rotate_left
    · obtain ⟨Q, rfl⟩ := Md.seq_of hmd
      rcases btf (decide (p0_3 < 0)) with hc22 | hc22
      · skip
        refine XL_skip (w_skip rfl hc22) rfl rfl ?_
        refine XL_skip (w_skip rfl hc22) rfl rfl ?_
        refine XL_skip (w_skip rfl hc22) rfl rfl ?_
        refine XL_q rfl (qt_pickT rfl hc22 rfl) rfl rfl ?_
        exact hk _ (Cov.same (by rw [hc22]; rfl) (Cov.fresh rfl (Cov.fresh rfl (Cov.fresh rfl (Cov.refl)))))
      · skip
        refine XL_q (w_take rfl hc22) (qt_fieldAddr uf32 fi32_3 nz3 rfl) rfl rfl ?_
        have hB23 : Bx w16 b1 32 [vp0_0, vp0_1, vp0_2, .int .i64 p0_3, vp0_4] := Holds.bx (H18.pull 0)
        refine XL_load_bx u3 rfl hB23 rfl (w_take rfl hc22) rfl rfl ?_
        refine XL_q (w_take rfl hc22) (qt_gtr rfl rfl) rfl rfl ?_
        refine XL_q rfl (qt_pickF rfl hc22 rfl) rfl rfl ?_
        exact hk _ (Cov.same (by rw [hc22]; rfl) (Cov.fresh rfl (Cov.fresh rfl (Cov.fresh rfl (Cov.refl)))))
    refine XL_q rfl (qt_move rfl) rfl rfl ?_
    refine XL_join 5 33 (.bool (((decide (p0_3 < 0)) || (decide (p0_3 > 99999))) || (decide ((List.length p0_4 : Int) > 4)))) ?_ (fun md hmd hk => ?_)
    rotate_left
    · obtain ⟨Q, rfl⟩ := Md.seq_of hmd
      rcases btf ((decide (p0_3 < 0)) || (decide (p0_3 > 99999))) with hc24 | hc24
      · skip
        refine XL_skip (w_skip rfl hc24) rfl rfl ?_
        refine XL_skip (w_skip rfl hc24) rfl rfl ?_
        refine XL_skip (w_skip rfl hc24) rfl rfl ?_
        refine XL_skip (w_skip rfl hc24) rfl rfl ?_
        refine XL_q rfl (qt_pickT rfl hc24 rfl) rfl rfl ?_
        exact hk _ (Cov.same (by rw [hc24]; rfl) (Cov.fresh rfl (Cov.fresh rfl (Cov.fresh rfl (Cov.fresh rfl (Cov.refl))))))
      · skip
        refine XL_q (w_take rfl hc24) (qt_fieldAddr uf32 fi32_4 nz30 rfl) rfl rfl ?_
        have hB25 : Bx w16 b1 32 [vp0_0, vp0_1, vp0_2, .int .i64 p0_3, vp0_4] := Holds.bx (H18.pull 0)
        refine XL_load_bx u30 rfl hB25 rfl (w_take rfl hc24) rfl rfl ?_
        refine XL_lenH H18.ctx (t := (.pair (.int .i64) (.pair (.slice (.pair (.int .i64) (.int .i64))) (.slice (.int .i64))))) (hp0_4.c) u30 (w_take rfl hc24) rfl rfl ?_
        refine XL_q (w_take rfl hc24) (qt_gtr rfl rfl) rfl rfl ?_
        refine XL_q rfl (qt_pickF rfl hc24 rfl) rfl rfl ?_
        exact hk _ (Cov.same (by rw [hc24]; rfl) (Cov.fresh rfl (Cov.fresh rfl (Cov.fresh rfl (Cov.fresh rfl (Cov.refl))))))
    refine WL_nil_seq ?_
    refine WP_cond rfl (fun hc26 => ?_) (fun hc26 => ?_)
    · have h := if_t hc26 h
      refine WP_seq ?_
      refine WP_region ?_
      refine XL_q rfl (qt_assign rfl) rfl rfl ?_
      refine WL_nil_seq ?_
      refine WP_ret fun a ha => ?_
      obtain rfl := Option.some.inj h
      have H27 : Holds (([] : List Res).flatMap Res.own) w w16 [] G := (H18.cut 0)
      exact ret_seq (ret1 rfl ha rfl ⟨rfl, H27⟩)
    · have h := if_f hc26 h
      refine WP_skip_seq ?_
      refine WP_seq ?_
      refine WP_seq ?_
      refine WP_region ?_
      refine XL_q rfl (qt_fieldAddr uf32 fi32_4 nz30 rfl) rfl rfl ?_
      have hB28 : Bx w16 b1 32 [vp0_0, vp0_1, vp0_2, .int .i64 p0_3, vp0_4] := Holds.bx (H18.pull 0)
      refine XL_load_bx u30 rfl hB28 rfl rfl rfl rfl ?_
      refine XL_lenH H18.ctx (t := (.pair (.int .i64) (.pair (.slice (.pair (.int .i64) (.int .i64))) (.slice (.int .i64))))) (hp0_4.c) u30 rfl rfl rfl ?_
      refine XL_q rfl (qt_move rfl) rfl rfl ?_
      refine WL_nil_seq ?_
      refine WP_block ?_
      obtain ⟨o30, ho31, h⟩ := bind_some h
      refine fun a32 ha33 => wp_loop_fix (I := fun s a w2 => match s with | s29 => (Fr a 47 [(1, .pointer (some ⟨b1, 0, none⟩)), (35, vp0_4), (36, .int .i64 (List.length p0_4 : Int)), (37, .int .i64 s29)] ∧ Holds (([] : List Res).flatMap Res.own) w w2 [.bx b1 32 [vp0_0, vp0_1, vp0_2, .int .i64 p0_3, vp0_4]] G)) (O := fun o e a w2 => match o with | .inl _ => e = .exit 0 ∧ (Fr a 47 [] ∧ Holds (([] : List Res).flatMap Res.own) w w2 [] G) | .inr q0 => e = .ret ∧ (Fr a 47 [(2, .bool q0)] ∧ Holds (([] : List Res).flatMap Res.own) w w2 [] G)) ho31 ?_ ?_ ?_
      · exact ⟨ha33.sub ⟨rfl, rfl, rfl, rfl, trivial⟩, H18⟩
      · clear ha33
        intro s o36 a w34 hs35 hI37
        obtain ⟨s29, rfl⟩ : ∃ z, z = s := ⟨s, rfl⟩
        obtain ⟨ha, H38⟩ := hI37
        refine WP.app ?_ ha
        clear ha
        refine WP_seq ?_
        refine WP_region ?_
        refine XL_q rfl (qt_lss rfl rfl) rfl rfl ?_
        refine WL_nil_seq ?_
        refine WP_seq ?_
        refine WP_cond rfl (fun hc39 => ?_) (fun hc39 => ?_)
        · have hs35 := if_t hc39 hs35
          refine WP_skip_seq ?_
          refine WP_seq ?_
          refine WP_block ?_
          refine WP_seq ?_
          refine WP_region ?_
          obtain ⟨x40, hx41, hs35⟩ := bind_some hs35
          refine XL_indexH H38.ctx (hp0_4.c) hx41 u30 i50 rfl rfl rfl rfl (fun b42 off43 cap44 hv45 => ?_)
          obtain ⟨F46, hat47, hdup48⟩ := H38.atN (hp0_4.c) hx41 hv45
          refine XL_load_agg (t := (.pair (.int .i64) (.pair (.slice (.pair (.int .i64) (.int .i64))) (.slice (.int .i64))))) us50 uo50 i50 hat47 rfl rfl rfl (fun cs49 hr50 => ?_)
          obtain ⟨c51, c52, F53, F54, rfl, eF57, hr55, hr56⟩ := hr50
          obtain ⟨rfl, _⟩ := hr55
          obtain ⟨c58, c59, F60, F61, rfl, eF64, hr62, hr63⟩ := hr56
          obtain ⟨v65, rfl, hr66⟩ := Rep.sl_inv hr62
          obtain ⟨v67, rfl, hr68⟩ := Rep.sl_inv hr63
          have H69 : Holds (([] : List Res).flatMap Res.own) w w34 [.ro (.pair (.int .i64) (.int .i64)) v65 x40.2.1, .ro (.int .i64) v67 x40.2.2, .bx b1 32 [vp0_0, vp0_1, vp0_2, .int .i64 p0_3, vp0_4]] G := hdup48 [.ro (.pair (.int .i64) (.int .i64)) v65 x40.2.1, .ro (.int .i64) v67 x40.2.2] ⟨⟨_, _, _, _, rfl, hr66, (fun k h => (fun k h => (fun _ h => h) k (by rw [eF57]; exact List.mem_append_right _ h)) k (by rw [eF64]; exact List.mem_append_left _ h))⟩, ⟨_, _, _, _, rfl, hr68, (fun k h => (fun k h => (fun _ h => h) k (by rw [eF57]; exact List.mem_append_right _ h)) k (by rw [eF64]; exact List.mem_append_right _ h))⟩, trivial⟩
          change XL _ _ _ _ _ ((40, .agg #[.int .i64 x40.1, v65, v67]) :: _) _
          refine WL_alloc (cs := [.int .i64 0, .slice none 0 0, .slice none 0 0]) H69 z50 rfl rfl rfl (fun b70 w71 H72 => ?_)
          have H73 : Holds (([] : List Res).flatMap Res.own) w w71 [.bx b70 50 [.int .i64 0, .slice none 0 0, .slice none 0 0], .ro (.pair (.int .i64) (.int .i64)) v65 x40.2.1, .ro (.int .i64) v67 x40.2.2, .bx b1 32 [vp0_0, vp0_1, vp0_2, .int .i64 p0_3, vp0_4]] G := H72
          refine WL_store_bxA (cs' := [.int .i64 x40.1, v65, v67]) H73 rfl il50 rfl (allOne rfl (allOne (H73.ctx.sliceOne (HasRo.has (HasRo.c (HasRo.hd)))) (allOne (H73.ctx.sliceOne (HasRo.has (HasRo.c (HasRo.c (HasRo.hd))))) rfl))) rfl rfl rfl (fun w74 H75 => ?_)
          have H76 : Holds (([] : List Res).flatMap Res.own) w w74 [.bx b70 50 [.int .i64 x40.1, v65, v67], .ro (.pair (.int .i64) (.int .i64)) v65 x40.2.1, .ro (.int .i64) v67 x40.2.2, .bx b1 32 [vp0_0, vp0_1, vp0_2, .int .i64 p0_3, vp0_4]] G := H75
          refine WL_nil_seq ?_
          refine WP_seq ?_
          refine WP_still ?_
          refine XL_q rfl (qt_fieldAddr uf32 fi32_0 nz29 rfl) rfl rfl ?_
          have hB77 : Bx w74 b1 32 [vp0_0, vp0_1, vp0_2, .int .i64 p0_3, vp0_4] := Holds.bx (H76.pull 3)
          refine XL_load_bx u29 rfl hB77 rfl rfl rfl rfl ?_
          have hB78 : Bx w74 b70 50 [.int .i64 x40.1, v65, v67] := Holds.bx (H76.pull 0)
          refine XL_load_bxA (cs := [.int .i64 x40.1, v65, v67]) us50 uo50 il50 hB78 rfl rfl rfl ?_
          change XL _ _ _ _ _ ((43, .agg #[.int .i64 x40.1, v65, v67]) :: _) _
          obtain ⟨x79, hx80, hs35⟩ := bind_some hs35
          refine QL_call rfl rfl c36 (fun w' hb => (w_impl_tableValid w' ([.bx b70 50 [.int .i64 x40.1, v65, v67], .ro (.pair (.int .i64) (.int .i64)) v65 x40.2.1, .ro (.int .i64) v67 x40.2.2, .bx b1 32 [vp0_0, vp0_1, vp0_2, .int .i64 p0_3, vp0_4]] ++ G) vp0_0 p0_0 (hp0_0.c.c.c.c) x40.1 v65 x40.2.1 (HasRo.has (HasRo.c (HasRo.hd))) v67 x40.2.2 (HasRo.has (HasRo.c (HasRo.c (HasRo.hd)))) x79 hx80 (H76.grow hb).ctx).mono fun e w'' hK => ⟨hK.1, hK.2.bel⟩) (by rfl) ?_
          refine XL_q rfl (qt_not rfl) rfl rfl ?_
          refine QL_nil fun a ha w81 hb82 => ?_
          have H83 : Holds (([] : List Res).flatMap Res.own) w w81 [.bx b70 50 [.int .i64 x40.1, v65, v67], .ro (.pair (.int .i64) (.int .i64)) v65 x40.2.1, .ro (.int .i64) v67 x40.2.2, .bx b1 32 [vp0_0, vp0_1, vp0_2, .int .i64 p0_3, vp0_4]] G := H76.grow hb82
          refine nrm_seq (WP.app ?_ ha)
          refine WP_cond rfl (fun hc84 => ?_) (fun hc84 => ?_)
          · have hs35 := if_t hc84 hs35
            refine WP_seq ?_
            refine WP_region ?_
            refine XL_q rfl (qt_assign rfl) rfl rfl ?_
            refine WL_nil_seq ?_
            refine WP_ret fun a ha => ?_
            obtain rfl := Option.some.inj hs35
            have H85 : Holds (([] : List Res).flatMap Res.own) w w81 [] G := ((((H83.cut 0).cut 0).cut 0).cut 0)
            exact ret_block (ret_seq (⟨ret_ne, rfl, ha.sub ⟨rfl, trivial⟩, H85⟩))
          · have hs35 := if_f hc84 hs35
            refine WP_skip fun a ha => ?_
            refine nrm_block (nrm_seq (WP.app ?_ ha))
            refine WP_region ?_
            refine XL_q rfl (qt_add rfl rfl) rfl rfl ?_
            refine XL_q rfl (qt_move rfl) rfl rfl ?_
            refine WL_nil fun a ha => ?_
            obtain rfl := Option.some.inj hs35
            have H86 : Holds (([] : List Res).flatMap Res.own) w w81 [.bx b1 32 [vp0_0, vp0_1, vp0_2, .int .i64 p0_3, vp0_4]] G := (((H83.cut 0).cut 0).cut 0)
            exact ⟨rfl, ha.sub ⟨rfl, rfl, rfl, rfl, trivial⟩, H86⟩
        · have hs35 := if_f hc39 hs35
          refine WP_exit fun a ha => ?_
          obtain rfl := Option.some.inj hs35
          have H87 : Holds (([] : List Res).flatMap Res.own) w w34 [] G := (H38.cut 0)
          exact exit_seq (⟨exit_ne, rfl, ha.sub trivial, H87⟩)
      · intro e a32 w88 hO89
        rcases o30 with o30 | o30
        · skip
          obtain ⟨rfl, hO91⟩ := hO89
          obtain ⟨ha, H90⟩ := hO91
          refine exit_block_eq (nrm_seq (WP.app ?_ ha))
          refine WP_seq ?_
          refine WP_region ?_
          refine XL_q rfl (qt_assign rfl) rfl rfl ?_
          refine WL_nil_seq ?_
          refine WP_ret fun a ha => ?_
          obtain rfl := Option.some.inj h
          exact ret1 rfl ha rfl ⟨rfl, H90⟩
        · skip
          obtain ⟨p92, rfl⟩ : ∃ z, z = o30 := ⟨o30, rfl⟩
          obtain ⟨rfl, hO94⟩ := hO89
          obtain ⟨ha, H93⟩ := hO94
          obtain rfl := Option.some.inj h
          exact ret_block (ret_seq (ret1 rfl ha rfl ⟨rfl, H93⟩))
theorem w_impl_copyTicket (w : World) (G : List Res) (vp0 : Value) (p0 : List (Int × Int)) (hp0 : Has G (.pair (.int .i64) (.int .i64)) vp0 p0) (r : (List (Int × Int))) (h : impl_copyTicketS p0 = some r) (H : Ctx w G) : Calls Try.prog 65 #[vp0] w fun e w' => ∃ (v1 : Value), e = .returned (v1) ∧ Holds (([] : List Res).flatMap Res.own) w w' [.sl 63 (.pair (.int .i64) (.int .i64)) v1 r] G := by
  have H : Holds (([] : List Res).flatMap Res.own) w w [] G := Holds.startN H
  refine calls_enter (args := [vp0]) (n := 14) Try.func65 rfl rfl rfl ?_
  unfold impl_copyTicketS at h
  refine WP_seq ?_
  refine WP_region ?_
  refine XL_q rfl (qt_assign rfl) rfl rfl ?_
  refine WL_nil_seq ?_
  refine WP_seq ?_
  refine WP_seq ?_
  refine WP_region ?_
  refine XL_q rfl (qt_move rfl) rfl rfl ?_
  refine XL_lenH H.ctx (t := (.pair (.int .i64) (.int .i64))) (hp0) u48 rfl rfl rfl ?_
  refine XL_q rfl (qt_eql rfl rfl) rfl rfl ?_
  refine WL_nil_seq ?_
  refine WP_cond rfl (fun hc1 => ?_) (fun hc1 => ?_)
  · have h := if_t hc1 h
    refine WP_seq ?_
    refine WP_region ?_
    refine XL_q rfl (qt_assign rfl) rfl rfl ?_
    refine WL_nil_seq ?_
    refine WP_ret fun a ha => ?_
    obtain rfl := Option.some.inj h
    have H2 : Holds (([] : List Res).flatMap Res.own) w w [.sl 63 (.pair (.int .i64) (.int .i64)) (.slice none 0 0) ([])] G := H.nilSl
    exact ret_seq (ret1 rfl ha rfl ⟨(.slice none 0 0), rfl, H2⟩)
  · have h := if_f hc1 h
    refine WP_skip_seq ?_
    refine WP_seq ?_
    refine WP_region ?_
    refine XL_q rfl (qt_move rfl) rfl rfl ?_
    refine XL_lenH H.ctx (t := (.pair (.int .i64) (.int .i64))) (hp0) u48 rfl rfl rfl ?_
    obtain ⟨x3, hx4, h⟩ := bind_some h
    refine WL_makeH H hx4 u48 j63 rfl (fun _ => ⟨_, _, [], [], rfl, rfl, ⟨rfl, rfl⟩, ⟨rfl, rfl⟩⟩) rfl rfl rfl rfl rfl (fun v5 w6 H7 => ?_)
    have H8 : Holds (([] : List Res).flatMap Res.own) w w6 [.sl 63 (.pair (.int .i64) (.int .i64)) v5 x3] G := H7
    refine XL_q rfl (qt_assign rfl) rfl rfl ?_
    refine WL_nil_seq ?_
    refine WP_seq ?_
    refine WP_region ?_
    refine XL_q rfl (qt_move rfl) rfl rfl ?_
    refine XL_q rfl (qt_move rfl) rfl rfl ?_
    refine WL_copyH rfl H8 (hp0.c) rfl u48 i63 rfl rfl rfl rfl (fun w9 H10 => ?_)
    have H11 : Holds (([] : List Res).flatMap Res.own) w w9 [.sl 63 (.pair (.int .i64) (.int .i64)) v5 (List.take (List.length x3) p0 ++ List.drop (List.length p0) x3)] G := H10
    refine WL_nil_seq ?_
    refine WP_seq ?_
    refine WP_region ?_
    refine XL_q rfl (qt_move rfl) rfl rfl ?_
    refine XL_q rfl (qt_assign rfl) rfl rfl ?_
    refine WL_nil_seq ?_
    refine WP_ret fun a ha => ?_
    obtain rfl := Option.some.inj h
    exact ret1 rfl ha rfl ⟨v5, rfl, H11⟩
theorem w_impl_kitchenOf (w : World) (G : List Res) (vp0_0 : Value) (p0_0 : List (Int × (List (Int × Int)) × Int)) (hp0_0 : Has G (.pair (.int .i64) (.pair (.slice (.pair (.int .i64) (.int .i64))) (.int .i64))) vp0_0 p0_0) (vp0_1 : Value) (p0_1 : List Int) (hp0_1 : Has G (.int .i64) vp0_1 p0_1) (vp0_2 : Value) (p0_2 : List Int) (hp0_2 : Has G (.int .i64) vp0_2 p0_2) (p0_3 : Int) (vp0_4 : Value) (p0_4 : List (Int × (List (Int × Int)) × (List Int))) (hp0_4 : Has G (.pair (.int .i64) (.pair (.slice (.pair (.int .i64) (.int .i64))) (.slice (.int .i64)))) vp0_4 p0_4) (r : (List (List (Int × Int)))) (h : impl_kitchenOfS p0_0 p0_1 p0_2 p0_3 p0_4 = some r) (H : Ctx w G) : Calls Try.prog 43 #[.agg #[vp0_0, vp0_1, vp0_2, .int .i64 p0_3, vp0_4]] w fun e w' => ∃ (v1 : Value) (csv1 : List Value) (Fv1 : List Nat), e = .returned (v1) ∧ Holds (([] : List Res).flatMap Res.own) w w' [dpR 48 (.sl 63 (.leaf (.pair (.int .i64) (.int .i64)))) v1 csv1 r Fv1] G := by
  have H : Holds (([] : List Res).flatMap Res.own) w w [] G := Holds.startN H
  refine calls_enter (args := [.agg #[vp0_0, vp0_1, vp0_2, .int .i64 p0_3, vp0_4]]) (n := 26) Try.func43 rfl rfl rfl ?_
  unfold impl_kitchenOfS at h
  refine WP_seq ?_
  refine WP_region ?_
  refine WL_box (cs := [vp0_0, vp0_1, vp0_2, .int .i64 p0_3, vp0_4]) H rfl rfl rfl rfl (fun b1 w2 H3 => ?_)
  have H4 : Holds (([] : List Res).flatMap Res.own) w w2 [.bx b1 32 [vp0_0, vp0_1, vp0_2, .int .i64 p0_3, vp0_4]] G := H3
  refine XL_q rfl (qt_assign rfl) rfl rfl ?_
  refine WL_nil_seq ?_
  refine WP_seq ?_
  refine WP_region ?_
  refine XL_q rfl (qt_fieldAddr uf32 fi32_4 nz30 rfl) rfl rfl ?_
  have hB5 : Bx w2 b1 32 [vp0_0, vp0_1, vp0_2, .int .i64 p0_3, vp0_4] := Holds.bx (H4.pull 0)
  refine XL_load_bx u30 rfl hB5 rfl rfl rfl rfl ?_
  refine XL_lenH H4.ctx (t := (.pair (.int .i64) (.pair (.slice (.pair (.int .i64) (.int .i64))) (.slice (.int .i64))))) (hp0_4.c) u30 rfl rfl rfl ?_
  obtain ⟨x6, hx7, h⟩ := bind_some h
  refine WL_makeD (d := (.sl 63 (.leaf (.pair (.int .i64) (.int .i64))))) H4 hx7 u65 j48 rfl (DBlt.cast (DBlt.nil (e := 63) (d := (.leaf (.pair (.int .i64) (.int .i64))))) rfl rfl) rfl rfl rfl rfl rfl (fun v8 cs11 F12 w9 H10 => ?_)
  have H13 : Holds (([] : List Res).flatMap Res.own) w w9 [dpR 48 (.sl 63 (.leaf (.pair (.int .i64) (.int .i64)))) v8 cs11 x6 F12, .bx b1 32 [vp0_0, vp0_1, vp0_2, .int .i64 p0_3, vp0_4]] G := H10
  refine XL_q rfl (qt_assign rfl) rfl rfl ?_
  refine WL_nil_seq ?_
  refine WP_seq ?_
  refine WP_seq ?_
  refine WP_region ?_
  refine XL_q rfl (qt_fieldAddr uf32 fi32_4 nz30 rfl) rfl rfl ?_
  have hB14 : Bx w9 b1 32 [vp0_0, vp0_1, vp0_2, .int .i64 p0_3, vp0_4] := Holds.bx (H13.pull 1)
  refine XL_load_bx u30 rfl hB14 rfl rfl rfl rfl ?_
  have V15 : Ctx w9 ([.ro (.slice (.pair (.int .i64) (.int .i64))) v8 x6, .bx b1 32 [vp0_0, vp0_1, vp0_2, .int .i64 p0_3, vp0_4]] ++ G) := H13.viewG (Vw.dp (NsOk.self NsOk.nil) (Vw.c Vw.refl))
  refine XL_lenH V15 (t := (.pair (.int .i64) (.pair (.slice (.pair (.int .i64) (.int .i64))) (.slice (.int .i64))))) (hp0_4.c.c) u30 rfl rfl rfl ?_
  refine XL_q rfl (qt_move rfl) rfl rfl ?_
  refine WL_nil_seq ?_
  refine WP_block ?_
  obtain ⟨o18, ho19, h⟩ := bind_some h
  have H22 : Holds (([] : List Res).flatMap Res.own) w w9 [dpR 48 (.sl 63 (.leaf (.pair (.int .i64) (.int .i64)))) v8 cs11 x6 F12] G := (H13.cut 1)
  refine fun a20 ha21 => wp_loop_fix (I := fun s a w2 => match s with | (s16, s17) => ∃ css17 Fs17, Fr a 26 [(3, v8), (11, vp0_4), (12, .int .i64 (List.length p0_4 : Int)), (13, .int .i64 s16)] ∧ Holds (([] : List Res).flatMap Res.own) w w2 [dpR 48 (.sl 63 (.leaf (.pair (.int .i64) (.int .i64)))) v8 css17 s17 Fs17] G) (O := fun o e a w2 => match o with | q0 => e = .exit 0 ∧ ∃ csq0 Fq0, Fr a 26 [(3, v8)] ∧ Holds (([] : List Res).flatMap Res.own) w w2 [dpR 48 (.sl 63 (.leaf (.pair (.int .i64) (.int .i64)))) v8 csq0 q0 Fq0] G) ho19 ?_ ?_ ?_
  · exact ⟨cs11, F12, ha21.sub ⟨rfl, rfl, rfl, rfl, trivial⟩, H22⟩
  · clear ha21
    intro s o25 a w23 hs24 hI26
    obtain ⟨s16, s17⟩ := s
    obtain ⟨css17, Fs17, ha, H27⟩ := hI26
    refine WP.app ?_ ha
    clear ha
    refine WP_seq ?_
    refine WP_region ?_
    refine XL_q rfl (qt_lss rfl rfl) rfl rfl ?_
    refine WL_nil_seq ?_
    refine WP_seq ?_
    refine WP_cond rfl (fun hc28 => ?_) (fun hc28 => ?_)
    · have hs24 := if_t hc28 hs24
      refine WP_skip_seq ?_
      refine WP_seq ?_
      refine WP_block ?_
      refine WP_seq ?_
      refine WP_region ?_
      refine XL_q rfl (qt_move rfl) rfl rfl ?_
      obtain ⟨x29, hx30, hs24⟩ := bind_some hs24
      have V35 : Ctx w23 ([.ro (.slice (.pair (.int .i64) (.int .i64))) v8 s17] ++ G) := H27.viewG (Vw.dp (NsOk.self NsOk.nil) Vw.refl)
      refine XL_indexH V35 (hp0_4.c) hx30 u30 i50 rfl rfl rfl rfl (fun b31 off32 cap33 hv34 => ?_)
      obtain ⟨F36, hat37, hdup38⟩ := H27.atN (hp0_4.c) hx30 hv34
      refine XL_load_agg (t := (.pair (.int .i64) (.pair (.slice (.pair (.int .i64) (.int .i64))) (.slice (.int .i64))))) us50 uo50 i50 hat37 rfl rfl rfl (fun cs39 hr40 => ?_)
      obtain ⟨c41, c42, F43, F44, rfl, eF47, hr45, hr46⟩ := hr40
      obtain ⟨rfl, _⟩ := hr45
      obtain ⟨c48, c49, F50, F51, rfl, eF54, hr52, hr53⟩ := hr46
      obtain ⟨v55, rfl, hr56⟩ := Rep.sl_inv hr52
      obtain ⟨v57, rfl, hr58⟩ := Rep.sl_inv hr53
      have H59 : Holds (([] : List Res).flatMap Res.own) w w23 [.ro (.pair (.int .i64) (.int .i64)) v55 x29.2.1, .ro (.int .i64) v57 x29.2.2, dpR 48 (.sl 63 (.leaf (.pair (.int .i64) (.int .i64)))) v8 css17 s17 Fs17] G := hdup38 [.ro (.pair (.int .i64) (.int .i64)) v55 x29.2.1, .ro (.int .i64) v57 x29.2.2] ⟨⟨_, _, _, _, rfl, hr56, (fun k h => (fun k h => (fun _ h => h) k (by rw [eF47]; exact List.mem_append_right _ h)) k (by rw [eF54]; exact List.mem_append_left _ h))⟩, ⟨_, _, _, _, rfl, hr58, (fun k h => (fun k h => (fun _ h => h) k (by rw [eF47]; exact List.mem_append_right _ h)) k (by rw [eF54]; exact List.mem_append_right _ h))⟩, trivial⟩
      change XL _ _ _ _ _ ((17, .agg #[.int .i64 x29.1, v55, v57]) :: _) _
      refine WL_alloc (cs := [.int .i64 0, .slice none 0 0, .slice none 0 0]) H59 z50 rfl rfl rfl (fun b60 w61 H62 => ?_)
      have H63 : Holds (([] : List Res).flatMap Res.own) w w61 [.bx b60 50 [.int .i64 0, .slice none 0 0, .slice none 0 0], .ro (.pair (.int .i64) (.int .i64)) v55 x29.2.1, .ro (.int .i64) v57 x29.2.2, dpR 48 (.sl 63 (.leaf (.pair (.int .i64) (.int .i64)))) v8 css17 s17 Fs17] G := H62
      refine XL_q rfl (qt_assign rfl) rfl rfl ?_
      have V66 : Ctx w61 ([.bx b60 50 [.int .i64 0, .slice none 0 0, .slice none 0 0], .ro (.pair (.int .i64) (.int .i64)) v55 x29.2.1, .ro (.int .i64) v57 x29.2.2, .ro (.slice (.pair (.int .i64) (.int .i64))) v8 s17] ++ G) := H63.viewG (Vw.c (Vw.c (Vw.c (Vw.dp (NsOk.self NsOk.nil) Vw.refl))))
      refine WL_store_bxA (cs' := [.int .i64 x29.1, v55, v57]) H63 rfl il50 rfl (allOne rfl (allOne (V66.sliceOne (HasRo.has (HasRo.c (HasRo.hd)))) (allOne (V66.sliceOne (HasRo.has (HasRo.c (HasRo.c (HasRo.hd))))) rfl))) rfl rfl rfl (fun w64 H65 => ?_)
      have H67 : Holds (([] : List Res).flatMap Res.own) w w64 [.bx b60 50 [.int .i64 x29.1, v55, v57], .ro (.pair (.int .i64) (.int .i64)) v55 x29.2.1, .ro (.int .i64) v57 x29.2.2, dpR 48 (.sl 63 (.leaf (.pair (.int .i64) (.int .i64)))) v8 css17 s17 Fs17] G := H65
      refine WL_nil_seq ?_
      refine WP_region ?_
      refine XL_q rfl (qt_move rfl) rfl rfl ?_
      refine XL_q rfl (qt_move rfl) rfl rfl ?_
      refine XL_q rfl (qt_fieldAddr uf50 fi50_1 nz48 rfl) rfl rfl ?_
      have hB68 : Bx w64 b60 50 [.int .i64 x29.1, v55, v57] := Holds.bx (H67.pull 0)
      refine XL_load_bx u48 rfl hB68 rfl rfl rfl rfl ?_
      obtain ⟨x69, hx70, hs24⟩ := bind_some hs24
      have V71 : Ctx w64 ([.bx b60 50 [.int .i64 x29.1, v55, v57], .ro (.pair (.int .i64) (.int .i64)) v55 x29.2.1, .ro (.int .i64) v57 x29.2.2, .ro (.slice (.pair (.int .i64) (.int .i64))) v8 s17] ++ G) := H67.viewG (Vw.c (Vw.c (Vw.c (Vw.dp (NsOk.self NsOk.nil) Vw.refl))))
      refine WL_call rfl rfl c65 (w_impl_copyTicket w64 ([.bx b60 50 [.int .i64 x29.1, v55, v57], .ro (.pair (.int .i64) (.int .i64)) v55 x29.2.1, .ro (.int .i64) v57 x29.2.2, .ro (.slice (.pair (.int .i64) (.int .i64))) v8 s17] ++ G) v55 x29.2.1 (HasRo.has (HasRo.c (HasRo.hd))) x69 hx70 V71) (by rfl) ?_
      rintro _ w72 ⟨v74, rfl, H73⟩; refine ⟨_, rfl, ?_⟩
      have H75 : Holds (([] : List Res).flatMap Res.own) w w72 [.sl 63 (.pair (.int .i64) (.int .i64)) v74 x69, .bx b60 50 [.int .i64 x29.1, v55, v57], .ro (.pair (.int .i64) (.int .i64)) v55 x29.2.1, .ro (.int .i64) v57 x29.2.2, dpR 48 (.sl 63 (.leaf (.pair (.int .i64) (.int .i64)))) v8 css17 s17 Fs17] G := H67.calledV (Rs := []) H73 (all_cons (Pure.sl rfl) all_nil)
      obtain ⟨x76, hx77, hs24⟩ := bind_some hs24
      have V82 : Ctx w72 ([.sl 63 (.pair (.int .i64) (.int .i64)) v74 x69, .bx b60 50 [.int .i64 x29.1, v55, v57], .ro (.pair (.int .i64) (.int .i64)) v55 x29.2.1, .ro (.int .i64) v57 x29.2.2, .ro (.slice (.pair (.int .i64) (.int .i64))) v8 s17] ++ G) := H75.viewG (Vw.c (Vw.c (Vw.c (Vw.c (Vw.dp (NsOk.self NsOk.nil) Vw.refl)))))
      refine XL_indexH V82 (HasRo.has (HasRo.c (HasRo.c (HasRo.c (HasRo.c (HasRo.hd)))))) hx77 u65 i48 rfl rfl rfl rfl (fun b78 off79 cap80 hv81 => ?_)
      have H83 : Holds (([] : List Res).flatMap Res.own) w w72 [dpR 48 (.sl 63 (.leaf (.pair (.int .i64) (.int .i64)))) v8 css17 s17 Fs17, .sl 63 (.pair (.int .i64) (.int .i64)) v74 x69, .bx b60 50 [.int .i64 x29.1, v55, v57], .ro (.pair (.int .i64) (.int .i64)) v55 x29.2.1, .ro (.int .i64) v57 x29.2.2] G := H75.pull 4
      have H84 : Holds (([] : List Res).flatMap Res.own) w w72 [.sl 63 (.pair (.int .i64) (.int .i64)) v74 x69, dpR 48 (.sl 63 (.leaf (.pair (.int .i64) (.int .i64)))) v8 css17 s17 Fs17, .bx b60 50 [.int .i64 x29.1, v55, v57], .ro (.pair (.int .i64) (.int .i64)) v55 x29.2.1, .ro (.int .i64) v57 x29.2.2] G := H83.pull 1
      have V85 : Ctx w72 ([.sl 63 (.pair (.int .i64) (.int .i64)) v74 x69, .ro (.slice (.pair (.int .i64) (.int .i64))) v8 s17, .bx b60 50 [.int .i64 x29.1, v55, v57], .ro (.pair (.int .i64) (.int .i64)) v55 x29.2.1, .ro (.int .i64) v57 x29.2.2] ++ G) := H84.viewG (Vw.c (Vw.dp (NsOk.self NsOk.nil) (Vw.c (Vw.c (Vw.c Vw.refl)))))
      refine WL_storeD (Rs := [.sl 63 (.pair (.int .i64) (.int .i64)) v74 x69]) (fo := 0) (cs' := [v74]) H84 hx77 hv81 (Foc.refl) (DBlt.cast (DBlt.sl (e := 63) (t := (.pair (.int .i64) (.int .i64))) (v := v74) (x := x69) rfl) rfl rfl) (V85.sliceList (Has.hd)) il48 rfl rfl rfl (fun cs86 F87 w88 H89 => ?_)
      have H90 : Holds (([] : List Res).flatMap Res.own) w w88 [dpR 48 (.sl 63 (.leaf (.pair (.int .i64) (.int .i64)))) v8 cs86 (List.set s17 (Int.toNat s16) x69) F87, .bx b60 50 [.int .i64 x29.1, v55, v57], .ro (.pair (.int .i64) (.int .i64)) v55 x29.2.1, .ro (.int .i64) v57 x29.2.2] G := H89
      refine WL_nil fun a ha => ?_
      refine nrm_block (nrm_seq (WP.app ?_ ha))
      refine WP_region ?_
      refine XL_q rfl (qt_add rfl rfl) rfl rfl ?_
      refine XL_q rfl (qt_move rfl) rfl rfl ?_
      refine WL_nil fun a ha => ?_
      obtain rfl := Option.some.inj hs24
      have H91 : Holds (([] : List Res).flatMap Res.own) w w88 [dpR 48 (.sl 63 (.leaf (.pair (.int .i64) (.int .i64)))) v8 cs86 (List.set s17 (Int.toNat s16) x69) F87] G := (((H90.cut 1).cut 1).cut 1)
      exact ⟨rfl, cs86, F87, ha.sub ⟨rfl, rfl, rfl, rfl, trivial⟩, H91⟩
    · have hs24 := if_f hc28 hs24
      refine WP_exit fun a ha => ?_
      obtain rfl := Option.some.inj hs24
      exact exit_seq (⟨exit_ne, rfl, css17, Fs17, ha.sub ⟨rfl, trivial⟩, H27⟩)
  · intro e a20 w92 hO93
    obtain ⟨p94, rfl⟩ : ∃ z, z = o18 := ⟨o18, rfl⟩
    obtain ⟨rfl, hO96⟩ := hO93
    obtain ⟨csp94, Fp94, ha, H95⟩ := hO96
    refine exit_block_eq (nrm_seq (WP.app ?_ ha))
    refine WP_seq ?_
    refine WP_region ?_
    refine XL_q rfl (qt_move rfl) rfl rfl ?_
    refine XL_q rfl (qt_assign rfl) rfl rfl ?_
    refine WL_nil_seq ?_
    refine WP_ret fun a ha => ?_
    obtain rfl := Option.some.inj h
    exact ret1 rfl ha rfl ⟨v8, csp94, Fp94, rfl, H95⟩
theorem w_impl_KitchenValid (w : World) (G : List Res) (vp0 : Value) (p0 : List (List (Int × Int))) (hp0 : Has G (.slice (.pair (.int .i64) (.int .i64))) vp0 p0) (r : Bool) (h : impl_KitchenValidS p0 = some r) (H : Ctx w G) : Calls Try.prog 63 #[vp0] w fun e w' => e = .returned (.bool r) ∧ Holds (([] : List Res).flatMap Res.own) w w' [] G := by
  have H : Holds (([] : List Res).flatMap Res.own) w w [] G := Holds.startN H
  refine calls_enter (args := [vp0]) (n := 18) Try.func63 rfl rfl rfl ?_
  unfold impl_KitchenValidS at h
  refine WP_seq ?_
  refine WP_region ?_
  refine XL_q rfl (qt_assign rfl) rfl rfl ?_
  refine WL_nil_seq ?_
  refine WP_seq ?_
  refine WP_seq ?_
  refine WP_region ?_
  refine XL_q rfl (qt_move rfl) rfl rfl ?_
  refine XL_lenH H.ctx (t := (.slice (.pair (.int .i64) (.int .i64)))) (hp0) u65 rfl rfl rfl ?_
  refine XL_q rfl (qt_gtr rfl rfl) rfl rfl ?_
  refine WL_nil_seq ?_
  refine WP_cond rfl (fun hc1 => ?_) (fun hc1 => ?_)
  · have h := if_t hc1 h
    refine WP_seq ?_
    refine WP_region ?_
    refine XL_q rfl (qt_assign rfl) rfl rfl ?_
    refine WL_nil_seq ?_
    refine WP_ret fun a ha => ?_
    obtain rfl := Option.some.inj h
    exact ret_seq (ret1 rfl ha rfl ⟨rfl, H⟩)
  · have h := if_f hc1 h
    refine WP_skip_seq ?_
    refine WP_seq ?_
    refine WP_seq ?_
    refine WP_region ?_
    refine XL_q rfl (qt_move rfl) rfl rfl ?_
    refine XL_lenH H.ctx (t := (.slice (.pair (.int .i64) (.int .i64)))) (hp0) u65 rfl rfl rfl ?_
    refine XL_q rfl (qt_move rfl) rfl rfl ?_
    refine WL_nil_seq ?_
    refine WP_block ?_
    obtain ⟨o3, ho4, h⟩ := bind_some h
    refine fun a5 ha6 => wp_loop_fix (I := fun s a w2 => match s with | s2 => (Fr a 18 [(8, vp0), (9, .int .i64 (List.length p0 : Int)), (10, .int .i64 s2)] ∧ Holds (([] : List Res).flatMap Res.own) w w2 [] G)) (O := fun o e a w2 => match o with | .inl _ => e = .exit 0 ∧ (Fr a 18 [] ∧ Holds (([] : List Res).flatMap Res.own) w w2 [] G) | .inr q0 => e = .ret ∧ (Fr a 18 [(2, .bool q0)] ∧ Holds (([] : List Res).flatMap Res.own) w w2 [] G)) ho4 ?_ ?_ ?_
    · exact ⟨ha6.sub ⟨rfl, rfl, rfl, trivial⟩, H⟩
    · clear ha6
      intro s o9 a w7 hs8 hI10
      obtain ⟨s2, rfl⟩ : ∃ z, z = s := ⟨s, rfl⟩
      obtain ⟨ha, H11⟩ := hI10
      refine WP.app ?_ ha
      clear ha
      refine WP_seq ?_
      refine WP_region ?_
      refine XL_q rfl (qt_lss rfl rfl) rfl rfl ?_
      refine WL_nil_seq ?_
      refine WP_seq ?_
      refine WP_cond rfl (fun hc12 => ?_) (fun hc12 => ?_)
      · have hs8 := if_t hc12 hs8
        refine WP_skip_seq ?_
        refine WP_seq ?_
        refine WP_block ?_
        refine WP_seq ?_
        refine WP_region ?_
        obtain ⟨x13, hx14, hs8⟩ := bind_some hs8
        refine XL_indexH H11.ctx (hp0) hx14 u65 i48 rfl rfl rfl rfl (fun b15 off16 cap17 hv18 => ?_)
        obtain ⟨F19, hat20, hdup21⟩ := H11.at (hp0) hx14 hv18
        refine XL_load (t := (.slice (.pair (.int .i64) (.int .i64)))) u48 rfl rfl hat20 rfl rfl rfl (fun v22 hr23 => ?_)
        have H24 : Holds (([] : List Res).flatMap Res.own) w w7 [.ro (.pair (.int .i64) (.int .i64)) v22 x13] G := hdup21 _ _ _ _ hr23 (fun _ h => h)
        refine XL_q rfl (qt_assign rfl) rfl rfl ?_
        refine WL_nil_seq ?_
        refine WP_seq ?_
        refine WP_still ?_
        refine XL_q rfl (qt_move rfl) rfl rfl ?_
        obtain ⟨x25, hx26, hs8⟩ := bind_some hs8
        refine QL_call rfl rfl c57 (fun w' hb => (w_impl_TicketValid w' ([.ro (.pair (.int .i64) (.int .i64)) v22 x13] ++ G) v22 x13 (HasRo.has (HasRo.hd)) x25 hx26 (H24.grow hb).ctx).mono fun e w'' hK => ⟨hK.1, hK.2.bel⟩) (by rfl) ?_
        refine XL_q rfl (qt_not rfl) rfl rfl ?_
        refine QL_nil fun a ha w27 hb28 => ?_
        have H29 : Holds (([] : List Res).flatMap Res.own) w w27 [.ro (.pair (.int .i64) (.int .i64)) v22 x13] G := H24.grow hb28
        refine nrm_seq (WP.app ?_ ha)
        refine WP_cond rfl (fun hc30 => ?_) (fun hc30 => ?_)
        · have hs8 := if_t hc30 hs8
          refine WP_seq ?_
          refine WP_region ?_
          refine XL_q rfl (qt_assign rfl) rfl rfl ?_
          refine WL_nil_seq ?_
          refine WP_ret fun a ha => ?_
          obtain rfl := Option.some.inj hs8
          have H31 : Holds (([] : List Res).flatMap Res.own) w w27 [] G := (H29.cut 0)
          exact ret_block (ret_seq (⟨ret_ne, rfl, ha.sub ⟨rfl, trivial⟩, H31⟩))
        · have hs8 := if_f hc30 hs8
          refine WP_skip fun a ha => ?_
          refine nrm_block (nrm_seq (WP.app ?_ ha))
          refine WP_region ?_
          refine XL_q rfl (qt_add rfl rfl) rfl rfl ?_
          refine XL_q rfl (qt_move rfl) rfl rfl ?_
          refine WL_nil fun a ha => ?_
          obtain rfl := Option.some.inj hs8
          have H32 : Holds (([] : List Res).flatMap Res.own) w w27 [] G := (H29.cut 0)
          exact ⟨rfl, ha.sub ⟨rfl, rfl, rfl, trivial⟩, H32⟩
      · have hs8 := if_f hc12 hs8
        refine WP_exit fun a ha => ?_
        obtain rfl := Option.some.inj hs8
        exact exit_seq (⟨exit_ne, rfl, ha.sub trivial, H11⟩)
    · intro e a5 w33 hO34
      rcases o3 with o3 | o3
      · skip
        obtain ⟨rfl, hO36⟩ := hO34
        obtain ⟨ha, H35⟩ := hO36
        refine exit_block_eq (nrm_seq (WP.app ?_ ha))
        refine WP_seq ?_
        refine WP_region ?_
        refine XL_q rfl (qt_assign rfl) rfl rfl ?_
        refine WL_nil_seq ?_
        refine WP_ret fun a ha => ?_
        obtain rfl := Option.some.inj h
        exact ret1 rfl ha rfl ⟨rfl, H35⟩
      · skip
        obtain ⟨p37, rfl⟩ : ∃ z, z = o3 := ⟨o3, rfl⟩
        obtain ⟨rfl, hO39⟩ := hO34
        obtain ⟨ha, H38⟩ := hO39
        obtain rfl := Option.some.inj h
        exact ret_block (ret_seq (ret1 rfl ha rfl ⟨rfl, H38⟩))
theorem w_impl_WorkLeft (w : World) (G : List Res) (vp0 : Value) (p0 : List (List (Int × Int))) (hp0 : Has G (.slice (.pair (.int .i64) (.int .i64))) vp0 p0) (r : Int) (h : impl_WorkLeftS p0 = some r) (H : Ctx w G) : Calls Try.prog 42 #[vp0] w fun e w' => e = .returned (.int .i64 r) ∧ Holds (([] : List Res).flatMap Res.own) w w' [] G := by
  have H : Holds (([] : List Res).flatMap Res.own) w w [] G := Holds.startN H
  refine calls_enter (args := [vp0]) (n := 34) Try.func42 rfl rfl rfl ?_
  unfold impl_WorkLeftS at h
  refine WP_seq ?_
  refine WP_region ?_
  refine XL_q rfl (qt_assign rfl) rfl rfl ?_
  refine WL_nil_seq ?_
  refine WP_seq ?_
  refine WP_seq ?_
  refine WP_still ?_
  refine XL_q rfl (qt_move rfl) rfl rfl ?_
  obtain ⟨x1, hx2, h⟩ := bind_some h
  refine QL_call rfl rfl c63 (fun w' hb => (w_impl_KitchenValid w' G vp0 p0 (hp0) x1 hx2 (H.grow hb).ctx).mono fun e w'' hK => ⟨hK.1, hK.2.bel⟩) (by rfl) ?_
  refine XL_q rfl (qt_not rfl) rfl rfl ?_
  refine QL_nil fun a ha w3 hb4 => ?_
  have H5 : Holds (([] : List Res).flatMap Res.own) w w3 [] G := H.grow hb4
  refine nrm_seq (WP.app ?_ ha)
  refine WP_cond rfl (fun hc6 => ?_) (fun hc6 => ?_)
  · have h := if_t hc6 h
    refine WP_seq ?_
    refine WP_region ?_
    refine XL_q rfl (qt_assign rfl) rfl rfl ?_
    refine WL_nil_seq ?_
    refine WP_ret fun a ha => ?_
    obtain rfl := Option.some.inj h
    exact ret_seq (ret1 rfl ha rfl ⟨rfl, H5⟩)
  · have h := if_f hc6 h
    refine WP_skip_seq ?_
    refine WP_seq ?_
    refine WP_region ?_
    refine XL_q rfl (qt_assign rfl) rfl rfl ?_
    refine WL_nil_seq ?_
    refine WP_seq ?_
    refine WP_seq ?_
    refine WP_region ?_
    refine XL_q rfl (qt_move rfl) rfl rfl ?_
    refine XL_lenH H5.ctx (t := (.slice (.pair (.int .i64) (.int .i64)))) (hp0) u65 rfl rfl rfl ?_
    refine XL_q rfl (qt_move rfl) rfl rfl ?_
    refine WL_nil_seq ?_
    refine WP_block ?_
    obtain ⟨o9, ho10, h⟩ := bind_some h
    refine fun a11 ha12 => wp_loop_fix (I := fun s a w2 => match s with | (s7, s8) => (Fr a 34 [(3, .int .i64 s7), (11, vp0), (12, .int .i64 (List.length p0 : Int)), (13, .int .i64 s8)] ∧ Holds (([] : List Res).flatMap Res.own) w w2 [] G)) (O := fun o e a w2 => match o with | q0 => e = .exit 0 ∧ (Fr a 34 [(3, .int .i64 q0)] ∧ Holds (([] : List Res).flatMap Res.own) w w2 [] G)) ho10 ?_ ?_ ?_
    · exact ⟨ha12.sub ⟨rfl, rfl, rfl, rfl, trivial⟩, H5⟩
    · clear ha12
      intro s o15 a w13 hs14 hI16
      obtain ⟨s7, s8⟩ := s
      obtain ⟨ha, H17⟩ := hI16
      refine WP.app ?_ ha
      clear ha
      refine WP_seq ?_
      refine WP_region ?_
      refine XL_q rfl (qt_lss rfl rfl) rfl rfl ?_
      refine WL_nil_seq ?_
      refine WP_seq ?_
      refine WP_cond rfl (fun hc18 => ?_) (fun hc18 => ?_)
      · have hs14 := if_t hc18 hs14
        refine WP_skip_seq ?_
        refine WP_seq ?_
        refine WP_block ?_
        refine WP_seq ?_
        refine WP_region ?_
        obtain ⟨x19, hx20, hs14⟩ := bind_some hs14
        refine XL_indexH H17.ctx (hp0) hx20 u65 i48 rfl rfl rfl rfl (fun b21 off22 cap23 hv24 => ?_)
        obtain ⟨F25, hat26, hdup27⟩ := H17.at (hp0) hx20 hv24
        refine XL_load (t := (.slice (.pair (.int .i64) (.int .i64)))) u48 rfl rfl hat26 rfl rfl rfl (fun v28 hr29 => ?_)
        have H30 : Holds (([] : List Res).flatMap Res.own) w w13 [.ro (.pair (.int .i64) (.int .i64)) v28 x19] G := hdup27 _ _ _ _ hr29 (fun _ h => h)
        refine XL_q rfl (qt_assign rfl) rfl rfl ?_
        refine WL_nil_seq ?_
        refine WP_seq ?_
        refine WP_region ?_
        refine XL_q rfl (qt_move rfl) rfl rfl ?_
        refine XL_lenH H30.ctx (t := (.pair (.int .i64) (.int .i64))) (HasRo.has (HasRo.hd)) u48 rfl rfl rfl ?_
        refine XL_q rfl (qt_move rfl) rfl rfl ?_
        refine WL_nil_seq ?_
        refine WP_block ?_
        obtain ⟨o33, ho34, hs14⟩ := bind_some hs14
        refine fun a35 ha36 => wp_loop_fix (I := fun s a w2 => match s with | (s31, s32) => (Fr a 34 [(3, .int .i64 s31), (11, vp0), (12, .int .i64 (List.length p0 : Int)), (13, .int .i64 s8), (17, v28), (18, .int .i64 (List.length x19 : Int)), (19, .int .i64 s32)] ∧ Holds (([] : List Res).flatMap Res.own) w w2 [.ro (.pair (.int .i64) (.int .i64)) v28 x19] G)) (O := fun o e a w2 => match o with | q0 => e = .exit 2 ∧ (Fr a 34 [(3, .int .i64 q0), (11, vp0), (12, .int .i64 (List.length p0 : Int)), (13, .int .i64 s8)] ∧ Holds (([] : List Res).flatMap Res.own) w w2 [] G)) ho34 ?_ ?_ ?_
        · exact ⟨ha36.sub ⟨rfl, rfl, rfl, rfl, rfl, rfl, rfl, trivial⟩, H30⟩
        · clear ha36
          intro s o39 a w37 hs38 hI40
          obtain ⟨s31, s32⟩ := s
          obtain ⟨ha, H41⟩ := hI40
          refine WP.app ?_ ha
          clear ha
          refine WP_seq ?_
          refine WP_region ?_
          refine XL_q rfl (qt_lss rfl rfl) rfl rfl ?_
          refine WL_nil_seq ?_
          refine WP_seq ?_
          refine WP_cond rfl (fun hc42 => ?_) (fun hc42 => ?_)
          · have hs38 := if_t hc42 hs38
            refine WP_skip_seq ?_
            refine WP_seq ?_
            refine WP_block ?_
            refine WP_seq ?_
            refine WP_region ?_
            obtain ⟨x43, hx44, hs38⟩ := bind_some hs38
            refine XL_indexH H41.ctx (HasRo.has (HasRo.hd)) hx44 u48 i63 rfl rfl rfl rfl (fun b45 off46 cap47 hv48 => ?_)
            obtain ⟨F49, hat50, hdup51⟩ := H41.atN (HasRo.has (HasRo.hd)) hx44 hv48
            refine XL_load_agg (t := (.pair (.int .i64) (.int .i64))) us63 uo63 i63 hat50 rfl rfl rfl (fun cs52 hr53 => ?_)
            obtain ⟨c54, c55, F56, F57, rfl, eF60, hr58, hr59⟩ := hr53
            obtain ⟨rfl, _⟩ := hr58
            obtain ⟨rfl, _⟩ := hr59
            change XL _ _ _ _ _ ((22, .agg #[.int .i64 x43.1, .int .i64 x43.2]) :: _) _
            refine WL_alloc (cs := [.int .i64 0, .int .i64 0]) H41 z63 rfl rfl rfl (fun b61 w62 H63 => ?_)
            have H64 : Holds (([] : List Res).flatMap Res.own) w w62 [.bx b61 63 [.int .i64 0, .int .i64 0], .ro (.pair (.int .i64) (.int .i64)) v28 x19] G := H63
            refine WL_store_bxA (cs' := [.int .i64 x43.1, .int .i64 x43.2]) H64 rfl il63 rfl rfl rfl rfl rfl (fun w65 H66 => ?_)
            have H67 : Holds (([] : List Res).flatMap Res.own) w w65 [.bx b61 63 [.int .i64 x43.1, .int .i64 x43.2], .ro (.pair (.int .i64) (.int .i64)) v28 x19] G := H66
            refine WL_nil_seq ?_
            refine WP_seq ?_
            refine WP_still ?_
            have hB68 : Bx w65 b61 63 [.int .i64 x43.1, .int .i64 x43.2] := Holds.bx (H67.pull 0)
            refine XL_load_bxA (cs := [.int .i64 x43.1, .int .i64 x43.2]) us63 uo63 il63 hB68 rfl rfl rfl ?_
            change XL _ _ _ _ _ ((23, .agg #[.int .i64 x43.1, .int .i64 x43.2]) :: _) _
            obtain ⟨x69, hx70, hs38⟩ := bind_some hs38
            refine QL_call rfl rfl c64 (fun w' hb => (w_impl_finished w' ([.bx b61 63 [.int .i64 x43.1, .int .i64 x43.2], .ro (.pair (.int .i64) (.int .i64)) v28 x19] ++ G) x43.1 x43.2 x69 hx70 (H67.grow hb).ctx).mono fun e w'' hK => ⟨hK.1, hK.2.bel⟩) (by rfl) ?_
            refine XL_q rfl (qt_not rfl) rfl rfl ?_
            refine QL_nil fun a ha w71 hb72 => ?_
            have H73 : Holds (([] : List Res).flatMap Res.own) w w71 [.bx b61 63 [.int .i64 x43.1, .int .i64 x43.2], .ro (.pair (.int .i64) (.int .i64)) v28 x19] G := H67.grow hb72
            refine nrm_seq (WP.app ?_ ha)
            refine WP_cond rfl (fun hc74 => ?_) (fun hc74 => ?_)
            · have hs38 := if_t hc74 hs38
              refine WP_region ?_
              refine XL_q rfl (qt_move rfl) rfl rfl ?_
              refine XL_q rfl (qt_fieldAddr uf63 fi63_1 nz3 rfl) rfl rfl ?_
              have hB75 : Bx w71 b61 63 [.int .i64 x43.1, .int .i64 x43.2] := Holds.bx (H73.pull 0)
              refine XL_load_bx u3 rfl hB75 rfl rfl rfl rfl ?_
              refine XL_q rfl (qt_sub rfl rfl) rfl rfl ?_
              refine XL_q rfl (qt_add rfl rfl) rfl rfl ?_
              refine XL_q rfl (qt_assign rfl) rfl rfl ?_
              refine WL_nil fun a ha => ?_
              refine nrm_block (nrm_seq (WP.app ?_ ha))
              refine WP_region ?_
              refine XL_q rfl (qt_add rfl rfl) rfl rfl ?_
              refine XL_q rfl (qt_move rfl) rfl rfl ?_
              refine WL_nil fun a ha => ?_
              obtain rfl := Option.some.inj hs38
              have H76 : Holds (([] : List Res).flatMap Res.own) w w71 [.ro (.pair (.int .i64) (.int .i64)) v28 x19] G := (H73.cut 0)
              exact ⟨rfl, ha.sub ⟨rfl, rfl, rfl, rfl, rfl, rfl, rfl, trivial⟩, H76⟩
            · have hs38 := if_f hc74 hs38
              refine WP_skip fun a ha => ?_
              refine nrm_block (nrm_seq (WP.app ?_ ha))
              refine WP_region ?_
              refine XL_q rfl (qt_add rfl rfl) rfl rfl ?_
              refine XL_q rfl (qt_move rfl) rfl rfl ?_
              refine WL_nil fun a ha => ?_
              obtain rfl := Option.some.inj hs38
              have H77 : Holds (([] : List Res).flatMap Res.own) w w71 [.ro (.pair (.int .i64) (.int .i64)) v28 x19] G := (H73.cut 0)
              exact ⟨rfl, ha.sub ⟨rfl, rfl, rfl, rfl, rfl, rfl, rfl, trivial⟩, H77⟩
          · have hs38 := if_f hc42 hs38
            refine WP_exit fun a ha => ?_
            obtain rfl := Option.some.inj hs38
            have H78 : Holds (([] : List Res).flatMap Res.own) w w37 [] G := (H41.cut 0)
            exact exit_seq (⟨exit_ne, rfl, ha.sub ⟨rfl, rfl, rfl, rfl, trivial⟩, H78⟩)
        · intro e a35 w79 hO80
          obtain ⟨p81, rfl⟩ : ∃ z, z = o33 := ⟨o33, rfl⟩
          obtain ⟨rfl, hO83⟩ := hO80
          obtain ⟨ha, H82⟩ := hO83
          refine exit_block_eq (nrm_block (nrm_seq (WP.app ?_ ha)))
          refine WP_region ?_
          refine XL_q rfl (qt_add rfl rfl) rfl rfl ?_
          refine XL_q rfl (qt_move rfl) rfl rfl ?_
          refine WL_nil fun a ha => ?_
          obtain rfl := Option.some.inj hs14
          exact ⟨rfl, ha.sub ⟨rfl, rfl, rfl, rfl, trivial⟩, H82⟩
      · have hs14 := if_f hc18 hs14
        refine WP_exit fun a ha => ?_
        obtain rfl := Option.some.inj hs14
        exact exit_seq (⟨exit_ne, rfl, ha.sub ⟨rfl, trivial⟩, H17⟩)
    · intro e a11 w84 hO85
      obtain ⟨p86, rfl⟩ : ∃ z, z = o9 := ⟨o9, rfl⟩
      obtain ⟨rfl, hO88⟩ := hO85
      obtain ⟨ha, H87⟩ := hO88
      refine exit_block_eq (nrm_seq (WP.app ?_ ha))
      refine WP_seq ?_
      refine WP_region ?_
      refine XL_q rfl (qt_move rfl) rfl rfl ?_
      refine XL_q rfl (qt_assign rfl) rfl rfl ?_
      refine WL_nil_seq ?_
      refine WP_ret fun a ha => ?_
      obtain rfl := Option.some.inj h
      exact ret1 rfl ha rfl ⟨rfl, H87⟩
end Go.Proofs.Ytcjkbcdlpfgbgaa
