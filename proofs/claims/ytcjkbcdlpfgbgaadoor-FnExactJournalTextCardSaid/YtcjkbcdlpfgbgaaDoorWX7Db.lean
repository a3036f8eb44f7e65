/- The walks: each Go function computes its shallow function. Printed by a program. -/
import Derived.Test.YtcjkbcdlpfgbgaaDoorShX7Db
set_option linter.unusedVariables false
set_option maxRecDepth 10000
namespace Go.Proofs.YtcjkbcdlpfgbgaaDoor
open Go Go.RowKit
theorem i23 : (Tryd.prog.info? 23).map (·.size) = some (Ty.size (.pair (.int .i64) (.pair (.int .i64) (.pair (.int .i64) (.int .i64))))) := by kernel_rfl
theorem u32 : Tryd.prog.underlying 32 = some (.slice 23) := by kernel_rfl
theorem c13 : Callable Tryd.prog 13 := ⟨Tryd.f13, Tryd.func13, by kernel_rfl, by kernel_rfl⟩
theorem c14 : Callable Tryd.prog 14 := ⟨Tryd.f14, Tryd.func14, by kernel_rfl, by kernel_rfl⟩
theorem c15 : Callable Tryd.prog 15 := ⟨Tryd.f15, Tryd.func15, by kernel_rfl, by kernel_rfl⟩
theorem c16 : Callable Tryd.prog 16 := ⟨Tryd.f16, Tryd.func16, by kernel_rfl, by kernel_rfl⟩
theorem w_laws_szHouseDeedS (w : World) (G : List Res) (vp0 : Value) (p0 : List (Int × Int × Int × Int)) (hp0 : Has G (.pair (.int .i64) (.pair (.int .i64) (.pair (.int .i64) (.int .i64)))) vp0 p0) (p1 : Int) (r : Int) (h : laws_szHouseDeedSS p0 p1 = some r) (H : Ctx w G) : Calls Tryd.prog 13 #[vp0, .int .i64 p1] w fun e w' => e = .returned (.int .i64 r) ∧ Holds (([] : List Res).flatMap Res.own) w w' [] G := by
  have H : Holds (([] : List Res).flatMap Res.own) w w [] G := Holds.startN H
  refine calls_enter (args := [vp0, .int .i64 p1]) (n := 12) Tryd.func13 rfl rfl rfl ?_
  unfold laws_szHouseDeedSS at h
  refine WP_seq ?_
  refine WP_region ?_
  refine XL_q rfl (qt_assign rfl) rfl rfl ?_
  refine WL_nil_seq ?_
  refine WP_seq ?_
  refine WP_region ?_
  refine XL_q rfl (qt_move rfl) rfl rfl ?_
  refine XL_q rfl (qt_move rfl) rfl rfl ?_
  refine XL_lenH H.ctx (t := (.pair (.int .i64) (.pair (.int .i64) (.pair (.int .i64) (.int .i64))))) (hp0) u32 rfl rfl rfl ?_
  refine XL_q rfl (qt_sub rfl rfl) rfl rfl ?_
  refine XL_q rfl (qt_assign rfl) rfl rfl ?_
  refine WL_nil_seq ?_
  refine WP_seq ?_
  refine WP_seq ?_
  refine WP_region ?_
  refine XL_q rfl (qt_move rfl) rfl rfl ?_
  refine XL_q rfl (qt_lss rfl rfl) rfl rfl ?_
  refine WL_nil_seq ?_
  refine WP_cond rfl (fun hc1 => ?_) (fun hc1 => ?_)
  · have h := if_t hc1 h
    refine WP_seq ?_
    refine WP_region ?_
    refine XL_q rfl (qt_assign rfl) rfl rfl ?_
    refine WL_nil_seq ?_
    refine WP_ret fun a ha => ?_
    obtain rfl := Option.some.inj h
    exact ret_seq (ret1 rfl ha rfl ⟨rfl, H⟩)
  · have h := if_f hc1 h
    refine WP_skip_seq ?_
    refine WP_seq ?_
    refine WP_region ?_
    refine XL_q rfl (qt_move rfl) rfl rfl ?_
    refine XL_q rfl (qt_assign rfl) rfl rfl ?_
    refine WL_nil_seq ?_
    refine WP_ret fun a ha => ?_
    obtain rfl := Option.some.inj h
    exact ret1 rfl ha rfl ⟨rfl, H⟩
theorem w_laws_toHouseDeedS (w : World) (G : List Res) (vp0 : Value) (p0 : List (Int × Int × Int × Int)) (hp0 : Has G (.pair (.int .i64) (.pair (.int .i64) (.pair (.int .i64) (.int .i64)))) vp0 p0) (r : (List (Int × Int × Int × Int))) (h : laws_toHouseDeedSS p0 = some r) (H : Ctx w G) : Calls Tryd.prog 15 #[vp0] w fun e w' => ∃ (v1 : Value), e = .returned (v1) ∧ Holds (([] : List Res).flatMap Res.own) w w' [.sl 25 (.pair (.int .i64) (.pair (.int .i64) (.pair (.int .i64) (.int .i64)))) v1 r] G := by
  have H : Holds (([] : List Res).flatMap Res.own) w w [] G := Holds.startN H
  refine calls_enter (args := [vp0]) (n := 23) Tryd.func15 rfl rfl rfl ?_
  unfold laws_toHouseDeedSS at h
  refine WP_seq ?_
  refine WP_region ?_
  refine XL_q rfl (qt_assign rfl) rfl rfl ?_
  refine WL_nil_seq ?_
  refine WP_seq ?_
  refine WP_region ?_
  refine XL_q rfl (qt_move rfl) rfl rfl ?_
  refine XL_lenH H.ctx (t := (.pair (.int .i64) (.pair (.int .i64) (.pair (.int .i64) (.int .i64))))) (hp0) u32 rfl rfl rfl ?_
  obtain ⟨x1, hx2, h⟩ := bind_some h
  refine WL_makeH H hx2 u35 j25 rfl (fun _ => ⟨_, _, [], [], rfl, rfl, ⟨rfl, rfl⟩, ⟨_, _, [], [], rfl, rfl, ⟨rfl, rfl⟩, ⟨_, _, [], [], rfl, rfl, ⟨rfl, rfl⟩, ⟨rfl, rfl⟩⟩⟩⟩) rfl rfl rfl rfl rfl (fun v3 w4 H5 => ?_)
  have H6 : Holds (([] : List Res).flatMap Res.own) w w4 [.sl 25 (.pair (.int .i64) (.pair (.int .i64) (.pair (.int .i64) (.int .i64)))) v3 x1] G := H5
  refine XL_q rfl (qt_assign rfl) rfl rfl ?_
  refine WL_nil_seq ?_
  refine WP_seq ?_
  refine WP_seq ?_
  refine WP_region ?_
  refine XL_q rfl (qt_assign rfl) rfl rfl ?_
  refine WL_nil_seq ?_
  refine WP_block ?_
  obtain ⟨o9, ho10, h⟩ := bind_some h
  refine fun a11 ha12 => wp_loop_fix (I := fun s a w2 => match s with | (s7, s8) => (Fr a 23 [(0, vp0), (3, v3), (4, .int .i64 s7)] ∧ Holds (([] : List Res).flatMap Res.own) w w2 [.sl 25 (.pair (.int .i64) (.pair (.int .i64) (.pair (.int .i64) (.int .i64)))) v3 s8] G)) (O := fun o e a w2 => match o with | q0 => e = .exit 0 ∧ (Fr a 23 [(3, v3)] ∧ Holds (([] : List Res).flatMap Res.own) w w2 [.sl 25 (.pair (.int .i64) (.pair (.int .i64) (.pair (.int .i64) (.int .i64)))) v3 q0] G)) ho10 ?_ ?_ ?_
  · exact ⟨ha12.sub ⟨rfl, rfl, rfl, trivial⟩, H6⟩
  · clear ha12
    intro s o15 a w13 hs14 hI16
    obtain ⟨s7, s8⟩ := s
    obtain ⟨ha, H17⟩ := hI16
    refine WP.app ?_ ha
    clear ha
    refine WP_seq ?_
    refine WP_seq ?_
    refine WP_region ?_
    refine XL_q rfl (qt_move rfl) rfl rfl ?_
    refine XL_q rfl (qt_move rfl) rfl rfl ?_
    refine XL_lenH H17.ctx (t := (.pair (.int .i64) (.pair (.int .i64) (.pair (.int .i64) (.int .i64))))) (hp0.c) u32 rfl rfl rfl ?_
    refine XL_q rfl (qt_lss rfl rfl) rfl rfl ?_
    refine WL_nil_seq ?_
    refine WP_cond rfl (fun hc18 => ?_) (fun hc18 => ?_)
    · have hs14 := if_t hc18 hs14
      refine WP_skip_seq ?_
      refine WP_seq ?_
      refine WP_block ?_
      refine WP_region ?_
      refine XL_q rfl (qt_move rfl) rfl rfl ?_
      refine XL_q rfl (qt_move rfl) rfl rfl ?_
      refine XL_q rfl (qt_move rfl) rfl rfl ?_
      refine XL_q rfl (qt_move rfl) rfl rfl ?_
      obtain ⟨x19, hx20, hs14⟩ := bind_some hs14
      refine XL_indexH H17.ctx (hp0.c) hx20 u32 i23 rfl rfl rfl rfl (fun b21 off22 cap23 hv24 => ?_)
      obtain ⟨F25, hat26, hdup27⟩ := H17.atN (hp0.c) hx20 hv24
      refine XL_load_agg (t := (.pair (.int .i64) (.pair (.int .i64) (.pair (.int .i64) (.int .i64))))) us23 uo23 i23 hat26 rfl rfl rfl (fun cs28 hr29 => ?_)
      obtain ⟨c30, c31, F32, F33, rfl, eF36, hr34, hr35⟩ := hr29
      obtain ⟨rfl, _⟩ := hr34
      obtain ⟨c37, c38, F39, F40, rfl, eF43, hr41, hr42⟩ := hr35
      obtain ⟨rfl, _⟩ := hr41
      obtain ⟨c44, c45, F46, F47, rfl, eF50, hr48, hr49⟩ := hr42
      obtain ⟨rfl, _⟩ := hr48
      obtain ⟨rfl, _⟩ := hr49
      change XL _ _ _ _ _ ((19, .agg #[.int .i64 x19.1, .int .i64 x19.2.1, .int .i64 x19.2.2.1, .int .i64 x19.2.2.2]) :: _) _
      obtain ⟨x51, hx52, hs14⟩ := bind_some hs14
      refine WL_call rfl rfl c8 (w_laws_toHouseDeed w13 ([.sl 25 (.pair (.int .i64) (.pair (.int .i64) (.pair (.int .i64) (.int .i64)))) v3 s8] ++ G) x19.1 x19.2.1 x19.2.2.1 x19.2.2.2 x51 hx52 H17.ctx) (by rfl) ?_
      rintro _ w53 ⟨rfl, H54⟩; refine ⟨_, rfl, ?_⟩
      have H55 : Holds (([] : List Res).flatMap Res.own) w w53 [.sl 25 (.pair (.int .i64) (.pair (.int .i64) (.pair (.int .i64) (.int .i64)))) v3 s8] G := H17.calledN (Rs := []) H54
      obtain ⟨x56, hx57, hs14⟩ := bind_some hs14
      refine XL_indexH H55.ctx (Has.hd) hx57 u35 i25 rfl rfl rfl rfl (fun b58 off59 cap60 hv61 => ?_)
      refine WL_storeH (fo := 0) (cs' := [.int .i64 x51.1, .int .i64 x51.2.1, .int .i64 x51.2.2.1, .int .i64 x51.2.2.2]) H55 hx57 hv61 (Upd.whole (Blt.pair (Blt.int) (Blt.pair (Blt.int) (Blt.pair (Blt.int) (Blt.int))))) rfl il25 rfl rfl rfl rfl (fun w62 H63 => ?_)
      have H64 : Holds (([] : List Res).flatMap Res.own) w w62 [.sl 25 (.pair (.int .i64) (.pair (.int .i64) (.pair (.int .i64) (.int .i64)))) v3 (List.set s8 (Int.toNat s7) (x51.1, x51.2.1, x51.2.2.1, x51.2.2.2))] G := H63
      refine WL_nil fun a ha => ?_
      refine nrm_block (nrm_seq (WP.app ?_ ha))
      refine WP_region ?_
      refine XL_q rfl (qt_move rfl) rfl rfl ?_
      refine XL_q rfl (qt_add rfl rfl) rfl rfl ?_
      refine XL_q rfl (qt_assign rfl) rfl rfl ?_
      refine WL_nil fun a ha => ?_
      obtain rfl := Option.some.inj hs14
      exact ⟨rfl, ha.sub ⟨rfl, rfl, rfl, trivial⟩, H64⟩
    · have hs14 := if_f hc18 hs14
      refine WP_exit fun a ha => ?_
      obtain rfl := Option.some.inj hs14
      exact exit_seq (⟨exit_ne, rfl, ha.sub ⟨rfl, trivial⟩, H17⟩)
  · intro e a11 w65 hO66
    obtain ⟨p67, rfl⟩ : ∃ z, z = o9 := ⟨o9, rfl⟩
    obtain ⟨rfl, hO69⟩ := hO66
    obtain ⟨ha, H68⟩ := hO69
    refine exit_block_eq (nrm_seq (WP.app ?_ ha))
    refine WP_seq ?_
    refine WP_region ?_
    refine XL_q rfl (qt_move rfl) rfl rfl ?_
    refine XL_q rfl (qt_assign rfl) rfl rfl ?_
    refine WL_nil_seq ?_
    refine WP_ret fun a ha => ?_
    obtain rfl := Option.some.inj h
    exact ret1 rfl ha rfl ⟨v3, rfl, H68⟩
theorem w_spec_JournalText (w : World) (G : List Res) (vp0 : Value) (p0 : List (Int × Int × Int × Int)) (hp0 : Has G (.pair (.int .i64) (.pair (.int .i64) (.pair (.int .i64) (.int .i64)))) vp0 p0) (r : (List UInt8)) (h : spec_JournalTextS p0 = some r) (H : Ctx w G) : Calls Tryd.prog 14 #[vp0] w fun e w' => e = .returned (strV r) ∧ Holds (([] : List Res).flatMap Res.own) w w' [] G := by
  have H : Holds (([] : List Res).flatMap Res.own) w w [] G := Holds.startN H
  refine calls_enter (args := [vp0]) (n := 26) Tryd.func14 rfl rfl rfl ?_
  unfold spec_JournalTextS at h
  refine WP_seq ?_
  refine WP_region ?_
  refine XL_q rfl (qt_assign rfl) rfl rfl ?_
  refine WL_nil_seq ?_
  refine WP_seq ?_
  refine WP_region ?_
  refine XL_q rfl (qt_assign rfl) rfl rfl ?_
  refine WL_nil_seq ?_
  refine WP_seq ?_
  refine WP_seq ?_
  refine WP_region ?_
  refine XL_q rfl (qt_assign rfl) rfl rfl ?_
  refine WL_nil_seq ?_
  refine WP_block ?_
  obtain ⟨o3, ho4, h⟩ := bind_some h
  refine fun a5 ha6 => wp_loop_fix (I := fun s a w2 => match s with | (s1, s2) => (Fr a 26 [(0, vp0), (3, strV s1), (4, .int .i64 s2)] ∧ Holds (([] : List Res).flatMap Res.own) w w2 [] G)) (O := fun o e a w2 => match o with | .inl q0 => e = .exit 0 ∧ (Fr a 26 [(3, strV q0)] ∧ Holds (([] : List Res).flatMap Res.own) w w2 [] G) | .inr q0 => e = .ret ∧ (Fr a 26 [(2, strV q0)] ∧ Holds (([] : List Res).flatMap Res.own) w w2 [] G)) ho4 ?_ ?_ ?_
  · exact ⟨ha6.sub ⟨rfl, rfl, rfl, trivial⟩, H⟩
  · clear ha6
    intro s o9 a w7 hs8 hI10
    obtain ⟨s1, s2⟩ := s
    obtain ⟨ha, H11⟩ := hI10
    refine WP.app ?_ ha
    clear ha
    refine WP_seq ?_
    refine WP_seq ?_
    refine WP_region ?_
    refine XL_q rfl (qt_move rfl) rfl rfl ?_
    refine XL_q rfl (qt_move rfl) rfl rfl ?_
    refine XL_lenH H11.ctx (t := (.pair (.int .i64) (.pair (.int .i64) (.pair (.int .i64) (.int .i64))))) (hp0) u35 rfl rfl rfl ?_
    refine XL_q rfl (qt_lss rfl rfl) rfl rfl ?_
    refine WL_nil_seq ?_
    refine WP_cond rfl (fun hc12 => ?_) (fun hc12 => ?_)
    · have hs8 := if_t hc12 hs8
      refine WP_skip_seq ?_
      refine WP_seq ?_
      refine WP_block ?_
      refine WP_seq ?_
      refine WP_seq ?_
      refine WP_still ?_
      refine XL_q rfl (qt_move rfl) rfl rfl ?_
      refine XL_q rfl (qt_move rfl) rfl rfl ?_
      obtain ⟨x13, hx14, hs8⟩ := bind_some hs8
      refine XL_indexH H11.ctx (hp0) hx14 u35 i25 rfl rfl rfl rfl (fun b15 off16 cap17 hv18 => ?_)
      obtain ⟨F19, hat20, hdup21⟩ := H11.atN (hp0) hx14 hv18
      refine XL_load_agg (t := (.pair (.int .i64) (.pair (.int .i64) (.pair (.int .i64) (.int .i64))))) us25 uo25 i25 hat20 rfl rfl rfl (fun cs22 hr23 => ?_)
      obtain ⟨c24, c25, F26, F27, rfl, eF30, hr28, hr29⟩ := hr23
      obtain ⟨rfl, _⟩ := hr28
      obtain ⟨c31, c32, F33, F34, rfl, eF37, hr35, hr36⟩ := hr29
      obtain ⟨rfl, _⟩ := hr35
      obtain ⟨c38, c39, F40, F41, rfl, eF44, hr42, hr43⟩ := hr36
      obtain ⟨rfl, _⟩ := hr42
      obtain ⟨rfl, _⟩ := hr43
      change XL _ _ _ _ _ ((14, .agg #[.int .i64 x13.1, .int .i64 x13.2.1, .int .i64 x13.2.2.1, .int .i64 x13.2.2.2]) :: _) _
      obtain ⟨x45, hx46, hs8⟩ := bind_some hs8
      refine QL_call rfl rfl c7 (fun w' hb => (w_spec_DeedText w' G x13.1 x13.2.1 x13.2.2.1 x13.2.2.2 x45 hx46 (H11.grow hb).ctx).mono fun e w'' hK => ⟨hK.1, hK.2.bel⟩) (by rfl) ?_
      refine XL_q rfl (qt_seql rfl rfl) rfl rfl ?_
      refine QL_nil fun a ha w47 hb48 => ?_
      have H49 : Holds (([] : List Res).flatMap Res.own) w w47 [] G := H11.grow hb48
      refine nrm_seq (WP.app ?_ ha)
      refine WP_cond rfl (fun hc50 => ?_) (fun hc50 => ?_)
      · have hs8 := if_t hc50 hs8
        refine WP_seq ?_
        refine WP_region ?_
        refine XL_q rfl (qt_assign rfl) rfl rfl ?_
        refine WL_nil_seq ?_
        refine WP_ret fun a ha => ?_
        obtain rfl := Option.some.inj hs8
        exact ret_seq (ret_block (ret_seq (⟨ret_ne, rfl, ha.sub ⟨rfl, trivial⟩, H49⟩)))
      · have hs8 := if_f hc50 hs8
        refine WP_skip_seq ?_
        refine WP_still ?_
        refine XL_q rfl (qt_move rfl) rfl rfl ?_
        refine XL_q rfl (qt_move rfl) rfl rfl ?_
        refine XL_q rfl (qt_move rfl) rfl rfl ?_
        obtain ⟨x51, hx52, hs8⟩ := bind_some hs8
        refine XL_indexH H49.ctx (hp0) hx52 u35 i25 rfl rfl rfl rfl (fun b53 off54 cap55 hv56 => ?_)
        obtain ⟨F57, hat58, hdup59⟩ := H49.atN (hp0) hx52 hv56
        refine XL_load_agg (t := (.pair (.int .i64) (.pair (.int .i64) (.pair (.int .i64) (.int .i64))))) us25 uo25 i25 hat58 rfl rfl rfl (fun cs60 hr61 => ?_)
        obtain ⟨c62, c63, F64, F65, rfl, eF68, hr66, hr67⟩ := hr61
        obtain ⟨rfl, _⟩ := hr66
        obtain ⟨c69, c70, F71, F72, rfl, eF75, hr73, hr74⟩ := hr67
        obtain ⟨rfl, _⟩ := hr73
        obtain ⟨c76, c77, F78, F79, rfl, eF82, hr80, hr81⟩ := hr74
        obtain ⟨rfl, _⟩ := hr80
        obtain ⟨rfl, _⟩ := hr81
        change XL _ _ _ _ _ ((21, .agg #[.int .i64 x51.1, .int .i64 x51.2.1, .int .i64 x51.2.2.1, .int .i64 x51.2.2.2]) :: _) _
        obtain ⟨x83, hx84, hs8⟩ := bind_some hs8
        refine QL_call rfl rfl c7 (fun w' hb => (w_spec_DeedText w' G x51.1 x51.2.1 x51.2.2.1 x51.2.2.2 x83 hx84 (H49.grow hb).ctx).mono fun e w'' hK => ⟨hK.1, hK.2.bel⟩) (by rfl) ?_
        obtain ⟨x85, hx86, hs8⟩ := bind_some hs8
        refine XL_q rfl (qt_sadd rfl rfl hx86) rfl rfl ?_
        obtain ⟨x87, hx88, hs8⟩ := bind_some hs8
        refine XL_q rfl (qt_sadd rfl rfl hx88) rfl rfl ?_
        refine XL_q rfl (qt_assign rfl) rfl rfl ?_
        refine QL_nil fun a ha w89 hb90 => ?_
        have H91 : Holds (([] : List Res).flatMap Res.own) w w89 [] G := H49.grow hb90
        refine nrm_block (nrm_seq (WP.app ?_ ha))
        refine WP_region ?_
        refine XL_q rfl (qt_move rfl) rfl rfl ?_
        refine XL_q rfl (qt_add rfl rfl) rfl rfl ?_
        refine XL_q rfl (qt_assign rfl) rfl rfl ?_
        refine WL_nil fun a ha => ?_
        obtain rfl := Option.some.inj hs8
        exact ⟨rfl, ha.sub ⟨rfl, rfl, rfl, trivial⟩, H91⟩
    · have hs8 := if_f hc12 hs8
      refine WP_exit fun a ha => ?_
      obtain rfl := Option.some.inj hs8
      exact exit_seq (⟨exit_ne, rfl, ha.sub ⟨rfl, trivial⟩, H11⟩)
  · intro e a5 w92 hO93
    rcases o3 with o3 | o3
    · skip
      obtain ⟨p94, rfl⟩ : ∃ z, z = o3 := ⟨o3, rfl⟩
      obtain ⟨rfl, hO96⟩ := hO93
      obtain ⟨ha, H95⟩ := hO96
      refine exit_block_eq (nrm_seq (WP.app ?_ ha))
      refine WP_seq ?_
      refine WP_region ?_
      refine XL_q rfl (qt_move rfl) rfl rfl ?_
      refine XL_q rfl (qt_assign rfl) rfl rfl ?_
      refine WL_nil_seq ?_
      refine WP_ret fun a ha => ?_
      obtain rfl := Option.some.inj h
      exact ret1 rfl ha rfl ⟨rfl, H95⟩
    · skip
      obtain ⟨p97, rfl⟩ : ∃ z, z = o3 := ⟨o3, rfl⟩
      obtain ⟨rfl, hO99⟩ := hO93
      obtain ⟨ha, H98⟩ := hO99
      obtain rfl := Option.some.inj h
      exact ret_block (ret_seq (ret1 rfl ha rfl ⟨rfl, H98⟩))
theorem w_laws_FnExactJournalText (w : World) (G : List Res) (hGl : Glob G) (hGp : GlobP G) (vp0 : Value) (p0 : List (Int × Int × Int × Int)) (hp0 : Has G (.pair (.int .i64) (.pair (.int .i64) (.pair (.int .i64) (.int .i64)))) vp0 p0) (r : Bool) (h : laws_FnExactJournalTextS p0 = some r) (H : Ctx w G) : Calls Tryd.prog 5 #[vp0] w fun e w' => e = .returned (.bool r) ∧ Holds (([] : List Res).flatMap Res.own) w w' [] G := by
  have H : Holds (([] : List Res).flatMap Res.own) w w [] G := Holds.startN H
  refine calls_enter (args := [vp0]) (n := 27) Tryd.func5 rfl rfl rfl ?_
  unfold laws_FnExactJournalTextS at h
  refine WP_seq ?_
  refine WP_region ?_
  refine XL_q rfl (qt_assign rfl) rfl rfl ?_
  refine WL_nil_seq ?_
  refine WP_seq ?_
  refine WP_region ?_
  refine XL_q rfl (qt_assign rfl) rfl rfl ?_
  refine WL_nil_seq ?_
  refine WP_seq ?_
  refine WP_still ?_
  refine XL_q rfl (qt_move rfl) rfl rfl ?_
  refine XL_q rfl (qt_move rfl) rfl rfl ?_
  obtain ⟨x1, hx2, h⟩ := bind_some h
  refine QL_call rfl rfl c13 (fun w' hb => (w_laws_szHouseDeedS w' G vp0 p0 (hp0) 1048576 x1 hx2 (H.grow hb).ctx).mono fun e w'' hK => ⟨hK.1, hK.2.bel⟩) (by rfl) ?_
  refine XL_q rfl (qt_assign rfl) rfl rfl ?_
  refine QL_nil fun a ha w3 hb4 => ?_
  have H5 : Holds (([] : List Res).flatMap Res.own) w w3 [] G := H.grow hb4
  refine nrm_seq (WP.app ?_ ha)
  refine WP_seq ?_
  refine WP_seq ?_
  refine WP_region ?_
  refine XL_q rfl (qt_move rfl) rfl rfl ?_
  refine XL_q rfl (qt_lss rfl rfl) rfl rfl ?_
  refine WL_nil_seq ?_
  refine WP_cond rfl (fun hc6 => ?_) (fun hc6 => ?_)
  · have h := if_t hc6 h
    refine WP_seq ?_
    refine WP_region ?_
    refine XL_q rfl (qt_assign rfl) rfl rfl ?_
    refine WL_nil_seq ?_
    refine WP_ret fun a ha => ?_
    obtain rfl := Option.some.inj h
    exact ret_seq (ret1 rfl ha rfl ⟨rfl, H5⟩)
  · have h := if_f hc6 h
    refine WP_skip_seq ?_
    refine WP_seq ?_
    refine WP_region ?_
    refine XL_q rfl (qt_move rfl) rfl rfl ?_
    obtain ⟨x7, hx8, h⟩ := bind_some h
    refine WL_call rfl rfl c15 (w_laws_toHouseDeedS w3 G vp0 p0 (hp0) x7 hx8 H5.ctx) (by rfl) ?_
    rintro _ w9 ⟨v11, rfl, H10⟩; refine ⟨_, rfl, ?_⟩
    have H12 : Holds (([] : List Res).flatMap Res.own) w w9 [.sl 25 (.pair (.int .i64) (.pair (.int .i64) (.pair (.int .i64) (.int .i64)))) v11 x7] G := H5.calledN (Rs := []) H10
    obtain ⟨x13, hx14, h⟩ := bind_some h
    refine WL_call rfl rfl c14 (w_spec_JournalText w9 ([.sl 25 (.pair (.int .i64) (.pair (.int .i64) (.pair (.int .i64) (.int .i64)))) v11 x7] ++ G) v11 x7 (Has.hd) x13 hx14 H12.ctx) (by rfl) ?_
    rintro _ w15 ⟨rfl, H16⟩; refine ⟨_, rfl, ?_⟩
    have H17 : Holds (([] : List Res).flatMap Res.own) w w15 [.sl 25 (.pair (.int .i64) (.pair (.int .i64) (.pair (.int .i64) (.int .i64)))) v11 x7] G := H12.calledN (Rs := []) H16
    refine XL_q rfl (qt_assign rfl) rfl rfl ?_
    refine WL_nil_seq ?_
    refine WP_seq ?_
    refine WP_region ?_
    refine XL_q rfl (qt_move rfl) rfl rfl ?_
    obtain ⟨x18, hx19, h⟩ := bind_some h
    refine WL_call rfl rfl c15 (w_laws_toHouseDeedS w15 ([.sl 25 (.pair (.int .i64) (.pair (.int .i64) (.pair (.int .i64) (.int .i64)))) v11 x7] ++ G) vp0 p0 (hp0.c) x18 hx19 H17.ctx) (by rfl) ?_
    rintro _ w20 ⟨v22, rfl, H21⟩; refine ⟨_, rfl, ?_⟩
    have H23 : Holds (([] : List Res).flatMap Res.own) w w20 [.sl 25 (.pair (.int .i64) (.pair (.int .i64) (.pair (.int .i64) (.int .i64)))) v22 x18, .sl 25 (.pair (.int .i64) (.pair (.int .i64) (.pair (.int .i64) (.int .i64)))) v11 x7] G := H17.calledN (Rs := []) H21
    refine XL_q rfl (qt_assign rfl) rfl rfl ?_
    refine WL_nil_seq ?_
    refine WP_seq ?_
    refine WP_still ?_
    refine XL_q rfl (qt_move rfl) rfl rfl ?_
    obtain ⟨x24, hx25, h⟩ := bind_some h
    refine QL_call rfl rfl c16 (fun w' hb => (w_impl_JournalText w' ([.sl 25 (.pair (.int .i64) (.pair (.int .i64) (.pair (.int .i64) (.int .i64)))) v22 x18, .sl 25 (.pair (.int .i64) (.pair (.int .i64) (.pair (.int .i64) (.int .i64)))) v11 x7] ++ G) hGl.c.c hGp.c.c v22 x18 (Has.hd) x24 hx25 (H23.grow hb).ctx).mono fun e w'' hK => ⟨hK.1, hK.2.bel⟩) (by rfl) ?_
    refine XL_q rfl (qt_assign rfl) rfl rfl ?_
    refine QL_nil fun a ha w26 hb27 => ?_
    have H28 : Holds (([] : List Res).flatMap Res.own) w w26 [.sl 25 (.pair (.int .i64) (.pair (.int .i64) (.pair (.int .i64) (.int .i64)))) v22 x18, .sl 25 (.pair (.int .i64) (.pair (.int .i64) (.pair (.int .i64) (.int .i64)))) v11 x7] G := H23.grow hb27
    refine nrm_seq (WP.app ?_ ha)
    refine WP_seq ?_
    refine WP_seq ?_
    refine WP_region ?_
    refine XL_q rfl (qt_move rfl) rfl rfl ?_
    refine XL_q rfl (qt_move rfl) rfl rfl ?_
    refine XL_q rfl (qt_sneq rfl rfl) rfl rfl ?_
    refine WL_nil_seq ?_
    refine WP_cond rfl (fun hc29 => ?_) (fun hc29 => ?_)
    · have h := if_t hc29 h
      refine WP_seq ?_
      refine WP_region ?_
      refine XL_q rfl (qt_assign rfl) rfl rfl ?_
      refine WL_nil_seq ?_
      refine WP_ret fun a ha => ?_
      obtain rfl := Option.some.inj h
      have H30 : Holds (([] : List Res).flatMap Res.own) w w26 [] G := ((H28.cut 0).cut 0)
      exact ret_seq (ret1 rfl ha rfl ⟨rfl, H30⟩)
    · have h := if_f hc29 h
      refine WP_skip_seq ?_
      refine WP_seq ?_
      refine WP_seq ?_
      refine WP_region ?_
      refine XL_q rfl (qt_move rfl) rfl rfl ?_
      refine XL_q rfl (qt_move rfl) rfl rfl ?_
      obtain ⟨x31, hx32, h⟩ := bind_some h
      refine WL_call rfl rfl c15 (w_laws_toHouseDeedS w26 ([.sl 25 (.pair (.int .i64) (.pair (.int .i64) (.pair (.int .i64) (.int .i64)))) v22 x18, .sl 25 (.pair (.int .i64) (.pair (.int .i64) (.pair (.int .i64) (.int .i64)))) v11 x7] ++ G) vp0 p0 (hp0.c.c) x31 hx32 H28.ctx) (by rfl) ?_
      rintro _ w33 ⟨v35, rfl, H34⟩; refine ⟨_, rfl, ?_⟩
      have H36 : Holds (([] : List Res).flatMap Res.own) w w33 [.sl 25 (.pair (.int .i64) (.pair (.int .i64) (.pair (.int .i64) (.int .i64)))) v35 x31, .sl 25 (.pair (.int .i64) (.pair (.int .i64) (.pair (.int .i64) (.int .i64)))) v22 x18, .sl 25 (.pair (.int .i64) (.pair (.int .i64) (.pair (.int .i64) (.int .i64)))) v11 x7] G := H28.calledN (Rs := []) H34
      obtain ⟨x37, hx38, h⟩ := bind_some h
      refine WL_call rfl rfl c17 (w_laws_eqHouseDeedS w33 ([.sl 25 (.pair (.int .i64) (.pair (.int .i64) (.pair (.int .i64) (.int .i64)))) v35 x31, .sl 25 (.pair (.int .i64) (.pair (.int .i64) (.pair (.int .i64) (.int .i64)))) v22 x18, .sl 25 (.pair (.int .i64) (.pair (.int .i64) (.pair (.int .i64) (.int .i64)))) v11 x7] ++ G) v22 x18 (Has.c (Has.hd)) v35 x31 (Has.hd) x37 hx38 H36.ctx) (by rfl) ?_
      rintro _ w39 ⟨rfl, H40⟩; refine ⟨_, rfl, ?_⟩
      have H41 : Holds (([] : List Res).flatMap Res.own) w w39 [.sl 25 (.pair (.int .i64) (.pair (.int .i64) (.pair (.int .i64) (.int .i64)))) v35 x31, .sl 25 (.pair (.int .i64) (.pair (.int .i64) (.pair (.int .i64) (.int .i64)))) v22 x18, .sl 25 (.pair (.int .i64) (.pair (.int .i64) (.pair (.int .i64) (.int .i64)))) v11 x7] G := H36.calledN (Rs := []) H40
      refine XL_q rfl (qt_not rfl) rfl rfl ?_
      refine WL_nil_seq ?_
      refine WP_cond rfl (fun hc42 => ?_) (fun hc42 => ?_)
      · have h := if_t hc42 h
        refine WP_seq ?_
        refine WP_region ?_
        refine XL_q rfl (qt_assign rfl) rfl rfl ?_
        refine WL_nil_seq ?_
        refine WP_ret fun a ha => ?_
        obtain rfl := Option.some.inj h
        have H43 : Holds (([] : List Res).flatMap Res.own) w w39 [] G := (((H41.cut 0).cut 0).cut 0)
        exact ret_seq (ret1 rfl ha rfl ⟨rfl, H43⟩)
      · have h := if_f hc42 h
        refine WP_skip_seq ?_
        refine WP_seq ?_
        refine WP_region ?_
        refine XL_q rfl (qt_assign rfl) rfl rfl ?_
        refine WL_nil_seq ?_
        refine WP_ret fun a ha => ?_
        obtain rfl := Option.some.inj h
        have H44 : Holds (([] : List Res).flatMap Res.own) w w39 [] G := (((H41.cut 0).cut 0).cut 0)
        exact ret1 rfl ha rfl ⟨rfl, H44⟩
end Go.Proofs.YtcjkbcdlpfgbgaaDoor
