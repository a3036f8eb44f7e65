/- The walks: each Go function computes its shallow function. Printed by a program. -/
import Derived.Test.YtcjkbcdlpfgbgaaWX7E2
set_option linter.unusedVariables false
set_option maxRecDepth 10000
namespace Go.Proofs.Ytcjkbcdlpfgbgaa
open Go Go.RowKit
theorem w_impl_EndDeeds (w : World) (G : List Res) (vp0_0 : Value) (p0_0 : List (Int × (List (Int × Int)) × Int)) (hp0_0 : Has G (.pair (.int .i64) (.pair (.slice (.pair (.int .i64) (.int .i64))) (.int .i64))) vp0_0 p0_0) (vp0_1 : Value) (p0_1 : List Int) (hp0_1 : Has G (.int .i64) vp0_1 p0_1) (vp0_2 : Value) (p0_2 : List Int) (hp0_2 : Has G (.int .i64) vp0_2 p0_2) (p0_3 : Int) (vp0_4 : Value) (p0_4 : List (Int × (List (Int × Int)) × (List Int))) (hp0_4 : Has G (.pair (.int .i64) (.pair (.slice (.pair (.int .i64) (.int .i64))) (.slice (.int .i64)))) vp0_4 p0_4) (r : (List (Int × Int × Int × Int))) (h : impl_EndDeedsS p0_0 p0_1 p0_2 p0_3 p0_4 = some r) (H : Ctx w G) : Calls Try.prog 17 #[.agg #[vp0_0, vp0_1, vp0_2, .int .i64 p0_3, vp0_4]] w fun e w' => ∃ (v1 : Value), e = .returned (v1) ∧ Holds (([] : List Res).flatMap Res.own) w w' [.sl 68 (.pair (.int .i64) (.pair (.int .i64) (.pair (.int .i64) (.int .i64)))) v1 r] G := by
  have H : Holds (([] : List Res).flatMap Res.own) w w [] G := Holds.startN H
  refine calls_enter (args := [.agg #[vp0_0, vp0_1, vp0_2, .int .i64 p0_3, vp0_4]]) (n := 28) Try.func17 rfl rfl rfl ?_
  unfold impl_EndDeedsS at h
  refine WP_seq ?_
  refine WP_region ?_
  refine WL_box (cs := [vp0_0, vp0_1, vp0_2, .int .i64 p0_3, vp0_4]) H rfl rfl rfl rfl (fun b1 w2 H3 => ?_)
  have H4 : Holds (([] : List Res).flatMap Res.own) w w2 [.bx b1 32 [vp0_0, vp0_1, vp0_2, .int .i64 p0_3, vp0_4]] G := H3
  refine XL_q rfl (qt_assign rfl) rfl rfl ?_
  refine WL_nil_seq ?_
  refine WP_seq ?_
  refine WP_seq ?_
  refine WP_still ?_
  have hB5 : Bx w2 b1 32 [vp0_0, vp0_1, vp0_2, .int .i64 p0_3, vp0_4] := Holds.bx (H4.pull 0)
  refine XL_load_bxA (cs := [vp0_0, vp0_1, vp0_2, .int .i64 p0_3, vp0_4]) us32 uo32 il32 hB5 rfl rfl rfl ?_
  change XL _ _ _ _ _ ((4, .agg #[vp0_0, vp0_1, vp0_2, .int .i64 p0_3, vp0_4]) :: _) _
  obtain ⟨x6, hx7, h⟩ := bind_some h
  refine QL_call rfl rfl c10 (fun w' hb => (w_impl_HouseValid w' ([.bx b1 32 [vp0_0, vp0_1, vp0_2, .int .i64 p0_3, vp0_4]] ++ G) vp0_0 p0_0 (hp0_0.c) vp0_1 p0_1 (hp0_1.c) vp0_2 p0_2 (hp0_2.c) p0_3 vp0_4 p0_4 (hp0_4.c) x6 hx7 (H4.grow hb).ctx).mono fun e w'' hK => ⟨hK.1, hK.2.bel⟩) (by rfl) ?_
  refine XL_q rfl (qt_not rfl) rfl rfl ?_
  refine QL_nil fun a ha w8 hb9 => ?_
  have H10 : Holds (([] : List Res).flatMap Res.own) w w8 [.bx b1 32 [vp0_0, vp0_1, vp0_2, .int .i64 p0_3, vp0_4]] G := H4.grow hb9
  refine nrm_seq (WP.app ?_ ha)
  refine WP_cond rfl (fun hc11 => ?_) (fun hc11 => ?_)
  · have h := if_t hc11 h
    refine WP_seq ?_
    refine WP_region ?_
    refine XL_q rfl (qt_assign rfl) rfl rfl ?_
    refine WL_nil_seq ?_
    refine WP_ret fun a ha => ?_
    obtain rfl := Option.some.inj h
    have H12 : Holds (([] : List Res).flatMap Res.own) w w8 [.sl 68 (.pair (.int .i64) (.pair (.int .i64) (.pair (.int .i64) (.int .i64)))) (.slice none 0 0) ([]), .bx b1 32 [vp0_0, vp0_1, vp0_2, .int .i64 p0_3, vp0_4]] G := H10.nilSl
    have H13 : Holds (([] : List Res).flatMap Res.own) w w8 [.sl 68 (.pair (.int .i64) (.pair (.int .i64) (.pair (.int .i64) (.int .i64)))) (.slice none 0 0) ([])] G := (H12.cut 1)
    exact ret_seq (ret1 rfl ha rfl ⟨(.slice none 0 0), rfl, H13⟩)
  · have h := if_f hc11 h
    refine WP_skip_seq ?_
    refine WP_seq ?_
    refine WP_region ?_
    refine XL_q rfl (qt_assign rfl) rfl rfl ?_
    refine WL_nil_seq ?_
    refine WP_seq ?_
    refine WP_seq ?_
    refine WP_region ?_
    have hB14 : Bx w8 b1 32 [vp0_0, vp0_1, vp0_2, .int .i64 p0_3, vp0_4] := Holds.bx (H10.pull 0)
    refine XL_load_bxA (cs := [vp0_0, vp0_1, vp0_2, .int .i64 p0_3, vp0_4]) us32 uo32 il32 hB14 rfl rfl rfl ?_
    change XL _ _ _ _ _ ((7, .agg #[vp0_0, vp0_1, vp0_2, .int .i64 p0_3, vp0_4]) :: _) _
    obtain ⟨x15, hx16, h⟩ := bind_some h
    refine WL_call rfl rfl c43 (w_impl_kitchenOf w8 ([.bx b1 32 [vp0_0, vp0_1, vp0_2, .int .i64 p0_3, vp0_4]] ++ G) vp0_0 p0_0 (hp0_0.c) vp0_1 p0_1 (hp0_1.c) vp0_2 p0_2 (hp0_2.c) p0_3 vp0_4 p0_4 (hp0_4.c) x15 hx16 H10.ctx) (by rfl) ?_
    rintro _ w17 ⟨v19, cs20, F21, rfl, H18⟩; refine ⟨_, rfl, ?_⟩
    have H22 : Holds (([] : List Res).flatMap Res.own) w w17 [dpR 48 (.sl 63 (.leaf (.pair (.int .i64) (.int .i64)))) v19 cs20 x15 F21, .bx b1 32 [vp0_0, vp0_1, vp0_2, .int .i64 p0_3, vp0_4]] G := H10.calledN (Rs := []) H18
    obtain ⟨x23, hx24, h⟩ := bind_some h
    have V25 : Ctx w17 ([.ro (.slice (.pair (.int .i64) (.int .i64))) v19 x15, .bx b1 32 [vp0_0, vp0_1, vp0_2, .int .i64 p0_3, vp0_4]] ++ G) := H22.viewG (Vw.dp (NsOk.self NsOk.nil) (Vw.c Vw.refl))
    refine WL_call rfl rfl c42 (w_impl_WorkLeft w17 ([.ro (.slice (.pair (.int .i64) (.int .i64))) v19 x15, .bx b1 32 [vp0_0, vp0_1, vp0_2, .int .i64 p0_3, vp0_4]] ++ G) v19 x15 (HasRo.has (HasRo.hd)) x23 hx24 V25) (by rfl) ?_
    rintro _ w26 ⟨rfl, H27⟩; refine ⟨_, rfl, ?_⟩
    have H28 : Holds (([] : List Res).flatMap Res.own) w w26 [dpR 48 (.sl 63 (.leaf (.pair (.int .i64) (.int .i64)))) v19 cs20 x15 F21, .bx b1 32 [vp0_0, vp0_1, vp0_2, .int .i64 p0_3, vp0_4]] G := H22.calledV (Rs := []) H27 all_nil
    refine XL_q rfl (qt_move rfl) rfl rfl ?_
    refine WL_nil_seq ?_
    refine WP_block ?_
    have H31 : Holds (([] : List Res).flatMap Res.own) w w26 [.sl 68 (.pair (.int .i64) (.pair (.int .i64) (.pair (.int .i64) (.int .i64)))) (.slice none 0 0) ([]), dpR 48 (.sl 63 (.leaf (.pair (.int .i64) (.int .i64)))) v19 cs20 x15 F21, .bx b1 32 [vp0_0, vp0_1, vp0_2, .int .i64 p0_3, vp0_4]] G := H28.nilSl
    obtain ⟨o32, ho33, h⟩ := bind_some h
    have H36 : Holds (([] : List Res).flatMap Res.own) w w26 [.bx b1 32 [vp0_0, vp0_1, vp0_2, .int .i64 p0_3, vp0_4], .sl 68 (.pair (.int .i64) (.pair (.int .i64) (.pair (.int .i64) (.int .i64)))) (.slice none 0 0) ([])] G := ((H31.cut 1).pull 1)
    refine fun a34 ha35 => wp_loop_fix (I := fun s a w2 => match s with | (s29, s30) => ∃ vs29, Fr a 28 [(1, .pointer (some ⟨b1, 0, none⟩)), (3, vs29), (9, .int .i64 x23), (10, .int .i64 s30)] ∧ Holds (([] : List Res).flatMap Res.own) w w2 [.bx b1 32 [vp0_0, vp0_1, vp0_2, .int .i64 p0_3, vp0_4], .sl 68 (.pair (.int .i64) (.pair (.int .i64) (.pair (.int .i64) (.int .i64)))) vs29 s29] G) (O := fun o e a w2 => match o with | q0 => e = .exit 0 ∧ ∃ vq0, Fr a 28 [(1, .pointer (some ⟨b1, 0, none⟩)), (3, vq0)] ∧ Holds (([] : List Res).flatMap Res.own) w w2 [.bx b1 32 [vp0_0, vp0_1, vp0_2, .int .i64 p0_3, vp0_4], .sl 68 (.pair (.int .i64) (.pair (.int .i64) (.pair (.int .i64) (.int .i64)))) vq0 q0] G) ho33 ?_ ?_ ?_
    · exact ⟨(.slice none 0 0), ha35.sub ⟨rfl, rfl, rfl, rfl, trivial⟩, H36⟩
    · clear ha35
      intro s o39 a w37 hs38 hI40
      obtain ⟨s29, s30⟩ := s
      obtain ⟨vs29, ha, H41⟩ := hI40
      refine WP.app ?_ ha
      clear ha
      refine WP_seq ?_
      refine WP_region ?_
      refine XL_q rfl (qt_lss rfl rfl) rfl rfl ?_
      refine WL_nil_seq ?_
      refine WP_seq ?_
      refine WP_cond rfl (fun hc42 => ?_) (fun hc42 => ?_)
      · have hs38 := if_t hc42 hs38
        refine WP_skip_seq ?_
        refine WP_seq ?_
        refine WP_block ?_
        refine WP_region ?_
        refine XL_q rfl (qt_move rfl) rfl rfl ?_
        refine XL_q rfl (qt_build (args := [(0, .const (.int .i64 4))]) (css := [#[.int .i64 4]]) (cells := #[.int .i64 4, .int .i64 0, .int .i64 0, .int .i64 0]) rfl ⟨rfl, trivial⟩ (by kernel_rfl)) rfl rfl ?_
        refine WL_buildH (t := (.pair (.int .i64) (.pair (.int .i64) (.pair (.int .i64) (.int .i64))))) (args := [.tmp 13]) (xs := ([(4, 0, 0, 0)] : List (Int × Int × Int × Int))) H41 (BltL.cons (Blt.pair (Blt.int) (Blt.pair (Blt.int) (Blt.pair (Blt.int) (Blt.int)))) rfl (BltL.nil)) u39 j68 rfl rfl rfl rfl rfl rfl (fun v43 w44 H45 => ?_)
        have H46 : Holds (([] : List Res).flatMap Res.own) w w44 [.sl 68 (.pair (.int .i64) (.pair (.int .i64) (.pair (.int .i64) (.int .i64)))) v43 ([(4, 0, 0, 0)]), .bx b1 32 [vp0_0, vp0_1, vp0_2, .int .i64 p0_3, vp0_4], .sl 68 (.pair (.int .i64) (.pair (.int .i64) (.pair (.int .i64) (.int .i64)))) vs29 s29] G := H45
        have H47 : Holds (([] : List Res).flatMap Res.own) w w44 [.sl 68 (.pair (.int .i64) (.pair (.int .i64) (.pair (.int .i64) (.int .i64)))) vs29 s29, .sl 68 (.pair (.int .i64) (.pair (.int .i64) (.pair (.int .i64) (.int .i64)))) v43 ([(4, 0, 0, 0)]), .bx b1 32 [vp0_0, vp0_1, vp0_2, .int .i64 p0_3, vp0_4]] G := H46.pull 2
        obtain ⟨x48, hx49, hs38⟩ := bind_some hs38
        refine WL_appendH H47 (Has.c (Has.hd)) hx49 u39 j68 rfl rfl rfl rfl rfl rfl (fun v50 w51 H52 => ?_)
        have H53 : Holds (([] : List Res).flatMap Res.own) w w51 [.sl 68 (.pair (.int .i64) (.pair (.int .i64) (.pair (.int .i64) (.int .i64)))) v50 x48, .sl 68 (.pair (.int .i64) (.pair (.int .i64) (.pair (.int .i64) (.int .i64)))) v43 ([(4, 0, 0, 0)]), .bx b1 32 [vp0_0, vp0_1, vp0_2, .int .i64 p0_3, vp0_4]] G := H52
        refine XL_q rfl (qt_assign rfl) rfl rfl ?_
        refine WL_nil fun a ha => ?_
        refine nrm_block (nrm_seq (WP.app ?_ ha))
        refine WP_region ?_
        refine XL_q rfl (qt_add rfl rfl) rfl rfl ?_
        refine XL_q rfl (qt_move rfl) rfl rfl ?_
        refine WL_nil fun a ha => ?_
        obtain rfl := Option.some.inj hs38
        have H54 : Holds (([] : List Res).flatMap Res.own) w w51 [.bx b1 32 [vp0_0, vp0_1, vp0_2, .int .i64 p0_3, vp0_4], .sl 68 (.pair (.int .i64) (.pair (.int .i64) (.pair (.int .i64) (.int .i64)))) v50 x48] G := ((H53.cut 1).pull 1)
        exact ⟨rfl, v50, ha.sub ⟨rfl, rfl, rfl, rfl, trivial⟩, H54⟩
      · have hs38 := if_f hc42 hs38
        refine WP_exit fun a ha => ?_
        obtain rfl := Option.some.inj hs38
        have H55 : Holds (([] : List Res).flatMap Res.own) w w37 [.bx b1 32 [vp0_0, vp0_1, vp0_2, .int .i64 p0_3, vp0_4], .sl 68 (.pair (.int .i64) (.pair (.int .i64) (.pair (.int .i64) (.int .i64)))) vs29 s29] G := ((H41.pull 1).pull 1)
        exact exit_seq (⟨exit_ne, rfl, vs29, ha.sub ⟨rfl, rfl, trivial⟩, H55⟩)
    · intro e a34 w56 hO57
      obtain ⟨p58, rfl⟩ : ∃ z, z = o32 := ⟨o32, rfl⟩
      obtain ⟨rfl, hO60⟩ := hO57
      obtain ⟨vp58, ha, H59⟩ := hO60
      refine exit_block_eq (nrm_seq (WP.app ?_ ha))
      refine WP_seq ?_
      refine WP_seq ?_
      refine WP_region ?_
      refine XL_q rfl (qt_fieldAddr uf32 fi32_4 nz30 rfl) rfl rfl ?_
      have hB61 : Bx w56 b1 32 [vp0_0, vp0_1, vp0_2, .int .i64 p0_3, vp0_4] := Holds.bx (H59.pull 0)
      refine XL_load_bx u30 rfl hB61 rfl rfl rfl rfl ?_
      refine XL_lenH H59.ctx (t := (.pair (.int .i64) (.pair (.slice (.pair (.int .i64) (.int .i64))) (.slice (.int .i64))))) (hp0_4.c.c) u30 rfl rfl rfl ?_
      refine XL_q rfl (qt_move rfl) rfl rfl ?_
      refine WL_nil_seq ?_
      refine WP_block ?_
      obtain ⟨o64, ho65, h⟩ := bind_some h
      have H68 : Holds (([] : List Res).flatMap Res.own) w w56 [.sl 68 (.pair (.int .i64) (.pair (.int .i64) (.pair (.int .i64) (.int .i64)))) vp58 p58] G := (H59.cut 0)
      refine fun a66 ha67 => wp_loop_fix (I := fun s a w2 => match s with | (s62, s63) => ∃ vs62, Fr a 28 [(3, vs62), (19, .int .i64 (List.length p0_4 : Int)), (20, .int .i64 s63)] ∧ Holds (([] : List Res).flatMap Res.own) w w2 [.sl 68 (.pair (.int .i64) (.pair (.int .i64) (.pair (.int .i64) (.int .i64)))) vs62 s62] G) (O := fun o e a w2 => match o with | q0 => e = .exit 2 ∧ ∃ vq0, Fr a 28 [(3, vq0)] ∧ Holds (([] : List Res).flatMap Res.own) w w2 [.sl 68 (.pair (.int .i64) (.pair (.int .i64) (.pair (.int .i64) (.int .i64)))) vq0 q0] G) ho65 ?_ ?_ ?_
      · exact ⟨vp58, ha67.sub ⟨rfl, rfl, rfl, trivial⟩, H68⟩
      · clear ha67
        intro s o71 a w69 hs70 hI72
        obtain ⟨s62, s63⟩ := s
        obtain ⟨vs62, ha, H73⟩ := hI72
        refine WP.app ?_ ha
        clear ha
        refine WP_seq ?_
        refine WP_region ?_
        refine XL_q rfl (qt_lss rfl rfl) rfl rfl ?_
        refine WL_nil_seq ?_
        refine WP_seq ?_
        refine WP_cond rfl (fun hc74 => ?_) (fun hc74 => ?_)
        · have hs70 := if_t hc74 hs70
          refine WP_skip_seq ?_
          refine WP_seq ?_
          refine WP_block ?_
          refine WP_region ?_
          refine XL_q rfl (qt_move rfl) rfl rfl ?_
          refine XL_q rfl (qt_build (args := [(0, .const (.int .i64 5))]) (css := [#[.int .i64 5]]) (cells := #[.int .i64 5, .int .i64 0, .int .i64 0, .int .i64 0]) rfl ⟨rfl, trivial⟩ (by kernel_rfl)) rfl rfl ?_
          refine WL_buildH (t := (.pair (.int .i64) (.pair (.int .i64) (.pair (.int .i64) (.int .i64))))) (args := [.tmp 23]) (xs := ([(5, 0, 0, 0)] : List (Int × Int × Int × Int))) H73 (BltL.cons (Blt.pair (Blt.int) (Blt.pair (Blt.int) (Blt.pair (Blt.int) (Blt.int)))) rfl (BltL.nil)) u39 j68 rfl rfl rfl rfl rfl rfl (fun v75 w76 H77 => ?_)
          have H78 : Holds (([] : List Res).flatMap Res.own) w w76 [.sl 68 (.pair (.int .i64) (.pair (.int .i64) (.pair (.int .i64) (.int .i64)))) v75 ([(5, 0, 0, 0)]), .sl 68 (.pair (.int .i64) (.pair (.int .i64) (.pair (.int .i64) (.int .i64)))) vs62 s62] G := H77
          have H79 : Holds (([] : List Res).flatMap Res.own) w w76 [.sl 68 (.pair (.int .i64) (.pair (.int .i64) (.pair (.int .i64) (.int .i64)))) vs62 s62, .sl 68 (.pair (.int .i64) (.pair (.int .i64) (.pair (.int .i64) (.int .i64)))) v75 ([(5, 0, 0, 0)])] G := H78.pull 1
          obtain ⟨x80, hx81, hs70⟩ := bind_some hs70
          refine WL_appendH H79 (Has.c (Has.hd)) hx81 u39 j68 rfl rfl rfl rfl rfl rfl (fun v82 w83 H84 => ?_)
          have H85 : Holds (([] : List Res).flatMap Res.own) w w83 [.sl 68 (.pair (.int .i64) (.pair (.int .i64) (.pair (.int .i64) (.int .i64)))) v82 x80, .sl 68 (.pair (.int .i64) (.pair (.int .i64) (.pair (.int .i64) (.int .i64)))) v75 ([(5, 0, 0, 0)])] G := H84
          refine XL_q rfl (qt_assign rfl) rfl rfl ?_
          refine WL_nil fun a ha => ?_
          refine nrm_block (nrm_seq (WP.app ?_ ha))
          refine WP_region ?_
          refine XL_q rfl (qt_add rfl rfl) rfl rfl ?_
          refine XL_q rfl (qt_move rfl) rfl rfl ?_
          refine WL_nil fun a ha => ?_
          obtain rfl := Option.some.inj hs70
          have H86 : Holds (([] : List Res).flatMap Res.own) w w83 [.sl 68 (.pair (.int .i64) (.pair (.int .i64) (.pair (.int .i64) (.int .i64)))) v82 x80] G := (H85.cut 1)
          exact ⟨rfl, v82, ha.sub ⟨rfl, rfl, rfl, trivial⟩, H86⟩
        · have hs70 := if_f hc74 hs70
          refine WP_exit fun a ha => ?_
          obtain rfl := Option.some.inj hs70
          exact exit_seq (⟨exit_ne, rfl, vs62, ha.sub ⟨rfl, trivial⟩, H73⟩)
      · intro e a66 w87 hO88
        obtain ⟨p89, rfl⟩ : ∃ z, z = o64 := ⟨o64, rfl⟩
        obtain ⟨rfl, hO91⟩ := hO88
        obtain ⟨vp89, ha, H90⟩ := hO91
        refine exit_block_eq (nrm_seq (WP.app ?_ ha))
        refine WP_seq ?_
        refine WP_region ?_
        refine XL_q rfl (qt_move rfl) rfl rfl ?_
        refine XL_q rfl (qt_assign rfl) rfl rfl ?_
        refine WL_nil_seq ?_
        refine WP_ret fun a ha => ?_
        obtain rfl := Option.some.inj h
        exact ret1 rfl ha rfl ⟨vp89, rfl, H90⟩
theorem w_laws_eqHouseDeed (w : World) (G : List Res) (p0_0 : Int) (p0_1 : Int) (p0_2 : Int) (p0_3 : Int) (p1_0 : Int) (p1_1 : Int) (p1_2 : Int) (p1_3 : Int) (r : Bool) (h : laws_eqHouseDeedS p0_0 p0_1 p0_2 p0_3 p1_0 p1_1 p1_2 p1_3 = some r) (H : Ctx w G) : Calls Try.prog 44 #[.agg #[.int .i64 p0_0, .int .i64 p0_1, .int .i64 p0_2, .int .i64 p0_3], .agg #[.int .i64 p1_0, .int .i64 p1_1, .int .i64 p1_2, .int .i64 p1_3]] w fun e w' => e = .returned (.bool r) ∧ Holds (([] : List Res).flatMap Res.own) w w' [] G := by
  have H : Holds (([] : List Res).flatMap Res.own) w w [] G := Holds.startN H
  refine calls_enter (args := [.agg #[.int .i64 p0_0, .int .i64 p0_1, .int .i64 p0_2, .int .i64 p0_3], .agg #[.int .i64 p1_0, .int .i64 p1_1, .int .i64 p1_2, .int .i64 p1_3]]) (n := 25) Try.func44 rfl rfl rfl ?_
  unfold laws_eqHouseDeedS at h
  refine WP_seq ?_
  refine WP_region ?_
  refine WL_box (cs := [.int .i64 p0_0, .int .i64 p0_1, .int .i64 p0_2, .int .i64 p0_3]) H rfl rfl rfl rfl (fun b1 w2 H3 => ?_)
  have H4 : Holds (([] : List Res).flatMap Res.own) w w2 [.bx b1 68 [.int .i64 p0_0, .int .i64 p0_1, .int .i64 p0_2, .int .i64 p0_3]] G := H3
  refine WL_box (cs := [.int .i64 p1_0, .int .i64 p1_1, .int .i64 p1_2, .int .i64 p1_3]) H4 rfl rfl rfl rfl (fun b5 w6 H7 => ?_)
  have H8 : Holds (([] : List Res).flatMap Res.own) w w6 [.bx b5 68 [.int .i64 p1_0, .int .i64 p1_1, .int .i64 p1_2, .int .i64 p1_3], .bx b1 68 [.int .i64 p0_0, .int .i64 p0_1, .int .i64 p0_2, .int .i64 p0_3]] G := H7
  refine XL_q rfl (qt_assign rfl) rfl rfl ?_
  refine WL_nil_seq ?_
  refine WP_seq ?_
  refine WP_seq ?_
  refine WP_region ?_
  refine XL_q rfl (qt_fieldAddr uf68 fi68_0 nz3 rfl) rfl rfl ?_
  have hB9 : Bx w6 b1 68 [.int .i64 p0_0, .int .i64 p0_1, .int .i64 p0_2, .int .i64 p0_3] := Holds.bx (H8.pull 1)
  refine XL_load_bx u3 rfl hB9 rfl rfl rfl rfl ?_
  refine XL_q rfl (qt_fieldAddr uf68 fi68_0 nz3 rfl) rfl rfl ?_
  have hB10 : Bx w6 b5 68 [.int .i64 p1_0, .int .i64 p1_1, .int .i64 p1_2, .int .i64 p1_3] := Holds.bx (H8.pull 0)
  refine XL_load_bx u3 rfl hB10 rfl rfl rfl rfl ?_
  refine XL_q rfl (qt_neq rfl rfl) rfl rfl ?_
  refine WL_nil_seq ?_
  refine WP_cond rfl (fun hc11 => ?_) (fun hc11 => ?_)
  · have h := if_t hc11 h
    refine WP_seq ?_
    refine WP_region ?_
    refine XL_q rfl (qt_assign rfl) rfl rfl ?_
    refine WL_nil_seq ?_
    refine WP_ret fun a ha => ?_
    obtain rfl := Option.some.inj h
    have H12 : Holds (([] : List Res).flatMap Res.own) w w6 [] G := ((H8.cut 0).cut 0)
    exact ret_seq (ret1 rfl ha rfl ⟨rfl, H12⟩)
  · have h := if_f hc11 h
    refine WP_skip_seq ?_
    refine WP_seq ?_
    refine WP_seq ?_
    refine WP_region ?_
    refine XL_q rfl (qt_fieldAddr uf68 fi68_1 nz3 rfl) rfl rfl ?_
    have hB13 : Bx w6 b1 68 [.int .i64 p0_0, .int .i64 p0_1, .int .i64 p0_2, .int .i64 p0_3] := Holds.bx (H8.pull 1)
    refine XL_load_bx u3 rfl hB13 rfl rfl rfl rfl ?_
    refine XL_q rfl (qt_fieldAddr uf68 fi68_1 nz3 rfl) rfl rfl ?_
    have hB14 : Bx w6 b5 68 [.int .i64 p1_0, .int .i64 p1_1, .int .i64 p1_2, .int .i64 p1_3] := Holds.bx (H8.pull 0)
    refine XL_load_bx u3 rfl hB14 rfl rfl rfl rfl ?_
    refine XL_q rfl (qt_neq rfl rfl) rfl rfl ?_
    refine WL_nil_seq ?_
    refine WP_cond rfl (fun hc15 => ?_) (fun hc15 => ?_)
    · have h := if_t hc15 h
      refine WP_seq ?_
      refine WP_region ?_
      refine XL_q rfl (qt_assign rfl) rfl rfl ?_
      refine WL_nil_seq ?_
      refine WP_ret fun a ha => ?_
      obtain rfl := Option.some.inj h
      have H16 : Holds (([] : List Res).flatMap Res.own) w w6 [] G := ((H8.cut 0).cut 0)
      exact ret_seq (ret1 rfl ha rfl ⟨rfl, H16⟩)
    · have h := if_f hc15 h
      refine WP_skip_seq ?_
      refine WP_seq ?_
      refine WP_seq ?_
      refine WP_region ?_
      refine XL_q rfl (qt_fieldAddr uf68 fi68_2 nz3 rfl) rfl rfl ?_
      have hB17 : Bx w6 b1 68 [.int .i64 p0_0, .int .i64 p0_1, .int .i64 p0_2, .int .i64 p0_3] := Holds.bx (H8.pull 1)
      refine XL_load_bx u3 rfl hB17 rfl rfl rfl rfl ?_
      refine XL_q rfl (qt_fieldAddr uf68 fi68_2 nz3 rfl) rfl rfl ?_
      have hB18 : Bx w6 b5 68 [.int .i64 p1_0, .int .i64 p1_1, .int .i64 p1_2, .int .i64 p1_3] := Holds.bx (H8.pull 0)
      refine XL_load_bx u3 rfl hB18 rfl rfl rfl rfl ?_
      refine XL_q rfl (qt_neq rfl rfl) rfl rfl ?_
      refine WL_nil_seq ?_
      refine WP_cond rfl (fun hc19 => ?_) (fun hc19 => ?_)
      · have h := if_t hc19 h
        refine WP_seq ?_
        refine WP_region ?_
        refine XL_q rfl (qt_assign rfl) rfl rfl ?_
        refine WL_nil_seq ?_
        refine WP_ret fun a ha => ?_
        obtain rfl := Option.some.inj h
        have H20 : Holds (([] : List Res).flatMap Res.own) w w6 [] G := ((H8.cut 0).cut 0)
        exact ret_seq (ret1 rfl ha rfl ⟨rfl, H20⟩)
      · have h := if_f hc19 h
        refine WP_skip_seq ?_
        refine WP_seq ?_
        refine WP_seq ?_
        refine WP_region ?_
        refine XL_q rfl (qt_fieldAddr uf68 fi68_3 nz3 rfl) rfl rfl ?_
        have hB21 : Bx w6 b1 68 [.int .i64 p0_0, .int .i64 p0_1, .int .i64 p0_2, .int .i64 p0_3] := Holds.bx (H8.pull 1)
        refine XL_load_bx u3 rfl hB21 rfl rfl rfl rfl ?_
        refine XL_q rfl (qt_fieldAddr uf68 fi68_3 nz3 rfl) rfl rfl ?_
        have hB22 : Bx w6 b5 68 [.int .i64 p1_0, .int .i64 p1_1, .int .i64 p1_2, .int .i64 p1_3] := Holds.bx (H8.pull 0)
        refine XL_load_bx u3 rfl hB22 rfl rfl rfl rfl ?_
        refine XL_q rfl (qt_neq rfl rfl) rfl rfl ?_
        refine WL_nil_seq ?_
        refine WP_cond rfl (fun hc23 => ?_) (fun hc23 => ?_)
        · have h := if_t hc23 h
          refine WP_seq ?_
          refine WP_region ?_
          refine XL_q rfl (qt_assign rfl) rfl rfl ?_
          refine WL_nil_seq ?_
          refine WP_ret fun a ha => ?_
          obtain rfl := Option.some.inj h
          have H24 : Holds (([] : List Res).flatMap Res.own) w w6 [] G := ((H8.cut 0).cut 0)
          exact ret_seq (ret1 rfl ha rfl ⟨rfl, H24⟩)
        · have h := if_f hc23 h
          refine WP_skip_seq ?_
          refine WP_seq ?_
          refine WP_region ?_
          refine XL_q rfl (qt_assign rfl) rfl rfl ?_
          refine WL_nil_seq ?_
          refine WP_ret fun a ha => ?_
          obtain rfl := Option.some.inj h
          have H25 : Holds (([] : List Res).flatMap Res.own) w w6 [] G := ((H8.cut 0).cut 0)
          exact ret1 rfl ha rfl ⟨rfl, H25⟩
theorem w_laws_eqHouseDeedS (w : World) (G : List Res) (vp0 : Value) (p0 : List (Int × Int × Int × Int)) (hp0 : Has G (.pair (.int .i64) (.pair (.int .i64) (.pair (.int .i64) (.int .i64)))) vp0 p0) (vp1 : Value) (p1 : List (Int × Int × Int × Int)) (hp1 : Has G (.pair (.int .i64) (.pair (.int .i64) (.pair (.int .i64) (.int .i64)))) vp1 p1) (r : Bool) (h : laws_eqHouseDeedSS p0 p1 = some r) (H : Ctx w G) : Calls Try.prog 18 #[vp0, vp1] w fun e w' => e = .returned (.bool r) ∧ Holds (([] : List Res).flatMap Res.own) w w' [] G := by
  have H : Holds (([] : List Res).flatMap Res.own) w w [] G := Holds.startN H
  refine calls_enter (args := [vp0, vp1]) (n := 27) Try.func18 rfl rfl rfl ?_
  unfold laws_eqHouseDeedSS at h
  refine WP_seq ?_
  refine WP_region ?_
  refine XL_q rfl (qt_assign rfl) rfl rfl ?_
  refine WL_nil_seq ?_
  refine WP_seq ?_
  refine WP_seq ?_
  refine WP_region ?_
  refine XL_q rfl (qt_move rfl) rfl rfl ?_
  refine XL_lenH H.ctx (t := (.pair (.int .i64) (.pair (.int .i64) (.pair (.int .i64) (.int .i64))))) (hp0) u39 rfl rfl rfl ?_
  refine XL_q rfl (qt_move rfl) rfl rfl ?_
  refine XL_lenH H.ctx (t := (.pair (.int .i64) (.pair (.int .i64) (.pair (.int .i64) (.int .i64))))) (hp1) u39 rfl rfl rfl ?_
  refine XL_q rfl (qt_neq rfl rfl) rfl rfl ?_
  refine WL_nil_seq ?_
  refine WP_cond rfl (fun hc1 => ?_) (fun hc1 => ?_)
  · have h := if_t hc1 h
    refine WP_seq ?_
    refine WP_region ?_
    refine XL_q rfl (qt_assign rfl) rfl rfl ?_
    refine WL_nil_seq ?_
    refine WP_ret fun a ha => ?_
    obtain rfl := Option.some.inj h
    exact ret_seq (ret1 rfl ha rfl ⟨rfl, H⟩)
  · have h := if_f hc1 h
    refine WP_skip_seq ?_
    refine WP_seq ?_
    refine WP_seq ?_
    refine WP_region ?_
    refine XL_q rfl (qt_assign rfl) rfl rfl ?_
    refine WL_nil_seq ?_
    refine WP_block ?_
    obtain ⟨o3, ho4, h⟩ := bind_some h
    refine fun a5 ha6 => wp_loop_fix (I := fun s a w2 => match s with | s2 => (Fr a 27 [(0, vp0), (1, vp1), (5, .int .i64 s2)] ∧ Holds (([] : List Res).flatMap Res.own) w w2 [] G)) (O := fun o e a w2 => match o with | .inl _ => e = .exit 0 ∧ (Fr a 27 [] ∧ Holds (([] : List Res).flatMap Res.own) w w2 [] G) | .inr q0 => e = .ret ∧ (Fr a 27 [(4, .bool q0)] ∧ Holds (([] : List Res).flatMap Res.own) w w2 [] G)) ho4 ?_ ?_ ?_
    · exact ⟨ha6.sub ⟨rfl, rfl, rfl, trivial⟩, H⟩
    · clear ha6
      intro s o9 a w7 hs8 hI10
      obtain ⟨s2, rfl⟩ : ∃ z, z = s := ⟨s, rfl⟩
      obtain ⟨ha, H11⟩ := hI10
      refine WP.app ?_ ha
      clear ha
      refine WP_seq ?_
      refine WP_seq ?_
      refine WP_region ?_
      refine XL_q rfl (qt_move rfl) rfl rfl ?_
      refine XL_q rfl (qt_move rfl) rfl rfl ?_
      refine XL_lenH H11.ctx (t := (.pair (.int .i64) (.pair (.int .i64) (.pair (.int .i64) (.int .i64))))) (hp0) u39 rfl rfl rfl ?_
      refine XL_q rfl (qt_lss rfl rfl) rfl rfl ?_
      refine WL_nil_seq ?_
      refine WP_cond rfl (fun hc12 => ?_) (fun hc12 => ?_)
      · have hs8 := if_t hc12 hs8
        refine WP_skip_seq ?_
        refine WP_seq ?_
        refine WP_block ?_
        refine WP_seq ?_
        refine WP_quiet (by kernel_rfl) (by kernel_rfl) ?_
        refine XL_q rfl (qt_move rfl) rfl rfl ?_
        refine XL_q rfl (qt_move rfl) rfl rfl ?_
        obtain ⟨x13, hx14, hs8⟩ := bind_some hs8
        refine XL_indexH H11.ctx (hp0) hx14 u39 i68 rfl rfl rfl rfl (fun b15 off16 cap17 hv18 => ?_)
        obtain ⟨F19, hat20, hdup21⟩ := H11.atN (hp0) hx14 hv18
        refine XL_load_agg (t := (.pair (.int .i64) (.pair (.int .i64) (.pair (.int .i64) (.int .i64))))) us68 uo68 i68 hat20 rfl rfl rfl (fun cs22 hr23 => ?_)
        obtain ⟨c24, c25, F26, F27, rfl, eF30, hr28, hr29⟩ := hr23
        obtain ⟨rfl, _⟩ := hr28
        obtain ⟨c31, c32, F33, F34, rfl, eF37, hr35, hr36⟩ := hr29
        obtain ⟨rfl, _⟩ := hr35
        obtain ⟨c38, c39, F40, F41, rfl, eF44, hr42, hr43⟩ := hr36
        obtain ⟨rfl, _⟩ := hr42
        obtain ⟨rfl, _⟩ := hr43
        change XL _ _ _ _ _ ((20, .agg #[.int .i64 x13.1, .int .i64 x13.2.1, .int .i64 x13.2.2.1, .int .i64 x13.2.2.2]) :: _) _
        refine XL_q rfl (qt_move rfl) rfl rfl ?_
        refine XL_q rfl (qt_move rfl) rfl rfl ?_
        obtain ⟨x45, hx46, hs8⟩ := bind_some hs8
        refine XL_indexH H11.ctx (hp1) hx46 u39 i68 rfl rfl rfl rfl (fun b47 off48 cap49 hv50 => ?_)
        obtain ⟨F51, hat52, hdup53⟩ := H11.atN (hp1) hx46 hv50
        refine XL_load_agg (t := (.pair (.int .i64) (.pair (.int .i64) (.pair (.int .i64) (.int .i64))))) us68 uo68 i68 hat52 rfl rfl rfl (fun cs54 hr55 => ?_)
        obtain ⟨c56, c57, F58, F59, rfl, eF62, hr60, hr61⟩ := hr55
        obtain ⟨rfl, _⟩ := hr60
        obtain ⟨c63, c64, F65, F66, rfl, eF69, hr67, hr68⟩ := hr61
        obtain ⟨rfl, _⟩ := hr67
        obtain ⟨c70, c71, F72, F73, rfl, eF76, hr74, hr75⟩ := hr68
        obtain ⟨rfl, _⟩ := hr74
        obtain ⟨rfl, _⟩ := hr75
        change XL _ _ _ _ _ ((24, .agg #[.int .i64 x45.1, .int .i64 x45.2.1, .int .i64 x45.2.2.1, .int .i64 x45.2.2.2]) :: _) _
        obtain ⟨x77, hx78, hs8⟩ := bind_some hs8
        refine QL_call rfl rfl c44 (fun w' hb => (w_laws_eqHouseDeed w' G x13.1 x13.2.1 x13.2.2.1 x13.2.2.2 x45.1 x45.2.1 x45.2.2.1 x45.2.2.2 x77 hx78 (H11.grow hb).ctx).mono fun e w'' hK => ⟨hK.1, hK.2.bel⟩) (by rfl) ?_
        refine XL_q rfl (qt_not rfl) rfl rfl ?_
        refine QL_nil fun a ha w79 hb80 => ?_
        have H81 : Holds (([] : List Res).flatMap Res.own) w w79 [] G := H11.grow hb80
        refine nrm_seq (WP.app ?_ ha)
        refine WP_cond rfl (fun hc82 => ?_) (fun hc82 => ?_)
        · have hs8 := if_t hc82 hs8
          refine WP_seq ?_
          refine WP_region ?_
          refine XL_q rfl (qt_assign rfl) rfl rfl ?_
          refine WL_nil_seq ?_
          refine WP_ret fun a ha => ?_
          obtain rfl := Option.some.inj hs8
          exact ret_block (ret_seq (⟨ret_ne, rfl, ha.sub ⟨rfl, trivial⟩, H81⟩))
        · have hs8 := if_f hc82 hs8
          refine WP_skip fun a ha => ?_
          refine nrm_block (nrm_seq (WP.app ?_ ha))
          refine WP_region ?_
          refine XL_q rfl (qt_move rfl) rfl rfl ?_
          refine XL_q rfl (qt_add rfl rfl) rfl rfl ?_
          refine XL_q rfl (qt_assign rfl) rfl rfl ?_
          refine WL_nil fun a ha => ?_
          obtain rfl := Option.some.inj hs8
          exact ⟨rfl, ha.sub ⟨rfl, rfl, rfl, trivial⟩, H81⟩
      · have hs8 := if_f hc12 hs8
        refine WP_exit fun a ha => ?_
        obtain rfl := Option.some.inj hs8
        exact exit_seq (⟨exit_ne, rfl, ha.sub trivial, H11⟩)
    · intro e a5 w83 hO84
      rcases o3 with o3 | o3
      · skip
        obtain ⟨rfl, hO86⟩ := hO84
        obtain ⟨ha, H85⟩ := hO86
        refine exit_block_eq (nrm_seq (WP.app ?_ ha))
        refine WP_seq ?_
        refine WP_region ?_
        refine XL_q rfl (qt_assign rfl) rfl rfl ?_
        refine WL_nil_seq ?_
        refine WP_ret fun a ha => ?_
        obtain rfl := Option.some.inj h
        exact ret1 rfl ha rfl ⟨rfl, H85⟩
      · skip
        obtain ⟨p87, rfl⟩ : ∃ z, z = o3 := ⟨o3, rfl⟩
        obtain ⟨rfl, hO89⟩ := hO84
        obtain ⟨ha, H88⟩ := hO89
        obtain rfl := Option.some.inj h
        exact ret_block (ret_seq (ret1 rfl ha rfl ⟨rfl, H88⟩))
theorem w_laws_eqPart (w : World) (G : List Res) (p0_0 : Int) (p0_1 : Int) (p1_0 : Int) (p1_1 : Int) (r : Bool) (h : laws_eqPartS p0_0 p0_1 p1_0 p1_1 = some r) (H : Ctx w G) : Calls Try.prog 85 #[.agg #[.int .i64 p0_0, .int .i64 p0_1], .agg #[.int .i64 p1_0, .int .i64 p1_1]] w fun e w' => e = .returned (.bool r) ∧ Holds (([] : List Res).flatMap Res.own) w w' [] G := by
  have H : Holds (([] : List Res).flatMap Res.own) w w [] G := Holds.startN H
  refine calls_enter (args := [.agg #[.int .i64 p0_0, .int .i64 p0_1], .agg #[.int .i64 p1_0, .int .i64 p1_1]]) (n := 15) Try.func85 rfl rfl rfl ?_
  unfold laws_eqPartS at h
  refine WP_seq ?_
  refine WP_region ?_
  refine WL_box (cs := [.int .i64 p0_0, .int .i64 p0_1]) H rfl rfl rfl rfl (fun b1 w2 H3 => ?_)
  have H4 : Holds (([] : List Res).flatMap Res.own) w w2 [.bx b1 103 [.int .i64 p0_0, .int .i64 p0_1]] G := H3
  refine WL_box (cs := [.int .i64 p1_0, .int .i64 p1_1]) H4 rfl rfl rfl rfl (fun b5 w6 H7 => ?_)
  have H8 : Holds (([] : List Res).flatMap Res.own) w w6 [.bx b5 103 [.int .i64 p1_0, .int .i64 p1_1], .bx b1 103 [.int .i64 p0_0, .int .i64 p0_1]] G := H7
  refine XL_q rfl (qt_assign rfl) rfl rfl ?_
  refine WL_nil_seq ?_
  refine WP_seq ?_
  refine WP_seq ?_
  refine WP_region ?_
  refine XL_q rfl (qt_fieldAddr uf103 fi103_0 nz3 rfl) rfl rfl ?_
  have hB9 : Bx w6 b1 103 [.int .i64 p0_0, .int .i64 p0_1] := Holds.bx (H8.pull 1)
  refine XL_load_bx u3 rfl hB9 rfl rfl rfl rfl ?_
  refine XL_q rfl (qt_fieldAddr uf103 fi103_0 nz3 rfl) rfl rfl ?_
  have hB10 : Bx w6 b5 103 [.int .i64 p1_0, .int .i64 p1_1] := Holds.bx (H8.pull 0)
  refine XL_load_bx u3 rfl hB10 rfl rfl rfl rfl ?_
  refine XL_q rfl (qt_neq rfl rfl) rfl rfl ?_
  refine WL_nil_seq ?_
  refine WP_cond rfl (fun hc11 => ?_) (fun hc11 => ?_)
  · have h := if_t hc11 h
    refine WP_seq ?_
    refine WP_region ?_
    refine XL_q rfl (qt_assign rfl) rfl rfl ?_
    refine WL_nil_seq ?_
    refine WP_ret fun a ha => ?_
    obtain rfl := Option.some.inj h
    have H12 : Holds (([] : List Res).flatMap Res.own) w w6 [] G := ((H8.cut 0).cut 0)
    exact ret_seq (ret1 rfl ha rfl ⟨rfl, H12⟩)
  · have h := if_f hc11 h
    refine WP_skip_seq ?_
    refine WP_seq ?_
    refine WP_seq ?_
    refine WP_region ?_
    refine XL_q rfl (qt_fieldAddr uf103 fi103_1 nz3 rfl) rfl rfl ?_
    have hB13 : Bx w6 b1 103 [.int .i64 p0_0, .int .i64 p0_1] := Holds.bx (H8.pull 1)
    refine XL_load_bx u3 rfl hB13 rfl rfl rfl rfl ?_
    refine XL_q rfl (qt_fieldAddr uf103 fi103_1 nz3 rfl) rfl rfl ?_
    have hB14 : Bx w6 b5 103 [.int .i64 p1_0, .int .i64 p1_1] := Holds.bx (H8.pull 0)
    refine XL_load_bx u3 rfl hB14 rfl rfl rfl rfl ?_
    refine XL_q rfl (qt_neq rfl rfl) rfl rfl ?_
    refine WL_nil_seq ?_
    refine WP_cond rfl (fun hc15 => ?_) (fun hc15 => ?_)
    · have h := if_t hc15 h
      refine WP_seq ?_
      refine WP_region ?_
      refine XL_q rfl (qt_assign rfl) rfl rfl ?_
      refine WL_nil_seq ?_
      refine WP_ret fun a ha => ?_
      obtain rfl := Option.some.inj h
      have H16 : Holds (([] : List Res).flatMap Res.own) w w6 [] G := ((H8.cut 0).cut 0)
      exact ret_seq (ret1 rfl ha rfl ⟨rfl, H16⟩)
    · have h := if_f hc15 h
      refine WP_skip_seq ?_
      refine WP_seq ?_
      refine WP_region ?_
      refine XL_q rfl (qt_assign rfl) rfl rfl ?_
      refine WL_nil_seq ?_
      refine WP_ret fun a ha => ?_
      obtain rfl := Option.some.inj h
      have H17 : Holds (([] : List Res).flatMap Res.own) w w6 [] G := ((H8.cut 0).cut 0)
      exact ret1 rfl ha rfl ⟨rfl, H17⟩
theorem w_laws_eqPartS (w : World) (G : List Res) (vp0 : Value) (p0 : List (Int × Int)) (hp0 : Has G (.pair (.int .i64) (.int .i64)) vp0 p0) (vp1 : Value) (p1 : List (Int × Int)) (hp1 : Has G (.pair (.int .i64) (.int .i64)) vp1 p1) (r : Bool) (h : laws_eqPartSS p0 p1 = some r) (H : Ctx w G) : Calls Try.prog 79 #[vp0, vp1] w fun e w' => e = .returned (.bool r) ∧ Holds (([] : List Res).flatMap Res.own) w w' [] G := by
  have H : Holds (([] : List Res).flatMap Res.own) w w [] G := Holds.startN H
  refine calls_enter (args := [vp0, vp1]) (n := 27) Try.func79 rfl rfl rfl ?_
  unfold laws_eqPartSS at h
  refine WP_seq ?_
  refine WP_region ?_
  refine XL_q rfl (qt_assign rfl) rfl rfl ?_
  refine WL_nil_seq ?_
  refine WP_seq ?_
  refine WP_seq ?_
  refine WP_region ?_
  refine XL_q rfl (qt_move rfl) rfl rfl ?_
  refine XL_lenH H.ctx (t := (.pair (.int .i64) (.int .i64))) (hp0) u82 rfl rfl rfl ?_
  refine XL_q rfl (qt_move rfl) rfl rfl ?_
  refine XL_lenH H.ctx (t := (.pair (.int .i64) (.int .i64))) (hp1) u82 rfl rfl rfl ?_
  refine XL_q rfl (qt_neq rfl rfl) rfl rfl ?_
  refine WL_nil_seq ?_
  refine WP_cond rfl (fun hc1 => ?_) (fun hc1 => ?_)
  · have h := if_t hc1 h
    refine WP_seq ?_
    refine WP_region ?_
    refine XL_q rfl (qt_assign rfl) rfl rfl ?_
    refine WL_nil_seq ?_
    refine WP_ret fun a ha => ?_
    obtain rfl := Option.some.inj h
    exact ret_seq (ret1 rfl ha rfl ⟨rfl, H⟩)
  · have h := if_f hc1 h
    refine WP_skip_seq ?_
    refine WP_seq ?_
    refine WP_seq ?_
    refine WP_region ?_
    refine XL_q rfl (qt_assign rfl) rfl rfl ?_
    refine WL_nil_seq ?_
    refine WP_block ?_
    obtain ⟨o3, ho4, h⟩ := bind_some h
    refine fun a5 ha6 => wp_loop_fix (I := fun s a w2 => match s with | s2 => (Fr a 27 [(0, vp0), (1, vp1), (5, .int .i64 s2)] ∧ Holds (([] : List Res).flatMap Res.own) w w2 [] G)) (O := fun o e a w2 => match o with | .inl _ => e = .exit 0 ∧ (Fr a 27 [] ∧ Holds (([] : List Res).flatMap Res.own) w w2 [] G) | .inr q0 => e = .ret ∧ (Fr a 27 [(4, .bool q0)] ∧ Holds (([] : List Res).flatMap Res.own) w w2 [] G)) ho4 ?_ ?_ ?_
    · exact ⟨ha6.sub ⟨rfl, rfl, rfl, trivial⟩, H⟩
    · clear ha6
      intro s o9 a w7 hs8 hI10
      obtain ⟨s2, rfl⟩ : ∃ z, z = s := ⟨s, rfl⟩
      obtain ⟨ha, H11⟩ := hI10
      refine WP.app ?_ ha
      clear ha
      refine WP_seq ?_
      refine WP_seq ?_
      refine WP_region ?_
      refine XL_q rfl (qt_move rfl) rfl rfl ?_
      refine XL_q rfl (qt_move rfl) rfl rfl ?_
      refine XL_lenH H11.ctx (t := (.pair (.int .i64) (.int .i64))) (hp0) u82 rfl rfl rfl ?_
      refine XL_q rfl (qt_lss rfl rfl) rfl rfl ?_
      refine WL_nil_seq ?_
      refine WP_cond rfl (fun hc12 => ?_) (fun hc12 => ?_)
      · have hs8 := if_t hc12 hs8
        refine WP_skip_seq ?_
        refine WP_seq ?_
        refine WP_block ?_
        refine WP_seq ?_
        refine WP_quiet (by kernel_rfl) (by kernel_rfl) ?_
        refine XL_q rfl (qt_move rfl) rfl rfl ?_
        refine XL_q rfl (qt_move rfl) rfl rfl ?_
        obtain ⟨x13, hx14, hs8⟩ := bind_some hs8
        refine XL_indexH H11.ctx (hp0) hx14 u82 i103 rfl rfl rfl rfl (fun b15 off16 cap17 hv18 => ?_)
        obtain ⟨F19, hat20, hdup21⟩ := H11.atN (hp0) hx14 hv18
        refine XL_load_agg (t := (.pair (.int .i64) (.int .i64))) us103 uo103 i103 hat20 rfl rfl rfl (fun cs22 hr23 => ?_)
        obtain ⟨c24, c25, F26, F27, rfl, eF30, hr28, hr29⟩ := hr23
        obtain ⟨rfl, _⟩ := hr28
        obtain ⟨rfl, _⟩ := hr29
        change XL _ _ _ _ _ ((20, .agg #[.int .i64 x13.1, .int .i64 x13.2]) :: _) _
        refine XL_q rfl (qt_move rfl) rfl rfl ?_
        refine XL_q rfl (qt_move rfl) rfl rfl ?_
        obtain ⟨x31, hx32, hs8⟩ := bind_some hs8
        refine XL_indexH H11.ctx (hp1) hx32 u82 i103 rfl rfl rfl rfl (fun b33 off34 cap35 hv36 => ?_)
        obtain ⟨F37, hat38, hdup39⟩ := H11.atN (hp1) hx32 hv36
        refine XL_load_agg (t := (.pair (.int .i64) (.int .i64))) us103 uo103 i103 hat38 rfl rfl rfl (fun cs40 hr41 => ?_)
        obtain ⟨c42, c43, F44, F45, rfl, eF48, hr46, hr47⟩ := hr41
        obtain ⟨rfl, _⟩ := hr46
        obtain ⟨rfl, _⟩ := hr47
        change XL _ _ _ _ _ ((24, .agg #[.int .i64 x31.1, .int .i64 x31.2]) :: _) _
        obtain ⟨x49, hx50, hs8⟩ := bind_some hs8
        refine QL_call rfl rfl c85 (fun w' hb => (w_laws_eqPart w' G x13.1 x13.2 x31.1 x31.2 x49 hx50 (H11.grow hb).ctx).mono fun e w'' hK => ⟨hK.1, hK.2.bel⟩) (by rfl) ?_
        refine XL_q rfl (qt_not rfl) rfl rfl ?_
        refine QL_nil fun a ha w51 hb52 => ?_
        have H53 : Holds (([] : List Res).flatMap Res.own) w w51 [] G := H11.grow hb52
        refine nrm_seq (WP.app ?_ ha)
        refine WP_cond rfl (fun hc54 => ?_) (fun hc54 => ?_)
        · have hs8 := if_t hc54 hs8
          refine WP_seq ?_
          refine WP_region ?_
          refine XL_q rfl (qt_assign rfl) rfl rfl ?_
          refine WL_nil_seq ?_
          refine WP_ret fun a ha => ?_
          obtain rfl := Option.some.inj hs8
          exact ret_block (ret_seq (⟨ret_ne, rfl, ha.sub ⟨rfl, trivial⟩, H53⟩))
        · have hs8 := if_f hc54 hs8
          refine WP_skip fun a ha => ?_
          refine nrm_block (nrm_seq (WP.app ?_ ha))
          refine WP_region ?_
          refine XL_q rfl (qt_move rfl) rfl rfl ?_
          refine XL_q rfl (qt_add rfl rfl) rfl rfl ?_
          refine XL_q rfl (qt_assign rfl) rfl rfl ?_
          refine WL_nil fun a ha => ?_
          obtain rfl := Option.some.inj hs8
          exact ⟨rfl, ha.sub ⟨rfl, rfl, rfl, trivial⟩, H53⟩
      · have hs8 := if_f hc12 hs8
        refine WP_exit fun a ha => ?_
        obtain rfl := Option.some.inj hs8
        exact exit_seq (⟨exit_ne, rfl, ha.sub trivial, H11⟩)
    · intro e a5 w55 hO56
      rcases o3 with o3 | o3
      · skip
        obtain ⟨rfl, hO58⟩ := hO56
        obtain ⟨ha, H57⟩ := hO58
        refine exit_block_eq (nrm_seq (WP.app ?_ ha))
        refine WP_seq ?_
        refine WP_region ?_
        refine XL_q rfl (qt_assign rfl) rfl rfl ?_
        refine WL_nil_seq ?_
        refine WP_ret fun a ha => ?_
        obtain rfl := Option.some.inj h
        exact ret1 rfl ha rfl ⟨rfl, H57⟩
      · skip
        obtain ⟨p59, rfl⟩ : ∃ z, z = o3 := ⟨o3, rfl⟩
        obtain ⟨rfl, hO61⟩ := hO56
        obtain ⟨ha, H60⟩ := hO61
        obtain rfl := Option.some.inj h
        exact ret_block (ret_seq (ret1 rfl ha rfl ⟨rfl, H60⟩))
theorem w_laws_eqItem (w : World) (G : List Res) (p0_0 : Int) (vp0_1 : Value) (p0_1 : List (Int × Int)) (hp0_1 : Has G (.pair (.int .i64) (.int .i64)) vp0_1 p0_1) (p0_2 : Int) (p1_0 : Int) (vp1_1 : Value) (p1_1 : List (Int × Int)) (hp1_1 : Has G (.pair (.int .i64) (.int .i64)) vp1_1 p1_1) (p1_2 : Int) (r : Bool) (h : laws_eqItemS p0_0 p0_1 p0_2 p1_0 p1_1 p1_2 = some r) (H : Ctx w G) : Calls Try.prog 60 #[.agg #[.int .i64 p0_0, vp0_1, .int .i64 p0_2], .agg #[.int .i64 p1_0, vp1_1, .int .i64 p1_2]] w fun e w' => e = .returned (.bool r) ∧ Holds (([] : List Res).flatMap Res.own) w w' [] G := by
  have H : Holds (([] : List Res).flatMap Res.own) w w [] G := Holds.startN H
  refine calls_enter (args := [.agg #[.int .i64 p0_0, vp0_1, .int .i64 p0_2], .agg #[.int .i64 p1_0, vp1_1, .int .i64 p1_2]]) (n := 21) Try.func60 rfl rfl rfl ?_
  unfold laws_eqItemS at h
  refine WP_seq ?_
  refine WP_region ?_
  refine WL_box (cs := [.int .i64 p0_0, vp0_1, .int .i64 p0_2]) H rfl rfl rfl rfl (fun b1 w2 H3 => ?_)
  have H4 : Holds (([] : List Res).flatMap Res.own) w w2 [.bx b1 84 [.int .i64 p0_0, vp0_1, .int .i64 p0_2]] G := H3
  refine WL_box (cs := [.int .i64 p1_0, vp1_1, .int .i64 p1_2]) H4 rfl rfl rfl rfl (fun b5 w6 H7 => ?_)
  have H8 : Holds (([] : List Res).flatMap Res.own) w w6 [.bx b5 84 [.int .i64 p1_0, vp1_1, .int .i64 p1_2], .bx b1 84 [.int .i64 p0_0, vp0_1, .int .i64 p0_2]] G := H7
  refine XL_q rfl (qt_assign rfl) rfl rfl ?_
  refine WL_nil_seq ?_
  refine WP_seq ?_
  refine WP_seq ?_
  refine WP_region ?_
  refine XL_q rfl (qt_fieldAddr uf84 fi84_0 nz3 rfl) rfl rfl ?_
  have hB9 : Bx w6 b1 84 [.int .i64 p0_0, vp0_1, .int .i64 p0_2] := Holds.bx (H8.pull 1)
  refine XL_load_bx u3 rfl hB9 rfl rfl rfl rfl ?_
  refine XL_q rfl (qt_fieldAddr uf84 fi84_0 nz3 rfl) rfl rfl ?_
  have hB10 : Bx w6 b5 84 [.int .i64 p1_0, vp1_1, .int .i64 p1_2] := Holds.bx (H8.pull 0)
  refine XL_load_bx u3 rfl hB10 rfl rfl rfl rfl ?_
  refine XL_q rfl (qt_neq rfl rfl) rfl rfl ?_
  refine WL_nil_seq ?_
  refine WP_cond rfl (fun hc11 => ?_) (fun hc11 => ?_)
  · have h := if_t hc11 h
    refine WP_seq ?_
    refine WP_region ?_
    refine XL_q rfl (qt_assign rfl) rfl rfl ?_
    refine WL_nil_seq ?_
    refine WP_ret fun a ha => ?_
    obtain rfl := Option.some.inj h
    have H12 : Holds (([] : List Res).flatMap Res.own) w w6 [] G := ((H8.cut 0).cut 0)
    exact ret_seq (ret1 rfl ha rfl ⟨rfl, H12⟩)
  · have h := if_f hc11 h
    refine WP_skip_seq ?_
    refine WP_seq ?_
    refine WP_seq ?_
    refine WP_still ?_
    refine XL_q rfl (qt_fieldAddr uf84 fi84_1 nz82 rfl) rfl rfl ?_
    have hB13 : Bx w6 b1 84 [.int .i64 p0_0, vp0_1, .int .i64 p0_2] := Holds.bx (H8.pull 1)
    refine XL_load_bx u82 rfl hB13 rfl rfl rfl rfl ?_
    refine XL_q rfl (qt_fieldAddr uf84 fi84_1 nz82 rfl) rfl rfl ?_
    have hB14 : Bx w6 b5 84 [.int .i64 p1_0, vp1_1, .int .i64 p1_2] := Holds.bx (H8.pull 0)
    refine XL_load_bx u82 rfl hB14 rfl rfl rfl rfl ?_
    obtain ⟨x15, hx16, h⟩ := bind_some h
    refine QL_call rfl rfl c79 (fun w' hb => (w_laws_eqPartS w' ([.bx b5 84 [.int .i64 p1_0, vp1_1, .int .i64 p1_2], .bx b1 84 [.int .i64 p0_0, vp0_1, .int .i64 p0_2]] ++ G) vp0_1 p0_1 (hp0_1.c.c) vp1_1 p1_1 (hp1_1.c.c) x15 hx16 (H8.grow hb).ctx).mono fun e w'' hK => ⟨hK.1, hK.2.bel⟩) (by rfl) ?_
    refine XL_q rfl (qt_not rfl) rfl rfl ?_
    refine QL_nil fun a ha w17 hb18 => ?_
    have H19 : Holds (([] : List Res).flatMap Res.own) w w17 [.bx b5 84 [.int .i64 p1_0, vp1_1, .int .i64 p1_2], .bx b1 84 [.int .i64 p0_0, vp0_1, .int .i64 p0_2]] G := H8.grow hb18
    refine nrm_seq (WP.app ?_ ha)
    refine WP_cond rfl (fun hc20 => ?_) (fun hc20 => ?_)
    · have h := if_t hc20 h
      refine WP_seq ?_
      refine WP_region ?_
      refine XL_q rfl (qt_assign rfl) rfl rfl ?_
      refine WL_nil_seq ?_
      refine WP_ret fun a ha => ?_
      obtain rfl := Option.some.inj h
      have H21 : Holds (([] : List Res).flatMap Res.own) w w17 [] G := ((H19.cut 0).cut 0)
      exact ret_seq (ret1 rfl ha rfl ⟨rfl, H21⟩)
    · have h := if_f hc20 h
      refine WP_skip_seq ?_
      refine WP_seq ?_
      refine WP_seq ?_
      refine WP_region ?_
      refine XL_q rfl (qt_fieldAddr uf84 fi84_2 nz3 rfl) rfl rfl ?_
      have hB22 : Bx w17 b1 84 [.int .i64 p0_0, vp0_1, .int .i64 p0_2] := Holds.bx (H19.pull 1)
      refine XL_load_bx u3 rfl hB22 rfl rfl rfl rfl ?_
      refine XL_q rfl (qt_fieldAddr uf84 fi84_2 nz3 rfl) rfl rfl ?_
      have hB23 : Bx w17 b5 84 [.int .i64 p1_0, vp1_1, .int .i64 p1_2] := Holds.bx (H19.pull 0)
      refine XL_load_bx u3 rfl hB23 rfl rfl rfl rfl ?_
      refine XL_q rfl (qt_neq rfl rfl) rfl rfl ?_
      refine WL_nil_seq ?_
      refine WP_cond rfl (fun hc24 => ?_) (fun hc24 => ?_)
      · have h := if_t hc24 h
        refine WP_seq ?_
        refine WP_region ?_
        refine XL_q rfl (qt_assign rfl) rfl rfl ?_
        refine WL_nil_seq ?_
        refine WP_ret fun a ha => ?_
        obtain rfl := Option.some.inj h
        have H25 : Holds (([] : List Res).flatMap Res.own) w w17 [] G := ((H19.cut 0).cut 0)
        exact ret_seq (ret1 rfl ha rfl ⟨rfl, H25⟩)
      · have h := if_f hc24 h
        refine WP_skip_seq ?_
        refine WP_seq ?_
        refine WP_region ?_
        refine XL_q rfl (qt_assign rfl) rfl rfl ?_
        refine WL_nil_seq ?_
        refine WP_ret fun a ha => ?_
        obtain rfl := Option.some.inj h
        have H26 : Holds (([] : List Res).flatMap Res.own) w w17 [] G := ((H19.cut 0).cut 0)
        exact ret1 rfl ha rfl ⟨rfl, H26⟩
theorem w_laws_eqItemS (w : World) (G : List Res) (vp0 : Value) (p0 : List (Int × (List (Int × Int)) × Int)) (hp0 : Has G (.pair (.int .i64) (.pair (.slice (.pair (.int .i64) (.int .i64))) (.int .i64))) vp0 p0) (vp1 : Value) (p1 : List (Int × (List (Int × Int)) × Int)) (hp1 : Has G (.pair (.int .i64) (.pair (.slice (.pair (.int .i64) (.int .i64))) (.int .i64))) vp1 p1) (r : Bool) (h : laws_eqItemSS p0 p1 = some r) (H : Ctx w G) : Calls Try.prog 37 #[vp0, vp1] w fun e w' => e = .returned (.bool r) ∧ Holds (([] : List Res).flatMap Res.own) w w' [] G := by
  have H : Holds (([] : List Res).flatMap Res.own) w w [] G := Holds.startN H
  refine calls_enter (args := [vp0, vp1]) (n := 27) Try.func37 rfl rfl rfl ?_
  unfold laws_eqItemSS at h
  refine WP_seq ?_
  refine WP_region ?_
  refine XL_q rfl (qt_assign rfl) rfl rfl ?_
  refine WL_nil_seq ?_
  refine WP_seq ?_
  refine WP_seq ?_
  refine WP_region ?_
  refine XL_q rfl (qt_move rfl) rfl rfl ?_
  refine XL_lenH H.ctx (t := (.pair (.int .i64) (.pair (.slice (.pair (.int .i64) (.int .i64))) (.int .i64)))) (hp0) u29 rfl rfl rfl ?_
  refine XL_q rfl (qt_move rfl) rfl rfl ?_
  refine XL_lenH H.ctx (t := (.pair (.int .i64) (.pair (.slice (.pair (.int .i64) (.int .i64))) (.int .i64)))) (hp1) u29 rfl rfl rfl ?_
  refine XL_q rfl (qt_neq rfl rfl) rfl rfl ?_
  refine WL_nil_seq ?_
  refine WP_cond rfl (fun hc1 => ?_) (fun hc1 => ?_)
  · have h := if_t hc1 h
    refine WP_seq ?_
    refine WP_region ?_
    refine XL_q rfl (qt_assign rfl) rfl rfl ?_
    refine WL_nil_seq ?_
    refine WP_ret fun a ha => ?_
    obtain rfl := Option.some.inj h
    exact ret_seq (ret1 rfl ha rfl ⟨rfl, H⟩)
  · have h := if_f hc1 h
    refine WP_skip_seq ?_
    refine WP_seq ?_
    refine WP_seq ?_
    refine WP_region ?_
    refine XL_q rfl (qt_assign rfl) rfl rfl ?_
    refine WL_nil_seq ?_
    refine WP_block ?_
    obtain ⟨o3, ho4, h⟩ := bind_some h
    refine fun a5 ha6 => wp_loop_fix (I := fun s a w2 => match s with | s2 => (Fr a 27 [(0, vp0), (1, vp1), (5, .int .i64 s2)] ∧ Holds (([] : List Res).flatMap Res.own) w w2 [] G)) (O := fun o e a w2 => match o with | .inl _ => e = .exit 0 ∧ (Fr a 27 [] ∧ Holds (([] : List Res).flatMap Res.own) w w2 [] G) | .inr q0 => e = .ret ∧ (Fr a 27 [(4, .bool q0)] ∧ Holds (([] : List Res).flatMap Res.own) w w2 [] G)) ho4 ?_ ?_ ?_
    · exact ⟨ha6.sub ⟨rfl, rfl, rfl, trivial⟩, H⟩
    · clear ha6
      intro s o9 a w7 hs8 hI10
      obtain ⟨s2, rfl⟩ : ∃ z, z = s := ⟨s, rfl⟩
      obtain ⟨ha, H11⟩ := hI10
      refine WP.app ?_ ha
      clear ha
      refine WP_seq ?_
      refine WP_seq ?_
      refine WP_region ?_
      refine XL_q rfl (qt_move rfl) rfl rfl ?_
      refine XL_q rfl (qt_move rfl) rfl rfl ?_
      refine XL_lenH H11.ctx (t := (.pair (.int .i64) (.pair (.slice (.pair (.int .i64) (.int .i64))) (.int .i64)))) (hp0) u29 rfl rfl rfl ?_
      refine XL_q rfl (qt_lss rfl rfl) rfl rfl ?_
      refine WL_nil_seq ?_
      refine WP_cond rfl (fun hc12 => ?_) (fun hc12 => ?_)
      · have hs8 := if_t hc12 hs8
        refine WP_skip_seq ?_
        refine WP_seq ?_
        refine WP_block ?_
        refine WP_seq ?_
        refine WP_quiet (by kernel_rfl) (by kernel_rfl) ?_
        refine XL_q rfl (qt_move rfl) rfl rfl ?_
        refine XL_q rfl (qt_move rfl) rfl rfl ?_
        obtain ⟨x13, hx14, hs8⟩ := bind_some hs8
        refine XL_indexH H11.ctx (hp0) hx14 u29 i84 rfl rfl rfl rfl (fun b15 off16 cap17 hv18 => ?_)
        obtain ⟨F19, hat20, hdup21⟩ := H11.atN (hp0) hx14 hv18
        refine XL_load_agg (t := (.pair (.int .i64) (.pair (.slice (.pair (.int .i64) (.int .i64))) (.int .i64)))) us84 uo84 i84 hat20 rfl rfl rfl (fun cs22 hr23 => ?_)
        obtain ⟨c24, c25, F26, F27, rfl, eF30, hr28, hr29⟩ := hr23
        obtain ⟨rfl, _⟩ := hr28
        obtain ⟨c31, c32, F33, F34, rfl, eF37, hr35, hr36⟩ := hr29
        obtain ⟨v38, rfl, hr39⟩ := Rep.sl_inv hr35
        obtain ⟨rfl, _⟩ := hr36
        have H40 : Holds (([] : List Res).flatMap Res.own) w w7 [.ro (.pair (.int .i64) (.int .i64)) v38 x13.2.1] G := hdup21 [.ro (.pair (.int .i64) (.int .i64)) v38 x13.2.1] ⟨⟨_, _, _, _, rfl, hr39, (fun k h => (fun k h => (fun _ h => h) k (by rw [eF30]; exact List.mem_append_right _ h)) k (by rw [eF37]; exact List.mem_append_left _ h))⟩, trivial⟩
        change XL _ _ _ _ _ ((20, .agg #[.int .i64 x13.1, v38, .int .i64 x13.2.2]) :: _) _
        refine XL_q rfl (qt_move rfl) rfl rfl ?_
        refine XL_q rfl (qt_move rfl) rfl rfl ?_
        obtain ⟨x41, hx42, hs8⟩ := bind_some hs8
        refine XL_indexH H40.ctx (hp1.c) hx42 u29 i84 rfl rfl rfl rfl (fun b43 off44 cap45 hv46 => ?_)
        obtain ⟨F47, hat48, hdup49⟩ := H40.atN (hp1.c) hx42 hv46
        refine XL_load_agg (t := (.pair (.int .i64) (.pair (.slice (.pair (.int .i64) (.int .i64))) (.int .i64)))) us84 uo84 i84 hat48 rfl rfl rfl (fun cs50 hr51 => ?_)
        obtain ⟨c52, c53, F54, F55, rfl, eF58, hr56, hr57⟩ := hr51
        obtain ⟨rfl, _⟩ := hr56
        obtain ⟨c59, c60, F61, F62, rfl, eF65, hr63, hr64⟩ := hr57
        obtain ⟨v66, rfl, hr67⟩ := Rep.sl_inv hr63
        obtain ⟨rfl, _⟩ := hr64
        have H68 : Holds (([] : List Res).flatMap Res.own) w w7 [.ro (.pair (.int .i64) (.int .i64)) v66 x41.2.1, .ro (.pair (.int .i64) (.int .i64)) v38 x13.2.1] G := hdup49 [.ro (.pair (.int .i64) (.int .i64)) v66 x41.2.1] ⟨⟨_, _, _, _, rfl, hr67, (fun k h => (fun k h => (fun _ h => h) k (by rw [eF58]; exact List.mem_append_right _ h)) k (by rw [eF65]; exact List.mem_append_left _ h))⟩, trivial⟩
        change XL _ _ _ _ _ ((24, .agg #[.int .i64 x41.1, v66, .int .i64 x41.2.2]) :: _) _
        obtain ⟨x69, hx70, hs8⟩ := bind_some hs8
        refine QL_call rfl rfl c60 (fun w' hb => (w_laws_eqItem w' ([.ro (.pair (.int .i64) (.int .i64)) v66 x41.2.1, .ro (.pair (.int .i64) (.int .i64)) v38 x13.2.1] ++ G) x13.1 v38 x13.2.1 (HasRo.has (HasRo.c (HasRo.hd))) x13.2.2 x41.1 v66 x41.2.1 (HasRo.has (HasRo.hd)) x41.2.2 x69 hx70 (H68.grow hb).ctx).mono fun e w'' hK => ⟨hK.1, hK.2.bel⟩) (by rfl) ?_
        refine XL_q rfl (qt_not rfl) rfl rfl ?_
        refine QL_nil fun a ha w71 hb72 => ?_
        have H73 : Holds (([] : List Res).flatMap Res.own) w w71 [.ro (.pair (.int .i64) (.int .i64)) v66 x41.2.1, .ro (.pair (.int .i64) (.int .i64)) v38 x13.2.1] G := H68.grow hb72
        refine nrm_seq (WP.app ?_ ha)
        refine WP_cond rfl (fun hc74 => ?_) (fun hc74 => ?_)
        · have hs8 := if_t hc74 hs8
          refine WP_seq ?_
          refine WP_region ?_
          refine XL_q rfl (qt_assign rfl) rfl rfl ?_
          refine WL_nil_seq ?_
          refine WP_ret fun a ha => ?_
          obtain rfl := Option.some.inj hs8
          have H75 : Holds (([] : List Res).flatMap Res.own) w w71 [] G := ((H73.cut 0).cut 0)
          exact ret_block (ret_seq (⟨ret_ne, rfl, ha.sub ⟨rfl, trivial⟩, H75⟩))
        · have hs8 := if_f hc74 hs8
          refine WP_skip fun a ha => ?_
          refine nrm_block (nrm_seq (WP.app ?_ ha))
          refine WP_region ?_
          refine XL_q rfl (qt_move rfl) rfl rfl ?_
          refine XL_q rfl (qt_add rfl rfl) rfl rfl ?_
          refine XL_q rfl (qt_assign rfl) rfl rfl ?_
          refine WL_nil fun a ha => ?_
          obtain rfl := Option.some.inj hs8
          have H76 : Holds (([] : List Res).flatMap Res.own) w w71 [] G := ((H73.cut 0).cut 0)
          exact ⟨rfl, ha.sub ⟨rfl, rfl, rfl, trivial⟩, H76⟩
      · have hs8 := if_f hc12 hs8
        refine WP_exit fun a ha => ?_
        obtain rfl := Option.some.inj hs8
        exact exit_seq (⟨exit_ne, rfl, ha.sub trivial, H11⟩)
    · intro e a5 w77 hO78
      rcases o3 with o3 | o3
      · skip
        obtain ⟨rfl, hO80⟩ := hO78
        obtain ⟨ha, H79⟩ := hO80
        refine exit_block_eq (nrm_seq (WP.app ?_ ha))
        refine WP_seq ?_
        refine WP_region ?_
        refine XL_q rfl (qt_assign rfl) rfl rfl ?_
        refine WL_nil_seq ?_
        refine WP_ret fun a ha => ?_
        obtain rfl := Option.some.inj h
        exact ret1 rfl ha rfl ⟨rfl, H79⟩
      · skip
        obtain ⟨p81, rfl⟩ : ∃ z, z = o3 := ⟨o3, rfl⟩
        obtain ⟨rfl, hO83⟩ := hO78
        obtain ⟨ha, H82⟩ := hO83
        obtain rfl := Option.some.inj h
        exact ret_block (ret_seq (ret1 rfl ha rfl ⟨rfl, H82⟩))
theorem w_laws_eqIntS (w : World) (G : List Res) (vp0 : Value) (p0 : List Int) (hp0 : Has G (.int .i64) vp0 p0) (vp1 : Value) (p1 : List Int) (hp1 : Has G (.int .i64) vp1 p1) (r : Bool) (h : laws_eqIntSS p0 p1 = some r) (H : Ctx w G) : Calls Try.prog 38 #[vp0, vp1] w fun e w' => e = .returned (.bool r) ∧ Holds (([] : List Res).flatMap Res.own) w w' [] G := by
  have H : Holds (([] : List Res).flatMap Res.own) w w [] G := Holds.startN H
  refine calls_enter (args := [vp0, vp1]) (n := 26) Try.func38 rfl rfl rfl ?_
  unfold laws_eqIntSS at h
  refine WP_seq ?_
  refine WP_region ?_
  refine XL_q rfl (qt_assign rfl) rfl rfl ?_
  refine WL_nil_seq ?_
  refine WP_seq ?_
  refine WP_seq ?_
  refine WP_region ?_
  refine XL_q rfl (qt_move rfl) rfl rfl ?_
  refine XL_lenH H.ctx (t := (.int .i64)) (hp0) u23 rfl rfl rfl ?_
  refine XL_q rfl (qt_move rfl) rfl rfl ?_
  refine XL_lenH H.ctx (t := (.int .i64)) (hp1) u23 rfl rfl rfl ?_
  refine XL_q rfl (qt_neq rfl rfl) rfl rfl ?_
  refine WL_nil_seq ?_
  refine WP_cond rfl (fun hc1 => ?_) (fun hc1 => ?_)
  · have h := if_t hc1 h
    refine WP_seq ?_
    refine WP_region ?_
    refine XL_q rfl (qt_assign rfl) rfl rfl ?_
    refine WL_nil_seq ?_
    refine WP_ret fun a ha => ?_
    obtain rfl := Option.some.inj h
    exact ret_seq (ret1 rfl ha rfl ⟨rfl, H⟩)
  · have h := if_f hc1 h
    refine WP_skip_seq ?_
    refine WP_seq ?_
    refine WP_seq ?_
    refine WP_region ?_
    refine XL_q rfl (qt_assign rfl) rfl rfl ?_
    refine WL_nil_seq ?_
    refine WP_block ?_
    obtain ⟨o3, ho4, h⟩ := bind_some h
    refine fun a5 ha6 => wp_loop_fix (I := fun s a w2 => match s with | s2 => (Fr a 26 [(0, vp0), (1, vp1), (5, .int .i64 s2)] ∧ Holds (([] : List Res).flatMap Res.own) w w2 [] G)) (O := fun o e a w2 => match o with | .inl _ => e = .exit 0 ∧ (Fr a 26 [] ∧ Holds (([] : List Res).flatMap Res.own) w w2 [] G) | .inr q0 => e = .ret ∧ (Fr a 26 [(4, .bool q0)] ∧ Holds (([] : List Res).flatMap Res.own) w w2 [] G)) ho4 ?_ ?_ ?_
    · exact ⟨ha6.sub ⟨rfl, rfl, rfl, trivial⟩, H⟩
    · clear ha6
      intro s o9 a w7 hs8 hI10
      obtain ⟨s2, rfl⟩ : ∃ z, z = s := ⟨s, rfl⟩
      obtain ⟨ha, H11⟩ := hI10
      refine WP.app ?_ ha
      clear ha
      refine WP_seq ?_
      refine WP_seq ?_
      refine WP_region ?_
      refine XL_q rfl (qt_move rfl) rfl rfl ?_
      refine XL_q rfl (qt_move rfl) rfl rfl ?_
      refine XL_lenH H11.ctx (t := (.int .i64)) (hp0) u23 rfl rfl rfl ?_
      refine XL_q rfl (qt_lss rfl rfl) rfl rfl ?_
      refine WL_nil_seq ?_
      refine WP_cond rfl (fun hc12 => ?_) (fun hc12 => ?_)
      · have hs8 := if_t hc12 hs8
        refine WP_skip_seq ?_
        refine WP_seq ?_
        refine WP_block ?_
        refine WP_seq ?_
        refine WP_quiet (by kernel_rfl) (by kernel_rfl) ?_
        refine XL_q rfl (qt_move rfl) rfl rfl ?_
        refine XL_q rfl (qt_move rfl) rfl rfl ?_
        obtain ⟨x13, hx14, hs8⟩ := bind_some hs8
        refine XL_indexH H11.ctx (hp0) hx14 u23 i3 rfl rfl rfl rfl (fun b15 off16 cap17 hv18 => ?_)
        obtain ⟨F19, hat20, hdup21⟩ := H11.at (hp0) hx14 hv18
        refine XL_load_int (k := .i64) u3 rfl hat20 rfl rfl rfl ?_
        refine XL_q rfl (qt_move rfl) rfl rfl ?_
        refine XL_q rfl (qt_move rfl) rfl rfl ?_
        obtain ⟨x22, hx23, hs8⟩ := bind_some hs8
        refine XL_indexH H11.ctx (hp1) hx23 u23 i3 rfl rfl rfl rfl (fun b24 off25 cap26 hv27 => ?_)
        obtain ⟨F28, hat29, hdup30⟩ := H11.at (hp1) hx23 hv27
        refine XL_load_int (k := .i64) u3 rfl hat29 rfl rfl rfl ?_
        refine XL_q rfl (qt_neq rfl rfl) rfl rfl ?_
        refine QL_nil fun a ha w31 hb32 => ?_
        have H33 : Holds (([] : List Res).flatMap Res.own) w w31 [] G := H11.grow hb32
        refine nrm_seq (WP.app ?_ ha)
        refine WP_cond rfl (fun hc34 => ?_) (fun hc34 => ?_)
        · have hs8 := if_t hc34 hs8
          refine WP_seq ?_
          refine WP_region ?_
          refine XL_q rfl (qt_assign rfl) rfl rfl ?_
          refine WL_nil_seq ?_
          refine WP_ret fun a ha => ?_
          obtain rfl := Option.some.inj hs8
          exact ret_block (ret_seq (⟨ret_ne, rfl, ha.sub ⟨rfl, trivial⟩, H33⟩))
        · have hs8 := if_f hc34 hs8
          refine WP_skip fun a ha => ?_
          refine nrm_block (nrm_seq (WP.app ?_ ha))
          refine WP_region ?_
          refine XL_q rfl (qt_move rfl) rfl rfl ?_
          refine XL_q rfl (qt_add rfl rfl) rfl rfl ?_
          refine XL_q rfl (qt_assign rfl) rfl rfl ?_
          refine WL_nil fun a ha => ?_
          obtain rfl := Option.some.inj hs8
          exact ⟨rfl, ha.sub ⟨rfl, rfl, rfl, trivial⟩, H33⟩
      · have hs8 := if_f hc12 hs8
        refine WP_exit fun a ha => ?_
        obtain rfl := Option.some.inj hs8
        exact exit_seq (⟨exit_ne, rfl, ha.sub trivial, H11⟩)
    · intro e a5 w35 hO36
      rcases o3 with o3 | o3
      · skip
        obtain ⟨rfl, hO38⟩ := hO36
        obtain ⟨ha, H37⟩ := hO38
        refine exit_block_eq (nrm_seq (WP.app ?_ ha))
        refine WP_seq ?_
        refine WP_region ?_
        refine XL_q rfl (qt_assign rfl) rfl rfl ?_
        refine WL_nil_seq ?_
        refine WP_ret fun a ha => ?_
        obtain rfl := Option.some.inj h
        exact ret1 rfl ha rfl ⟨rfl, H37⟩
      · skip
        obtain ⟨p39, rfl⟩ : ∃ z, z = o3 := ⟨o3, rfl⟩
        obtain ⟨rfl, hO41⟩ := hO36
        obtain ⟨ha, H40⟩ := hO41
        obtain rfl := Option.some.inj h
        exact ret_block (ret_seq (ret1 rfl ha rfl ⟨rfl, H40⟩))
theorem w_laws_eqOrder (w : World) (G : List Res) (p0_0 : Int) (p0_1 : Int) (p1_0 : Int) (p1_1 : Int) (r : Bool) (h : laws_eqOrderS p0_0 p0_1 p1_0 p1_1 = some r) (H : Ctx w G) : Calls Try.prog 86 #[.agg #[.int .i64 p0_0, .int .i64 p0_1], .agg #[.int .i64 p1_0, .int .i64 p1_1]] w fun e w' => e = .returned (.bool r) ∧ Holds (([] : List Res).flatMap Res.own) w w' [] G := by
  have H : Holds (([] : List Res).flatMap Res.own) w w [] G := Holds.startN H
  refine calls_enter (args := [.agg #[.int .i64 p0_0, .int .i64 p0_1], .agg #[.int .i64 p1_0, .int .i64 p1_1]]) (n := 15) Try.func86 rfl rfl rfl ?_
  unfold laws_eqOrderS at h
  refine WP_seq ?_
  refine WP_region ?_
  refine WL_box (cs := [.int .i64 p0_0, .int .i64 p0_1]) H rfl rfl rfl rfl (fun b1 w2 H3 => ?_)
  have H4 : Holds (([] : List Res).flatMap Res.own) w w2 [.bx b1 63 [.int .i64 p0_0, .int .i64 p0_1]] G := H3
  refine WL_box (cs := [.int .i64 p1_0, .int .i64 p1_1]) H4 rfl rfl rfl rfl (fun b5 w6 H7 => ?_)
  have H8 : Holds (([] : List Res).flatMap Res.own) w w6 [.bx b5 63 [.int .i64 p1_0, .int .i64 p1_1], .bx b1 63 [.int .i64 p0_0, .int .i64 p0_1]] G := H7
  refine XL_q rfl (qt_assign rfl) rfl rfl ?_
  refine WL_nil_seq ?_
  refine WP_seq ?_
  refine WP_seq ?_
  refine WP_region ?_
  refine XL_q rfl (qt_fieldAddr uf63 fi63_0 nz3 rfl) rfl rfl ?_
  have hB9 : Bx w6 b1 63 [.int .i64 p0_0, .int .i64 p0_1] := Holds.bx (H8.pull 1)
  refine XL_load_bx u3 rfl hB9 rfl rfl rfl rfl ?_
  refine XL_q rfl (qt_fieldAddr uf63 fi63_0 nz3 rfl) rfl rfl ?_
  have hB10 : Bx w6 b5 63 [.int .i64 p1_0, .int .i64 p1_1] := Holds.bx (H8.pull 0)
  refine XL_load_bx u3 rfl hB10 rfl rfl rfl rfl ?_
  refine XL_q rfl (qt_neq rfl rfl) rfl rfl ?_
  refine WL_nil_seq ?_
  refine WP_cond rfl (fun hc11 => ?_) (fun hc11 => ?_)
  · have h := if_t hc11 h
    refine WP_seq ?_
    refine WP_region ?_
    refine XL_q rfl (qt_assign rfl) rfl rfl ?_
    refine WL_nil_seq ?_
    refine WP_ret fun a ha => ?_
    obtain rfl := Option.some.inj h
    have H12 : Holds (([] : List Res).flatMap Res.own) w w6 [] G := ((H8.cut 0).cut 0)
    exact ret_seq (ret1 rfl ha rfl ⟨rfl, H12⟩)
  · have h := if_f hc11 h
    refine WP_skip_seq ?_
    refine WP_seq ?_
    refine WP_seq ?_
    refine WP_region ?_
    refine XL_q rfl (qt_fieldAddr uf63 fi63_1 nz3 rfl) rfl rfl ?_
    have hB13 : Bx w6 b1 63 [.int .i64 p0_0, .int .i64 p0_1] := Holds.bx (H8.pull 1)
    refine XL_load_bx u3 rfl hB13 rfl rfl rfl rfl ?_
    refine XL_q rfl (qt_fieldAddr uf63 fi63_1 nz3 rfl) rfl rfl ?_
    have hB14 : Bx w6 b5 63 [.int .i64 p1_0, .int .i64 p1_1] := Holds.bx (H8.pull 0)
    refine XL_load_bx u3 rfl hB14 rfl rfl rfl rfl ?_
    refine XL_q rfl (qt_neq rfl rfl) rfl rfl ?_
    refine WL_nil_seq ?_
    refine WP_cond rfl (fun hc15 => ?_) (fun hc15 => ?_)
    · have h := if_t hc15 h
      refine WP_seq ?_
      refine WP_region ?_
      refine XL_q rfl (qt_assign rfl) rfl rfl ?_
      refine WL_nil_seq ?_
      refine WP_ret fun a ha => ?_
      obtain rfl := Option.some.inj h
      have H16 : Holds (([] : List Res).flatMap Res.own) w w6 [] G := ((H8.cut 0).cut 0)
      exact ret_seq (ret1 rfl ha rfl ⟨rfl, H16⟩)
    · have h := if_f hc15 h
      refine WP_skip_seq ?_
      refine WP_seq ?_
      refine WP_region ?_
      refine XL_q rfl (qt_assign rfl) rfl rfl ?_
      refine WL_nil_seq ?_
      refine WP_ret fun a ha => ?_
      obtain rfl := Option.some.inj h
      have H17 : Holds (([] : List Res).flatMap Res.own) w w6 [] G := ((H8.cut 0).cut 0)
      exact ret1 rfl ha rfl ⟨rfl, H17⟩
theorem w_laws_eqOrderS (w : World) (G : List Res) (vp0 : Value) (p0 : List (Int × Int)) (hp0 : Has G (.pair (.int .i64) (.int .i64)) vp0 p0) (vp1 : Value) (p1 : List (Int × Int)) (hp1 : Has G (.pair (.int .i64) (.int .i64)) vp1 p1) (r : Bool) (h : laws_eqOrderSS p0 p1 = some r) (H : Ctx w G) : Calls Try.prog 80 #[vp0, vp1] w fun e w' => e = .returned (.bool r) ∧ Holds (([] : List Res).flatMap Res.own) w w' [] G := by
  have H : Holds (([] : List Res).flatMap Res.own) w w [] G := Holds.startN H
  refine calls_enter (args := [vp0, vp1]) (n := 27) Try.func80 rfl rfl rfl ?_
  unfold laws_eqOrderSS at h
  refine WP_seq ?_
  refine WP_region ?_
  refine XL_q rfl (qt_assign rfl) rfl rfl ?_
  refine WL_nil_seq ?_
  refine WP_seq ?_
  refine WP_seq ?_
  refine WP_region ?_
  refine XL_q rfl (qt_move rfl) rfl rfl ?_
  refine XL_lenH H.ctx (t := (.pair (.int .i64) (.int .i64))) (hp0) u48 rfl rfl rfl ?_
  refine XL_q rfl (qt_move rfl) rfl rfl ?_
  refine XL_lenH H.ctx (t := (.pair (.int .i64) (.int .i64))) (hp1) u48 rfl rfl rfl ?_
  refine XL_q rfl (qt_neq rfl rfl) rfl rfl ?_
  refine WL_nil_seq ?_
  refine WP_cond rfl (fun hc1 => ?_) (fun hc1 => ?_)
  · have h := if_t hc1 h
    refine WP_seq ?_
    refine WP_region ?_
    refine XL_q rfl (qt_assign rfl) rfl rfl ?_
    refine WL_nil_seq ?_
    refine WP_ret fun a ha => ?_
    obtain rfl := Option.some.inj h
    exact ret_seq (ret1 rfl ha rfl ⟨rfl, H⟩)
  · have h := if_f hc1 h
    refine WP_skip_seq ?_
    refine WP_seq ?_
    refine WP_seq ?_
    refine WP_region ?_
    refine XL_q rfl (qt_assign rfl) rfl rfl ?_
    refine WL_nil_seq ?_
    refine WP_block ?_
    obtain ⟨o3, ho4, h⟩ := bind_some h
    refine fun a5 ha6 => wp_loop_fix (I := fun s a w2 => match s with | s2 => (Fr a 27 [(0, vp0), (1, vp1), (5, .int .i64 s2)] ∧ Holds (([] : List Res).flatMap Res.own) w w2 [] G)) (O := fun o e a w2 => match o with | .inl _ => e = .exit 0 ∧ (Fr a 27 [] ∧ Holds (([] : List Res).flatMap Res.own) w w2 [] G) | .inr q0 => e = .ret ∧ (Fr a 27 [(4, .bool q0)] ∧ Holds (([] : List Res).flatMap Res.own) w w2 [] G)) ho4 ?_ ?_ ?_
    · exact ⟨ha6.sub ⟨rfl, rfl, rfl, trivial⟩, H⟩
    · clear ha6
      intro s o9 a w7 hs8 hI10
      obtain ⟨s2, rfl⟩ : ∃ z, z = s := ⟨s, rfl⟩
      obtain ⟨ha, H11⟩ := hI10
      refine WP.app ?_ ha
      clear ha
      refine WP_seq ?_
      refine WP_seq ?_
      refine WP_region ?_
      refine XL_q rfl (qt_move rfl) rfl rfl ?_
      refine XL_q rfl (qt_move rfl) rfl rfl ?_
      refine XL_lenH H11.ctx (t := (.pair (.int .i64) (.int .i64))) (hp0) u48 rfl rfl rfl ?_
      refine XL_q rfl (qt_lss rfl rfl) rfl rfl ?_
      refine WL_nil_seq ?_
      refine WP_cond rfl (fun hc12 => ?_) (fun hc12 => ?_)
      · have hs8 := if_t hc12 hs8
        refine WP_skip_seq ?_
        refine WP_seq ?_
        refine WP_block ?_
        refine WP_seq ?_
        refine WP_quiet (by kernel_rfl) (by kernel_rfl) ?_
        refine XL_q rfl (qt_move rfl) rfl rfl ?_
        refine XL_q rfl (qt_move rfl) rfl rfl ?_
        obtain ⟨x13, hx14, hs8⟩ := bind_some hs8
        refine XL_indexH H11.ctx (hp0) hx14 u48 i63 rfl rfl rfl rfl (fun b15 off16 cap17 hv18 => ?_)
        obtain ⟨F19, hat20, hdup21⟩ := H11.atN (hp0) hx14 hv18
        refine XL_load_agg (t := (.pair (.int .i64) (.int .i64))) us63 uo63 i63 hat20 rfl rfl rfl (fun cs22 hr23 => ?_)
        obtain ⟨c24, c25, F26, F27, rfl, eF30, hr28, hr29⟩ := hr23
        obtain ⟨rfl, _⟩ := hr28
        obtain ⟨rfl, _⟩ := hr29
        change XL _ _ _ _ _ ((20, .agg #[.int .i64 x13.1, .int .i64 x13.2]) :: _) _
        refine XL_q rfl (qt_move rfl) rfl rfl ?_
        refine XL_q rfl (qt_move rfl) rfl rfl ?_
        obtain ⟨x31, hx32, hs8⟩ := bind_some hs8
        refine XL_indexH H11.ctx (hp1) hx32 u48 i63 rfl rfl rfl rfl (fun b33 off34 cap35 hv36 => ?_)
        obtain ⟨F37, hat38, hdup39⟩ := H11.atN (hp1) hx32 hv36
        refine XL_load_agg (t := (.pair (.int .i64) (.int .i64))) us63 uo63 i63 hat38 rfl rfl rfl (fun cs40 hr41 => ?_)
        obtain ⟨c42, c43, F44, F45, rfl, eF48, hr46, hr47⟩ := hr41
        obtain ⟨rfl, _⟩ := hr46
        obtain ⟨rfl, _⟩ := hr47
        change XL _ _ _ _ _ ((24, .agg #[.int .i64 x31.1, .int .i64 x31.2]) :: _) _
        obtain ⟨x49, hx50, hs8⟩ := bind_some hs8
        refine QL_call rfl rfl c86 (fun w' hb => (w_laws_eqOrder w' G x13.1 x13.2 x31.1 x31.2 x49 hx50 (H11.grow hb).ctx).mono fun e w'' hK => ⟨hK.1, hK.2.bel⟩) (by rfl) ?_
        refine XL_q rfl (qt_not rfl) rfl rfl ?_
        refine QL_nil fun a ha w51 hb52 => ?_
        have H53 : Holds (([] : List Res).flatMap Res.own) w w51 [] G := H11.grow hb52
        refine nrm_seq (WP.app ?_ ha)
        refine WP_cond rfl (fun hc54 => ?_) (fun hc54 => ?_)
        · have hs8 := if_t hc54 hs8
          refine WP_seq ?_
          refine WP_region ?_
          refine XL_q rfl (qt_assign rfl) rfl rfl ?_
          refine WL_nil_seq ?_
          refine WP_ret fun a ha => ?_
          obtain rfl := Option.some.inj hs8
          exact ret_block (ret_seq (⟨ret_ne, rfl, ha.sub ⟨rfl, trivial⟩, H53⟩))
        · have hs8 := if_f hc54 hs8
          refine WP_skip fun a ha => ?_
          refine nrm_block (nrm_seq (WP.app ?_ ha))
          refine WP_region ?_
          refine XL_q rfl (qt_move rfl) rfl rfl ?_
          refine XL_q rfl (qt_add rfl rfl) rfl rfl ?_
          refine XL_q rfl (qt_assign rfl) rfl rfl ?_
          refine WL_nil fun a ha => ?_
          obtain rfl := Option.some.inj hs8
          exact ⟨rfl, ha.sub ⟨rfl, rfl, rfl, trivial⟩, H53⟩
      · have hs8 := if_f hc12 hs8
        refine WP_exit fun a ha => ?_
        obtain rfl := Option.some.inj hs8
        exact exit_seq (⟨exit_ne, rfl, ha.sub trivial, H11⟩)
    · intro e a5 w55 hO56
      rcases o3 with o3 | o3
      · skip
        obtain ⟨rfl, hO58⟩ := hO56
        obtain ⟨ha, H57⟩ := hO58
        refine exit_block_eq (nrm_seq (WP.app ?_ ha))
        refine WP_seq ?_
        refine WP_region ?_
        refine XL_q rfl (qt_assign rfl) rfl rfl ?_
        refine WL_nil_seq ?_
        refine WP_ret fun a ha => ?_
        obtain rfl := Option.some.inj h
        exact ret1 rfl ha rfl ⟨rfl, H57⟩
      · skip
        obtain ⟨p59, rfl⟩ : ∃ z, z = o3 := ⟨o3, rfl⟩
        obtain ⟨rfl, hO61⟩ := hO56
        obtain ⟨ha, H60⟩ := hO61
        obtain rfl := Option.some.inj h
        exact ret_block (ret_seq (ret1 rfl ha rfl ⟨rfl, H60⟩))
theorem w_laws_eqTable (w : World) (G : List Res) (p0_0 : Int) (vp0_1 : Value) (p0_1 : List (Int × Int)) (hp0_1 : Has G (.pair (.int .i64) (.int .i64)) vp0_1 p0_1) (vp0_2 : Value) (p0_2 : List Int) (hp0_2 : Has G (.int .i64) vp0_2 p0_2) (p1_0 : Int) (vp1_1 : Value) (p1_1 : List (Int × Int)) (hp1_1 : Has G (.pair (.int .i64) (.int .i64)) vp1_1 p1_1) (vp1_2 : Value) (p1_2 : List Int) (hp1_2 : Has G (.int .i64) vp1_2 p1_2) (r : Bool) (h : laws_eqTableS p0_0 p0_1 p0_2 p1_0 p1_1 p1_2 = some r) (H : Ctx w G) : Calls Try.prog 61 #[.agg #[.int .i64 p0_0, vp0_1, vp0_2], .agg #[.int .i64 p1_0, vp1_1, vp1_2]] w fun e w' => e = .returned (.bool r) ∧ Holds (([] : List Res).flatMap Res.own) w w' [] G := by
  have H : Holds (([] : List Res).flatMap Res.own) w w [] G := Holds.startN H
  refine calls_enter (args := [.agg #[.int .i64 p0_0, vp0_1, vp0_2], .agg #[.int .i64 p1_0, vp1_1, vp1_2]]) (n := 22) Try.func61 rfl rfl rfl ?_
  unfold laws_eqTableS at h
  refine WP_seq ?_
  refine WP_region ?_
  refine WL_box (cs := [.int .i64 p0_0, vp0_1, vp0_2]) H rfl rfl rfl rfl (fun b1 w2 H3 => ?_)
  have H4 : Holds (([] : List Res).flatMap Res.own) w w2 [.bx b1 50 [.int .i64 p0_0, vp0_1, vp0_2]] G := H3
  refine WL_box (cs := [.int .i64 p1_0, vp1_1, vp1_2]) H4 rfl rfl rfl rfl (fun b5 w6 H7 => ?_)
  have H8 : Holds (([] : List Res).flatMap Res.own) w w6 [.bx b5 50 [.int .i64 p1_0, vp1_1, vp1_2], .bx b1 50 [.int .i64 p0_0, vp0_1, vp0_2]] G := H7
  refine XL_q rfl (qt_assign rfl) rfl rfl ?_
  refine WL_nil_seq ?_
  refine WP_seq ?_
  refine WP_seq ?_
  refine WP_region ?_
  refine XL_q rfl (qt_fieldAddr uf50 fi50_0 nz3 rfl) rfl rfl ?_
  have hB9 : Bx w6 b1 50 [.int .i64 p0_0, vp0_1, vp0_2] := Holds.bx (H8.pull 1)
  refine XL_load_bx u3 rfl hB9 rfl rfl rfl rfl ?_
  refine XL_q rfl (qt_fieldAddr uf50 fi50_0 nz3 rfl) rfl rfl ?_
  have hB10 : Bx w6 b5 50 [.int .i64 p1_0, vp1_1, vp1_2] := Holds.bx (H8.pull 0)
  refine XL_load_bx u3 rfl hB10 rfl rfl rfl rfl ?_
  refine XL_q rfl (qt_neq rfl rfl) rfl rfl ?_
  refine WL_nil_seq ?_
  refine WP_cond rfl (fun hc11 => ?_) (fun hc11 => ?_)
  · have h := if_t hc11 h
    refine WP_seq ?_
    refine WP_region ?_
    refine XL_q rfl (qt_assign rfl) rfl rfl ?_
    refine WL_nil_seq ?_
    refine WP_ret fun a ha => ?_
    obtain rfl := Option.some.inj h
    have H12 : Holds (([] : List Res).flatMap Res.own) w w6 [] G := ((H8.cut 0).cut 0)
    exact ret_seq (ret1 rfl ha rfl ⟨rfl, H12⟩)
  · have h := if_f hc11 h
    refine WP_skip_seq ?_
    refine WP_seq ?_
    refine WP_seq ?_
    refine WP_still ?_
    refine XL_q rfl (qt_fieldAddr uf50 fi50_1 nz48 rfl) rfl rfl ?_
    have hB13 : Bx w6 b1 50 [.int .i64 p0_0, vp0_1, vp0_2] := Holds.bx (H8.pull 1)
    refine XL_load_bx u48 rfl hB13 rfl rfl rfl rfl ?_
    refine XL_q rfl (qt_fieldAddr uf50 fi50_1 nz48 rfl) rfl rfl ?_
    have hB14 : Bx w6 b5 50 [.int .i64 p1_0, vp1_1, vp1_2] := Holds.bx (H8.pull 0)
    refine XL_load_bx u48 rfl hB14 rfl rfl rfl rfl ?_
    obtain ⟨x15, hx16, h⟩ := bind_some h
    refine QL_call rfl rfl c80 (fun w' hb => (w_laws_eqOrderS w' ([.bx b5 50 [.int .i64 p1_0, vp1_1, vp1_2], .bx b1 50 [.int .i64 p0_0, vp0_1, vp0_2]] ++ G) vp0_1 p0_1 (hp0_1.c.c) vp1_1 p1_1 (hp1_1.c.c) x15 hx16 (H8.grow hb).ctx).mono fun e w'' hK => ⟨hK.1, hK.2.bel⟩) (by rfl) ?_
    refine XL_q rfl (qt_not rfl) rfl rfl ?_
    refine QL_nil fun a ha w17 hb18 => ?_
    have H19 : Holds (([] : List Res).flatMap Res.own) w w17 [.bx b5 50 [.int .i64 p1_0, vp1_1, vp1_2], .bx b1 50 [.int .i64 p0_0, vp0_1, vp0_2]] G := H8.grow hb18
    refine nrm_seq (WP.app ?_ ha)
    refine WP_cond rfl (fun hc20 => ?_) (fun hc20 => ?_)
    · have h := if_t hc20 h
      refine WP_seq ?_
      refine WP_region ?_
      refine XL_q rfl (qt_assign rfl) rfl rfl ?_
      refine WL_nil_seq ?_
      refine WP_ret fun a ha => ?_
      obtain rfl := Option.some.inj h
      have H21 : Holds (([] : List Res).flatMap Res.own) w w17 [] G := ((H19.cut 0).cut 0)
      exact ret_seq (ret1 rfl ha rfl ⟨rfl, H21⟩)
    · have h := if_f hc20 h
      refine WP_skip_seq ?_
      refine WP_seq ?_
      refine WP_seq ?_
      refine WP_still ?_
      refine XL_q rfl (qt_fieldAddr uf50 fi50_2 nz23 rfl) rfl rfl ?_
      have hB22 : Bx w17 b1 50 [.int .i64 p0_0, vp0_1, vp0_2] := Holds.bx (H19.pull 1)
      refine XL_load_bx u23 rfl hB22 rfl rfl rfl rfl ?_
      refine XL_q rfl (qt_fieldAddr uf50 fi50_2 nz23 rfl) rfl rfl ?_
      have hB23 : Bx w17 b5 50 [.int .i64 p1_0, vp1_1, vp1_2] := Holds.bx (H19.pull 0)
      refine XL_load_bx u23 rfl hB23 rfl rfl rfl rfl ?_
      obtain ⟨x24, hx25, h⟩ := bind_some h
      refine QL_call rfl rfl c38 (fun w' hb => (w_laws_eqIntS w' ([.bx b5 50 [.int .i64 p1_0, vp1_1, vp1_2], .bx b1 50 [.int .i64 p0_0, vp0_1, vp0_2]] ++ G) vp0_2 p0_2 (hp0_2.c.c) vp1_2 p1_2 (hp1_2.c.c) x24 hx25 (H19.grow hb).ctx).mono fun e w'' hK => ⟨hK.1, hK.2.bel⟩) (by rfl) ?_
      refine XL_q rfl (qt_not rfl) rfl rfl ?_
      refine QL_nil fun a ha w26 hb27 => ?_
      have H28 : Holds (([] : List Res).flatMap Res.own) w w26 [.bx b5 50 [.int .i64 p1_0, vp1_1, vp1_2], .bx b1 50 [.int .i64 p0_0, vp0_1, vp0_2]] G := H19.grow hb27
      refine nrm_seq (WP.app ?_ ha)
      refine WP_cond rfl (fun hc29 => ?_) (fun hc29 => ?_)
      · have h := if_t hc29 h
        refine WP_seq ?_
        refine WP_region ?_
        refine XL_q rfl (qt_assign rfl) rfl rfl ?_
        refine WL_nil_seq ?_
        refine WP_ret fun a ha => ?_
        obtain rfl := Option.some.inj h
        have H30 : Holds (([] : List Res).flatMap Res.own) w w26 [] G := ((H28.cut 0).cut 0)
        exact ret_seq (ret1 rfl ha rfl ⟨rfl, H30⟩)
      · have h := if_f hc29 h
        refine WP_skip_seq ?_
        refine WP_seq ?_
        refine WP_region ?_
        refine XL_q rfl (qt_assign rfl) rfl rfl ?_
        refine WL_nil_seq ?_
        refine WP_ret fun a ha => ?_
        obtain rfl := Option.some.inj h
        have H31 : Holds (([] : List Res).flatMap Res.own) w w26 [] G := ((H28.cut 0).cut 0)
        exact ret1 rfl ha rfl ⟨rfl, H31⟩
theorem w_laws_eqTableS (w : World) (G : List Res) (vp0 : Value) (p0 : List (Int × (List (Int × Int)) × (List Int))) (hp0 : Has G (.pair (.int .i64) (.pair (.slice (.pair (.int .i64) (.int .i64))) (.slice (.int .i64)))) vp0 p0) (vp1 : Value) (p1 : List (Int × (List (Int × Int)) × (List Int))) (hp1 : Has G (.pair (.int .i64) (.pair (.slice (.pair (.int .i64) (.int .i64))) (.slice (.int .i64)))) vp1 p1) (r : Bool) (h : laws_eqTableSS p0 p1 = some r) (H : Ctx w G) : Calls Try.prog 39 #[vp0, vp1] w fun e w' => e = .returned (.bool r) ∧ Holds (([] : List Res).flatMap Res.own) w w' [] G := by
  have H : Holds (([] : List Res).flatMap Res.own) w w [] G := Holds.startN H
  refine calls_enter (args := [vp0, vp1]) (n := 27) Try.func39 rfl rfl rfl ?_
  unfold laws_eqTableSS at h
  refine WP_seq ?_
  refine WP_region ?_
  refine XL_q rfl (qt_assign rfl) rfl rfl ?_
  refine WL_nil_seq ?_
  refine WP_seq ?_
  refine WP_seq ?_
  refine WP_region ?_
  refine XL_q rfl (qt_move rfl) rfl rfl ?_
  refine XL_lenH H.ctx (t := (.pair (.int .i64) (.pair (.slice (.pair (.int .i64) (.int .i64))) (.slice (.int .i64))))) (hp0) u30 rfl rfl rfl ?_
  refine XL_q rfl (qt_move rfl) rfl rfl ?_
  refine XL_lenH H.ctx (t := (.pair (.int .i64) (.pair (.slice (.pair (.int .i64) (.int .i64))) (.slice (.int .i64))))) (hp1) u30 rfl rfl rfl ?_
  refine XL_q rfl (qt_neq rfl rfl) rfl rfl ?_
  refine WL_nil_seq ?_
  refine WP_cond rfl (fun hc1 => ?_) (fun hc1 => ?_)
  · have h := if_t hc1 h
    refine WP_seq ?_
    refine WP_region ?_
    refine XL_q rfl (qt_assign rfl) rfl rfl ?_
    refine WL_nil_seq ?_
    refine WP_ret fun a ha => ?_
    obtain rfl := Option.some.inj h
    exact ret_seq (ret1 rfl ha rfl ⟨rfl, H⟩)
  · have h := if_f hc1 h
    refine WP_skip_seq ?_
    refine WP_seq ?_
    refine WP_seq ?_
    refine WP_region ?_
    refine XL_q rfl (qt_assign rfl) rfl rfl ?_
    refine WL_nil_seq ?_
    refine WP_block ?_
    obtain ⟨o3, ho4, h⟩ := bind_some h
    refine fun a5 ha6 => wp_loop_fix (I := fun s a w2 => match s with | s2 => (Fr a 27 [(0, vp0), (1, vp1), (5, .int .i64 s2)] ∧ Holds (([] : List Res).flatMap Res.own) w w2 [] G)) (O := fun o e a w2 => match o with | .inl _ => e = .exit 0 ∧ (Fr a 27 [] ∧ Holds (([] : List Res).flatMap Res.own) w w2 [] G) | .inr q0 => e = .ret ∧ (Fr a 27 [(4, .bool q0)] ∧ Holds (([] : List Res).flatMap Res.own) w w2 [] G)) ho4 ?_ ?_ ?_
    · exact ⟨ha6.sub ⟨rfl, rfl, rfl, trivial⟩, H⟩
    · clear ha6
      intro s o9 a w7 hs8 hI10
      obtain ⟨s2, rfl⟩ : ∃ z, z = s := ⟨s, rfl⟩
      obtain ⟨ha, H11⟩ := hI10
      refine WP.app ?_ ha
      clear ha
      refine WP_seq ?_
      refine WP_seq ?_
      refine WP_region ?_
      refine XL_q rfl (qt_move rfl) rfl rfl ?_
      refine XL_q rfl (qt_move rfl) rfl rfl ?_
      refine XL_lenH H11.ctx (t := (.pair (.int .i64) (.pair (.slice (.pair (.int .i64) (.int .i64))) (.slice (.int .i64))))) (hp0) u30 rfl rfl rfl ?_
      refine XL_q rfl (qt_lss rfl rfl) rfl rfl ?_
      refine WL_nil_seq ?_
      refine WP_cond rfl (fun hc12 => ?_) (fun hc12 => ?_)
      · have hs8 := if_t hc12 hs8
        refine WP_skip_seq ?_
        refine WP_seq ?_
        refine WP_block ?_
        refine WP_seq ?_
        refine WP_quiet (by kernel_rfl) (by kernel_rfl) ?_
        refine XL_q rfl (qt_move rfl) rfl rfl ?_
        refine XL_q rfl (qt_move rfl) rfl rfl ?_
        obtain ⟨x13, hx14, hs8⟩ := bind_some hs8
        refine XL_indexH H11.ctx (hp0) hx14 u30 i50 rfl rfl rfl rfl (fun b15 off16 cap17 hv18 => ?_)
        obtain ⟨F19, hat20, hdup21⟩ := H11.atN (hp0) hx14 hv18
        refine XL_load_agg (t := (.pair (.int .i64) (.pair (.slice (.pair (.int .i64) (.int .i64))) (.slice (.int .i64))))) us50 uo50 i50 hat20 rfl rfl rfl (fun cs22 hr23 => ?_)
        obtain ⟨c24, c25, F26, F27, rfl, eF30, hr28, hr29⟩ := hr23
        obtain ⟨rfl, _⟩ := hr28
        obtain ⟨c31, c32, F33, F34, rfl, eF37, hr35, hr36⟩ := hr29
        obtain ⟨v38, rfl, hr39⟩ := Rep.sl_inv hr35
        obtain ⟨v40, rfl, hr41⟩ := Rep.sl_inv hr36
        have H42 : Holds (([] : List Res).flatMap Res.own) w w7 [.ro (.pair (.int .i64) (.int .i64)) v38 x13.2.1, .ro (.int .i64) v40 x13.2.2] G := hdup21 [.ro (.pair (.int .i64) (.int .i64)) v38 x13.2.1, .ro (.int .i64) v40 x13.2.2] ⟨⟨_, _, _, _, rfl, hr39, (fun k h => (fun k h => (fun _ h => h) k (by rw [eF30]; exact List.mem_append_right _ h)) k (by rw [eF37]; exact List.mem_append_left _ h))⟩, ⟨_, _, _, _, rfl, hr41, (fun k h => (fun k h => (fun _ h => h) k (by rw [eF30]; exact List.mem_append_right _ h)) k (by rw [eF37]; exact List.mem_append_right _ h))⟩, trivial⟩
        change XL _ _ _ _ _ ((20, .agg #[.int .i64 x13.1, v38, v40]) :: _) _
        refine XL_q rfl (qt_move rfl) rfl rfl ?_
        refine XL_q rfl (qt_move rfl) rfl rfl ?_
        obtain ⟨x43, hx44, hs8⟩ := bind_some hs8
        refine XL_indexH H42.ctx (hp1.c.c) hx44 u30 i50 rfl rfl rfl rfl (fun b45 off46 cap47 hv48 => ?_)
        obtain ⟨F49, hat50, hdup51⟩ := H42.atN (hp1.c.c) hx44 hv48
        refine XL_load_agg (t := (.pair (.int .i64) (.pair (.slice (.pair (.int .i64) (.int .i64))) (.slice (.int .i64))))) us50 uo50 i50 hat50 rfl rfl rfl (fun cs52 hr53 => ?_)
        obtain ⟨c54, c55, F56, F57, rfl, eF60, hr58, hr59⟩ := hr53
        obtain ⟨rfl, _⟩ := hr58
        obtain ⟨c61, c62, F63, F64, rfl, eF67, hr65, hr66⟩ := hr59
        obtain ⟨v68, rfl, hr69⟩ := Rep.sl_inv hr65
        obtain ⟨v70, rfl, hr71⟩ := Rep.sl_inv hr66
        have H72 : Holds (([] : List Res).flatMap Res.own) w w7 [.ro (.pair (.int .i64) (.int .i64)) v68 x43.2.1, .ro (.int .i64) v70 x43.2.2, .ro (.pair (.int .i64) (.int .i64)) v38 x13.2.1, .ro (.int .i64) v40 x13.2.2] G := hdup51 [.ro (.pair (.int .i64) (.int .i64)) v68 x43.2.1, .ro (.int .i64) v70 x43.2.2] ⟨⟨_, _, _, _, rfl, hr69, (fun k h => (fun k h => (fun _ h => h) k (by rw [eF60]; exact List.mem_append_right _ h)) k (by rw [eF67]; exact List.mem_append_left _ h))⟩, ⟨_, _, _, _, rfl, hr71, (fun k h => (fun k h => (fun _ h => h) k (by rw [eF60]; exact List.mem_append_right _ h)) k (by rw [eF67]; exact List.mem_append_right _ h))⟩, trivial⟩
        change XL _ _ _ _ _ ((24, .agg #[.int .i64 x43.1, v68, v70]) :: _) _
        obtain ⟨x73, hx74, hs8⟩ := bind_some hs8
        refine QL_call rfl rfl c61 (fun w' hb => (w_laws_eqTable w' ([.ro (.pair (.int .i64) (.int .i64)) v68 x43.2.1, .ro (.int .i64) v70 x43.2.2, .ro (.pair (.int .i64) (.int .i64)) v38 x13.2.1, .ro (.int .i64) v40 x13.2.2] ++ G) x13.1 v38 x13.2.1 (HasRo.has (HasRo.c (HasRo.c (HasRo.hd)))) v40 x13.2.2 (HasRo.has (HasRo.c (HasRo.c (HasRo.c (HasRo.hd))))) x43.1 v68 x43.2.1 (HasRo.has (HasRo.hd)) v70 x43.2.2 (HasRo.has (HasRo.c (HasRo.hd))) x73 hx74 (H72.grow hb).ctx).mono fun e w'' hK => ⟨hK.1, hK.2.bel⟩) (by rfl) ?_
        refine XL_q rfl (qt_not rfl) rfl rfl ?_
        refine QL_nil fun a ha w75 hb76 => ?_
        have H77 : Holds (([] : List Res).flatMap Res.own) w w75 [.ro (.pair (.int .i64) (.int .i64)) v68 x43.2.1, .ro (.int .i64) v70 x43.2.2, .ro (.pair (.int .i64) (.int .i64)) v38 x13.2.1, .ro (.int .i64) v40 x13.2.2] G := H72.grow hb76
        refine nrm_seq (WP.app ?_ ha)
        refine WP_cond rfl (fun hc78 => ?_) (fun hc78 => ?_)
        · have hs8 := if_t hc78 hs8
          refine WP_seq ?_
          refine WP_region ?_
          refine XL_q rfl (qt_assign rfl) rfl rfl ?_
          refine WL_nil_seq ?_
          refine WP_ret fun a ha => ?_
          obtain rfl := Option.some.inj hs8
          have H79 : Holds (([] : List Res).flatMap Res.own) w w75 [] G := ((((H77.cut 0).cut 0).cut 0).cut 0)
          exact ret_block (ret_seq (⟨ret_ne, rfl, ha.sub ⟨rfl, trivial⟩, H79⟩))
        · have hs8 := if_f hc78 hs8
          refine WP_skip fun a ha => ?_
          refine nrm_block (nrm_seq (WP.app ?_ ha))
          refine WP_region ?_
          refine XL_q rfl (qt_move rfl) rfl rfl ?_
          refine XL_q rfl (qt_add rfl rfl) rfl rfl ?_
          refine XL_q rfl (qt_assign rfl) rfl rfl ?_
          refine WL_nil fun a ha => ?_
          obtain rfl := Option.some.inj hs8
          have H80 : Holds (([] : List Res).flatMap Res.own) w w75 [] G := ((((H77.cut 0).cut 0).cut 0).cut 0)
          exact ⟨rfl, ha.sub ⟨rfl, rfl, rfl, trivial⟩, H80⟩
      · have hs8 := if_f hc12 hs8
        refine WP_exit fun a ha => ?_
        obtain rfl := Option.some.inj hs8
        exact exit_seq (⟨exit_ne, rfl, ha.sub trivial, H11⟩)
    · intro e a5 w81 hO82
      rcases o3 with o3 | o3
      · skip
        obtain ⟨rfl, hO84⟩ := hO82
        obtain ⟨ha, H83⟩ := hO84
        refine exit_block_eq (nrm_seq (WP.app ?_ ha))
        refine WP_seq ?_
        refine WP_region ?_
        refine XL_q rfl (qt_assign rfl) rfl rfl ?_
        refine WL_nil_seq ?_
        refine WP_ret fun a ha => ?_
        obtain rfl := Option.some.inj h
        exact ret1 rfl ha rfl ⟨rfl, H83⟩
      · skip
        obtain ⟨p85, rfl⟩ : ∃ z, z = o3 := ⟨o3, rfl⟩
        obtain ⟨rfl, hO87⟩ := hO82
        obtain ⟨ha, H86⟩ := hO87
        obtain rfl := Option.some.inj h
        exact ret_block (ret_seq (ret1 rfl ha rfl ⟨rfl, H86⟩))
theorem w_laws_eqHouse (w : World) (G : List Res) (vp0_0 : Value) (p0_0 : List (Int × (List (Int × Int)) × Int)) (hp0_0 : Has G (.pair (.int .i64) (.pair (.slice (.pair (.int .i64) (.int .i64))) (.int .i64))) vp0_0 p0_0) (vp0_1 : Value) (p0_1 : List Int) (hp0_1 : Has G (.int .i64) vp0_1 p0_1) (vp0_2 : Value) (p0_2 : List Int) (hp0_2 : Has G (.int .i64) vp0_2 p0_2) (p0_3 : Int) (vp0_4 : Value) (p0_4 : List (Int × (List (Int × Int)) × (List Int))) (hp0_4 : Has G (.pair (.int .i64) (.pair (.slice (.pair (.int .i64) (.int .i64))) (.slice (.int .i64)))) vp0_4 p0_4) (vp1_0 : Value) (p1_0 : List (Int × (List (Int × Int)) × Int)) (hp1_0 : Has G (.pair (.int .i64) (.pair (.slice (.pair (.int .i64) (.int .i64))) (.int .i64))) vp1_0 p1_0) (vp1_1 : Value) (p1_1 : List Int) (hp1_1 : Has G (.int .i64) vp1_1 p1_1) (vp1_2 : Value) (p1_2 : List Int) (hp1_2 : Has G (.int .i64) vp1_2 p1_2) (p1_3 : Int) (vp1_4 : Value) (p1_4 : List (Int × (List (Int × Int)) × (List Int))) (hp1_4 : Has G (.pair (.int .i64) (.pair (.slice (.pair (.int .i64) (.int .i64))) (.slice (.int .i64)))) vp1_4 p1_4) (r : Bool) (h : laws_eqHouseS p0_0 p0_1 p0_2 p0_3 p0_4 p1_0 p1_1 p1_2 p1_3 p1_4 = some r) (H : Ctx w G) : Calls Try.prog 11 #[.agg #[vp0_0, vp0_1, vp0_2, .int .i64 p0_3, vp0_4], .agg #[vp1_0, vp1_1, vp1_2, .int .i64 p1_3, vp1_4]] w fun e w' => e = .returned (.bool r) ∧ Holds (([] : List Res).flatMap Res.own) w w' [] G := by
  have H : Holds (([] : List Res).flatMap Res.own) w w [] G := Holds.startN H
  refine calls_enter (args := [.agg #[vp0_0, vp0_1, vp0_2, .int .i64 p0_3, vp0_4], .agg #[vp1_0, vp1_1, vp1_2, .int .i64 p1_3, vp1_4]]) (n := 34) Try.func11 rfl rfl rfl ?_
  unfold laws_eqHouseS at h
  refine WP_seq ?_
  refine WP_region ?_
  refine WL_box (cs := [vp0_0, vp0_1, vp0_2, .int .i64 p0_3, vp0_4]) H rfl rfl rfl rfl (fun b1 w2 H3 => ?_)
  have H4 : Holds (([] : List Res).flatMap Res.own) w w2 [.bx b1 32 [vp0_0, vp0_1, vp0_2, .int .i64 p0_3, vp0_4]] G := H3
  refine WL_box (cs := [vp1_0, vp1_1, vp1_2, .int .i64 p1_3, vp1_4]) H4 rfl rfl rfl rfl (fun b5 w6 H7 => ?_)
  have H8 : Holds (([] : List Res).flatMap Res.own) w w6 [.bx b5 32 [vp1_0, vp1_1, vp1_2, .int .i64 p1_3, vp1_4], .bx b1 32 [vp0_0, vp0_1, vp0_2, .int .i64 p0_3, vp0_4]] G := H7
  refine XL_q rfl (qt_assign rfl) rfl rfl ?_
  refine WL_nil_seq ?_
  refine WP_seq ?_
  refine WP_seq ?_
  refine WP_still ?_
  refine XL_q rfl (qt_fieldAddr uf32 fi32_0 nz29 rfl) rfl rfl ?_
  have hB9 : Bx w6 b1 32 [vp0_0, vp0_1, vp0_2, .int .i64 p0_3, vp0_4] := Holds.bx (H8.pull 1)
  refine XL_load_bx u29 rfl hB9 rfl rfl rfl rfl ?_
  refine XL_q rfl (qt_fieldAddr uf32 fi32_0 nz29 rfl) rfl rfl ?_
  have hB10 : Bx w6 b5 32 [vp1_0, vp1_1, vp1_2, .int .i64 p1_3, vp1_4] := Holds.bx (H8.pull 0)
  refine XL_load_bx u29 rfl hB10 rfl rfl rfl rfl ?_
  obtain ⟨x11, hx12, h⟩ := bind_some h
  refine QL_call rfl rfl c37 (fun w' hb => (w_laws_eqItemS w' ([.bx b5 32 [vp1_0, vp1_1, vp1_2, .int .i64 p1_3, vp1_4], .bx b1 32 [vp0_0, vp0_1, vp0_2, .int .i64 p0_3, vp0_4]] ++ G) vp0_0 p0_0 (hp0_0.c.c) vp1_0 p1_0 (hp1_0.c.c) x11 hx12 (H8.grow hb).ctx).mono fun e w'' hK => ⟨hK.1, hK.2.bel⟩) (by rfl) ?_
  refine XL_q rfl (qt_not rfl) rfl rfl ?_
  refine QL_nil fun a ha w13 hb14 => ?_
  have H15 : Holds (([] : List Res).flatMap Res.own) w w13 [.bx b5 32 [vp1_0, vp1_1, vp1_2, .int .i64 p1_3, vp1_4], .bx b1 32 [vp0_0, vp0_1, vp0_2, .int .i64 p0_3, vp0_4]] G := H8.grow hb14
  refine nrm_seq (WP.app ?_ ha)
  refine WP_cond rfl (fun hc16 => ?_) (fun hc16 => ?_)
  · have h := if_t hc16 h
    refine WP_seq ?_
    refine WP_region ?_
    refine XL_q rfl (qt_assign rfl) rfl rfl ?_
    refine WL_nil_seq ?_
    refine WP_ret fun a ha => ?_
    obtain rfl := Option.some.inj h
    have H17 : Holds (([] : List Res).flatMap Res.own) w w13 [] G := ((H15.cut 0).cut 0)
    exact ret_seq (ret1 rfl ha rfl ⟨rfl, H17⟩)
  · have h := if_f hc16 h
    refine WP_skip_seq ?_
    refine WP_seq ?_
    refine WP_seq ?_
    refine WP_still ?_
    refine XL_q rfl (qt_fieldAddr uf32 fi32_1 nz23 rfl) rfl rfl ?_
    have hB18 : Bx w13 b1 32 [vp0_0, vp0_1, vp0_2, .int .i64 p0_3, vp0_4] := Holds.bx (H15.pull 1)
    refine XL_load_bx u23 rfl hB18 rfl rfl rfl rfl ?_
    refine XL_q rfl (qt_fieldAddr uf32 fi32_1 nz23 rfl) rfl rfl ?_
    have hB19 : Bx w13 b5 32 [vp1_0, vp1_1, vp1_2, .int .i64 p1_3, vp1_4] := Holds.bx (H15.pull 0)
    refine XL_load_bx u23 rfl hB19 rfl rfl rfl rfl ?_
    obtain ⟨x20, hx21, h⟩ := bind_some h
    refine QL_call rfl rfl c38 (fun w' hb => (w_laws_eqIntS w' ([.bx b5 32 [vp1_0, vp1_1, vp1_2, .int .i64 p1_3, vp1_4], .bx b1 32 [vp0_0, vp0_1, vp0_2, .int .i64 p0_3, vp0_4]] ++ G) vp0_1 p0_1 (hp0_1.c.c) vp1_1 p1_1 (hp1_1.c.c) x20 hx21 (H15.grow hb).ctx).mono fun e w'' hK => ⟨hK.1, hK.2.bel⟩) (by rfl) ?_
    refine XL_q rfl (qt_not rfl) rfl rfl ?_
    refine QL_nil fun a ha w22 hb23 => ?_
    have H24 : Holds (([] : List Res).flatMap Res.own) w w22 [.bx b5 32 [vp1_0, vp1_1, vp1_2, .int .i64 p1_3, vp1_4], .bx b1 32 [vp0_0, vp0_1, vp0_2, .int .i64 p0_3, vp0_4]] G := H15.grow hb23
    refine nrm_seq (WP.app ?_ ha)
    refine WP_cond rfl (fun hc25 => ?_) (fun hc25 => ?_)
    · have h := if_t hc25 h
      refine WP_seq ?_
      refine WP_region ?_
      refine XL_q rfl (qt_assign rfl) rfl rfl ?_
      refine WL_nil_seq ?_
      refine WP_ret fun a ha => ?_
      obtain rfl := Option.some.inj h
      have H26 : Holds (([] : List Res).flatMap Res.own) w w22 [] G := ((H24.cut 0).cut 0)
      exact ret_seq (ret1 rfl ha rfl ⟨rfl, H26⟩)
    · have h := if_f hc25 h
      refine WP_skip_seq ?_
      refine WP_seq ?_
      refine WP_seq ?_
      refine WP_still ?_
      refine XL_q rfl (qt_fieldAddr uf32 fi32_2 nz23 rfl) rfl rfl ?_
      have hB27 : Bx w22 b1 32 [vp0_0, vp0_1, vp0_2, .int .i64 p0_3, vp0_4] := Holds.bx (H24.pull 1)
      refine XL_load_bx u23 rfl hB27 rfl rfl rfl rfl ?_
      refine XL_q rfl (qt_fieldAddr uf32 fi32_2 nz23 rfl) rfl rfl ?_
      have hB28 : Bx w22 b5 32 [vp1_0, vp1_1, vp1_2, .int .i64 p1_3, vp1_4] := Holds.bx (H24.pull 0)
      refine XL_load_bx u23 rfl hB28 rfl rfl rfl rfl ?_
      obtain ⟨x29, hx30, h⟩ := bind_some h
      refine QL_call rfl rfl c38 (fun w' hb => (w_laws_eqIntS w' ([.bx b5 32 [vp1_0, vp1_1, vp1_2, .int .i64 p1_3, vp1_4], .bx b1 32 [vp0_0, vp0_1, vp0_2, .int .i64 p0_3, vp0_4]] ++ G) vp0_2 p0_2 (hp0_2.c.c) vp1_2 p1_2 (hp1_2.c.c) x29 hx30 (H24.grow hb).ctx).mono fun e w'' hK => ⟨hK.1, hK.2.bel⟩) (by rfl) ?_
      refine XL_q rfl (qt_not rfl) rfl rfl ?_
      refine QL_nil fun a ha w31 hb32 => ?_
      have H33 : Holds (([] : List Res).flatMap Res.own) w w31 [.bx b5 32 [vp1_0, vp1_1, vp1_2, .int .i64 p1_3, vp1_4], .bx b1 32 [vp0_0, vp0_1, vp0_2, .int .i64 p0_3, vp0_4]] G := H24.grow hb32
      refine nrm_seq (WP.app ?_ ha)
      refine WP_cond rfl (fun hc34 => ?_) (fun hc34 => ?_)
      · have h := if_t hc34 h
        refine WP_seq ?_
        refine WP_region ?_
        refine XL_q rfl (qt_assign rfl) rfl rfl ?_
        refine WL_nil_seq ?_
        refine WP_ret fun a ha => ?_
        obtain rfl := Option.some.inj h
        have H35 : Holds (([] : List Res).flatMap Res.own) w w31 [] G := ((H33.cut 0).cut 0)
        exact ret_seq (ret1 rfl ha rfl ⟨rfl, H35⟩)
      · have h := if_f hc34 h
        refine WP_skip_seq ?_
        refine WP_seq ?_
        refine WP_seq ?_
        refine WP_region ?_
        refine XL_q rfl (qt_fieldAddr uf32 fi32_3 nz3 rfl) rfl rfl ?_
        have hB36 : Bx w31 b1 32 [vp0_0, vp0_1, vp0_2, .int .i64 p0_3, vp0_4] := Holds.bx (H33.pull 1)
        refine XL_load_bx u3 rfl hB36 rfl rfl rfl rfl ?_
        refine XL_q rfl (qt_fieldAddr uf32 fi32_3 nz3 rfl) rfl rfl ?_
        have hB37 : Bx w31 b5 32 [vp1_0, vp1_1, vp1_2, .int .i64 p1_3, vp1_4] := Holds.bx (H33.pull 0)
        refine XL_load_bx u3 rfl hB37 rfl rfl rfl rfl ?_
        refine XL_q rfl (qt_neq rfl rfl) rfl rfl ?_
        refine WL_nil_seq ?_
        refine WP_cond rfl (fun hc38 => ?_) (fun hc38 => ?_)
        · have h := if_t hc38 h
          refine WP_seq ?_
          refine WP_region ?_
          refine XL_q rfl (qt_assign rfl) rfl rfl ?_
          refine WL_nil_seq ?_
          refine WP_ret fun a ha => ?_
          obtain rfl := Option.some.inj h
          have H39 : Holds (([] : List Res).flatMap Res.own) w w31 [] G := ((H33.cut 0).cut 0)
          exact ret_seq (ret1 rfl ha rfl ⟨rfl, H39⟩)
        · have h := if_f hc38 h
          refine WP_skip_seq ?_
          refine WP_seq ?_
          refine WP_seq ?_
          refine WP_still ?_
          refine XL_q rfl (qt_fieldAddr uf32 fi32_4 nz30 rfl) rfl rfl ?_
          have hB40 : Bx w31 b1 32 [vp0_0, vp0_1, vp0_2, .int .i64 p0_3, vp0_4] := Holds.bx (H33.pull 1)
          refine XL_load_bx u30 rfl hB40 rfl rfl rfl rfl ?_
          refine XL_q rfl (qt_fieldAddr uf32 fi32_4 nz30 rfl) rfl rfl ?_
          have hB41 : Bx w31 b5 32 [vp1_0, vp1_1, vp1_2, .int .i64 p1_3, vp1_4] := Holds.bx (H33.pull 0)
          refine XL_load_bx u30 rfl hB41 rfl rfl rfl rfl ?_
          obtain ⟨x42, hx43, h⟩ := bind_some h
          refine QL_call rfl rfl c39 (fun w' hb => (w_laws_eqTableS w' ([.bx b5 32 [vp1_0, vp1_1, vp1_2, .int .i64 p1_3, vp1_4], .bx b1 32 [vp0_0, vp0_1, vp0_2, .int .i64 p0_3, vp0_4]] ++ G) vp0_4 p0_4 (hp0_4.c.c) vp1_4 p1_4 (hp1_4.c.c) x42 hx43 (H33.grow hb).ctx).mono fun e w'' hK => ⟨hK.1, hK.2.bel⟩) (by rfl) ?_
          refine XL_q rfl (qt_not rfl) rfl rfl ?_
          refine QL_nil fun a ha w44 hb45 => ?_
          have H46 : Holds (([] : List Res).flatMap Res.own) w w44 [.bx b5 32 [vp1_0, vp1_1, vp1_2, .int .i64 p1_3, vp1_4], .bx b1 32 [vp0_0, vp0_1, vp0_2, .int .i64 p0_3, vp0_4]] G := H33.grow hb45
          refine nrm_seq (WP.app ?_ ha)
          refine WP_cond rfl (fun hc47 => ?_) (fun hc47 => ?_)
          · have h := if_t hc47 h
            refine WP_seq ?_
            refine WP_region ?_
            refine XL_q rfl (qt_assign rfl) rfl rfl ?_
            refine WL_nil_seq ?_
            refine WP_ret fun a ha => ?_
            obtain rfl := Option.some.inj h
            have H48 : Holds (([] : List Res).flatMap Res.own) w w44 [] G := ((H46.cut 0).cut 0)
            exact ret_seq (ret1 rfl ha rfl ⟨rfl, H48⟩)
          · have h := if_f hc47 h
            refine WP_skip_seq ?_
            refine WP_seq ?_
            refine WP_region ?_
            refine XL_q rfl (qt_assign rfl) rfl rfl ?_
            refine WL_nil_seq ?_
            refine WP_ret fun a ha => ?_
            obtain rfl := Option.some.inj h
            have H49 : Holds (([] : List Res).flatMap Res.own) w w44 [] G := ((H46.cut 0).cut 0)
            exact ret1 rfl ha rfl ⟨rfl, H49⟩
theorem w_laws_markPartS (w : World) (G : List Res) (vp0 : Value) (p0 : List (Int × Int)) (p1 : Int) (r : (List (Int × Int)) × Int) (h : laws_markPartSS p0 p1 = some r) (H : Ctx w ([.sl 103 (.pair (.int .i64) (.int .i64)) vp0 p0] ++ G)) : Calls Try.prog 66 #[vp0, .int .i64 p1] w fun e w' => e = .returned (.int .i64 r.2) ∧ Holds (([.sl 103 (.pair (.int .i64) (.int .i64)) vp0 p0] : List Res).flatMap Res.own) w w' [.sl 103 (.pair (.int .i64) (.int .i64)) vp0 r.1] G := by
  have H : Holds (([.sl 103 (.pair (.int .i64) (.int .i64)) vp0 p0] : List Res).flatMap Res.own) w w [.sl 103 (.pair (.int .i64) (.int .i64)) vp0 p0] G := Holds.startN H
  refine calls_enter (args := [vp0, .int .i64 p1]) (n := 27) Try.func66 rfl rfl rfl ?_
  unfold laws_markPartSS at h
  refine WP_seq ?_
  refine WP_region ?_
  refine XL_q rfl (qt_assign rfl) rfl rfl ?_
  refine WL_nil_seq ?_
  refine WP_seq ?_
  refine WP_seq ?_
  refine WP_region ?_
  refine XL_q rfl (qt_assign rfl) rfl rfl ?_
  refine WL_nil_seq ?_
  refine WP_block ?_
  obtain ⟨o4, ho5, h⟩ := bind_some h
  refine fun a6 ha7 => wp_loop_fix (I := fun s a w2 => match s with | (s1, s2, s3) => (Fr a 27 [(0, vp0), (1, .int .i64 s1), (5, .int .i64 s2)] ∧ Holds (([.sl 103 (.pair (.int .i64) (.int .i64)) vp0 p0] : List Res).flatMap Res.own) w w2 [.sl 103 (.pair (.int .i64) (.int .i64)) vp0 s3] G)) (O := fun o e a w2 => match o with | (q0, q1) => e = .exit 0 ∧ (Fr a 27 [(0, vp0), (1, .int .i64 q0)] ∧ Holds (([.sl 103 (.pair (.int .i64) (.int .i64)) vp0 p0] : List Res).flatMap Res.own) w w2 [.sl 103 (.pair (.int .i64) (.int .i64)) vp0 q1] G)) ho5 ?_ ?_ ?_
  · exact ⟨ha7.sub ⟨rfl, rfl, rfl, trivial⟩, H⟩
  · clear ha7
    intro s o10 a w8 hs9 hI11
    obtain ⟨s1, s2, s3⟩ := s
    obtain ⟨ha, H12⟩ := hI11
    refine WP.app ?_ ha
    clear ha
    refine WP_seq ?_
    refine WP_seq ?_
    refine WP_region ?_
    refine XL_q rfl (qt_move rfl) rfl rfl ?_
    refine XL_q rfl (qt_move rfl) rfl rfl ?_
    refine XL_lenH H12.ctx (t := (.pair (.int .i64) (.int .i64))) (Has.hd) u82 rfl rfl rfl ?_
    refine XL_q rfl (qt_lss rfl rfl) rfl rfl ?_
    refine WL_nil_seq ?_
    refine WP_cond rfl (fun hc13 => ?_) (fun hc13 => ?_)
    · have hs9 := if_t hc13 hs9
      refine WP_skip_seq ?_
      refine WP_seq ?_
      refine WP_block ?_
      refine WP_seq ?_
      refine WP_region ?_
      refine XL_q rfl (qt_move rfl) rfl rfl ?_
      refine XL_q rfl (qt_move rfl) rfl rfl ?_
      refine XL_q rfl (qt_move rfl) rfl rfl ?_
      obtain ⟨x14, hx15, hs9⟩ := bind_some hs9
      refine XL_indexH H12.ctx (Has.hd) hx15 u82 i103 rfl rfl rfl rfl (fun b16 off17 cap18 hv19 => ?_)
      refine XL_q rfl (qt_fieldAddr uf103 fi103_0 nz3 rfl) rfl rfl ?_
      refine WL_storeH (fo := 0) (cs' := [.int .i64 s1]) H12 hx15 hv19 (Upd.fst (Upd.whole (Blt.int)) rfl) rfl il3 rfl rfl rfl rfl (fun w20 H21 => ?_)
      have H22 : Holds (([.sl 103 (.pair (.int .i64) (.int .i64)) vp0 p0] : List Res).flatMap Res.own) w w20 [.sl 103 (.pair (.int .i64) (.int .i64)) vp0 (List.set s3 (Int.toNat s2) (s1, x14.2))] G := H21
      refine WL_nil_seq ?_
      refine WP_seq ?_
      refine WP_region ?_
      refine XL_q rfl (qt_move rfl) rfl rfl ?_
      refine XL_q rfl (qt_add rfl rfl) rfl rfl ?_
      refine XL_q rfl (qt_assign rfl) rfl rfl ?_
      refine WL_nil_seq ?_
      refine WP_seq ?_
      refine WP_region ?_
      refine XL_q rfl (qt_move rfl) rfl rfl ?_
      refine XL_q rfl (qt_move rfl) rfl rfl ?_
      refine XL_q rfl (qt_move rfl) rfl rfl ?_
      obtain ⟨x23, hx24, hs9⟩ := bind_some hs9
      refine XL_indexH H22.ctx (Has.hd) hx24 u82 i103 rfl rfl rfl rfl (fun b25 off26 cap27 hv28 => ?_)
      refine XL_q rfl (qt_fieldAddr uf103 fi103_1 nz3 rfl) rfl rfl ?_
      refine WL_storeH (fo := 1) (cs' := [.int .i64 (IntKind.wrap .i64 (s1 + 1))]) H22 hx24 hv28 (Upd.snd (Upd.whole (Blt.int))) rfl il3 rfl rfl rfl rfl (fun w29 H30 => ?_)
      have H31 : Holds (([.sl 103 (.pair (.int .i64) (.int .i64)) vp0 p0] : List Res).flatMap Res.own) w w29 [.sl 103 (.pair (.int .i64) (.int .i64)) vp0 (List.set (List.set s3 (Int.toNat s2) (s1, x14.2)) (Int.toNat s2) (x23.1, IntKind.wrap .i64 (s1 + 1)))] G := H30
      refine WL_nil_seq ?_
      refine WP_region ?_
      refine XL_q rfl (qt_move rfl) rfl rfl ?_
      refine XL_q rfl (qt_add rfl rfl) rfl rfl ?_
      refine XL_q rfl (qt_assign rfl) rfl rfl ?_
      refine WL_nil fun a ha => ?_
      refine nrm_block (nrm_seq (WP.app ?_ ha))
      refine WP_region ?_
      refine XL_q rfl (qt_move rfl) rfl rfl ?_
      refine XL_q rfl (qt_add rfl rfl) rfl rfl ?_
      refine XL_q rfl (qt_assign rfl) rfl rfl ?_
      refine WL_nil fun a ha => ?_
      obtain rfl := Option.some.inj hs9
      exact ⟨rfl, ha.sub ⟨rfl, rfl, rfl, trivial⟩, H31⟩
    · have hs9 := if_f hc13 hs9
      refine WP_exit fun a ha => ?_
      obtain rfl := Option.some.inj hs9
      exact exit_seq (⟨exit_ne, rfl, ha.sub ⟨rfl, rfl, trivial⟩, H12⟩)
  · intro e a6 w32 hO33
    obtain ⟨p34, p35⟩ := o4
    obtain ⟨rfl, hO37⟩ := hO33
    obtain ⟨ha, H36⟩ := hO37
    refine exit_block_eq (nrm_seq (WP.app ?_ ha))
    refine WP_seq ?_
    refine WP_region ?_
    refine XL_q rfl (qt_move rfl) rfl rfl ?_
    refine XL_q rfl (qt_assign rfl) rfl rfl ?_
    refine WL_nil_seq ?_
    refine WP_ret fun a ha => ?_
    obtain rfl := Option.some.inj h
    exact ret1 rfl ha rfl ⟨rfl, H36⟩
theorem w_laws_markItemS (w : World) (G : List Res) (vp0 : Value) (p0 : List (Int × (List (Int × Int)) × Int)) (csp0 : List Value) (Fp0 : List Nat) (p1 : Int) (r : (List (Int × (List (Int × Int)) × Int)) × Int) (h : laws_markItemSS p0 p1 = some r) (H : Ctx w ([dpR 84 (.pair (.leaf (.int .i64)) (.pair (.sl 103 (.leaf (.pair (.int .i64) (.int .i64)))) (.leaf (.int .i64)))) vp0 csp0 p0 Fp0] ++ G)) : Calls Try.prog 45 #[vp0, .int .i64 p1] w fun e w' => ∃ (dsp0 : List Value) (Ep0 : List Nat), e = .returned (.int .i64 r.2) ∧ Holds (([dpR 84 (.pair (.leaf (.int .i64)) (.pair (.sl 103 (.leaf (.pair (.int .i64) (.int .i64)))) (.leaf (.int .i64)))) vp0 csp0 p0 Fp0] : List Res).flatMap Res.own) w w' [dpR 84 (.pair (.leaf (.int .i64)) (.pair (.sl 103 (.leaf (.pair (.int .i64) (.int .i64)))) (.leaf (.int .i64)))) vp0 dsp0 r.1 Ep0] G := by
  have H : Holds (([dpR 84 (.pair (.leaf (.int .i64)) (.pair (.sl 103 (.leaf (.pair (.int .i64) (.int .i64)))) (.leaf (.int .i64)))) vp0 csp0 p0 Fp0] : List Res).flatMap Res.own) w w [dpR 84 (.pair (.leaf (.int .i64)) (.pair (.sl 103 (.leaf (.pair (.int .i64) (.int .i64)))) (.leaf (.int .i64)))) vp0 csp0 p0 Fp0] G := Holds.startN H
  refine calls_enter (args := [vp0, .int .i64 p1]) (n := 34) Try.func45 rfl rfl rfl ?_
  unfold laws_markItemSS at h
  refine WP_seq ?_
  refine WP_region ?_
  refine XL_q rfl (qt_assign rfl) rfl rfl ?_
  refine WL_nil_seq ?_
  refine WP_seq ?_
  refine WP_seq ?_
  refine WP_region ?_
  refine XL_q rfl (qt_assign rfl) rfl rfl ?_
  refine WL_nil_seq ?_
  refine WP_block ?_
  obtain ⟨o4, ho5, h⟩ := bind_some h
  refine fun a6 ha7 => wp_loop_fix (I := fun s a w2 => match s with | (s1, s2, s3) => ∃ css3 Fs3, Fr a 34 [(0, vp0), (1, .int .i64 s1), (5, .int .i64 s2)] ∧ Holds (([dpR 84 (.pair (.leaf (.int .i64)) (.pair (.sl 103 (.leaf (.pair (.int .i64) (.int .i64)))) (.leaf (.int .i64)))) vp0 csp0 p0 Fp0] : List Res).flatMap Res.own) w w2 [dpR 84 (.pair (.leaf (.int .i64)) (.pair (.sl 103 (.leaf (.pair (.int .i64) (.int .i64)))) (.leaf (.int .i64)))) vp0 css3 s3 Fs3] G) (O := fun o e a w2 => match o with | (q0, q1) => e = .exit 0 ∧ ∃ csq1 Fq1, Fr a 34 [(0, vp0), (1, .int .i64 q0)] ∧ Holds (([dpR 84 (.pair (.leaf (.int .i64)) (.pair (.sl 103 (.leaf (.pair (.int .i64) (.int .i64)))) (.leaf (.int .i64)))) vp0 csp0 p0 Fp0] : List Res).flatMap Res.own) w w2 [dpR 84 (.pair (.leaf (.int .i64)) (.pair (.sl 103 (.leaf (.pair (.int .i64) (.int .i64)))) (.leaf (.int .i64)))) vp0 csq1 q1 Fq1] G) ho5 ?_ ?_ ?_
  · exact ⟨csp0, Fp0, ha7.sub ⟨rfl, rfl, rfl, trivial⟩, H⟩
  · clear ha7
    intro s o10 a w8 hs9 hI11
    obtain ⟨s1, s2, s3⟩ := s
    obtain ⟨css3, Fs3, ha, H12⟩ := hI11
    refine WP.app ?_ ha
    clear ha
    refine WP_seq ?_
    refine WP_seq ?_
    refine WP_region ?_
    refine XL_q rfl (qt_move rfl) rfl rfl ?_
    refine XL_q rfl (qt_move rfl) rfl rfl ?_
    have V13 : Ctx w8 ([.ro (.pair (.int .i64) (.pair (.slice (.pair (.int .i64) (.int .i64))) (.int .i64))) vp0 s3] ++ G) := H12.viewG (Vw.dp (NsOk.self NsOk.nil) Vw.refl)
    refine XL_lenH V13 (t := (.pair (.int .i64) (.pair (.slice (.pair (.int .i64) (.int .i64))) (.int .i64)))) (HasRo.has (HasRo.hd)) u29 rfl rfl rfl ?_
    refine XL_q rfl (qt_lss rfl rfl) rfl rfl ?_
    refine WL_nil_seq ?_
    refine WP_cond rfl (fun hc14 => ?_) (fun hc14 => ?_)
    · have hs9 := if_t hc14 hs9
      refine WP_skip_seq ?_
      refine WP_seq ?_
      refine WP_block ?_
      refine WP_seq ?_
      refine WP_region ?_
      refine XL_q rfl (qt_move rfl) rfl rfl ?_
      refine XL_q rfl (qt_move rfl) rfl rfl ?_
      refine XL_q rfl (qt_move rfl) rfl rfl ?_
      obtain ⟨x15, hx16, hs9⟩ := bind_some hs9
      refine XL_indexH V13 (HasRo.has (HasRo.hd)) hx16 u29 i84 rfl rfl rfl rfl (fun b17 off18 cap19 hv20 => ?_)
      refine XL_q rfl (qt_fieldAddr uf84 fi84_0 nz3 rfl) rfl rfl ?_
      refine WL_storeD (Rs := []) (fo := 0) (cs' := [.int .i64 s1]) H12 hx16 hv20 ((Foc.fst Foc.refl)) (DBlt.cast (DBlt.int (k := .i64) (n := s1)) rfl rfl) rfl il3 rfl rfl rfl (fun cs21 F22 w23 H24 => ?_)
      have H25 : Holds (([dpR 84 (.pair (.leaf (.int .i64)) (.pair (.sl 103 (.leaf (.pair (.int .i64) (.int .i64)))) (.leaf (.int .i64)))) vp0 csp0 p0 Fp0] : List Res).flatMap Res.own) w w23 [dpR 84 (.pair (.leaf (.int .i64)) (.pair (.sl 103 (.leaf (.pair (.int .i64) (.int .i64)))) (.leaf (.int .i64)))) vp0 cs21 (List.set s3 (Int.toNat s2) (s1, x15.2)) F22] G := H24
      refine WL_nil_seq ?_
      refine WP_seq ?_
      refine WP_region ?_
      refine XL_q rfl (qt_move rfl) rfl rfl ?_
      refine XL_q rfl (qt_add rfl rfl) rfl rfl ?_
      refine XL_q rfl (qt_assign rfl) rfl rfl ?_
      refine WL_nil_seq ?_
      refine WP_seq ?_
      refine WP_region ?_
      refine XL_q rfl (qt_move rfl) rfl rfl ?_
      refine XL_q rfl (qt_move rfl) rfl rfl ?_
      obtain ⟨x26, hx27, hs9⟩ := bind_some hs9
      have V32 : Ctx w23 ([.ro (.pair (.int .i64) (.pair (.slice (.pair (.int .i64) (.int .i64))) (.int .i64))) vp0 (List.set s3 (Int.toNat s2) (s1, x15.2))] ++ G) := H25.viewG (Vw.dp (NsOk.self NsOk.nil) Vw.refl)
      refine XL_indexH V32 (HasRo.has (HasRo.hd)) hx27 u29 i84 rfl rfl rfl rfl (fun b28 off29 cap30 hv31 => ?_)
      refine XL_q rfl (qt_fieldAddr uf84 fi84_1 nz82 rfl) rfl rfl ?_
      obtain ⟨v33, hc34, hcell35, hp36, hp37, hsh38⟩ := Holds.ns H25 ((Foc.snd (Foc.fst Foc.refl))) hx27 hv31
      refine XL_load_cell u82 rfl hcell35 rfl rfl rfl ?_
      refine XL_q rfl (qt_move rfl) rfl rfl ?_
      obtain ⟨F41, H42⟩ := Holds.borrow H25 ((Foc.snd (Foc.fst Foc.refl))) hx27 hc34
      have H43 : Holds (([dpR 84 (.pair (.leaf (.int .i64)) (.pair (.sl 103 (.leaf (.pair (.int .i64) (.int .i64)))) (.leaf (.int .i64)))) vp0 csp0 p0 Fp0] : List Res).flatMap Res.own) w w23 [.sl 103 (.pair (.int .i64) (.int .i64)) v33 x26.2.1, holeR 84 (.pair (.leaf (.int .i64)) (.pair (.sl 103 (.leaf (.pair (.int .i64) (.int .i64)))) (.leaf (.int .i64)))) (.sl 103 (.leaf (.pair (.int .i64) (.int .i64)))) vp0 cs21 (Int.toNat s2 * Ty.size (.pair (.int .i64) (.pair (.slice (.pair (.int .i64) (.int .i64))) (.int .i64))) + 1) (List.set s3 (Int.toNat s2) (s1, x15.2)) (Int.toNat s2) (fun y => (x26.1, (y, x26.2.2))) F41] G := H42
      obtain ⟨x39, hx40, hs9⟩ := bind_some hs9
      refine WL_call rfl rfl c66 (w_laws_markPartS w23 ([holeR 84 (.pair (.leaf (.int .i64)) (.pair (.sl 103 (.leaf (.pair (.int .i64) (.int .i64)))) (.leaf (.int .i64)))) (.sl 103 (.leaf (.pair (.int .i64) (.int .i64)))) vp0 cs21 (Int.toNat s2 * Ty.size (.pair (.int .i64) (.pair (.slice (.pair (.int .i64) (.int .i64))) (.int .i64))) + 1) (List.set s3 (Int.toNat s2) (s1, x15.2)) (Int.toNat s2) (fun y => (x26.1, (y, x26.2.2))) F41] ++ G) v33 x26.2.1 (IntKind.wrap .i64 (s1 + 1)) x39 hx40 H43.ctx) (by rfl) ?_
      rintro _ w44 ⟨rfl, H45⟩; refine ⟨_, rfl, ?_⟩
      have H46 : Holds (([dpR 84 (.pair (.leaf (.int .i64)) (.pair (.sl 103 (.leaf (.pair (.int .i64) (.int .i64)))) (.leaf (.int .i64)))) vp0 csp0 p0 Fp0] : List Res).flatMap Res.own) w w44 [.sl 103 (.pair (.int .i64) (.int .i64)) v33 x39.1, holeR 84 (.pair (.leaf (.int .i64)) (.pair (.sl 103 (.leaf (.pair (.int .i64) (.int .i64)))) (.leaf (.int .i64)))) (.sl 103 (.leaf (.pair (.int .i64) (.int .i64)))) vp0 cs21 (Int.toNat s2 * Ty.size (.pair (.int .i64) (.pair (.slice (.pair (.int .i64) (.int .i64))) (.int .i64))) + 1) (List.set s3 (Int.toNat s2) (s1, x15.2)) (Int.toNat s2) (fun y => (x26.1, (y, x26.2.2))) F41] G := H43.calledN (Rs := [_]) H45
      have H47 : Holds (([dpR 84 (.pair (.leaf (.int .i64)) (.pair (.sl 103 (.leaf (.pair (.int .i64) (.int .i64)))) (.leaf (.int .i64)))) vp0 csp0 p0 Fp0] : List Res).flatMap Res.own) w w44 [holeR 84 (.pair (.leaf (.int .i64)) (.pair (.sl 103 (.leaf (.pair (.int .i64) (.int .i64)))) (.leaf (.int .i64)))) (.sl 103 (.leaf (.pair (.int .i64) (.int .i64)))) vp0 cs21 (Int.toNat s2 * Ty.size (.pair (.int .i64) (.pair (.slice (.pair (.int .i64) (.int .i64))) (.int .i64))) + 1) (List.set s3 (Int.toNat s2) (s1, x15.2)) (Int.toNat s2) (fun y => (x26.1, (y, x26.2.2))) F41, .sl 103 (.pair (.int .i64) (.int .i64)) v33 x39.1] G := H46.pull 1
      have H48 : Holds (([dpR 84 (.pair (.leaf (.int .i64)) (.pair (.sl 103 (.leaf (.pair (.int .i64) (.int .i64)))) (.leaf (.int .i64)))) vp0 csp0 p0 Fp0] : List Res).flatMap Res.own) w w44 [.sl 103 (.pair (.int .i64) (.int .i64)) v33 x39.1, holeR 84 (.pair (.leaf (.int .i64)) (.pair (.sl 103 (.leaf (.pair (.int .i64) (.int .i64)))) (.leaf (.int .i64)))) (.sl 103 (.leaf (.pair (.int .i64) (.int .i64)))) vp0 cs21 (Int.toNat s2 * Ty.size (.pair (.int .i64) (.pair (.slice (.pair (.int .i64) (.int .i64))) (.int .i64))) + 1) (List.set s3 (Int.toNat s2) (s1, x15.2)) (Int.toNat s2) (fun y => (x26.1, (y, x26.2.2))) F41] G := H47.pull 1
      obtain ⟨F49, H50⟩ := Holds.giveBack rfl H48 hc34
      have H51 : Holds (([dpR 84 (.pair (.leaf (.int .i64)) (.pair (.sl 103 (.leaf (.pair (.int .i64) (.int .i64)))) (.leaf (.int .i64)))) vp0 csp0 p0 Fp0] : List Res).flatMap Res.own) w w44 [dpR 84 (.pair (.leaf (.int .i64)) (.pair (.sl 103 (.leaf (.pair (.int .i64) (.int .i64)))) (.leaf (.int .i64)))) vp0 cs21 (List.set (List.set s3 (Int.toNat s2) (s1, x15.2)) (Int.toNat s2) (x26.1, (x39.1, x26.2.2))) F49] G := H50
      refine XL_q rfl (qt_assign rfl) rfl rfl ?_
      refine WL_nil_seq ?_
      refine WP_seq ?_
      refine WP_region ?_
      refine XL_q rfl (qt_move rfl) rfl rfl ?_
      refine XL_q rfl (qt_move rfl) rfl rfl ?_
      refine XL_q rfl (qt_move rfl) rfl rfl ?_
      obtain ⟨x52, hx53, hs9⟩ := bind_some hs9
      have V58 : Ctx w44 ([.ro (.pair (.int .i64) (.pair (.slice (.pair (.int .i64) (.int .i64))) (.int .i64))) vp0 (List.set (List.set s3 (Int.toNat s2) (s1, x15.2)) (Int.toNat s2) (x26.1, (x39.1, x26.2.2)))] ++ G) := H51.viewG (Vw.dp (NsOk.self NsOk.nil) Vw.refl)
      refine XL_indexH V58 (HasRo.has (HasRo.hd)) hx53 u29 i84 rfl rfl rfl rfl (fun b54 off55 cap56 hv57 => ?_)
      refine XL_q rfl (qt_fieldAddr uf84 fi84_2 nz3 rfl) rfl rfl ?_
      refine WL_storeD (Rs := []) (fo := 2) (cs' := [.int .i64 x39.2]) H51 hx53 hv57 ((Foc.snd (Foc.snd Foc.refl))) (DBlt.cast (DBlt.int (k := .i64) (n := x39.2)) rfl rfl) rfl il3 rfl rfl rfl (fun cs59 F60 w61 H62 => ?_)
      have H63 : Holds (([dpR 84 (.pair (.leaf (.int .i64)) (.pair (.sl 103 (.leaf (.pair (.int .i64) (.int .i64)))) (.leaf (.int .i64)))) vp0 csp0 p0 Fp0] : List Res).flatMap Res.own) w w61 [dpR 84 (.pair (.leaf (.int .i64)) (.pair (.sl 103 (.leaf (.pair (.int .i64) (.int .i64)))) (.leaf (.int .i64)))) vp0 cs59 (List.set (List.set (List.set s3 (Int.toNat s2) (s1, x15.2)) (Int.toNat s2) (x26.1, (x39.1, x26.2.2))) (Int.toNat s2) (x52.1, (x52.2.1, x39.2))) F60] G := H62
      refine WL_nil_seq ?_
      refine WP_region ?_
      refine XL_q rfl (qt_move rfl) rfl rfl ?_
      refine XL_q rfl (qt_add rfl rfl) rfl rfl ?_
      refine XL_q rfl (qt_assign rfl) rfl rfl ?_
      refine WL_nil fun a ha => ?_
      refine nrm_block (nrm_seq (WP.app ?_ ha))
      refine WP_region ?_
      refine XL_q rfl (qt_move rfl) rfl rfl ?_
      refine XL_q rfl (qt_add rfl rfl) rfl rfl ?_
      refine XL_q rfl (qt_assign rfl) rfl rfl ?_
      refine WL_nil fun a ha => ?_
      obtain rfl := Option.some.inj hs9
      exact ⟨rfl, cs59, F60, ha.sub ⟨rfl, rfl, rfl, trivial⟩, H63⟩
    · have hs9 := if_f hc14 hs9
      refine WP_exit fun a ha => ?_
      obtain rfl := Option.some.inj hs9
      exact exit_seq (⟨exit_ne, rfl, css3, Fs3, ha.sub ⟨rfl, rfl, trivial⟩, H12⟩)
  · intro e a6 w64 hO65
    obtain ⟨p66, p67⟩ := o4
    obtain ⟨rfl, hO69⟩ := hO65
    obtain ⟨csp67, Fp67, ha, H68⟩ := hO69
    refine exit_block_eq (nrm_seq (WP.app ?_ ha))
    refine WP_seq ?_
    refine WP_region ?_
    refine XL_q rfl (qt_move rfl) rfl rfl ?_
    refine XL_q rfl (qt_assign rfl) rfl rfl ?_
    refine WL_nil_seq ?_
    refine WP_ret fun a ha => ?_
    obtain rfl := Option.some.inj h
    exact ret1 rfl ha rfl ⟨csp67, Fp67, rfl, H68⟩
theorem w_laws_markIntS (w : World) (G : List Res) (vp0 : Value) (p0 : List Int) (p1 : Int) (r : (List Int) × Int) (h : laws_markIntSS p0 p1 = some r) (H : Ctx w ([.sl 3 (.int .i64) vp0 p0] ++ G)) : Calls Try.prog 46 #[vp0, .int .i64 p1] w fun e w' => e = .returned (.int .i64 r.2) ∧ Holds (([.sl 3 (.int .i64) vp0 p0] : List Res).flatMap Res.own) w w' [.sl 3 (.int .i64) vp0 r.1] G := by
  have H : Holds (([.sl 3 (.int .i64) vp0 p0] : List Res).flatMap Res.own) w w [.sl 3 (.int .i64) vp0 p0] G := Holds.startN H
  refine calls_enter (args := [vp0, .int .i64 p1]) (n := 19) Try.func46 rfl rfl rfl ?_
  unfold laws_markIntSS at h
  refine WP_seq ?_
  refine WP_region ?_
  refine XL_q rfl (qt_assign rfl) rfl rfl ?_
  refine WL_nil_seq ?_
  refine WP_seq ?_
  refine WP_seq ?_
  refine WP_region ?_
  refine XL_q rfl (qt_assign rfl) rfl rfl ?_
  refine WL_nil_seq ?_
  refine WP_block ?_
  obtain ⟨o4, ho5, h⟩ := bind_some h
  refine fun a6 ha7 => wp_loop_fix (I := fun s a w2 => match s with | (s1, s2, s3) => (Fr a 19 [(0, vp0), (1, .int .i64 s1), (5, .int .i64 s2)] ∧ Holds (([.sl 3 (.int .i64) vp0 p0] : List Res).flatMap Res.own) w w2 [.sl 3 (.int .i64) vp0 s3] G)) (O := fun o e a w2 => match o with | (q0, q1) => e = .exit 0 ∧ (Fr a 19 [(0, vp0), (1, .int .i64 q0)] ∧ Holds (([.sl 3 (.int .i64) vp0 p0] : List Res).flatMap Res.own) w w2 [.sl 3 (.int .i64) vp0 q1] G)) ho5 ?_ ?_ ?_
  · exact ⟨ha7.sub ⟨rfl, rfl, rfl, trivial⟩, H⟩
  · clear ha7
    intro s o10 a w8 hs9 hI11
    obtain ⟨s1, s2, s3⟩ := s
    obtain ⟨ha, H12⟩ := hI11
    refine WP.app ?_ ha
    clear ha
    refine WP_seq ?_
    refine WP_seq ?_
    refine WP_region ?_
    refine XL_q rfl (qt_move rfl) rfl rfl ?_
    refine XL_q rfl (qt_move rfl) rfl rfl ?_
    refine XL_lenH H12.ctx (t := (.int .i64)) (Has.hd) u23 rfl rfl rfl ?_
    refine XL_q rfl (qt_lss rfl rfl) rfl rfl ?_
    refine WL_nil_seq ?_
    refine WP_cond rfl (fun hc13 => ?_) (fun hc13 => ?_)
    · have hs9 := if_t hc13 hs9
      refine WP_skip_seq ?_
      refine WP_seq ?_
      refine WP_block ?_
      refine WP_seq ?_
      refine WP_region ?_
      refine XL_q rfl (qt_move rfl) rfl rfl ?_
      refine XL_q rfl (qt_move rfl) rfl rfl ?_
      refine XL_q rfl (qt_move rfl) rfl rfl ?_
      obtain ⟨x14, hx15, hs9⟩ := bind_some hs9
      refine XL_indexH H12.ctx (Has.hd) hx15 u23 i3 rfl rfl rfl rfl (fun b16 off17 cap18 hv19 => ?_)
      refine WL_storeH (fo := 0) (cs' := [.int .i64 s1]) H12 hx15 hv19 (Upd.whole (Blt.int)) rfl il3 rfl rfl rfl rfl (fun w20 H21 => ?_)
      have H22 : Holds (([.sl 3 (.int .i64) vp0 p0] : List Res).flatMap Res.own) w w20 [.sl 3 (.int .i64) vp0 (List.set s3 (Int.toNat s2) s1)] G := H21
      refine WL_nil_seq ?_
      refine WP_region ?_
      refine XL_q rfl (qt_move rfl) rfl rfl ?_
      refine XL_q rfl (qt_add rfl rfl) rfl rfl ?_
      refine XL_q rfl (qt_assign rfl) rfl rfl ?_
      refine WL_nil fun a ha => ?_
      refine nrm_block (nrm_seq (WP.app ?_ ha))
      refine WP_region ?_
      refine XL_q rfl (qt_move rfl) rfl rfl ?_
      refine XL_q rfl (qt_add rfl rfl) rfl rfl ?_
      refine XL_q rfl (qt_assign rfl) rfl rfl ?_
      refine WL_nil fun a ha => ?_
      obtain rfl := Option.some.inj hs9
      exact ⟨rfl, ha.sub ⟨rfl, rfl, rfl, trivial⟩, H22⟩
    · have hs9 := if_f hc13 hs9
      refine WP_exit fun a ha => ?_
      obtain rfl := Option.some.inj hs9
      exact exit_seq (⟨exit_ne, rfl, ha.sub ⟨rfl, rfl, trivial⟩, H12⟩)
  · intro e a6 w23 hO24
    obtain ⟨p25, p26⟩ := o4
    obtain ⟨rfl, hO28⟩ := hO24
    obtain ⟨ha, H27⟩ := hO28
    refine exit_block_eq (nrm_seq (WP.app ?_ ha))
    refine WP_seq ?_
    refine WP_region ?_
    refine XL_q rfl (qt_move rfl) rfl rfl ?_
    refine XL_q rfl (qt_assign rfl) rfl rfl ?_
    refine WL_nil_seq ?_
    refine WP_ret fun a ha => ?_
    obtain rfl := Option.some.inj h
    exact ret1 rfl ha rfl ⟨rfl, H27⟩
theorem w_laws_markOrderS (w : World) (G : List Res) (vp0 : Value) (p0 : List (Int × Int)) (p1 : Int) (r : (List (Int × Int)) × Int) (h : laws_markOrderSS p0 p1 = some r) (H : Ctx w ([.sl 63 (.pair (.int .i64) (.int .i64)) vp0 p0] ++ G)) : Calls Try.prog 67 #[vp0, .int .i64 p1] w fun e w' => e = .returned (.int .i64 r.2) ∧ Holds (([.sl 63 (.pair (.int .i64) (.int .i64)) vp0 p0] : List Res).flatMap Res.own) w w' [.sl 63 (.pair (.int .i64) (.int .i64)) vp0 r.1] G := by
  have H : Holds (([.sl 63 (.pair (.int .i64) (.int .i64)) vp0 p0] : List Res).flatMap Res.own) w w [.sl 63 (.pair (.int .i64) (.int .i64)) vp0 p0] G := Holds.startN H
  refine calls_enter (args := [vp0, .int .i64 p1]) (n := 27) Try.func67 rfl rfl rfl ?_
  unfold laws_markOrderSS at h
  refine WP_seq ?_
  refine WP_region ?_
  refine XL_q rfl (qt_assign rfl) rfl rfl ?_
  refine WL_nil_seq ?_
  refine WP_seq ?_
  refine WP_seq ?_
  refine WP_region ?_
  refine XL_q rfl (qt_assign rfl) rfl rfl ?_
  refine WL_nil_seq ?_
  refine WP_block ?_
  obtain ⟨o4, ho5, h⟩ := bind_some h
  refine fun a6 ha7 => wp_loop_fix (I := fun s a w2 => match s with | (s1, s2, s3) => (Fr a 27 [(0, vp0), (1, .int .i64 s1), (5, .int .i64 s2)] ∧ Holds (([.sl 63 (.pair (.int .i64) (.int .i64)) vp0 p0] : List Res).flatMap Res.own) w w2 [.sl 63 (.pair (.int .i64) (.int .i64)) vp0 s3] G)) (O := fun o e a w2 => match o with | (q0, q1) => e = .exit 0 ∧ (Fr a 27 [(0, vp0), (1, .int .i64 q0)] ∧ Holds (([.sl 63 (.pair (.int .i64) (.int .i64)) vp0 p0] : List Res).flatMap Res.own) w w2 [.sl 63 (.pair (.int .i64) (.int .i64)) vp0 q1] G)) ho5 ?_ ?_ ?_
  · exact ⟨ha7.sub ⟨rfl, rfl, rfl, trivial⟩, H⟩
  · clear ha7
    intro s o10 a w8 hs9 hI11
    obtain ⟨s1, s2, s3⟩ := s
    obtain ⟨ha, H12⟩ := hI11
    refine WP.app ?_ ha
    clear ha
    refine WP_seq ?_
    refine WP_seq ?_
    refine WP_region ?_
    refine XL_q rfl (qt_move rfl) rfl rfl ?_
    refine XL_q rfl (qt_move rfl) rfl rfl ?_
    refine XL_lenH H12.ctx (t := (.pair (.int .i64) (.int .i64))) (Has.hd) u48 rfl rfl rfl ?_
    refine XL_q rfl (qt_lss rfl rfl) rfl rfl ?_
    refine WL_nil_seq ?_
    refine WP_cond rfl (fun hc13 => ?_) (fun hc13 => ?_)
    · have hs9 := if_t hc13 hs9
      refine WP_skip_seq ?_
      refine WP_seq ?_
      refine WP_block ?_
      refine WP_seq ?_
      refine WP_region ?_
      refine XL_q rfl (qt_move rfl) rfl rfl ?_
      refine XL_q rfl (qt_move rfl) rfl rfl ?_
      refine XL_q rfl (qt_move rfl) rfl rfl ?_
      obtain ⟨x14, hx15, hs9⟩ := bind_some hs9
      refine XL_indexH H12.ctx (Has.hd) hx15 u48 i63 rfl rfl rfl rfl (fun b16 off17 cap18 hv19 => ?_)
      refine XL_q rfl (qt_fieldAddr uf63 fi63_0 nz3 rfl) rfl rfl ?_
      refine WL_storeH (fo := 0) (cs' := [.int .i64 s1]) H12 hx15 hv19 (Upd.fst (Upd.whole (Blt.int)) rfl) rfl il3 rfl rfl rfl rfl (fun w20 H21 => ?_)
      have H22 : Holds (([.sl 63 (.pair (.int .i64) (.int .i64)) vp0 p0] : List Res).flatMap Res.own) w w20 [.sl 63 (.pair (.int .i64) (.int .i64)) vp0 (List.set s3 (Int.toNat s2) (s1, x14.2))] G := H21
      refine WL_nil_seq ?_
      refine WP_seq ?_
      refine WP_region ?_
      refine XL_q rfl (qt_move rfl) rfl rfl ?_
      refine XL_q rfl (qt_add rfl rfl) rfl rfl ?_
      refine XL_q rfl (qt_assign rfl) rfl rfl ?_
      refine WL_nil_seq ?_
      refine WP_seq ?_
      refine WP_region ?_
      refine XL_q rfl (qt_move rfl) rfl rfl ?_
      refine XL_q rfl (qt_move rfl) rfl rfl ?_
      refine XL_q rfl (qt_move rfl) rfl rfl ?_
      obtain ⟨x23, hx24, hs9⟩ := bind_some hs9
      refine XL_indexH H22.ctx (Has.hd) hx24 u48 i63 rfl rfl rfl rfl (fun b25 off26 cap27 hv28 => ?_)
      refine XL_q rfl (qt_fieldAddr uf63 fi63_1 nz3 rfl) rfl rfl ?_
      refine WL_storeH (fo := 1) (cs' := [.int .i64 (IntKind.wrap .i64 (s1 + 1))]) H22 hx24 hv28 (Upd.snd (Upd.whole (Blt.int))) rfl il3 rfl rfl rfl rfl (fun w29 H30 => ?_)
      have H31 : Holds (([.sl 63 (.pair (.int .i64) (.int .i64)) vp0 p0] : List Res).flatMap Res.own) w w29 [.sl 63 (.pair (.int .i64) (.int .i64)) vp0 (List.set (List.set s3 (Int.toNat s2) (s1, x14.2)) (Int.toNat s2) (x23.1, IntKind.wrap .i64 (s1 + 1)))] G := H30
      refine WL_nil_seq ?_
      refine WP_region ?_
      refine XL_q rfl (qt_move rfl) rfl rfl ?_
      refine XL_q rfl (qt_add rfl rfl) rfl rfl ?_
      refine XL_q rfl (qt_assign rfl) rfl rfl ?_
      refine WL_nil fun a ha => ?_
      refine nrm_block (nrm_seq (WP.app ?_ ha))
      refine WP_region ?_
      refine XL_q rfl (qt_move rfl) rfl rfl ?_
      refine XL_q rfl (qt_add rfl rfl) rfl rfl ?_
      refine XL_q rfl (qt_assign rfl) rfl rfl ?_
      refine WL_nil fun a ha => ?_
      obtain rfl := Option.some.inj hs9
      exact ⟨rfl, ha.sub ⟨rfl, rfl, rfl, trivial⟩, H31⟩
    · have hs9 := if_f hc13 hs9
      refine WP_exit fun a ha => ?_
      obtain rfl := Option.some.inj hs9
      exact exit_seq (⟨exit_ne, rfl, ha.sub ⟨rfl, rfl, trivial⟩, H12⟩)
  · intro e a6 w32 hO33
    obtain ⟨p34, p35⟩ := o4
    obtain ⟨rfl, hO37⟩ := hO33
    obtain ⟨ha, H36⟩ := hO37
    refine exit_block_eq (nrm_seq (WP.app ?_ ha))
    refine WP_seq ?_
    refine WP_region ?_
    refine XL_q rfl (qt_move rfl) rfl rfl ?_
    refine XL_q rfl (qt_assign rfl) rfl rfl ?_
    refine WL_nil_seq ?_
    refine WP_ret fun a ha => ?_
    obtain rfl := Option.some.inj h
    exact ret1 rfl ha rfl ⟨rfl, H36⟩
theorem w_laws_markTableS (w : World) (G : List Res) (vp0 : Value) (p0 : List (Int × (List (Int × Int)) × (List Int))) (csp0 : List Value) (Fp0 : List Nat) (p1 : Int) (r : (List (Int × (List (Int × Int)) × (List Int))) × Int) (h : laws_markTableSS p0 p1 = some r) (H : Ctx w ([dpR 50 (.pair (.leaf (.int .i64)) (.pair (.sl 63 (.leaf (.pair (.int .i64) (.int .i64)))) (.sl 3 (.leaf (.int .i64))))) vp0 csp0 p0 Fp0] ++ G)) : Calls Try.prog 47 #[vp0, .int .i64 p1] w fun e w' => ∃ (dsp0 : List Value) (Ep0 : List Nat), e = .returned (.int .i64 r.2) ∧ Holds (([dpR 50 (.pair (.leaf (.int .i64)) (.pair (.sl 63 (.leaf (.pair (.int .i64) (.int .i64)))) (.sl 3 (.leaf (.int .i64))))) vp0 csp0 p0 Fp0] : List Res).flatMap Res.own) w w' [dpR 50 (.pair (.leaf (.int .i64)) (.pair (.sl 63 (.leaf (.pair (.int .i64) (.int .i64)))) (.sl 3 (.leaf (.int .i64))))) vp0 dsp0 r.1 Ep0] G := by
  have H : Holds (([dpR 50 (.pair (.leaf (.int .i64)) (.pair (.sl 63 (.leaf (.pair (.int .i64) (.int .i64)))) (.sl 3 (.leaf (.int .i64))))) vp0 csp0 p0 Fp0] : List Res).flatMap Res.own) w w [dpR 50 (.pair (.leaf (.int .i64)) (.pair (.sl 63 (.leaf (.pair (.int .i64) (.int .i64)))) (.sl 3 (.leaf (.int .i64))))) vp0 csp0 p0 Fp0] G := Holds.startN H
  refine calls_enter (args := [vp0, .int .i64 p1]) (n := 34) Try.func47 rfl rfl rfl ?_
  unfold laws_markTableSS at h
  refine WP_seq ?_
  refine WP_region ?_
  refine XL_q rfl (qt_assign rfl) rfl rfl ?_
  refine WL_nil_seq ?_
  refine WP_seq ?_
  refine WP_seq ?_
  refine WP_region ?_
  refine XL_q rfl (qt_assign rfl) rfl rfl ?_
  refine WL_nil_seq ?_
  refine WP_block ?_
  obtain ⟨o4, ho5, h⟩ := bind_some h
  refine fun a6 ha7 => wp_loop_fix (I := fun s a w2 => match s with | (s1, s2, s3) => ∃ css3 Fs3, Fr a 34 [(0, vp0), (1, .int .i64 s1), (5, .int .i64 s2)] ∧ Holds (([dpR 50 (.pair (.leaf (.int .i64)) (.pair (.sl 63 (.leaf (.pair (.int .i64) (.int .i64)))) (.sl 3 (.leaf (.int .i64))))) vp0 csp0 p0 Fp0] : List Res).flatMap Res.own) w w2 [dpR 50 (.pair (.leaf (.int .i64)) (.pair (.sl 63 (.leaf (.pair (.int .i64) (.int .i64)))) (.sl 3 (.leaf (.int .i64))))) vp0 css3 s3 Fs3] G) (O := fun o e a w2 => match o with | (q0, q1) => e = .exit 0 ∧ ∃ csq1 Fq1, Fr a 34 [(0, vp0), (1, .int .i64 q0)] ∧ Holds (([dpR 50 (.pair (.leaf (.int .i64)) (.pair (.sl 63 (.leaf (.pair (.int .i64) (.int .i64)))) (.sl 3 (.leaf (.int .i64))))) vp0 csp0 p0 Fp0] : List Res).flatMap Res.own) w w2 [dpR 50 (.pair (.leaf (.int .i64)) (.pair (.sl 63 (.leaf (.pair (.int .i64) (.int .i64)))) (.sl 3 (.leaf (.int .i64))))) vp0 csq1 q1 Fq1] G) ho5 ?_ ?_ ?_
  · exact ⟨csp0, Fp0, ha7.sub ⟨rfl, rfl, rfl, trivial⟩, H⟩
  · clear ha7
    intro s o10 a w8 hs9 hI11
    obtain ⟨s1, s2, s3⟩ := s
    obtain ⟨css3, Fs3, ha, H12⟩ := hI11
    refine WP.app ?_ ha
    clear ha
    refine WP_seq ?_
    refine WP_seq ?_
    refine WP_region ?_
    refine XL_q rfl (qt_move rfl) rfl rfl ?_
    refine XL_q rfl (qt_move rfl) rfl rfl ?_
    have V13 : Ctx w8 ([.ro (.pair (.int .i64) (.pair (.slice (.pair (.int .i64) (.int .i64))) (.slice (.int .i64)))) vp0 s3] ++ G) := H12.viewG (Vw.dp (NsOk.self NsOk.nil) Vw.refl)
    refine XL_lenH V13 (t := (.pair (.int .i64) (.pair (.slice (.pair (.int .i64) (.int .i64))) (.slice (.int .i64))))) (HasRo.has (HasRo.hd)) u30 rfl rfl rfl ?_
    refine XL_q rfl (qt_lss rfl rfl) rfl rfl ?_
    refine WL_nil_seq ?_
    refine WP_cond rfl (fun hc14 => ?_) (fun hc14 => ?_)
    · have hs9 := if_t hc14 hs9
      refine WP_skip_seq ?_
      refine WP_seq ?_
      refine WP_block ?_
      refine WP_seq ?_
      refine WP_region ?_
      refine XL_q rfl (qt_move rfl) rfl rfl ?_
      refine XL_q rfl (qt_move rfl) rfl rfl ?_
      refine XL_q rfl (qt_move rfl) rfl rfl ?_
      obtain ⟨x15, hx16, hs9⟩ := bind_some hs9
      refine XL_indexH V13 (HasRo.has (HasRo.hd)) hx16 u30 i50 rfl rfl rfl rfl (fun b17 off18 cap19 hv20 => ?_)
      refine XL_q rfl (qt_fieldAddr uf50 fi50_0 nz3 rfl) rfl rfl ?_
      refine WL_storeD (Rs := []) (fo := 0) (cs' := [.int .i64 s1]) H12 hx16 hv20 ((Foc.fst Foc.refl)) (DBlt.cast (DBlt.int (k := .i64) (n := s1)) rfl rfl) rfl il3 rfl rfl rfl (fun cs21 F22 w23 H24 => ?_)
      have H25 : Holds (([dpR 50 (.pair (.leaf (.int .i64)) (.pair (.sl 63 (.leaf (.pair (.int .i64) (.int .i64)))) (.sl 3 (.leaf (.int .i64))))) vp0 csp0 p0 Fp0] : List Res).flatMap Res.own) w w23 [dpR 50 (.pair (.leaf (.int .i64)) (.pair (.sl 63 (.leaf (.pair (.int .i64) (.int .i64)))) (.sl 3 (.leaf (.int .i64))))) vp0 cs21 (List.set s3 (Int.toNat s2) (s1, x15.2)) F22] G := H24
      refine WL_nil_seq ?_
      refine WP_seq ?_
      refine WP_region ?_
      refine XL_q rfl (qt_move rfl) rfl rfl ?_
      refine XL_q rfl (qt_add rfl rfl) rfl rfl ?_
      refine XL_q rfl (qt_assign rfl) rfl rfl ?_
      refine WL_nil_seq ?_
      refine WP_seq ?_
      refine WP_region ?_
      refine XL_q rfl (qt_move rfl) rfl rfl ?_
      refine XL_q rfl (qt_move rfl) rfl rfl ?_
      obtain ⟨x26, hx27, hs9⟩ := bind_some hs9
      have V32 : Ctx w23 ([.ro (.pair (.int .i64) (.pair (.slice (.pair (.int .i64) (.int .i64))) (.slice (.int .i64)))) vp0 (List.set s3 (Int.toNat s2) (s1, x15.2))] ++ G) := H25.viewG (Vw.dp (NsOk.self NsOk.nil) Vw.refl)
      refine XL_indexH V32 (HasRo.has (HasRo.hd)) hx27 u30 i50 rfl rfl rfl rfl (fun b28 off29 cap30 hv31 => ?_)
      refine XL_q rfl (qt_fieldAddr uf50 fi50_1 nz48 rfl) rfl rfl ?_
      obtain ⟨v33, hc34, hcell35, hp36, hp37, hsh38⟩ := Holds.ns H25 ((Foc.snd (Foc.fst Foc.refl))) hx27 hv31
      refine XL_load_cell u48 rfl hcell35 rfl rfl rfl ?_
      refine XL_q rfl (qt_move rfl) rfl rfl ?_
      obtain ⟨F41, H42⟩ := Holds.borrow H25 ((Foc.snd (Foc.fst Foc.refl))) hx27 hc34
      have H43 : Holds (([dpR 50 (.pair (.leaf (.int .i64)) (.pair (.sl 63 (.leaf (.pair (.int .i64) (.int .i64)))) (.sl 3 (.leaf (.int .i64))))) vp0 csp0 p0 Fp0] : List Res).flatMap Res.own) w w23 [.sl 63 (.pair (.int .i64) (.int .i64)) v33 x26.2.1, holeR 50 (.pair (.leaf (.int .i64)) (.pair (.sl 63 (.leaf (.pair (.int .i64) (.int .i64)))) (.sl 3 (.leaf (.int .i64))))) (.sl 63 (.leaf (.pair (.int .i64) (.int .i64)))) vp0 cs21 (Int.toNat s2 * Ty.size (.pair (.int .i64) (.pair (.slice (.pair (.int .i64) (.int .i64))) (.slice (.int .i64)))) + 1) (List.set s3 (Int.toNat s2) (s1, x15.2)) (Int.toNat s2) (fun y => (x26.1, (y, x26.2.2))) F41] G := H42
      obtain ⟨x39, hx40, hs9⟩ := bind_some hs9
      refine WL_call rfl rfl c67 (w_laws_markOrderS w23 ([holeR 50 (.pair (.leaf (.int .i64)) (.pair (.sl 63 (.leaf (.pair (.int .i64) (.int .i64)))) (.sl 3 (.leaf (.int .i64))))) (.sl 63 (.leaf (.pair (.int .i64) (.int .i64)))) vp0 cs21 (Int.toNat s2 * Ty.size (.pair (.int .i64) (.pair (.slice (.pair (.int .i64) (.int .i64))) (.slice (.int .i64)))) + 1) (List.set s3 (Int.toNat s2) (s1, x15.2)) (Int.toNat s2) (fun y => (x26.1, (y, x26.2.2))) F41] ++ G) v33 x26.2.1 (IntKind.wrap .i64 (s1 + 1)) x39 hx40 H43.ctx) (by rfl) ?_
      rintro _ w44 ⟨rfl, H45⟩; refine ⟨_, rfl, ?_⟩
      have H46 : Holds (([dpR 50 (.pair (.leaf (.int .i64)) (.pair (.sl 63 (.leaf (.pair (.int .i64) (.int .i64)))) (.sl 3 (.leaf (.int .i64))))) vp0 csp0 p0 Fp0] : List Res).flatMap Res.own) w w44 [.sl 63 (.pair (.int .i64) (.int .i64)) v33 x39.1, holeR 50 (.pair (.leaf (.int .i64)) (.pair (.sl 63 (.leaf (.pair (.int .i64) (.int .i64)))) (.sl 3 (.leaf (.int .i64))))) (.sl 63 (.leaf (.pair (.int .i64) (.int .i64)))) vp0 cs21 (Int.toNat s2 * Ty.size (.pair (.int .i64) (.pair (.slice (.pair (.int .i64) (.int .i64))) (.slice (.int .i64)))) + 1) (List.set s3 (Int.toNat s2) (s1, x15.2)) (Int.toNat s2) (fun y => (x26.1, (y, x26.2.2))) F41] G := H43.calledN (Rs := [_]) H45
      have H47 : Holds (([dpR 50 (.pair (.leaf (.int .i64)) (.pair (.sl 63 (.leaf (.pair (.int .i64) (.int .i64)))) (.sl 3 (.leaf (.int .i64))))) vp0 csp0 p0 Fp0] : List Res).flatMap Res.own) w w44 [holeR 50 (.pair (.leaf (.int .i64)) (.pair (.sl 63 (.leaf (.pair (.int .i64) (.int .i64)))) (.sl 3 (.leaf (.int .i64))))) (.sl 63 (.leaf (.pair (.int .i64) (.int .i64)))) vp0 cs21 (Int.toNat s2 * Ty.size (.pair (.int .i64) (.pair (.slice (.pair (.int .i64) (.int .i64))) (.slice (.int .i64)))) + 1) (List.set s3 (Int.toNat s2) (s1, x15.2)) (Int.toNat s2) (fun y => (x26.1, (y, x26.2.2))) F41, .sl 63 (.pair (.int .i64) (.int .i64)) v33 x39.1] G := H46.pull 1
      have H48 : Holds (([dpR 50 (.pair (.leaf (.int .i64)) (.pair (.sl 63 (.leaf (.pair (.int .i64) (.int .i64)))) (.sl 3 (.leaf (.int .i64))))) vp0 csp0 p0 Fp0] : List Res).flatMap Res.own) w w44 [.sl 63 (.pair (.int .i64) (.int .i64)) v33 x39.1, holeR 50 (.pair (.leaf (.int .i64)) (.pair (.sl 63 (.leaf (.pair (.int .i64) (.int .i64)))) (.sl 3 (.leaf (.int .i64))))) (.sl 63 (.leaf (.pair (.int .i64) (.int .i64)))) vp0 cs21 (Int.toNat s2 * Ty.size (.pair (.int .i64) (.pair (.slice (.pair (.int .i64) (.int .i64))) (.slice (.int .i64)))) + 1) (List.set s3 (Int.toNat s2) (s1, x15.2)) (Int.toNat s2) (fun y => (x26.1, (y, x26.2.2))) F41] G := H47.pull 1
      obtain ⟨F49, H50⟩ := Holds.giveBack rfl H48 hc34
      have H51 : Holds (([dpR 50 (.pair (.leaf (.int .i64)) (.pair (.sl 63 (.leaf (.pair (.int .i64) (.int .i64)))) (.sl 3 (.leaf (.int .i64))))) vp0 csp0 p0 Fp0] : List Res).flatMap Res.own) w w44 [dpR 50 (.pair (.leaf (.int .i64)) (.pair (.sl 63 (.leaf (.pair (.int .i64) (.int .i64)))) (.sl 3 (.leaf (.int .i64))))) vp0 cs21 (List.set (List.set s3 (Int.toNat s2) (s1, x15.2)) (Int.toNat s2) (x26.1, (x39.1, x26.2.2))) F49] G := H50
      refine XL_q rfl (qt_assign rfl) rfl rfl ?_
      refine WL_nil_seq ?_
      refine WP_region ?_
      refine XL_q rfl (qt_move rfl) rfl rfl ?_
      refine XL_q rfl (qt_move rfl) rfl rfl ?_
      obtain ⟨x52, hx53, hs9⟩ := bind_some hs9
      have V58 : Ctx w44 ([.ro (.pair (.int .i64) (.pair (.slice (.pair (.int .i64) (.int .i64))) (.slice (.int .i64)))) vp0 (List.set (List.set s3 (Int.toNat s2) (s1, x15.2)) (Int.toNat s2) (x26.1, (x39.1, x26.2.2)))] ++ G) := H51.viewG (Vw.dp (NsOk.self NsOk.nil) Vw.refl)
      refine XL_indexH V58 (HasRo.has (HasRo.hd)) hx53 u30 i50 rfl rfl rfl rfl (fun b54 off55 cap56 hv57 => ?_)
      refine XL_q rfl (qt_fieldAddr uf50 fi50_2 nz23 rfl) rfl rfl ?_
      obtain ⟨v59, hc60, hcell61, hp62, hp63, hsh64⟩ := Holds.ns H51 ((Foc.snd (Foc.snd Foc.refl))) hx53 hv57
      refine XL_load_cell u23 rfl hcell61 rfl rfl rfl ?_
      refine XL_q rfl (qt_move rfl) rfl rfl ?_
      obtain ⟨F67, H68⟩ := Holds.borrow H51 ((Foc.snd (Foc.snd Foc.refl))) hx53 hc60
      have H69 : Holds (([dpR 50 (.pair (.leaf (.int .i64)) (.pair (.sl 63 (.leaf (.pair (.int .i64) (.int .i64)))) (.sl 3 (.leaf (.int .i64))))) vp0 csp0 p0 Fp0] : List Res).flatMap Res.own) w w44 [.sl 3 (.int .i64) v59 x52.2.2, holeR 50 (.pair (.leaf (.int .i64)) (.pair (.sl 63 (.leaf (.pair (.int .i64) (.int .i64)))) (.sl 3 (.leaf (.int .i64))))) (.sl 3 (.leaf (.int .i64))) vp0 cs21 (Int.toNat s2 * Ty.size (.pair (.int .i64) (.pair (.slice (.pair (.int .i64) (.int .i64))) (.slice (.int .i64)))) + 2) (List.set (List.set s3 (Int.toNat s2) (s1, x15.2)) (Int.toNat s2) (x26.1, (x39.1, x26.2.2))) (Int.toNat s2) (fun y => (x52.1, (x52.2.1, y))) F67] G := H68
      obtain ⟨x65, hx66, hs9⟩ := bind_some hs9
      refine WL_call rfl rfl c46 (w_laws_markIntS w44 ([holeR 50 (.pair (.leaf (.int .i64)) (.pair (.sl 63 (.leaf (.pair (.int .i64) (.int .i64)))) (.sl 3 (.leaf (.int .i64))))) (.sl 3 (.leaf (.int .i64))) vp0 cs21 (Int.toNat s2 * Ty.size (.pair (.int .i64) (.pair (.slice (.pair (.int .i64) (.int .i64))) (.slice (.int .i64)))) + 2) (List.set (List.set s3 (Int.toNat s2) (s1, x15.2)) (Int.toNat s2) (x26.1, (x39.1, x26.2.2))) (Int.toNat s2) (fun y => (x52.1, (x52.2.1, y))) F67] ++ G) v59 x52.2.2 x39.2 x65 hx66 H69.ctx) (by rfl) ?_
      rintro _ w70 ⟨rfl, H71⟩; refine ⟨_, rfl, ?_⟩
      have H72 : Holds (([dpR 50 (.pair (.leaf (.int .i64)) (.pair (.sl 63 (.leaf (.pair (.int .i64) (.int .i64)))) (.sl 3 (.leaf (.int .i64))))) vp0 csp0 p0 Fp0] : List Res).flatMap Res.own) w w70 [.sl 3 (.int .i64) v59 x65.1, holeR 50 (.pair (.leaf (.int .i64)) (.pair (.sl 63 (.leaf (.pair (.int .i64) (.int .i64)))) (.sl 3 (.leaf (.int .i64))))) (.sl 3 (.leaf (.int .i64))) vp0 cs21 (Int.toNat s2 * Ty.size (.pair (.int .i64) (.pair (.slice (.pair (.int .i64) (.int .i64))) (.slice (.int .i64)))) + 2) (List.set (List.set s3 (Int.toNat s2) (s1, x15.2)) (Int.toNat s2) (x26.1, (x39.1, x26.2.2))) (Int.toNat s2) (fun y => (x52.1, (x52.2.1, y))) F67] G := H69.calledN (Rs := [_]) H71
      have H73 : Holds (([dpR 50 (.pair (.leaf (.int .i64)) (.pair (.sl 63 (.leaf (.pair (.int .i64) (.int .i64)))) (.sl 3 (.leaf (.int .i64))))) vp0 csp0 p0 Fp0] : List Res).flatMap Res.own) w w70 [holeR 50 (.pair (.leaf (.int .i64)) (.pair (.sl 63 (.leaf (.pair (.int .i64) (.int .i64)))) (.sl 3 (.leaf (.int .i64))))) (.sl 3 (.leaf (.int .i64))) vp0 cs21 (Int.toNat s2 * Ty.size (.pair (.int .i64) (.pair (.slice (.pair (.int .i64) (.int .i64))) (.slice (.int .i64)))) + 2) (List.set (List.set s3 (Int.toNat s2) (s1, x15.2)) (Int.toNat s2) (x26.1, (x39.1, x26.2.2))) (Int.toNat s2) (fun y => (x52.1, (x52.2.1, y))) F67, .sl 3 (.int .i64) v59 x65.1] G := H72.pull 1
      have H74 : Holds (([dpR 50 (.pair (.leaf (.int .i64)) (.pair (.sl 63 (.leaf (.pair (.int .i64) (.int .i64)))) (.sl 3 (.leaf (.int .i64))))) vp0 csp0 p0 Fp0] : List Res).flatMap Res.own) w w70 [.sl 3 (.int .i64) v59 x65.1, holeR 50 (.pair (.leaf (.int .i64)) (.pair (.sl 63 (.leaf (.pair (.int .i64) (.int .i64)))) (.sl 3 (.leaf (.int .i64))))) (.sl 3 (.leaf (.int .i64))) vp0 cs21 (Int.toNat s2 * Ty.size (.pair (.int .i64) (.pair (.slice (.pair (.int .i64) (.int .i64))) (.slice (.int .i64)))) + 2) (List.set (List.set s3 (Int.toNat s2) (s1, x15.2)) (Int.toNat s2) (x26.1, (x39.1, x26.2.2))) (Int.toNat s2) (fun y => (x52.1, (x52.2.1, y))) F67] G := H73.pull 1
      obtain ⟨F75, H76⟩ := Holds.giveBack rfl H74 hc60
      have H77 : Holds (([dpR 50 (.pair (.leaf (.int .i64)) (.pair (.sl 63 (.leaf (.pair (.int .i64) (.int .i64)))) (.sl 3 (.leaf (.int .i64))))) vp0 csp0 p0 Fp0] : List Res).flatMap Res.own) w w70 [dpR 50 (.pair (.leaf (.int .i64)) (.pair (.sl 63 (.leaf (.pair (.int .i64) (.int .i64)))) (.sl 3 (.leaf (.int .i64))))) vp0 cs21 (List.set (List.set (List.set s3 (Int.toNat s2) (s1, x15.2)) (Int.toNat s2) (x26.1, (x39.1, x26.2.2))) (Int.toNat s2) (x52.1, (x52.2.1, x65.1))) F75] G := H76
      refine XL_q rfl (qt_assign rfl) rfl rfl ?_
      refine WL_nil fun a ha => ?_
      refine nrm_block (nrm_seq (WP.app ?_ ha))
      refine WP_region ?_
      refine XL_q rfl (qt_move rfl) rfl rfl ?_
      refine XL_q rfl (qt_add rfl rfl) rfl rfl ?_
      refine XL_q rfl (qt_assign rfl) rfl rfl ?_
      refine WL_nil fun a ha => ?_
      obtain rfl := Option.some.inj hs9
      exact ⟨rfl, cs21, F75, ha.sub ⟨rfl, rfl, rfl, trivial⟩, H77⟩
    · have hs9 := if_f hc14 hs9
      refine WP_exit fun a ha => ?_
      obtain rfl := Option.some.inj hs9
      exact exit_seq (⟨exit_ne, rfl, css3, Fs3, ha.sub ⟨rfl, rfl, trivial⟩, H12⟩)
  · intro e a6 w78 hO79
    obtain ⟨p80, p81⟩ := o4
    obtain ⟨rfl, hO83⟩ := hO79
    obtain ⟨csp81, Fp81, ha, H82⟩ := hO83
    refine exit_block_eq (nrm_seq (WP.app ?_ ha))
    refine WP_seq ?_
    refine WP_region ?_
    refine XL_q rfl (qt_move rfl) rfl rfl ?_
    refine XL_q rfl (qt_assign rfl) rfl rfl ?_
    refine WL_nil_seq ?_
    refine WP_ret fun a ha => ?_
    obtain rfl := Option.some.inj h
    exact ret1 rfl ha rfl ⟨csp81, Fp81, rfl, H82⟩
theorem w_laws_markHouse (w : World) (G : List Res) (vp0_0 : Value) (p0_0 : List (Int × (List (Int × Int)) × Int)) (csp0_0 : List Value) (Fp0_0 : List Nat) (vp0_1 : Value) (p0_1 : List Int) (vp0_2 : Value) (p0_2 : List Int) (p0_3 : Int) (vp0_4 : Value) (p0_4 : List (Int × (List (Int × Int)) × (List Int))) (csp0_4 : List Value) (Fp0_4 : List Nat) (p1 : Int) (r : (List (Int × (List (Int × Int)) × Int)) × (List Int) × (List Int) × (List (Int × (List (Int × Int)) × (List Int))) × Int) (h : laws_markHouseS p0_0 p0_1 p0_2 p0_3 p0_4 p1 = some r) (H : Ctx w ([dpR 84 (.pair (.leaf (.int .i64)) (.pair (.sl 103 (.leaf (.pair (.int .i64) (.int .i64)))) (.leaf (.int .i64)))) vp0_0 csp0_0 p0_0 Fp0_0, .sl 3 (.int .i64) vp0_1 p0_1, .sl 3 (.int .i64) vp0_2 p0_2, dpR 50 (.pair (.leaf (.int .i64)) (.pair (.sl 63 (.leaf (.pair (.int .i64) (.int .i64)))) (.sl 3 (.leaf (.int .i64))))) vp0_4 csp0_4 p0_4 Fp0_4] ++ G)) : Calls Try.prog 19 #[.agg #[vp0_0, vp0_1, vp0_2, .int .i64 p0_3, vp0_4], .int .i64 p1] w fun e w' => ∃ (dsp0_0 : List Value) (Ep0_0 : List Nat) (dsp0_4 : List Value) (Ep0_4 : List Nat), e = .returned (.int .i64 r.2.2.2.2) ∧ Holds (([dpR 84 (.pair (.leaf (.int .i64)) (.pair (.sl 103 (.leaf (.pair (.int .i64) (.int .i64)))) (.leaf (.int .i64)))) vp0_0 csp0_0 p0_0 Fp0_0, .sl 3 (.int .i64) vp0_1 p0_1, .sl 3 (.int .i64) vp0_2 p0_2, dpR 50 (.pair (.leaf (.int .i64)) (.pair (.sl 63 (.leaf (.pair (.int .i64) (.int .i64)))) (.sl 3 (.leaf (.int .i64))))) vp0_4 csp0_4 p0_4 Fp0_4] : List Res).flatMap Res.own) w w' [dpR 84 (.pair (.leaf (.int .i64)) (.pair (.sl 103 (.leaf (.pair (.int .i64) (.int .i64)))) (.leaf (.int .i64)))) vp0_0 dsp0_0 r.1 Ep0_0, .sl 3 (.int .i64) vp0_1 r.2.1, .sl 3 (.int .i64) vp0_2 r.2.2.1, dpR 50 (.pair (.leaf (.int .i64)) (.pair (.sl 63 (.leaf (.pair (.int .i64) (.int .i64)))) (.sl 3 (.leaf (.int .i64))))) vp0_4 dsp0_4 r.2.2.2.1 Ep0_4] G := by
  have H : Holds (([dpR 84 (.pair (.leaf (.int .i64)) (.pair (.sl 103 (.leaf (.pair (.int .i64) (.int .i64)))) (.leaf (.int .i64)))) vp0_0 csp0_0 p0_0 Fp0_0, .sl 3 (.int .i64) vp0_1 p0_1, .sl 3 (.int .i64) vp0_2 p0_2, dpR 50 (.pair (.leaf (.int .i64)) (.pair (.sl 63 (.leaf (.pair (.int .i64) (.int .i64)))) (.sl 3 (.leaf (.int .i64))))) vp0_4 csp0_4 p0_4 Fp0_4] : List Res).flatMap Res.own) w w [dpR 84 (.pair (.leaf (.int .i64)) (.pair (.sl 103 (.leaf (.pair (.int .i64) (.int .i64)))) (.leaf (.int .i64)))) vp0_0 csp0_0 p0_0 Fp0_0, .sl 3 (.int .i64) vp0_1 p0_1, .sl 3 (.int .i64) vp0_2 p0_2, dpR 50 (.pair (.leaf (.int .i64)) (.pair (.sl 63 (.leaf (.pair (.int .i64) (.int .i64)))) (.sl 3 (.leaf (.int .i64))))) vp0_4 csp0_4 p0_4 Fp0_4] G := Holds.startN H
  refine calls_enter (args := [.agg #[vp0_0, vp0_1, vp0_2, .int .i64 p0_3, vp0_4], .int .i64 p1]) (n := 22) Try.func19 rfl rfl rfl ?_
  unfold laws_markHouseS at h
  refine WP_seq ?_
  refine WP_region ?_
  refine WL_box (cs := [vp0_0, vp0_1, vp0_2, .int .i64 p0_3, vp0_4]) H rfl rfl rfl rfl (fun b1 w2 H3 => ?_)
  have H4 : Holds (([dpR 84 (.pair (.leaf (.int .i64)) (.pair (.sl 103 (.leaf (.pair (.int .i64) (.int .i64)))) (.leaf (.int .i64)))) vp0_0 csp0_0 p0_0 Fp0_0, .sl 3 (.int .i64) vp0_1 p0_1, .sl 3 (.int .i64) vp0_2 p0_2, dpR 50 (.pair (.leaf (.int .i64)) (.pair (.sl 63 (.leaf (.pair (.int .i64) (.int .i64)))) (.sl 3 (.leaf (.int .i64))))) vp0_4 csp0_4 p0_4 Fp0_4] : List Res).flatMap Res.own) w w2 [.bx b1 32 [vp0_0, vp0_1, vp0_2, .int .i64 p0_3, vp0_4], dpR 84 (.pair (.leaf (.int .i64)) (.pair (.sl 103 (.leaf (.pair (.int .i64) (.int .i64)))) (.leaf (.int .i64)))) vp0_0 csp0_0 p0_0 Fp0_0, .sl 3 (.int .i64) vp0_1 p0_1, .sl 3 (.int .i64) vp0_2 p0_2, dpR 50 (.pair (.leaf (.int .i64)) (.pair (.sl 63 (.leaf (.pair (.int .i64) (.int .i64)))) (.sl 3 (.leaf (.int .i64))))) vp0_4 csp0_4 p0_4 Fp0_4] G := H3
  refine XL_q rfl (qt_assign rfl) rfl rfl ?_
  refine WL_nil_seq ?_
  refine WP_seq ?_
  refine WP_region ?_
  refine XL_q rfl (qt_fieldAddr uf32 fi32_0 nz29 rfl) rfl rfl ?_
  have hB5 : Bx w2 b1 32 [vp0_0, vp0_1, vp0_2, .int .i64 p0_3, vp0_4] := Holds.bx (H4.pull 0)
  refine XL_load_bx u29 rfl hB5 rfl rfl rfl rfl ?_
  refine XL_q rfl (qt_move rfl) rfl rfl ?_
  have H8 : Holds (([dpR 84 (.pair (.leaf (.int .i64)) (.pair (.sl 103 (.leaf (.pair (.int .i64) (.int .i64)))) (.leaf (.int .i64)))) vp0_0 csp0_0 p0_0 Fp0_0, .sl 3 (.int .i64) vp0_1 p0_1, .sl 3 (.int .i64) vp0_2 p0_2, dpR 50 (.pair (.leaf (.int .i64)) (.pair (.sl 63 (.leaf (.pair (.int .i64) (.int .i64)))) (.sl 3 (.leaf (.int .i64))))) vp0_4 csp0_4 p0_4 Fp0_4] : List Res).flatMap Res.own) w w2 [dpR 84 (.pair (.leaf (.int .i64)) (.pair (.sl 103 (.leaf (.pair (.int .i64) (.int .i64)))) (.leaf (.int .i64)))) vp0_0 csp0_0 p0_0 Fp0_0, .bx b1 32 [vp0_0, vp0_1, vp0_2, .int .i64 p0_3, vp0_4], .sl 3 (.int .i64) vp0_1 p0_1, .sl 3 (.int .i64) vp0_2 p0_2, dpR 50 (.pair (.leaf (.int .i64)) (.pair (.sl 63 (.leaf (.pair (.int .i64) (.int .i64)))) (.sl 3 (.leaf (.int .i64))))) vp0_4 csp0_4 p0_4 Fp0_4] G := H4.pull 1
  obtain ⟨x6, hx7, h⟩ := bind_some h
  have V9 : Ctx w2 ([dpR 84 (.pair (.leaf (.int .i64)) (.pair (.sl 103 (.leaf (.pair (.int .i64) (.int .i64)))) (.leaf (.int .i64)))) vp0_0 csp0_0 p0_0 Fp0_0, .bx b1 32 [vp0_0, vp0_1, vp0_2, .int .i64 p0_3, vp0_4], .sl 3 (.int .i64) vp0_1 p0_1, .sl 3 (.int .i64) vp0_2 p0_2, .ro (.pair (.int .i64) (.pair (.slice (.pair (.int .i64) (.int .i64))) (.slice (.int .i64)))) vp0_4 p0_4] ++ G) := H8.viewG (Vw.c (Vw.c (Vw.c (Vw.c (Vw.dp (NsOk.self NsOk.nil) Vw.refl)))))
  refine WL_call rfl rfl c45 (w_laws_markItemS w2 ([.bx b1 32 [vp0_0, vp0_1, vp0_2, .int .i64 p0_3, vp0_4], .sl 3 (.int .i64) vp0_1 p0_1, .sl 3 (.int .i64) vp0_2 p0_2, .ro (.pair (.int .i64) (.pair (.slice (.pair (.int .i64) (.int .i64))) (.slice (.int .i64)))) vp0_4 p0_4] ++ G) vp0_0 p0_0 csp0_0 Fp0_0 p1 x6 hx7 V9) (by rfl) ?_
  rintro _ w10 ⟨cs12, F13, rfl, H11⟩; refine ⟨_, rfl, ?_⟩
  have H14 : Holds (([dpR 84 (.pair (.leaf (.int .i64)) (.pair (.sl 103 (.leaf (.pair (.int .i64) (.int .i64)))) (.leaf (.int .i64)))) vp0_0 csp0_0 p0_0 Fp0_0, .sl 3 (.int .i64) vp0_1 p0_1, .sl 3 (.int .i64) vp0_2 p0_2, dpR 50 (.pair (.leaf (.int .i64)) (.pair (.sl 63 (.leaf (.pair (.int .i64) (.int .i64)))) (.sl 3 (.leaf (.int .i64))))) vp0_4 csp0_4 p0_4 Fp0_4] : List Res).flatMap Res.own) w w10 [dpR 84 (.pair (.leaf (.int .i64)) (.pair (.sl 103 (.leaf (.pair (.int .i64) (.int .i64)))) (.leaf (.int .i64)))) vp0_0 cs12 x6.1 F13, .bx b1 32 [vp0_0, vp0_1, vp0_2, .int .i64 p0_3, vp0_4], .sl 3 (.int .i64) vp0_1 p0_1, .sl 3 (.int .i64) vp0_2 p0_2, dpR 50 (.pair (.leaf (.int .i64)) (.pair (.sl 63 (.leaf (.pair (.int .i64) (.int .i64)))) (.sl 3 (.leaf (.int .i64))))) vp0_4 csp0_4 p0_4 Fp0_4] G := H8.calledV (Rs := [_]) H11 (all_cons Pure.dp all_nil)
  refine XL_q rfl (qt_assign rfl) rfl rfl ?_
  refine WL_nil_seq ?_
  refine WP_seq ?_
  refine WP_region ?_
  refine XL_q rfl (qt_fieldAddr uf32 fi32_1 nz23 rfl) rfl rfl ?_
  have hB15 : Bx w10 b1 32 [vp0_0, vp0_1, vp0_2, .int .i64 p0_3, vp0_4] := Holds.bx (H14.pull 1)
  refine XL_load_bx u23 rfl hB15 rfl rfl rfl rfl ?_
  refine XL_q rfl (qt_move rfl) rfl rfl ?_
  have H18 : Holds (([dpR 84 (.pair (.leaf (.int .i64)) (.pair (.sl 103 (.leaf (.pair (.int .i64) (.int .i64)))) (.leaf (.int .i64)))) vp0_0 csp0_0 p0_0 Fp0_0, .sl 3 (.int .i64) vp0_1 p0_1, .sl 3 (.int .i64) vp0_2 p0_2, dpR 50 (.pair (.leaf (.int .i64)) (.pair (.sl 63 (.leaf (.pair (.int .i64) (.int .i64)))) (.sl 3 (.leaf (.int .i64))))) vp0_4 csp0_4 p0_4 Fp0_4] : List Res).flatMap Res.own) w w10 [.sl 3 (.int .i64) vp0_1 p0_1, dpR 84 (.pair (.leaf (.int .i64)) (.pair (.sl 103 (.leaf (.pair (.int .i64) (.int .i64)))) (.leaf (.int .i64)))) vp0_0 cs12 x6.1 F13, .bx b1 32 [vp0_0, vp0_1, vp0_2, .int .i64 p0_3, vp0_4], .sl 3 (.int .i64) vp0_2 p0_2, dpR 50 (.pair (.leaf (.int .i64)) (.pair (.sl 63 (.leaf (.pair (.int .i64) (.int .i64)))) (.sl 3 (.leaf (.int .i64))))) vp0_4 csp0_4 p0_4 Fp0_4] G := H14.pull 2
  obtain ⟨x16, hx17, h⟩ := bind_some h
  have V19 : Ctx w10 ([.sl 3 (.int .i64) vp0_1 p0_1, .ro (.pair (.int .i64) (.pair (.slice (.pair (.int .i64) (.int .i64))) (.int .i64))) vp0_0 x6.1, .bx b1 32 [vp0_0, vp0_1, vp0_2, .int .i64 p0_3, vp0_4], .sl 3 (.int .i64) vp0_2 p0_2, .ro (.pair (.int .i64) (.pair (.slice (.pair (.int .i64) (.int .i64))) (.slice (.int .i64)))) vp0_4 p0_4] ++ G) := H18.viewG (Vw.c (Vw.dp (NsOk.self NsOk.nil) (Vw.c (Vw.c (Vw.dp (NsOk.self NsOk.nil) Vw.refl)))))
  refine WL_call rfl rfl c46 (w_laws_markIntS w10 ([.ro (.pair (.int .i64) (.pair (.slice (.pair (.int .i64) (.int .i64))) (.int .i64))) vp0_0 x6.1, .bx b1 32 [vp0_0, vp0_1, vp0_2, .int .i64 p0_3, vp0_4], .sl 3 (.int .i64) vp0_2 p0_2, .ro (.pair (.int .i64) (.pair (.slice (.pair (.int .i64) (.int .i64))) (.slice (.int .i64)))) vp0_4 p0_4] ++ G) vp0_1 p0_1 x6.2 x16 hx17 V19) (by rfl) ?_
  rintro _ w20 ⟨rfl, H21⟩; refine ⟨_, rfl, ?_⟩
  have H22 : Holds (([dpR 84 (.pair (.leaf (.int .i64)) (.pair (.sl 103 (.leaf (.pair (.int .i64) (.int .i64)))) (.leaf (.int .i64)))) vp0_0 csp0_0 p0_0 Fp0_0, .sl 3 (.int .i64) vp0_1 p0_1, .sl 3 (.int .i64) vp0_2 p0_2, dpR 50 (.pair (.leaf (.int .i64)) (.pair (.sl 63 (.leaf (.pair (.int .i64) (.int .i64)))) (.sl 3 (.leaf (.int .i64))))) vp0_4 csp0_4 p0_4 Fp0_4] : List Res).flatMap Res.own) w w20 [.sl 3 (.int .i64) vp0_1 x16.1, dpR 84 (.pair (.leaf (.int .i64)) (.pair (.sl 103 (.leaf (.pair (.int .i64) (.int .i64)))) (.leaf (.int .i64)))) vp0_0 cs12 x6.1 F13, .bx b1 32 [vp0_0, vp0_1, vp0_2, .int .i64 p0_3, vp0_4], .sl 3 (.int .i64) vp0_2 p0_2, dpR 50 (.pair (.leaf (.int .i64)) (.pair (.sl 63 (.leaf (.pair (.int .i64) (.int .i64)))) (.sl 3 (.leaf (.int .i64))))) vp0_4 csp0_4 p0_4 Fp0_4] G := H18.calledV (Rs := [_]) H21 (all_cons (Pure.sl rfl) all_nil)
  refine XL_q rfl (qt_assign rfl) rfl rfl ?_
  refine WL_nil_seq ?_
  refine WP_seq ?_
  refine WP_region ?_
  refine XL_q rfl (qt_fieldAddr uf32 fi32_2 nz23 rfl) rfl rfl ?_
  have hB23 : Bx w20 b1 32 [vp0_0, vp0_1, vp0_2, .int .i64 p0_3, vp0_4] := Holds.bx (H22.pull 2)
  refine XL_load_bx u23 rfl hB23 rfl rfl rfl rfl ?_
  refine XL_q rfl (qt_move rfl) rfl rfl ?_
  have H26 : Holds (([dpR 84 (.pair (.leaf (.int .i64)) (.pair (.sl 103 (.leaf (.pair (.int .i64) (.int .i64)))) (.leaf (.int .i64)))) vp0_0 csp0_0 p0_0 Fp0_0, .sl 3 (.int .i64) vp0_1 p0_1, .sl 3 (.int .i64) vp0_2 p0_2, dpR 50 (.pair (.leaf (.int .i64)) (.pair (.sl 63 (.leaf (.pair (.int .i64) (.int .i64)))) (.sl 3 (.leaf (.int .i64))))) vp0_4 csp0_4 p0_4 Fp0_4] : List Res).flatMap Res.own) w w20 [.sl 3 (.int .i64) vp0_2 p0_2, .sl 3 (.int .i64) vp0_1 x16.1, dpR 84 (.pair (.leaf (.int .i64)) (.pair (.sl 103 (.leaf (.pair (.int .i64) (.int .i64)))) (.leaf (.int .i64)))) vp0_0 cs12 x6.1 F13, .bx b1 32 [vp0_0, vp0_1, vp0_2, .int .i64 p0_3, vp0_4], dpR 50 (.pair (.leaf (.int .i64)) (.pair (.sl 63 (.leaf (.pair (.int .i64) (.int .i64)))) (.sl 3 (.leaf (.int .i64))))) vp0_4 csp0_4 p0_4 Fp0_4] G := H22.pull 3
  obtain ⟨x24, hx25, h⟩ := bind_some h
  have V27 : Ctx w20 ([.sl 3 (.int .i64) vp0_2 p0_2, .sl 3 (.int .i64) vp0_1 x16.1, .ro (.pair (.int .i64) (.pair (.slice (.pair (.int .i64) (.int .i64))) (.int .i64))) vp0_0 x6.1, .bx b1 32 [vp0_0, vp0_1, vp0_2, .int .i64 p0_3, vp0_4], .ro (.pair (.int .i64) (.pair (.slice (.pair (.int .i64) (.int .i64))) (.slice (.int .i64)))) vp0_4 p0_4] ++ G) := H26.viewG (Vw.c (Vw.c (Vw.dp (NsOk.self NsOk.nil) (Vw.c (Vw.dp (NsOk.self NsOk.nil) Vw.refl)))))
  refine WL_call rfl rfl c46 (w_laws_markIntS w20 ([.sl 3 (.int .i64) vp0_1 x16.1, .ro (.pair (.int .i64) (.pair (.slice (.pair (.int .i64) (.int .i64))) (.int .i64))) vp0_0 x6.1, .bx b1 32 [vp0_0, vp0_1, vp0_2, .int .i64 p0_3, vp0_4], .ro (.pair (.int .i64) (.pair (.slice (.pair (.int .i64) (.int .i64))) (.slice (.int .i64)))) vp0_4 p0_4] ++ G) vp0_2 p0_2 x16.2 x24 hx25 V27) (by rfl) ?_
  rintro _ w28 ⟨rfl, H29⟩; refine ⟨_, rfl, ?_⟩
  have H30 : Holds (([dpR 84 (.pair (.leaf (.int .i64)) (.pair (.sl 103 (.leaf (.pair (.int .i64) (.int .i64)))) (.leaf (.int .i64)))) vp0_0 csp0_0 p0_0 Fp0_0, .sl 3 (.int .i64) vp0_1 p0_1, .sl 3 (.int .i64) vp0_2 p0_2, dpR 50 (.pair (.leaf (.int .i64)) (.pair (.sl 63 (.leaf (.pair (.int .i64) (.int .i64)))) (.sl 3 (.leaf (.int .i64))))) vp0_4 csp0_4 p0_4 Fp0_4] : List Res).flatMap Res.own) w w28 [.sl 3 (.int .i64) vp0_2 x24.1, .sl 3 (.int .i64) vp0_1 x16.1, dpR 84 (.pair (.leaf (.int .i64)) (.pair (.sl 103 (.leaf (.pair (.int .i64) (.int .i64)))) (.leaf (.int .i64)))) vp0_0 cs12 x6.1 F13, .bx b1 32 [vp0_0, vp0_1, vp0_2, .int .i64 p0_3, vp0_4], dpR 50 (.pair (.leaf (.int .i64)) (.pair (.sl 63 (.leaf (.pair (.int .i64) (.int .i64)))) (.sl 3 (.leaf (.int .i64))))) vp0_4 csp0_4 p0_4 Fp0_4] G := H26.calledV (Rs := [_]) H29 (all_cons (Pure.sl rfl) all_nil)
  refine XL_q rfl (qt_assign rfl) rfl rfl ?_
  refine WL_nil_seq ?_
  refine WP_seq ?_
  refine WP_region ?_
  refine XL_q rfl (qt_fieldAddr uf32 fi32_4 nz30 rfl) rfl rfl ?_
  have hB31 : Bx w28 b1 32 [vp0_0, vp0_1, vp0_2, .int .i64 p0_3, vp0_4] := Holds.bx (H30.pull 3)
  refine XL_load_bx u30 rfl hB31 rfl rfl rfl rfl ?_
  refine XL_q rfl (qt_move rfl) rfl rfl ?_
  have H34 : Holds (([dpR 84 (.pair (.leaf (.int .i64)) (.pair (.sl 103 (.leaf (.pair (.int .i64) (.int .i64)))) (.leaf (.int .i64)))) vp0_0 csp0_0 p0_0 Fp0_0, .sl 3 (.int .i64) vp0_1 p0_1, .sl 3 (.int .i64) vp0_2 p0_2, dpR 50 (.pair (.leaf (.int .i64)) (.pair (.sl 63 (.leaf (.pair (.int .i64) (.int .i64)))) (.sl 3 (.leaf (.int .i64))))) vp0_4 csp0_4 p0_4 Fp0_4] : List Res).flatMap Res.own) w w28 [dpR 50 (.pair (.leaf (.int .i64)) (.pair (.sl 63 (.leaf (.pair (.int .i64) (.int .i64)))) (.sl 3 (.leaf (.int .i64))))) vp0_4 csp0_4 p0_4 Fp0_4, .sl 3 (.int .i64) vp0_2 x24.1, .sl 3 (.int .i64) vp0_1 x16.1, dpR 84 (.pair (.leaf (.int .i64)) (.pair (.sl 103 (.leaf (.pair (.int .i64) (.int .i64)))) (.leaf (.int .i64)))) vp0_0 cs12 x6.1 F13, .bx b1 32 [vp0_0, vp0_1, vp0_2, .int .i64 p0_3, vp0_4]] G := H30.pull 4
  obtain ⟨x32, hx33, h⟩ := bind_some h
  have V35 : Ctx w28 ([dpR 50 (.pair (.leaf (.int .i64)) (.pair (.sl 63 (.leaf (.pair (.int .i64) (.int .i64)))) (.sl 3 (.leaf (.int .i64))))) vp0_4 csp0_4 p0_4 Fp0_4, .sl 3 (.int .i64) vp0_2 x24.1, .sl 3 (.int .i64) vp0_1 x16.1, .ro (.pair (.int .i64) (.pair (.slice (.pair (.int .i64) (.int .i64))) (.int .i64))) vp0_0 x6.1, .bx b1 32 [vp0_0, vp0_1, vp0_2, .int .i64 p0_3, vp0_4]] ++ G) := H34.viewG (Vw.c (Vw.c (Vw.c (Vw.dp (NsOk.self NsOk.nil) (Vw.c Vw.refl)))))
  refine WL_call rfl rfl c47 (w_laws_markTableS w28 ([.sl 3 (.int .i64) vp0_2 x24.1, .sl 3 (.int .i64) vp0_1 x16.1, .ro (.pair (.int .i64) (.pair (.slice (.pair (.int .i64) (.int .i64))) (.int .i64))) vp0_0 x6.1, .bx b1 32 [vp0_0, vp0_1, vp0_2, .int .i64 p0_3, vp0_4]] ++ G) vp0_4 p0_4 csp0_4 Fp0_4 x24.2 x32 hx33 V35) (by rfl) ?_
  rintro _ w36 ⟨cs38, F39, rfl, H37⟩; refine ⟨_, rfl, ?_⟩
  have H40 : Holds (([dpR 84 (.pair (.leaf (.int .i64)) (.pair (.sl 103 (.leaf (.pair (.int .i64) (.int .i64)))) (.leaf (.int .i64)))) vp0_0 csp0_0 p0_0 Fp0_0, .sl 3 (.int .i64) vp0_1 p0_1, .sl 3 (.int .i64) vp0_2 p0_2, dpR 50 (.pair (.leaf (.int .i64)) (.pair (.sl 63 (.leaf (.pair (.int .i64) (.int .i64)))) (.sl 3 (.leaf (.int .i64))))) vp0_4 csp0_4 p0_4 Fp0_4] : List Res).flatMap Res.own) w w36 [dpR 50 (.pair (.leaf (.int .i64)) (.pair (.sl 63 (.leaf (.pair (.int .i64) (.int .i64)))) (.sl 3 (.leaf (.int .i64))))) vp0_4 cs38 x32.1 F39, .sl 3 (.int .i64) vp0_2 x24.1, .sl 3 (.int .i64) vp0_1 x16.1, dpR 84 (.pair (.leaf (.int .i64)) (.pair (.sl 103 (.leaf (.pair (.int .i64) (.int .i64)))) (.leaf (.int .i64)))) vp0_0 cs12 x6.1 F13, .bx b1 32 [vp0_0, vp0_1, vp0_2, .int .i64 p0_3, vp0_4]] G := H34.calledV (Rs := [_]) H37 (all_cons Pure.dp all_nil)
  refine XL_q rfl (qt_assign rfl) rfl rfl ?_
  refine WL_nil_seq ?_
  refine WP_seq ?_
  refine WP_region ?_
  refine XL_q rfl (qt_move rfl) rfl rfl ?_
  refine XL_q rfl (qt_assign rfl) rfl rfl ?_
  refine WL_nil_seq ?_
  refine WP_ret fun a ha => ?_
  obtain rfl := Option.some.inj h
  have H41 : Holds (([dpR 84 (.pair (.leaf (.int .i64)) (.pair (.sl 103 (.leaf (.pair (.int .i64) (.int .i64)))) (.leaf (.int .i64)))) vp0_0 csp0_0 p0_0 Fp0_0, .sl 3 (.int .i64) vp0_1 p0_1, .sl 3 (.int .i64) vp0_2 p0_2, dpR 50 (.pair (.leaf (.int .i64)) (.pair (.sl 63 (.leaf (.pair (.int .i64) (.int .i64)))) (.sl 3 (.leaf (.int .i64))))) vp0_4 csp0_4 p0_4 Fp0_4] : List Res).flatMap Res.own) w w36 [dpR 84 (.pair (.leaf (.int .i64)) (.pair (.sl 103 (.leaf (.pair (.int .i64) (.int .i64)))) (.leaf (.int .i64)))) vp0_0 cs12 x6.1 F13, .sl 3 (.int .i64) vp0_1 x16.1, .sl 3 (.int .i64) vp0_2 x24.1, dpR 50 (.pair (.leaf (.int .i64)) (.pair (.sl 63 (.leaf (.pair (.int .i64) (.int .i64)))) (.sl 3 (.leaf (.int .i64))))) vp0_4 cs38 x32.1 F39] G := ((((H40.cut 4).pull 1).pull 2).pull 3)
  exact ret1 rfl ha rfl ⟨cs12, F13, cs38, F39, rfl, H41⟩
theorem w_laws_markHouseDeedS (w : World) (G : List Res) (vp0 : Value) (p0 : List (Int × Int × Int × Int)) (p1 : Int) (r : (List (Int × Int × Int × Int)) × Int) (h : laws_markHouseDeedSS p0 p1 = some r) (H : Ctx w ([.sl 68 (.pair (.int .i64) (.pair (.int .i64) (.pair (.int .i64) (.int .i64)))) vp0 p0] ++ G)) : Calls Try.prog 20 #[vp0, .int .i64 p1] w fun e w' => e = .returned (.int .i64 r.2) ∧ Holds (([.sl 68 (.pair (.int .i64) (.pair (.int .i64) (.pair (.int .i64) (.int .i64)))) vp0 p0] : List Res).flatMap Res.own) w w' [.sl 68 (.pair (.int .i64) (.pair (.int .i64) (.pair (.int .i64) (.int .i64)))) vp0 r.1] G := by
  have H : Holds (([.sl 68 (.pair (.int .i64) (.pair (.int .i64) (.pair (.int .i64) (.int .i64)))) vp0 p0] : List Res).flatMap Res.own) w w [.sl 68 (.pair (.int .i64) (.pair (.int .i64) (.pair (.int .i64) (.int .i64)))) vp0 p0] G := Holds.startN H
  refine calls_enter (args := [vp0, .int .i64 p1]) (n := 41) Try.func20 rfl rfl rfl ?_
  unfold laws_markHouseDeedSS at h
  refine WP_seq ?_
  refine WP_region ?_
  refine XL_q rfl (qt_assign rfl) rfl rfl ?_
  refine WL_nil_seq ?_
  refine WP_seq ?_
  refine WP_seq ?_
  refine WP_region ?_
  refine XL_q rfl (qt_assign rfl) rfl rfl ?_
  refine WL_nil_seq ?_
  refine WP_block ?_
  obtain ⟨o4, ho5, h⟩ := bind_some h
  refine fun a6 ha7 => wp_loop_fix (I := fun s a w2 => match s with | (s1, s2, s3) => (Fr a 41 [(0, vp0), (1, .int .i64 s1), (5, .int .i64 s2)] ∧ Holds (([.sl 68 (.pair (.int .i64) (.pair (.int .i64) (.pair (.int .i64) (.int .i64)))) vp0 p0] : List Res).flatMap Res.own) w w2 [.sl 68 (.pair (.int .i64) (.pair (.int .i64) (.pair (.int .i64) (.int .i64)))) vp0 s3] G)) (O := fun o e a w2 => match o with | (q0, q1) => e = .exit 0 ∧ (Fr a 41 [(0, vp0), (1, .int .i64 q0)] ∧ Holds (([.sl 68 (.pair (.int .i64) (.pair (.int .i64) (.pair (.int .i64) (.int .i64)))) vp0 p0] : List Res).flatMap Res.own) w w2 [.sl 68 (.pair (.int .i64) (.pair (.int .i64) (.pair (.int .i64) (.int .i64)))) vp0 q1] G)) ho5 ?_ ?_ ?_
  · exact ⟨ha7.sub ⟨rfl, rfl, rfl, trivial⟩, H⟩
  · clear ha7
    intro s o10 a w8 hs9 hI11
    obtain ⟨s1, s2, s3⟩ := s
    obtain ⟨ha, H12⟩ := hI11
    refine WP.app ?_ ha
    clear ha
    refine WP_seq ?_
    refine WP_seq ?_
    refine WP_region ?_
    refine XL_q rfl (qt_move rfl) rfl rfl ?_
    refine XL_q rfl (qt_move rfl) rfl rfl ?_
    refine XL_lenH H12.ctx (t := (.pair (.int .i64) (.pair (.int .i64) (.pair (.int .i64) (.int .i64))))) (Has.hd) u39 rfl rfl rfl ?_
    refine XL_q rfl (qt_lss rfl rfl) rfl rfl ?_
    refine WL_nil_seq ?_
    refine WP_cond rfl (fun hc13 => ?_) (fun hc13 => ?_)
    · have hs9 := if_t hc13 hs9
      refine WP_skip_seq ?_
      refine WP_seq ?_
      refine WP_block ?_
      refine WP_seq ?_
      refine WP_region ?_
      refine XL_q rfl (qt_move rfl) rfl rfl ?_
      refine XL_q rfl (qt_move rfl) rfl rfl ?_
      refine XL_q rfl (qt_move rfl) rfl rfl ?_
      obtain ⟨x14, hx15, hs9⟩ := bind_some hs9
      refine XL_indexH H12.ctx (Has.hd) hx15 u39 i68 rfl rfl rfl rfl (fun b16 off17 cap18 hv19 => ?_)
      refine XL_q rfl (qt_fieldAddr uf68 fi68_0 nz3 rfl) rfl rfl ?_
      refine WL_storeH (fo := 0) (cs' := [.int .i64 s1]) H12 hx15 hv19 (Upd.fst (Upd.whole (Blt.int)) rfl) rfl il3 rfl rfl rfl rfl (fun w20 H21 => ?_)
      have H22 : Holds (([.sl 68 (.pair (.int .i64) (.pair (.int .i64) (.pair (.int .i64) (.int .i64)))) vp0 p0] : List Res).flatMap Res.own) w w20 [.sl 68 (.pair (.int .i64) (.pair (.int .i64) (.pair (.int .i64) (.int .i64)))) vp0 (List.set s3 (Int.toNat s2) (s1, x14.2))] G := H21
      refine WL_nil_seq ?_
      refine WP_seq ?_
      refine WP_region ?_
      refine XL_q rfl (qt_move rfl) rfl rfl ?_
      refine XL_q rfl (qt_add rfl rfl) rfl rfl ?_
      refine XL_q rfl (qt_assign rfl) rfl rfl ?_
      refine WL_nil_seq ?_
      refine WP_seq ?_
      refine WP_region ?_
      refine XL_q rfl (qt_move rfl) rfl rfl ?_
      refine XL_q rfl (qt_move rfl) rfl rfl ?_
      refine XL_q rfl (qt_move rfl) rfl rfl ?_
      obtain ⟨x23, hx24, hs9⟩ := bind_some hs9
      refine XL_indexH H22.ctx (Has.hd) hx24 u39 i68 rfl rfl rfl rfl (fun b25 off26 cap27 hv28 => ?_)
      refine XL_q rfl (qt_fieldAddr uf68 fi68_1 nz3 rfl) rfl rfl ?_
      refine WL_storeH (fo := 1) (cs' := [.int .i64 (IntKind.wrap .i64 (s1 + 1))]) H22 hx24 hv28 (Upd.snd (Upd.fst (Upd.whole (Blt.int)) rfl)) rfl il3 rfl rfl rfl rfl (fun w29 H30 => ?_)
      have H31 : Holds (([.sl 68 (.pair (.int .i64) (.pair (.int .i64) (.pair (.int .i64) (.int .i64)))) vp0 p0] : List Res).flatMap Res.own) w w29 [.sl 68 (.pair (.int .i64) (.pair (.int .i64) (.pair (.int .i64) (.int .i64)))) vp0 (List.set (List.set s3 (Int.toNat s2) (s1, x14.2)) (Int.toNat s2) (x23.1, (IntKind.wrap .i64 (s1 + 1), x23.2.2)))] G := H30
      refine WL_nil_seq ?_
      refine WP_seq ?_
      refine WP_region ?_
      refine XL_q rfl (qt_move rfl) rfl rfl ?_
      refine XL_q rfl (qt_add rfl rfl) rfl rfl ?_
      refine XL_q rfl (qt_assign rfl) rfl rfl ?_
      refine WL_nil_seq ?_
      refine WP_seq ?_
      refine WP_region ?_
      refine XL_q rfl (qt_move rfl) rfl rfl ?_
      refine XL_q rfl (qt_move rfl) rfl rfl ?_
      refine XL_q rfl (qt_move rfl) rfl rfl ?_
      obtain ⟨x32, hx33, hs9⟩ := bind_some hs9
      refine XL_indexH H31.ctx (Has.hd) hx33 u39 i68 rfl rfl rfl rfl (fun b34 off35 cap36 hv37 => ?_)
      refine XL_q rfl (qt_fieldAddr uf68 fi68_2 nz3 rfl) rfl rfl ?_
      refine WL_storeH (fo := 2) (cs' := [.int .i64 (IntKind.wrap .i64 ((IntKind.wrap .i64 (s1 + 1)) + 1))]) H31 hx33 hv37 (Upd.snd (Upd.snd (Upd.fst (Upd.whole (Blt.int)) rfl))) rfl il3 rfl rfl rfl rfl (fun w38 H39 => ?_)
      have H40 : Holds (([.sl 68 (.pair (.int .i64) (.pair (.int .i64) (.pair (.int .i64) (.int .i64)))) vp0 p0] : List Res).flatMap Res.own) w w38 [.sl 68 (.pair (.int .i64) (.pair (.int .i64) (.pair (.int .i64) (.int .i64)))) vp0 (List.set (List.set (List.set s3 (Int.toNat s2) (s1, x14.2)) (Int.toNat s2) (x23.1, (IntKind.wrap .i64 (s1 + 1), x23.2.2))) (Int.toNat s2) (x32.1, (x32.2.1, (IntKind.wrap .i64 ((IntKind.wrap .i64 (s1 + 1)) + 1), x32.2.2.2))))] G := H39
      refine WL_nil_seq ?_
      refine WP_seq ?_
      refine WP_region ?_
      refine XL_q rfl (qt_move rfl) rfl rfl ?_
      refine XL_q rfl (qt_add rfl rfl) rfl rfl ?_
      refine XL_q rfl (qt_assign rfl) rfl rfl ?_
      refine WL_nil_seq ?_
      refine WP_seq ?_
      refine WP_region ?_
      refine XL_q rfl (qt_move rfl) rfl rfl ?_
      refine XL_q rfl (qt_move rfl) rfl rfl ?_
      refine XL_q rfl (qt_move rfl) rfl rfl ?_
      obtain ⟨x41, hx42, hs9⟩ := bind_some hs9
      refine XL_indexH H40.ctx (Has.hd) hx42 u39 i68 rfl rfl rfl rfl (fun b43 off44 cap45 hv46 => ?_)
      refine XL_q rfl (qt_fieldAddr uf68 fi68_3 nz3 rfl) rfl rfl ?_
      refine WL_storeH (fo := 3) (cs' := [.int .i64 (IntKind.wrap .i64 ((IntKind.wrap .i64 ((IntKind.wrap .i64 (s1 + 1)) + 1)) + 1))]) H40 hx42 hv46 (Upd.snd (Upd.snd (Upd.snd (Upd.whole (Blt.int))))) rfl il3 rfl rfl rfl rfl (fun w47 H48 => ?_)
      have H49 : Holds (([.sl 68 (.pair (.int .i64) (.pair (.int .i64) (.pair (.int .i64) (.int .i64)))) vp0 p0] : List Res).flatMap Res.own) w w47 [.sl 68 (.pair (.int .i64) (.pair (.int .i64) (.pair (.int .i64) (.int .i64)))) vp0 (List.set (List.set (List.set (List.set s3 (Int.toNat s2) (s1, x14.2)) (Int.toNat s2) (x23.1, (IntKind.wrap .i64 (s1 + 1), x23.2.2))) (Int.toNat s2) (x32.1, (x32.2.1, (IntKind.wrap .i64 ((IntKind.wrap .i64 (s1 + 1)) + 1), x32.2.2.2)))) (Int.toNat s2) (x41.1, (x41.2.1, (x41.2.2.1, IntKind.wrap .i64 ((IntKind.wrap .i64 ((IntKind.wrap .i64 (s1 + 1)) + 1)) + 1)))))] G := H48
      refine WL_nil_seq ?_
      refine WP_region ?_
      refine XL_q rfl (qt_move rfl) rfl rfl ?_
      refine XL_q rfl (qt_add rfl rfl) rfl rfl ?_
      refine XL_q rfl (qt_assign rfl) rfl rfl ?_
      refine WL_nil fun a ha => ?_
      refine nrm_block (nrm_seq (WP.app ?_ ha))
      refine WP_region ?_
      refine XL_q rfl (qt_move rfl) rfl rfl ?_
      refine XL_q rfl (qt_add rfl rfl) rfl rfl ?_
      refine XL_q rfl (qt_assign rfl) rfl rfl ?_
      refine WL_nil fun a ha => ?_
      obtain rfl := Option.some.inj hs9
      exact ⟨rfl, ha.sub ⟨rfl, rfl, rfl, trivial⟩, H49⟩
    · have hs9 := if_f hc13 hs9
      refine WP_exit fun a ha => ?_
      obtain rfl := Option.some.inj hs9
      exact exit_seq (⟨exit_ne, rfl, ha.sub ⟨rfl, rfl, trivial⟩, H12⟩)
  · intro e a6 w50 hO51
    obtain ⟨p52, p53⟩ := o4
    obtain ⟨rfl, hO55⟩ := hO51
    obtain ⟨ha, H54⟩ := hO55
    refine exit_block_eq (nrm_seq (WP.app ?_ ha))
    refine WP_seq ?_
    refine WP_region ?_
    refine XL_q rfl (qt_move rfl) rfl rfl ?_
    refine XL_q rfl (qt_assign rfl) rfl rfl ?_
    refine WL_nil_seq ?_
    refine WP_ret fun a ha => ?_
    obtain rfl := Option.some.inj h
    exact ret1 rfl ha rfl ⟨rfl, H54⟩
theorem w_laws_heldHouseDeedS (w : World) (G : List Res) (vp0 : Value) (p0 : List (Int × Int × Int × Int)) (hp0 : Has G (.pair (.int .i64) (.pair (.int .i64) (.pair (.int .i64) (.int .i64)))) vp0 p0) (p1 : Int) (r : Int) (h : laws_heldHouseDeedSS p0 p1 = some r) (H : Ctx w G) : Calls Try.prog 21 #[vp0, .int .i64 p1] w fun e w' => e = .returned (.int .i64 r) ∧ Holds (([] : List Res).flatMap Res.own) w w' [] G := by
  have H : Holds (([] : List Res).flatMap Res.own) w w [] G := Holds.startN H
  refine calls_enter (args := [vp0, .int .i64 p1]) (n := 49) Try.func21 rfl rfl rfl ?_
  unfold laws_heldHouseDeedSS at h
  refine WP_seq ?_
  refine WP_region ?_
  refine XL_q rfl (qt_assign rfl) rfl rfl ?_
  refine WL_nil_seq ?_
  refine WP_seq ?_
  refine WP_seq ?_
  refine WP_region ?_
  refine XL_q rfl (qt_assign rfl) rfl rfl ?_
  refine WL_nil_seq ?_
  refine WP_block ?_
  obtain ⟨o3, ho4, h⟩ := bind_some h
  refine fun a5 ha6 => wp_loop_fix (I := fun s a w2 => match s with | (s1, s2) => (Fr a 49 [(0, vp0), (1, .int .i64 s1), (5, .int .i64 s2)] ∧ Holds (([] : List Res).flatMap Res.own) w w2 [] G)) (O := fun o e a w2 => match o with | .inl q0 => e = .exit 0 ∧ (Fr a 49 [(1, .int .i64 q0)] ∧ Holds (([] : List Res).flatMap Res.own) w w2 [] G) | .inr q0 => e = .ret ∧ (Fr a 49 [(4, .int .i64 q0)] ∧ Holds (([] : List Res).flatMap Res.own) w w2 [] G)) ho4 ?_ ?_ ?_
  · exact ⟨ha6.sub ⟨rfl, rfl, rfl, trivial⟩, H⟩
  · clear ha6
    intro s o9 a w7 hs8 hI10
    obtain ⟨s1, s2⟩ := s
    obtain ⟨ha, H11⟩ := hI10
    refine WP.app ?_ ha
    clear ha
    refine WP_seq ?_
    refine WP_seq ?_
    refine WP_region ?_
    refine XL_q rfl (qt_move rfl) rfl rfl ?_
    refine XL_q rfl (qt_move rfl) rfl rfl ?_
    refine XL_lenH H11.ctx (t := (.pair (.int .i64) (.pair (.int .i64) (.pair (.int .i64) (.int .i64))))) (hp0) u39 rfl rfl rfl ?_
    refine XL_q rfl (qt_lss rfl rfl) rfl rfl ?_
    refine WL_nil_seq ?_
    refine WP_cond rfl (fun hc12 => ?_) (fun hc12 => ?_)
    · have hs8 := if_t hc12 hs8
      refine WP_skip_seq ?_
      refine WP_seq ?_
      refine WP_block ?_
      refine WP_seq ?_
      refine WP_seq ?_
      refine WP_region ?_
      refine XL_q rfl (qt_move rfl) rfl rfl ?_
      refine XL_q rfl (qt_move rfl) rfl rfl ?_
      obtain ⟨x13, hx14, hs8⟩ := bind_some hs8
      refine XL_indexH H11.ctx (hp0) hx14 u39 i68 rfl rfl rfl rfl (fun b15 off16 cap17 hv18 => ?_)
      refine XL_q rfl (qt_fieldAddr uf68 fi68_0 nz3 rfl) rfl rfl ?_
      obtain ⟨F19, hat20, hdup21⟩ := H11.at (hp0) hx14 hv18
      obtain ⟨F22, hat23, hin24⟩ := AtP.fst hat20
      refine XL_load_int (k := .i64) u3 rfl hat23 rfl rfl rfl ?_
      refine XL_q rfl (qt_move rfl) rfl rfl ?_
      refine XL_q rfl (qt_neq rfl rfl) rfl rfl ?_
      refine WL_nil_seq ?_
      refine WP_cond rfl (fun hc25 => ?_) (fun hc25 => ?_)
      · have hs8 := if_t hc25 hs8
        refine WP_seq ?_
        refine WP_region ?_
        refine XL_q rfl (qt_assign rfl) rfl rfl ?_
        refine WL_nil_seq ?_
        refine WP_ret fun a ha => ?_
        obtain rfl := Option.some.inj hs8
        exact ret_seq (ret_block (ret_seq (⟨ret_ne, rfl, ha.sub ⟨rfl, trivial⟩, H11⟩)))
      · have hs8 := if_f hc25 hs8
        refine WP_skip_seq ?_
        refine WP_seq ?_
        refine WP_region ?_
        refine XL_q rfl (qt_move rfl) rfl rfl ?_
        refine XL_q rfl (qt_add rfl rfl) rfl rfl ?_
        refine XL_q rfl (qt_assign rfl) rfl rfl ?_
        refine WL_nil_seq ?_
        refine WP_seq ?_
        refine WP_seq ?_
        refine WP_region ?_
        refine XL_q rfl (qt_move rfl) rfl rfl ?_
        refine XL_q rfl (qt_move rfl) rfl rfl ?_
        obtain ⟨x26, hx27, hs8⟩ := bind_some hs8
        refine XL_indexH H11.ctx (hp0) hx27 u39 i68 rfl rfl rfl rfl (fun b28 off29 cap30 hv31 => ?_)
        refine XL_q rfl (qt_fieldAddr uf68 fi68_1 nz3 rfl) rfl rfl ?_
        obtain ⟨F32, hat33, hdup34⟩ := H11.at (hp0) hx27 hv31
        obtain ⟨F35, hat36, hin37⟩ := AtP.snd hat33
        obtain ⟨F38, hat39, hin40⟩ := AtP.fst hat36
        refine XL_load_int (k := .i64) u3 rfl hat39 rfl rfl rfl ?_
        refine XL_q rfl (qt_move rfl) rfl rfl ?_
        refine XL_q rfl (qt_neq rfl rfl) rfl rfl ?_
        refine WL_nil_seq ?_
        refine WP_cond rfl (fun hc41 => ?_) (fun hc41 => ?_)
        · have hs8 := if_t hc41 hs8
          refine WP_seq ?_
          refine WP_region ?_
          refine XL_q rfl (qt_assign rfl) rfl rfl ?_
          refine WL_nil_seq ?_
          refine WP_ret fun a ha => ?_
          obtain rfl := Option.some.inj hs8
          exact ret_seq (ret_block (ret_seq (⟨ret_ne, rfl, ha.sub ⟨rfl, trivial⟩, H11⟩)))
        · have hs8 := if_f hc41 hs8
          refine WP_skip_seq ?_
          refine WP_seq ?_
          refine WP_region ?_
          refine XL_q rfl (qt_move rfl) rfl rfl ?_
          refine XL_q rfl (qt_add rfl rfl) rfl rfl ?_
          refine XL_q rfl (qt_assign rfl) rfl rfl ?_
          refine WL_nil_seq ?_
          refine WP_seq ?_
          refine WP_seq ?_
          refine WP_region ?_
          refine XL_q rfl (qt_move rfl) rfl rfl ?_
          refine XL_q rfl (qt_move rfl) rfl rfl ?_
          obtain ⟨x42, hx43, hs8⟩ := bind_some hs8
          refine XL_indexH H11.ctx (hp0) hx43 u39 i68 rfl rfl rfl rfl (fun b44 off45 cap46 hv47 => ?_)
          refine XL_q rfl (qt_fieldAddr uf68 fi68_2 nz3 rfl) rfl rfl ?_
          obtain ⟨F48, hat49, hdup50⟩ := H11.at (hp0) hx43 hv47
          obtain ⟨F51, hat52, hin53⟩ := AtP.snd hat49
          obtain ⟨F54, hat55, hin56⟩ := AtP.snd hat52
          obtain ⟨F57, hat58, hin59⟩ := AtP.fst hat55
          refine XL_load_int (k := .i64) u3 rfl hat58 rfl rfl rfl ?_
          refine XL_q rfl (qt_move rfl) rfl rfl ?_
          refine XL_q rfl (qt_neq rfl rfl) rfl rfl ?_
          refine WL_nil_seq ?_
          refine WP_cond rfl (fun hc60 => ?_) (fun hc60 => ?_)
          · have hs8 := if_t hc60 hs8
            refine WP_seq ?_
            refine WP_region ?_
            refine XL_q rfl (qt_assign rfl) rfl rfl ?_
            refine WL_nil_seq ?_
            refine WP_ret fun a ha => ?_
            obtain rfl := Option.some.inj hs8
            exact ret_seq (ret_block (ret_seq (⟨ret_ne, rfl, ha.sub ⟨rfl, trivial⟩, H11⟩)))
          · have hs8 := if_f hc60 hs8
            refine WP_skip_seq ?_
            refine WP_seq ?_
            refine WP_region ?_
            refine XL_q rfl (qt_move rfl) rfl rfl ?_
            refine XL_q rfl (qt_add rfl rfl) rfl rfl ?_
            refine XL_q rfl (qt_assign rfl) rfl rfl ?_
            refine WL_nil_seq ?_
            refine WP_seq ?_
            refine WP_seq ?_
            refine WP_region ?_
            refine XL_q rfl (qt_move rfl) rfl rfl ?_
            refine XL_q rfl (qt_move rfl) rfl rfl ?_
            obtain ⟨x61, hx62, hs8⟩ := bind_some hs8
            refine XL_indexH H11.ctx (hp0) hx62 u39 i68 rfl rfl rfl rfl (fun b63 off64 cap65 hv66 => ?_)
            refine XL_q rfl (qt_fieldAddr uf68 fi68_3 nz3 rfl) rfl rfl ?_
            obtain ⟨F67, hat68, hdup69⟩ := H11.at (hp0) hx62 hv66
            obtain ⟨F70, hat71, hin72⟩ := AtP.snd hat68
            obtain ⟨F73, hat74, hin75⟩ := AtP.snd hat71
            obtain ⟨F76, hat77, hin78⟩ := AtP.snd hat74
            refine XL_load_int (k := .i64) u3 rfl hat77 rfl rfl rfl ?_
            refine XL_q rfl (qt_move rfl) rfl rfl ?_
            refine XL_q rfl (qt_neq rfl rfl) rfl rfl ?_
            refine WL_nil_seq ?_
            refine WP_cond rfl (fun hc79 => ?_) (fun hc79 => ?_)
            · have hs8 := if_t hc79 hs8
              refine WP_seq ?_
              refine WP_region ?_
              refine XL_q rfl (qt_assign rfl) rfl rfl ?_
              refine WL_nil_seq ?_
              refine WP_ret fun a ha => ?_
              obtain rfl := Option.some.inj hs8
              exact ret_seq (ret_block (ret_seq (⟨ret_ne, rfl, ha.sub ⟨rfl, trivial⟩, H11⟩)))
            · have hs8 := if_f hc79 hs8
              refine WP_skip_seq ?_
              refine WP_region ?_
              refine XL_q rfl (qt_move rfl) rfl rfl ?_
              refine XL_q rfl (qt_add rfl rfl) rfl rfl ?_
              refine XL_q rfl (qt_assign rfl) rfl rfl ?_
              refine WL_nil fun a ha => ?_
              refine nrm_block (nrm_seq (WP.app ?_ ha))
              refine WP_region ?_
              refine XL_q rfl (qt_move rfl) rfl rfl ?_
              refine XL_q rfl (qt_add rfl rfl) rfl rfl ?_
              refine XL_q rfl (qt_assign rfl) rfl rfl ?_
              refine WL_nil fun a ha => ?_
              obtain rfl := Option.some.inj hs8
              exact ⟨rfl, ha.sub ⟨rfl, rfl, rfl, trivial⟩, H11⟩
    · have hs8 := if_f hc12 hs8
      refine WP_exit fun a ha => ?_
      obtain rfl := Option.some.inj hs8
      exact exit_seq (⟨exit_ne, rfl, ha.sub ⟨rfl, trivial⟩, H11⟩)
  · intro e a5 w80 hO81
    rcases o3 with o3 | o3
    · skip
      obtain ⟨p82, rfl⟩ : ∃ z, z = o3 := ⟨o3, rfl⟩
      obtain ⟨rfl, hO84⟩ := hO81
      obtain ⟨ha, H83⟩ := hO84
      refine exit_block_eq (nrm_seq (WP.app ?_ ha))
      refine WP_seq ?_
      refine WP_region ?_
      refine XL_q rfl (qt_move rfl) rfl rfl ?_
      refine XL_q rfl (qt_assign rfl) rfl rfl ?_
      refine WL_nil_seq ?_
      refine WP_ret fun a ha => ?_
      obtain rfl := Option.some.inj h
      exact ret1 rfl ha rfl ⟨rfl, H83⟩
    · skip
      obtain ⟨p85, rfl⟩ : ∃ z, z = o3 := ⟨o3, rfl⟩
      obtain ⟨rfl, hO87⟩ := hO81
      obtain ⟨ha, H86⟩ := hO87
      obtain rfl := Option.some.inj h
      exact ret_block (ret_seq (ret1 rfl ha rfl ⟨rfl, H86⟩))
end Go.Proofs.Ytcjkbcdlpfgbgaa
