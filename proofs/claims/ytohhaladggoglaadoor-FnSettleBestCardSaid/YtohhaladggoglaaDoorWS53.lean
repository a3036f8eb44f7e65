/- The walks: each Go function computes its shallow function. Printed by a program. -/
import Derived.Test.YtohhaladggoglaaDoorWS52
set_option linter.unusedVariables false
set_option maxRecDepth 10000
namespace Go.Proofs.YtohhaladggoglaaDoor
open Go Go.RowKit
theorem w_slices_stableCmpFunc_int (w : World) (G : List Res) (vp0 : Value) (p0 : List Int) (p1 : Int) (gp2 : FuncId) (cp2 : Array Value) (kp2 : Callable Tryd.prog gp2) (p2 : Int → Int → Option Int) (hp2 : CloOk Tryd.prog gp2 cp2 p2 G) (r : (List Int)) (h : slices_stableCmpFunc_intS p0 p1 p2 = some r) (H : Ctx w ([.sl 3 (.int .i64) vp0 p0] ++ G)) : Calls Tryd.prog 76 #[vp0, .int .i64 p1, .func (.func gp2) #[] cp2] w fun e w' => e = .returned (.tuple #[]) ∧ Holds (([.sl 3 (.int .i64) vp0 p0] : List Res).flatMap Res.own) w w' [.sl 3 (.int .i64) vp0 r] G := by
  have H : Holds (([.sl 3 (.int .i64) vp0 p0] : List Res).flatMap Res.own) w w [.sl 3 (.int .i64) vp0 p0] G := Holds.startN H
  refine calls_enter (args := [vp0, .int .i64 p1, .func (.func gp2) #[] cp2]) (n := 63) Tryd.func76 rfl rfl rfl ?_
  unfold slices_stableCmpFunc_intS at h
  refine WP_seq ?_
  refine WP_region ?_
  refine XL_q rfl (qt_assign rfl) rfl rfl ?_
  refine WL_nil_seq ?_
  refine WP_seq ?_
  refine WP_region ?_
  refine XL_q rfl (qt_move rfl) rfl rfl ?_
  refine XL_q rfl (qt_assign rfl) rfl rfl ?_
  refine XL_q rfl (qt_assign rfl) rfl rfl ?_
  refine WL_nil_seq ?_
  refine WP_seq ?_
  refine WP_block ?_
  obtain ⟨o4, ho5, h⟩ := bind_some h
  refine fun a6 ha7 => wp_loop_fix (I := fun s a w2 => match s with | (s1, s2, s3) => (Fr a 63 [(0, vp0), (1, .int .i64 p1), (2, .func (.func gp2) #[] cp2), (6, .int .i64 20), (7, .int .i64 s1), (8, .int .i64 s2)] ∧ Holds (([.sl 3 (.int .i64) vp0 p0] : List Res).flatMap Res.own) w w2 [.sl 3 (.int .i64) vp0 s3] G)) (O := fun o e a w2 => match o with | (q0, q1) => e = .exit 0 ∧ (Fr a 63 [(0, vp0), (1, .int .i64 p1), (2, .func (.func gp2) #[] cp2), (6, .int .i64 20), (7, .int .i64 q0)] ∧ Holds (([.sl 3 (.int .i64) vp0 p0] : List Res).flatMap Res.own) w w2 [.sl 3 (.int .i64) vp0 q1] G)) ho5 ?_ ?_ ?_
  · exact ⟨ha7.sub ⟨rfl, rfl, rfl, rfl, rfl, rfl, trivial⟩, H⟩
  · clear ha7
    intro s o10 a w8 hs9 hI11
    obtain ⟨s1, s2, s3⟩ := s
    obtain ⟨ha, H12⟩ := hI11
    refine WP.app ?_ ha
    clear ha
    refine WP_seq ?_
    refine WP_seq ?_
    refine WP_region ?_
    refine XL_q rfl (qt_move rfl) rfl rfl ?_
    refine XL_q rfl (qt_move rfl) rfl rfl ?_
    refine XL_q rfl (qt_leq rfl rfl) rfl rfl ?_
    refine WL_nil_seq ?_
    refine WP_cond rfl (fun hc13 => ?_) (fun hc13 => ?_)
    · have hs9 := if_t hc13 hs9
      refine WP_skip_seq ?_
      refine WP_block ?_
      refine WP_seq ?_
      refine WP_region ?_
      refine XL_q rfl (qt_move rfl) rfl rfl ?_
      refine XL_q rfl (qt_move rfl) rfl rfl ?_
      refine XL_q rfl (qt_move rfl) rfl rfl ?_
      refine XL_q rfl (qt_move rfl) rfl rfl ?_
      obtain ⟨x14, hx15, hs9⟩ := bind_some hs9
      refine WL_call rfl rfl c81 (w_slices_insertionSortCmpFunc_int w8 G vp0 s3 s1 s2 gp2 cp2 kp2 p2 hp2 x14 hx15 H12.ctx) (by rfl) ?_
      rintro _ w16 ⟨rfl, H17⟩; refine ⟨_, rfl, ?_⟩
      have H18 : Holds (([.sl 3 (.int .i64) vp0 p0] : List Res).flatMap Res.own) w w16 [.sl 3 (.int .i64) vp0 x14] G := H12.calledN (Rs := [_]) H17
      refine WL_nil_seq ?_
      refine WP_seq ?_
      refine WP_region ?_
      refine XL_q rfl (qt_move rfl) rfl rfl ?_
      refine XL_q rfl (qt_assign rfl) rfl rfl ?_
      refine WL_nil_seq ?_
      refine WP_region ?_
      refine XL_q rfl (qt_move rfl) rfl rfl ?_
      refine XL_q rfl (qt_move rfl) rfl rfl ?_
      refine XL_q rfl (qt_add rfl rfl) rfl rfl ?_
      refine XL_q rfl (qt_assign rfl) rfl rfl ?_
      refine WL_nil fun a ha => ?_
      obtain rfl := Option.some.inj hs9
      exact nrm_block (⟨rfl, ha.sub ⟨rfl, rfl, rfl, rfl, rfl, rfl, trivial⟩, H18⟩)
    · have hs9 := if_f hc13 hs9
      refine WP_exit fun a ha => ?_
      obtain rfl := Option.some.inj hs9
      exact exit_seq (⟨exit_ne, rfl, ha.sub ⟨rfl, rfl, rfl, rfl, rfl, trivial⟩, H12⟩)
  · intro e a6 w19 hO20
    obtain ⟨p21, p22⟩ := o4
    obtain ⟨rfl, hO24⟩ := hO20
    obtain ⟨ha, H23⟩ := hO24
    refine exit_block_eq (nrm_seq (WP.app ?_ ha))
    refine WP_seq ?_
    refine WP_region ?_
    refine XL_q rfl (qt_move rfl) rfl rfl ?_
    refine XL_q rfl (qt_move rfl) rfl rfl ?_
    refine XL_q rfl (qt_move rfl) rfl rfl ?_
    refine XL_q rfl (qt_move rfl) rfl rfl ?_
    obtain ⟨x25, hx26, h⟩ := bind_some h
    refine WL_call rfl rfl c81 (w_slices_insertionSortCmpFunc_int w19 G vp0 p22 p21 p1 gp2 cp2 kp2 p2 hp2 x25 hx26 H23.ctx) (by rfl) ?_
    rintro _ w27 ⟨rfl, H28⟩; refine ⟨_, rfl, ?_⟩
    have H29 : Holds (([.sl 3 (.int .i64) vp0 p0] : List Res).flatMap Res.own) w w27 [.sl 3 (.int .i64) vp0 x25] G := H23.calledN (Rs := [_]) H28
    refine WL_nil_seq ?_
    refine WP_block ?_
    obtain ⟨o32, ho33, h⟩ := bind_some h
    refine fun a34 ha35 => wp_loop_fix (I := fun s a w2 => match s with | (s30, s31) => (Fr a 63 [(0, vp0), (1, .int .i64 p1), (2, .func (.func gp2) #[] cp2), (6, .int .i64 s30)] ∧ Holds (([.sl 3 (.int .i64) vp0 p0] : List Res).flatMap Res.own) w w2 [.sl 3 (.int .i64) vp0 s31] G)) (O := fun o e a w2 => match o with | q0 => e = .exit 2 ∧ (Fr a 63 [(0, vp0)] ∧ Holds (([.sl 3 (.int .i64) vp0 p0] : List Res).flatMap Res.own) w w2 [.sl 3 (.int .i64) vp0 q0] G)) ho33 ?_ ?_ ?_
    · exact ⟨ha35.sub ⟨rfl, rfl, rfl, rfl, trivial⟩, H29⟩
    · clear ha35
      intro s o38 a w36 hs37 hI39
      obtain ⟨s30, s31⟩ := s
      obtain ⟨ha, H40⟩ := hI39
      refine WP.app ?_ ha
      clear ha
      refine WP_seq ?_
      refine WP_seq ?_
      refine WP_region ?_
      refine XL_q rfl (qt_move rfl) rfl rfl ?_
      refine XL_q rfl (qt_move rfl) rfl rfl ?_
      refine XL_q rfl (qt_lss rfl rfl) rfl rfl ?_
      refine WL_nil_seq ?_
      refine WP_cond rfl (fun hc41 => ?_) (fun hc41 => ?_)
      · have hs37 := if_t hc41 hs37
        refine WP_skip_seq ?_
        refine WP_block ?_
        refine WP_seq ?_
        refine WP_region ?_
        refine XL_q rfl (qt_move rfl) rfl rfl ?_
        refine XL_q rfl (qt_mul rfl rfl) rfl rfl ?_
        refine XL_q rfl (qt_assign rfl) rfl rfl ?_
        refine XL_q rfl (qt_assign rfl) rfl rfl ?_
        refine WL_nil_seq ?_
        refine WP_seq ?_
        refine WP_block ?_
        obtain ⟨o45, ho46, hs37⟩ := bind_some hs37
        refine fun a47 ha48 => wp_loop_fix (I := fun s a w2 => match s with | (s42, s43, s44) => (Fr a 63 [(0, vp0), (1, .int .i64 p1), (2, .func (.func gp2) #[] cp2), (6, .int .i64 s30), (7, .int .i64 s42), (8, .int .i64 s43)] ∧ Holds (([.sl 3 (.int .i64) vp0 p0] : List Res).flatMap Res.own) w w2 [.sl 3 (.int .i64) vp0 s44] G)) (O := fun o e a w2 => match o with | (q0, q1) => e = .exit 4 ∧ (Fr a 63 [(0, vp0), (1, .int .i64 p1), (2, .func (.func gp2) #[] cp2), (6, .int .i64 s30), (7, .int .i64 q0)] ∧ Holds (([.sl 3 (.int .i64) vp0 p0] : List Res).flatMap Res.own) w w2 [.sl 3 (.int .i64) vp0 q1] G)) ho46 ?_ ?_ ?_
        · exact ⟨ha48.sub ⟨rfl, rfl, rfl, rfl, rfl, rfl, trivial⟩, H40⟩
        · clear ha48
          intro s o51 a w49 hs50 hI52
          obtain ⟨s42, s43, s44⟩ := s
          obtain ⟨ha, H53⟩ := hI52
          refine WP.app ?_ ha
          clear ha
          refine WP_seq ?_
          refine WP_seq ?_
          refine WP_region ?_
          refine XL_q rfl (qt_move rfl) rfl rfl ?_
          refine XL_q rfl (qt_move rfl) rfl rfl ?_
          refine XL_q rfl (qt_leq rfl rfl) rfl rfl ?_
          refine WL_nil_seq ?_
          refine WP_cond rfl (fun hc54 => ?_) (fun hc54 => ?_)
          · have hs50 := if_t hc54 hs50
            refine WP_skip_seq ?_
            refine WP_block ?_
            refine WP_seq ?_
            refine WP_region ?_
            refine XL_q rfl (qt_move rfl) rfl rfl ?_
            refine XL_q rfl (qt_move rfl) rfl rfl ?_
            refine XL_q rfl (qt_move rfl) rfl rfl ?_
            refine XL_q rfl (qt_move rfl) rfl rfl ?_
            refine XL_q rfl (qt_add rfl rfl) rfl rfl ?_
            refine XL_q rfl (qt_move rfl) rfl rfl ?_
            refine XL_q rfl (qt_move rfl) rfl rfl ?_
            obtain ⟨x55, hx56, hs50⟩ := bind_some hs50
            refine WL_call rfl rfl c82 (w_slices_symMergeCmpFunc_int w49 G vp0 s44 s42 (IntKind.wrap .i64 (s42 + s30)) s43 gp2 cp2 kp2 p2 hp2 x55 hx56 H53.ctx) (by rfl) ?_
            rintro _ w57 ⟨rfl, H58⟩; refine ⟨_, rfl, ?_⟩
            have H59 : Holds (([.sl 3 (.int .i64) vp0 p0] : List Res).flatMap Res.own) w w57 [.sl 3 (.int .i64) vp0 x55] G := H53.calledN (Rs := [_]) H58
            refine WL_nil_seq ?_
            refine WP_seq ?_
            refine WP_region ?_
            refine XL_q rfl (qt_move rfl) rfl rfl ?_
            refine XL_q rfl (qt_assign rfl) rfl rfl ?_
            refine WL_nil_seq ?_
            refine WP_region ?_
            refine XL_q rfl (qt_move rfl) rfl rfl ?_
            refine XL_q rfl (qt_move rfl) rfl rfl ?_
            refine XL_q rfl (qt_mul rfl rfl) rfl rfl ?_
            refine XL_q rfl (qt_add rfl rfl) rfl rfl ?_
            refine XL_q rfl (qt_assign rfl) rfl rfl ?_
            refine WL_nil fun a ha => ?_
            obtain rfl := Option.some.inj hs50
            exact nrm_block (⟨rfl, ha.sub ⟨rfl, rfl, rfl, rfl, rfl, rfl, trivial⟩, H59⟩)
          · have hs50 := if_f hc54 hs50
            refine WP_exit fun a ha => ?_
            obtain rfl := Option.some.inj hs50
            exact exit_seq (⟨exit_ne, rfl, ha.sub ⟨rfl, rfl, rfl, rfl, rfl, trivial⟩, H53⟩)
        · intro e a47 w60 hO61
          obtain ⟨p62, p63⟩ := o45
          obtain ⟨rfl, hO65⟩ := hO61
          obtain ⟨ha, H64⟩ := hO65
          refine exit_block_eq (nrm_seq (WP.app ?_ ha))
          refine WP_seq ?_
          refine WP_seq ?_
          refine WP_region ?_
          refine XL_q rfl (qt_move rfl) rfl rfl ?_
          refine XL_q rfl (qt_move rfl) rfl rfl ?_
          refine XL_q rfl (qt_add rfl rfl) rfl rfl ?_
          refine XL_q rfl (qt_assign rfl) rfl rfl ?_
          refine WL_nil_seq ?_
          refine WP_seq ?_
          refine WP_region ?_
          refine XL_q rfl (qt_move rfl) rfl rfl ?_
          refine XL_q rfl (qt_move rfl) rfl rfl ?_
          refine XL_q rfl (qt_lss rfl rfl) rfl rfl ?_
          refine WL_nil_seq ?_
          obtain ⟨o67, ho68, hs37⟩ := bind_some hs37
          obtain ⟨j66, rfl⟩ : ∃ z, z = o67 := ⟨o67, rfl⟩
          refine WP_join (M := fun a w2 => (Fr a 63 [(0, vp0), (1, .int .i64 p1), (2, .func (.func gp2) #[] cp2), (6, .int .i64 s30)] ∧ Holds (([.sl 3 (.int .i64) vp0 p0] : List Res).flatMap Res.own) w w2 [.sl 3 (.int .i64) vp0 j66] G)) ?_ ?_
          · refine WP_cond rfl (fun hc69 => ?_) (fun hc69 => ?_)
            · have ho68 := if_t hc69 ho68
              refine WP_region ?_
              refine XL_q rfl (qt_move rfl) rfl rfl ?_
              refine XL_q rfl (qt_move rfl) rfl rfl ?_
              refine XL_q rfl (qt_move rfl) rfl rfl ?_
              refine XL_q rfl (qt_move rfl) rfl rfl ?_
              refine XL_q rfl (qt_move rfl) rfl rfl ?_
              obtain ⟨x70, hx71, ho68⟩ := bind_some ho68
              refine WL_call rfl rfl c82 (w_slices_symMergeCmpFunc_int w60 G vp0 p63 p62 (IntKind.wrap .i64 (p62 + s30)) p1 gp2 cp2 kp2 p2 hp2 x70 hx71 H64.ctx) (by rfl) ?_
              rintro _ w72 ⟨rfl, H73⟩; refine ⟨_, rfl, ?_⟩
              have H74 : Holds (([.sl 3 (.int .i64) vp0 p0] : List Res).flatMap Res.own) w w72 [.sl 3 (.int .i64) vp0 x70] G := H64.calledN (Rs := [_]) H73
              refine WL_nil fun a ha => ?_
              obtain rfl := Option.some.inj ho68
              exact nrm_seq (⟨ha.sub ⟨rfl, rfl, rfl, rfl, trivial⟩, H74⟩)
            · have ho68 := if_f hc69 ho68
              refine WP_skip fun a ha => ?_
              obtain rfl := Option.some.inj ho68
              exact nrm_seq (⟨ha.sub ⟨rfl, rfl, rfl, rfl, trivial⟩, H64⟩)
          · intro a w75 hI76
            obtain ⟨ha, H77⟩ := hI76
            refine WP.app ?_ ha
            clear ha
            refine WP_region ?_
            refine XL_q rfl (qt_move rfl) rfl rfl ?_
            refine XL_q rfl (qt_mul rfl rfl) rfl rfl ?_
            refine XL_q rfl (qt_assign rfl) rfl rfl ?_
            refine WL_nil fun a ha => ?_
            obtain rfl := Option.some.inj hs37
            exact nrm_block (⟨rfl, ha.sub ⟨rfl, rfl, rfl, rfl, trivial⟩, H77⟩)
      · have hs37 := if_f hc41 hs37
        refine WP_exit fun a ha => ?_
        obtain rfl := Option.some.inj hs37
        exact exit_seq (⟨exit_ne, rfl, ha.sub ⟨rfl, trivial⟩, H40⟩)
    · intro e a34 w78 hO79
      obtain ⟨p80, rfl⟩ : ∃ z, z = o32 := ⟨o32, rfl⟩
      obtain ⟨rfl, hO82⟩ := hO79
      obtain ⟨ha, H81⟩ := hO82
      obtain rfl := Option.some.inj h
      exact exit_block_eq (ret0n rfl ha  ⟨rfl, H81⟩)
theorem w_slices_SortStableFunc___int_int (w : World) (G : List Res) (vp0 : Value) (p0 : List Int) (gp1 : FuncId) (cp1 : Array Value) (kp1 : Callable Tryd.prog gp1) (p1 : Int → Int → Option Int) (hp1 : CloOk Tryd.prog gp1 cp1 p1 G) (r : (List Int)) (h : slices_SortStableFunc___int_intS p0 p1 = some r) (H : Ctx w ([.sl 3 (.int .i64) vp0 p0] ++ G)) : Calls Tryd.prog 59 #[vp0, .func (.func gp1) #[] cp1] w fun e w' => e = .returned (.tuple #[]) ∧ Holds (([.sl 3 (.int .i64) vp0 p0] : List Res).flatMap Res.own) w w' [.sl 3 (.int .i64) vp0 r] G := by
  have H : Holds (([.sl 3 (.int .i64) vp0 p0] : List Res).flatMap Res.own) w w [.sl 3 (.int .i64) vp0 p0] G := Holds.startN H
  refine calls_enter (args := [vp0, .func (.func gp1) #[] cp1]) (n := 9) Tryd.func59 rfl rfl rfl ?_
  unfold slices_SortStableFunc___int_intS at h
  refine WP_region ?_
  refine XL_q rfl (qt_move rfl) rfl rfl ?_
  refine XL_q rfl (qt_move rfl) rfl rfl ?_
  refine XL_lenH H.ctx (t := (.int .i64)) (Has.hd) u23 rfl rfl rfl ?_
  refine XL_q rfl (qt_move rfl) rfl rfl ?_
  obtain ⟨x1, hx2, h⟩ := bind_some h
  refine WL_call rfl rfl c76 (w_slices_stableCmpFunc_int w G vp0 p0 (List.length p0 : Int) gp1 cp1 kp1 p1 hp1 x1 hx2 H.ctx) (by rfl) ?_
  rintro _ w3 ⟨rfl, H4⟩; refine ⟨_, rfl, ?_⟩
  have H5 : Holds (([.sl 3 (.int .i64) vp0 p0] : List Res).flatMap Res.own) w w3 [.sl 3 (.int .i64) vp0 x1] G := H.calledN (Rs := [_]) H4
  refine WL_nil fun a ha => ?_
  obtain rfl := Option.some.inj h
  exact ret0n rfl ha  ⟨rfl, H5⟩
theorem w_impl_ShareOf (w : World) (G : List Res) (vp0 : Value) (p0 : List Int) (hp0 : Has G (.int .i64) vp0 p0) (p1 : Int) (r : (List Int)) (h : impl_ShareOfS p0 p1 = some r) (H : Ctx w G) : Calls Tryd.prog 31 #[vp0, .int .i64 p1] w fun e w' => ∃ (v1 : Value), e = .returned (v1) ∧ Holds (([] : List Res).flatMap Res.own) w w' [.sl 3 (.int .i64) v1 r] G := by
  have H : Holds (([] : List Res).flatMap Res.own) w w [] G := Holds.startN H
  refine calls_enter (args := [vp0, .int .i64 p1]) (n := 71) Tryd.func31 rfl rfl rfl ?_
  unfold impl_ShareOfS at h
  refine WP_seq ?_
  refine WP_region ?_
  refine WL_box (cs := [vp0]) H rfl rfl (H.ctx.sliceList (hp0)) rfl (fun b1 w2 H3 => ?_)
  have H4 : Holds (([] : List Res).flatMap Res.own) w w2 [.bx b1 23 [vp0]] G := H3
  refine WL_box (cs := [.int .i64 p1]) H4 rfl rfl rfl rfl (fun b5 w6 H7 => ?_)
  have H8 : Holds (([] : List Res).flatMap Res.own) w w6 [.bx b5 3 [.int .i64 p1], .bx b1 23 [vp0]] G := H7
  refine XL_q rfl (qt_assign rfl) rfl rfl ?_
  refine WL_nil_seq ?_
  refine WP_seq ?_
  refine WP_seq ?_
  refine WP_still ?_
  have hB9 : Bx w6 b1 23 [vp0] := Holds.bx (H8.pull 1)
  refine XL_load_bx u23 rfl hB9 rfl rfl rfl rfl ?_
  obtain ⟨x10, hx11, h⟩ := bind_some h
  refine QL_call rfl rfl c17 (fun w' hb => (w_impl_SharesValid w' ([.bx b5 3 [.int .i64 p1], .bx b1 23 [vp0]] ++ G) vp0 p0 (hp0.c.c) x10 hx11 (H8.grow hb).ctx).mono fun e w'' hK => ⟨hK.1, hK.2.bel⟩) (by rfl) ?_
  refine XL_q rfl (qt_not rfl) rfl rfl ?_
  refine XL_q rfl (qt_move rfl) rfl rfl ?_
  refine XL_join 3 19 (.bool ((!x10) || (decide (p1 < 0)))) ?_ (fun md hmd hk => ?_)
  rotate_left
  · obtain ⟨K, rfl⟩ := Md.quiet_of hmd
    rcases btf (!x10) with hc12 | hc12
    · skip
      refine XL_skip (w_skip rfl hc12) rfl rfl ?_
      refine XL_skip (w_skip rfl hc12) rfl rfl ?_
      refine XL_q rfl (qt_pickT rfl hc12 rfl) rfl rfl ?_
      exact hk _ (Cov.same (by rw [hc12]; rfl) (Cov.fresh rfl (Cov.fresh rfl (Cov.refl))))
    · skip
      have hB13 : Bx w6 b5 3 [.int .i64 p1] := Holds.bx (H8.pull 0)
      refine XL_load_bx u3 rfl hB13 rfl (w_take rfl hc12) rfl rfl ?_
      refine XL_q (w_take rfl hc12) (qt_lss rfl rfl) rfl rfl ?_
      refine XL_q rfl (qt_pickF rfl hc12 rfl) rfl rfl ?_
      exact hk _ (Cov.same (by rw [hc12]; rfl) (Cov.fresh rfl (Cov.fresh rfl (Cov.refl))))
  refine XL_q rfl (qt_move rfl) rfl rfl ?_
  refine XL_join 3 23 (.bool (((!x10) || (decide (p1 < 0))) || (decide (p1 > 9999)))) ?_ (fun md hmd hk => ?_)
  rotate_left
  · obtain ⟨K, rfl⟩ := Md.quiet_of hmd
    rcases btf ((!x10) || (decide (p1 < 0))) with hc14 | hc14
    · skip
      refine XL_skip (w_skip rfl hc14) rfl rfl ?_
      refine XL_skip (w_skip rfl hc14) rfl rfl ?_
      refine XL_q rfl (qt_pickT rfl hc14 rfl) rfl rfl ?_
      exact hk _ (Cov.same (by rw [hc14]; rfl) (Cov.fresh rfl (Cov.fresh rfl (Cov.refl))))
    · skip
      have hB15 : Bx w6 b5 3 [.int .i64 p1] := Holds.bx (H8.pull 0)
      refine XL_load_bx u3 rfl hB15 rfl (w_take rfl hc14) rfl rfl ?_
      refine XL_q (w_take rfl hc14) (qt_gtr rfl rfl) rfl rfl ?_
      refine XL_q rfl (qt_pickF rfl hc14 rfl) rfl rfl ?_
      exact hk _ (Cov.same (by rw [hc14]; rfl) (Cov.fresh rfl (Cov.fresh rfl (Cov.refl))))
  refine QL_nil fun a ha w16 hb17 => ?_
  have H18 : Holds (([] : List Res).flatMap Res.own) w w16 [.bx b5 3 [.int .i64 p1], .bx b1 23 [vp0]] G := H8.grow hb17
  refine nrm_seq (WP.app ?_ ha)
  refine WP_cond rfl (fun hc19 => ?_) (fun hc19 => ?_)
  · have h := if_t hc19 h
    refine WP_seq ?_
    refine WP_region ?_
    refine XL_q rfl (qt_assign rfl) rfl rfl ?_
    refine WL_nil_seq ?_
    refine WP_ret fun a ha => ?_
    obtain rfl := Option.some.inj h
    have H20 : Holds (([] : List Res).flatMap Res.own) w w16 [.sl 3 (.int .i64) (.slice none 0 0) ([]), .bx b5 3 [.int .i64 p1], .bx b1 23 [vp0]] G := H18.nilSl
    have H21 : Holds (([] : List Res).flatMap Res.own) w w16 [.sl 3 (.int .i64) (.slice none 0 0) ([])] G := ((H20.cut 1).cut 1)
    exact ret_seq (ret1 rfl ha rfl ⟨(.slice none 0 0), rfl, H21⟩)
  · have h := if_f hc19 h
    refine WP_skip_seq ?_
    refine WP_seq ?_
    refine WP_region ?_
    have hB22 : Bx w16 b1 23 [vp0] := Holds.bx (H18.pull 1)
    refine XL_load_bx u23 rfl hB22 rfl rfl rfl rfl ?_
    obtain ⟨x23, hx24, h⟩ := bind_some h
    refine WL_call rfl rfl c45 (w_impl_sumOf w16 ([.bx b5 3 [.int .i64 p1], .bx b1 23 [vp0]] ++ G) vp0 p0 (hp0.c.c) x23 hx24 H18.ctx) (by rfl) ?_
    rintro _ w25 ⟨rfl, H26⟩; refine ⟨_, rfl, ?_⟩
    have H27 : Holds (([] : List Res).flatMap Res.own) w w25 [.bx b5 3 [.int .i64 p1], .bx b1 23 [vp0]] G := H18.calledN (Rs := []) H26
    refine WL_alloc (cs := [.int .i64 0]) H27 z3 rfl rfl rfl (fun b28 w29 H30 => ?_)
    have H31 : Holds (([] : List Res).flatMap Res.own) w w29 [.bx b28 3 [.int .i64 0], .bx b5 3 [.int .i64 p1], .bx b1 23 [vp0]] G := H30
    refine WL_store_bx H31 rfl il3 rfl rfl rfl rfl rfl (fun w32 H33 => ?_)
    have H34 : Holds (([] : List Res).flatMap Res.own) w w32 [.bx b28 3 [.int .i64 x23], .bx b5 3 [.int .i64 p1], .bx b1 23 [vp0]] G := H33
    refine WL_nil_seq ?_
    refine WP_seq ?_
    refine WP_region ?_
    have hB35 : Bx w32 b1 23 [vp0] := Holds.bx (H34.pull 2)
    refine XL_load_bx u23 rfl hB35 rfl rfl rfl rfl ?_
    refine XL_lenH H34.ctx (t := (.int .i64)) (hp0.c.c.c) u23 rfl rfl rfl ?_
    obtain ⟨x36, hx37, h⟩ := bind_some h
    refine WL_makeH H34 hx37 u23 j3 rfl (fun _ => ⟨rfl, rfl⟩) rfl rfl rfl rfl rfl (fun v38 w39 H40 => ?_)
    have H41 : Holds (([] : List Res).flatMap Res.own) w w39 [.sl 3 (.int .i64) v38 x36, .bx b28 3 [.int .i64 x23], .bx b5 3 [.int .i64 p1], .bx b1 23 [vp0]] G := H40
    refine XL_q rfl (qt_assign rfl) rfl rfl ?_
    refine WL_nil_seq ?_
    refine WP_seq ?_
    refine WP_seq ?_
    refine WP_region ?_
    have hB42 : Bx w39 b1 23 [vp0] := Holds.bx (H41.pull 3)
    refine XL_load_bx u23 rfl hB42 rfl rfl rfl rfl ?_
    refine XL_lenH H41.ctx (t := (.int .i64)) (hp0.c.c.c.c) u23 rfl rfl rfl ?_
    refine XL_q rfl (qt_move rfl) rfl rfl ?_
    refine WL_nil_seq ?_
    refine WP_block ?_
    obtain ⟨o45, ho46, h⟩ := bind_some h
    have H49 : Holds (([] : List Res).flatMap Res.own) w w39 [.bx b1 23 [vp0], .bx b5 3 [.int .i64 p1], .bx b28 3 [.int .i64 x23], .sl 3 (.int .i64) v38 x36] G := (((H41.pull 1).pull 2).pull 3)
    refine fun a47 ha48 => wp_loop_fix (I := fun s a w2 => match s with | (s43, s44) => (Fr a 71 [(2, .pointer (some ⟨b1, 0, none⟩)), (3, .pointer (some ⟨b5, 0, none⟩)), (5, .pointer (some ⟨b28, 0, none⟩)), (6, v38), (29, vp0), (30, .int .i64 (List.length p0 : Int)), (31, .int .i64 s43)] ∧ Holds (([] : List Res).flatMap Res.own) w w2 [.bx b1 23 [vp0], .bx b5 3 [.int .i64 p1], .bx b28 3 [.int .i64 x23], .sl 3 (.int .i64) v38 s44] G)) (O := fun o e a w2 => match o with | q0 => e = .exit 0 ∧ (Fr a 71 [(2, .pointer (some ⟨b1, 0, none⟩)), (3, .pointer (some ⟨b5, 0, none⟩)), (5, .pointer (some ⟨b28, 0, none⟩)), (6, v38)] ∧ Holds (([] : List Res).flatMap Res.own) w w2 [.bx b1 23 [vp0], .bx b5 3 [.int .i64 p1], .bx b28 3 [.int .i64 x23], .sl 3 (.int .i64) v38 q0] G)) ho46 ?_ ?_ ?_
    · exact ⟨ha48.sub ⟨rfl, rfl, rfl, rfl, rfl, rfl, rfl, trivial⟩, H49⟩
    · clear ha48
      intro s o52 a w50 hs51 hI53
      obtain ⟨s43, s44⟩ := s
      obtain ⟨ha, H54⟩ := hI53
      refine WP.app ?_ ha
      clear ha
      refine WP_seq ?_
      refine WP_region ?_
      refine XL_q rfl (qt_lss rfl rfl) rfl rfl ?_
      refine WL_nil_seq ?_
      refine WP_seq ?_
      refine WP_cond rfl (fun hc55 => ?_) (fun hc55 => ?_)
      · have hs51 := if_t hc55 hs51
        refine WP_skip_seq ?_
        refine WP_seq ?_
        refine WP_block ?_
        refine WP_seq ?_
        refine WP_region ?_
        refine XL_q rfl (qt_move rfl) rfl rfl ?_
        obtain ⟨x56, hx57, hs51⟩ := bind_some hs51
        refine XL_indexH H54.ctx (hp0.c.c.c.c) hx57 u23 i3 rfl rfl rfl rfl (fun b58 off59 cap60 hv61 => ?_)
        obtain ⟨F62, hat63, hdup64⟩ := H54.at (hp0.c.c.c.c) hx57 hv61
        refine XL_load_int (k := .i64) u3 rfl hat63 rfl rfl rfl ?_
        refine XL_q rfl (qt_assign rfl) rfl rfl ?_
        refine XL_q rfl (qt_assign rfl) rfl rfl ?_
        refine WL_nil_seq ?_
        refine WP_region ?_
        refine XL_q rfl (qt_move rfl) rfl rfl ?_
        refine XL_q rfl (qt_move rfl) rfl rfl ?_
        have hB65 : Bx w50 b5 3 [.int .i64 p1] := Holds.bx (H54.pull 1)
        refine XL_load_bx u3 rfl hB65 rfl rfl rfl rfl ?_
        refine XL_q rfl (qt_move rfl) rfl rfl ?_
        refine XL_q rfl (qt_mul rfl rfl) rfl rfl ?_
        have hB66 : Bx w50 b28 3 [.int .i64 x23] := Holds.bx (H54.pull 2)
        refine XL_load_bx u3 rfl hB66 rfl rfl rfl rfl ?_
        obtain ⟨x67, hx68, hs51⟩ := bind_some hs51
        refine XL_q rfl (qt_quoO rfl rfl hx68) rfl rfl ?_
        obtain ⟨x69, hx70, hs51⟩ := bind_some hs51
        refine XL_indexH H54.ctx (Has.c (Has.c (Has.c (Has.hd)))) hx70 u23 i3 rfl rfl rfl rfl (fun b71 off72 cap73 hv74 => ?_)
        have H75 : Holds (([] : List Res).flatMap Res.own) w w50 [.sl 3 (.int .i64) v38 s44, .bx b1 23 [vp0], .bx b5 3 [.int .i64 p1], .bx b28 3 [.int .i64 x23]] G := H54.pull 3
        refine WL_storeH (fo := 0) (cs' := [.int .i64 x67]) H75 hx70 hv74 (Upd.whole (Blt.int)) rfl il3 rfl rfl rfl rfl (fun w76 H77 => ?_)
        have H78 : Holds (([] : List Res).flatMap Res.own) w w76 [.sl 3 (.int .i64) v38 (List.set s44 (Int.toNat s43) x67), .bx b1 23 [vp0], .bx b5 3 [.int .i64 p1], .bx b28 3 [.int .i64 x23]] G := H77
        refine WL_nil fun a ha => ?_
        refine nrm_block (nrm_seq (WP.app ?_ ha))
        refine WP_region ?_
        refine XL_q rfl (qt_add rfl rfl) rfl rfl ?_
        refine XL_q rfl (qt_move rfl) rfl rfl ?_
        refine WL_nil fun a ha => ?_
        obtain rfl := Option.some.inj hs51
        have H79 : Holds (([] : List Res).flatMap Res.own) w w76 [.bx b1 23 [vp0], .bx b5 3 [.int .i64 p1], .bx b28 3 [.int .i64 x23], .sl 3 (.int .i64) v38 (List.set s44 (Int.toNat s43) x67)] G := (((H78.pull 3).pull 3).pull 3)
        exact ⟨rfl, ha.sub ⟨rfl, rfl, rfl, rfl, rfl, rfl, rfl, trivial⟩, H79⟩
      · have hs51 := if_f hc55 hs51
        refine WP_exit fun a ha => ?_
        obtain rfl := Option.some.inj hs51
        have H80 : Holds (([] : List Res).flatMap Res.own) w w50 [.bx b1 23 [vp0], .bx b5 3 [.int .i64 p1], .bx b28 3 [.int .i64 x23], .sl 3 (.int .i64) v38 s44] G := ((((H54.pull 3).pull 3).pull 3).pull 3)
        exact exit_seq (⟨exit_ne, rfl, ha.sub ⟨rfl, rfl, rfl, rfl, trivial⟩, H80⟩)
    · intro e a47 w81 hO82
      obtain ⟨p83, rfl⟩ : ∃ z, z = o45 := ⟨o45, rfl⟩
      obtain ⟨rfl, hO85⟩ := hO82
      obtain ⟨ha, H84⟩ := hO85
      refine exit_block_eq (nrm_seq (WP.app ?_ ha))
      refine WP_seq ?_
      refine WP_region ?_
      have hB86 : Bx w81 b1 23 [vp0] := Holds.bx (H84.pull 0)
      refine XL_load_bx u23 rfl hB86 rfl rfl rfl rfl ?_
      refine XL_lenH H84.ctx (t := (.int .i64)) (hp0.c.c.c.c) u23 rfl rfl rfl ?_
      obtain ⟨x87, hx88, h⟩ := bind_some h
      refine WL_call rfl rfl c58 (w_impl_indices w81 ([.bx b1 23 [vp0], .bx b5 3 [.int .i64 p1], .bx b28 3 [.int .i64 x23], .sl 3 (.int .i64) v38 p83] ++ G) (List.length p0 : Int) x87 hx88 H84.ctx) (by rfl) ?_
      rintro _ w89 ⟨v91, rfl, H90⟩; refine ⟨_, rfl, ?_⟩
      have H92 : Holds (([] : List Res).flatMap Res.own) w w89 [.sl 3 (.int .i64) v91 x87, .bx b1 23 [vp0], .bx b5 3 [.int .i64 p1], .bx b28 3 [.int .i64 x23], .sl 3 (.int .i64) v38 p83] G := H84.calledN (Rs := []) H90
      refine XL_q rfl (qt_assign rfl) rfl rfl ?_
      refine WL_nil_seq ?_
      refine WP_seq ?_
      refine WP_region ?_
      refine XL_q rfl (qt_move rfl) rfl rfl ?_
      refine XL_q rfl (qt_makeFunc (args := [.tmp 3, .tmp 2, .tmp 5]) rfl) rfl rfl ?_
      obtain ⟨x93, hx94, h⟩ := bind_some h
      refine WL_call rfl rfl c59 (w_slices_SortStableFunc___int_int w89 ([.bx b1 23 [vp0], .bx b5 3 [.int .i64 p1], .bx b28 3 [.int .i64 x23], .sl 3 (.int .i64) v38 p83] ++ G) v91 x87 60 #[.pointer (some ⟨b5, 0, none⟩), .pointer (some ⟨b1, 0, none⟩), .pointer (some ⟨b28, 0, none⟩)] c60 (fun x y => impl_ShareOf_1S x y p1 p0 x23) (fun w' Γ' hC x y r hr => (w_impl_ShareOf_1 w' (Γ' ++ ([.bx b1 23 [vp0], .bx b5 3 [.int .i64 p1], .bx b28 3 [.int .i64 x23], .sl 3 (.int .i64) v38 p83] ++ G)) x y b5 p1 (HasB.app (HasB.c (HasB.hd)) Γ') b1 vp0 p0 (Has.app ((hp0.c.c.c.c)) Γ') (HasB.app (HasB.hd) Γ') b28 x23 (HasB.app (HasB.c (HasB.c (HasB.hd))) Γ') r hr hC).mono fun e w'' hK => ⟨hK.1, hK.2.bel⟩) x93 hx94 H92.ctx) (by rfl) ?_
      rintro _ w95 ⟨rfl, H96⟩; refine ⟨_, rfl, ?_⟩
      have H97 : Holds (([] : List Res).flatMap Res.own) w w95 [.sl 3 (.int .i64) v91 x93, .bx b1 23 [vp0], .bx b5 3 [.int .i64 p1], .bx b28 3 [.int .i64 x23], .sl 3 (.int .i64) v38 p83] G := H92.calledN (Rs := [_]) H96
      refine WL_nil_seq ?_
      refine WP_seq ?_
      refine WP_quiet (by kernel_rfl) (by kernel_rfl) ?_
      have hB98 : Bx w95 b5 3 [.int .i64 p1] := Holds.bx (H97.pull 2)
      refine XL_load_bx u3 rfl hB98 rfl rfl rfl rfl ?_
      refine XL_q rfl (qt_move rfl) rfl rfl ?_
      obtain ⟨x99, hx100, h⟩ := bind_some h
      refine QL_call rfl rfl c45 (fun w' hb => (w_impl_sumOf w' ([.sl 3 (.int .i64) v91 x93, .bx b1 23 [vp0], .bx b5 3 [.int .i64 p1], .bx b28 3 [.int .i64 x23], .sl 3 (.int .i64) v38 p83] ++ G) v38 p83 (Has.c (Has.c (Has.c (Has.c (Has.hd))))) x99 hx100 (H97.grow hb).ctx).mono fun e w'' hK => ⟨hK.1, hK.2.bel⟩) (by rfl) ?_
      refine XL_q rfl (qt_sub rfl rfl) rfl rfl ?_
      refine XL_q rfl (qt_assign rfl) rfl rfl ?_
      refine QL_nil fun a ha w101 hb102 => ?_
      have H103 : Holds (([] : List Res).flatMap Res.own) w w101 [.sl 3 (.int .i64) v91 x93, .bx b1 23 [vp0], .bx b5 3 [.int .i64 p1], .bx b28 3 [.int .i64 x23], .sl 3 (.int .i64) v38 p83] G := H97.grow hb102
      refine nrm_seq (WP.app ?_ ha)
      refine WP_seq ?_
      refine WP_seq ?_
      refine WP_region ?_
      refine XL_q rfl (qt_move rfl) rfl rfl ?_
      refine XL_q rfl (qt_move rfl) rfl rfl ?_
      obtain ⟨x104, hx105, h⟩ := bind_some h
      refine XL_sliceH H103.ctx (Has.hd) hx105 u23 i3 rfl ⟨_, rfl⟩ rfl rfl rfl ?_
      refine XL_lenH H103.ctx (t := (.int .i64)) (Has.sub (Has.hd) hx105) u23 rfl rfl rfl ?_
      refine XL_q rfl (qt_move rfl) rfl rfl ?_
      refine WL_nil_seq ?_
      refine WP_block ?_
      obtain ⟨o108, ho109, h⟩ := bind_some h
      have H112 : Holds (([] : List Res).flatMap Res.own) w w101 [.sl 3 (.int .i64) v38 p83, .sl 3 (.int .i64) v91 x93] G := ((((H103.cut 1).cut 1).cut 1).pull 1)
      refine fun a110 ha111 => wp_loop_fix (I := fun s a w2 => match s with | (s106, s107) => (Fr a 71 [(6, v38), (57, (subV (Ty.size (.int .i64)) v91 (Int.toNat 0) (Int.toNat (IntKind.wrap .i64 (p1 - x99))))), (58, .int .i64 (List.length x104 : Int)), (59, .int .i64 s106)] ∧ Holds (([] : List Res).flatMap Res.own) w w2 [.sl 3 (.int .i64) v38 s107, .sl 3 (.int .i64) v91 x93] G)) (O := fun o e a w2 => match o with | q0 => e = .exit 2 ∧ (Fr a 71 [(6, v38)] ∧ Holds (([] : List Res).flatMap Res.own) w w2 [.sl 3 (.int .i64) v38 q0] G)) ho109 ?_ ?_ ?_
      · exact ⟨ha111.sub ⟨rfl, rfl, rfl, rfl, trivial⟩, H112⟩
      · clear ha111
        intro s o115 a w113 hs114 hI116
        obtain ⟨s106, s107⟩ := s
        obtain ⟨ha, H117⟩ := hI116
        refine WP.app ?_ ha
        clear ha
        refine WP_seq ?_
        refine WP_region ?_
        refine XL_q rfl (qt_lss rfl rfl) rfl rfl ?_
        refine WL_nil_seq ?_
        refine WP_seq ?_
        refine WP_cond rfl (fun hc118 => ?_) (fun hc118 => ?_)
        · have hs114 := if_t hc118 hs114
          refine WP_skip_seq ?_
          refine WP_seq ?_
          refine WP_block ?_
          refine WP_seq ?_
          refine WP_region ?_
          obtain ⟨x119, hx120, hs114⟩ := bind_some hs114
          refine XL_indexH H117.ctx (Has.sub (Has.c (Has.hd)) hx105) hx120 u23 i3 rfl rfl rfl rfl (fun b121 off122 cap123 hv124 => ?_)
          obtain ⟨F125, hat126, hdup127⟩ := H117.at (Has.sub (Has.c (Has.hd)) hx105) hx120 hv124
          refine XL_load_int (k := .i64) u3 rfl hat126 rfl rfl rfl ?_
          refine XL_q rfl (qt_assign rfl) rfl rfl ?_
          refine WL_nil_seq ?_
          refine WP_region ?_
          refine XL_q rfl (qt_move rfl) rfl rfl ?_
          refine XL_q rfl (qt_move rfl) rfl rfl ?_
          obtain ⟨x128, hx129, hs114⟩ := bind_some hs114
          refine XL_indexH H117.ctx (Has.hd) hx129 u23 i3 rfl rfl rfl rfl (fun b130 off131 cap132 hv133 => ?_)
          obtain ⟨F134, hat135, hdup136⟩ := H117.at (Has.hd) hx129 hv133
          refine XL_load_int (k := .i64) u3 rfl hat135 rfl rfl rfl ?_
          refine XL_q rfl (qt_add rfl rfl) rfl rfl ?_
          obtain ⟨x137, hx138, hs114⟩ := bind_some hs114
          refine XL_indexH H117.ctx (Has.hd) hx138 u23 i3 rfl rfl rfl rfl (fun b139 off140 cap141 hv142 => ?_)
          refine WL_storeH (fo := 0) (cs' := [.int .i64 (IntKind.wrap .i64 (x128 + 1))]) H117 hx138 hv142 (Upd.whole (Blt.int)) rfl il3 rfl rfl rfl rfl (fun w143 H144 => ?_)
          have H145 : Holds (([] : List Res).flatMap Res.own) w w143 [.sl 3 (.int .i64) v38 (List.set s107 (Int.toNat x119) (IntKind.wrap .i64 (x128 + 1))), .sl 3 (.int .i64) v91 x93] G := H144
          refine WL_nil fun a ha => ?_
          refine nrm_block (nrm_seq (WP.app ?_ ha))
          refine WP_region ?_
          refine XL_q rfl (qt_add rfl rfl) rfl rfl ?_
          refine XL_q rfl (qt_move rfl) rfl rfl ?_
          refine WL_nil fun a ha => ?_
          obtain rfl := Option.some.inj hs114
          have H146 : Holds (([] : List Res).flatMap Res.own) w w143 [.sl 3 (.int .i64) v38 (List.set s107 (Int.toNat x119) (IntKind.wrap .i64 (x128 + 1))), .sl 3 (.int .i64) v91 x93] G := ((H145.pull 1).pull 1)
          exact ⟨rfl, ha.sub ⟨rfl, rfl, rfl, rfl, trivial⟩, H146⟩
        · have hs114 := if_f hc118 hs114
          refine WP_exit fun a ha => ?_
          obtain rfl := Option.some.inj hs114
          have H147 : Holds (([] : List Res).flatMap Res.own) w w113 [.sl 3 (.int .i64) v38 s107] G := (H117.cut 1)
          exact exit_seq (⟨exit_ne, rfl, ha.sub ⟨rfl, trivial⟩, H147⟩)
      · intro e a110 w148 hO149
        obtain ⟨p150, rfl⟩ : ∃ z, z = o108 := ⟨o108, rfl⟩
        obtain ⟨rfl, hO152⟩ := hO149
        obtain ⟨ha, H151⟩ := hO152
        refine exit_block_eq (nrm_seq (WP.app ?_ ha))
        refine WP_seq ?_
        refine WP_region ?_
        refine XL_q rfl (qt_move rfl) rfl rfl ?_
        refine XL_q rfl (qt_assign rfl) rfl rfl ?_
        refine WL_nil_seq ?_
        refine WP_ret fun a ha => ?_
        obtain rfl := Option.some.inj h
        exact ret1 rfl ha rfl ⟨v38, rfl, H151⟩
theorem w_spec_l1Has (w : World) (G : List Res) (vp0 : Value) (p0 : List Int) (hp0 : Has G (.int .i64) vp0 p0) (p1 : Int) (r : Bool) (h : spec_l1HasS p0 p1 = some r) (H : Ctx w G) : Calls Tryd.prog 61 #[vp0, .int .i64 p1] w fun e w' => e = .returned (.bool r) ∧ Holds (([] : List Res).flatMap Res.own) w w' [] G := by
  have H : Holds (([] : List Res).flatMap Res.own) w w [] G := Holds.startN H
  refine calls_enter (args := [vp0, .int .i64 p1]) (n := 18) Tryd.func61 rfl rfl rfl ?_
  unfold spec_l1HasS at h
  refine WP_seq ?_
  refine WP_region ?_
  refine XL_q rfl (qt_assign rfl) rfl rfl ?_
  refine WL_nil_seq ?_
  refine WP_seq ?_
  refine WP_seq ?_
  refine WP_region ?_
  refine XL_q rfl (qt_assign rfl) rfl rfl ?_
  refine WL_nil_seq ?_
  refine WP_block ?_
  obtain ⟨o2, ho3, h⟩ := bind_some h
  refine fun a4 ha5 => wp_loop_fix (I := fun s a w2 => match s with | s1 => (Fr a 18 [(0, vp0), (1, .int .i64 p1), (5, .int .i64 s1)] ∧ Holds (([] : List Res).flatMap Res.own) w w2 [] G)) (O := fun o e a w2 => match o with | .inl _ => e = .exit 0 ∧ (Fr a 18 [] ∧ Holds (([] : List Res).flatMap Res.own) w w2 [] G) | .inr q0 => e = .ret ∧ (Fr a 18 [(4, .bool q0)] ∧ Holds (([] : List Res).flatMap Res.own) w w2 [] G)) ho3 ?_ ?_ ?_
  · exact ⟨ha5.sub ⟨rfl, rfl, rfl, trivial⟩, H⟩
  · clear ha5
    intro s o8 a w6 hs7 hI9
    obtain ⟨s1, rfl⟩ : ∃ z, z = s := ⟨s, rfl⟩
    obtain ⟨ha, H10⟩ := hI9
    refine WP.app ?_ ha
    clear ha
    refine WP_seq ?_
    refine WP_seq ?_
    refine WP_region ?_
    refine XL_q rfl (qt_move rfl) rfl rfl ?_
    refine XL_q rfl (qt_move rfl) rfl rfl ?_
    refine XL_lenH H10.ctx (t := (.int .i64)) (hp0) u23 rfl rfl rfl ?_
    refine XL_q rfl (qt_lss rfl rfl) rfl rfl ?_
    refine WL_nil_seq ?_
    refine WP_cond rfl (fun hc11 => ?_) (fun hc11 => ?_)
    · have hs7 := if_t hc11 hs7
      refine WP_skip_seq ?_
      refine WP_seq ?_
      refine WP_block ?_
      refine WP_seq ?_
      refine WP_region ?_
      refine XL_q rfl (qt_move rfl) rfl rfl ?_
      refine XL_q rfl (qt_move rfl) rfl rfl ?_
      obtain ⟨x12, hx13, hs7⟩ := bind_some hs7
      refine XL_indexH H10.ctx (hp0) hx13 u23 i3 rfl rfl rfl rfl (fun b14 off15 cap16 hv17 => ?_)
      obtain ⟨F18, hat19, hdup20⟩ := H10.at (hp0) hx13 hv17
      refine XL_load_int (k := .i64) u3 rfl hat19 rfl rfl rfl ?_
      refine XL_q rfl (qt_move rfl) rfl rfl ?_
      refine XL_q rfl (qt_eql rfl rfl) rfl rfl ?_
      refine WL_nil_seq ?_
      refine WP_cond rfl (fun hc21 => ?_) (fun hc21 => ?_)
      · have hs7 := if_t hc21 hs7
        refine WP_seq ?_
        refine WP_region ?_
        refine XL_q rfl (qt_assign rfl) rfl rfl ?_
        refine WL_nil_seq ?_
        refine WP_ret fun a ha => ?_
        obtain rfl := Option.some.inj hs7
        exact ret_block (ret_seq (⟨ret_ne, rfl, ha.sub ⟨rfl, trivial⟩, H10⟩))
      · have hs7 := if_f hc21 hs7
        refine WP_skip fun a ha => ?_
        refine nrm_block (nrm_seq (WP.app ?_ ha))
        refine WP_region ?_
        refine XL_q rfl (qt_move rfl) rfl rfl ?_
        refine XL_q rfl (qt_add rfl rfl) rfl rfl ?_
        refine XL_q rfl (qt_assign rfl) rfl rfl ?_
        refine WL_nil fun a ha => ?_
        obtain rfl := Option.some.inj hs7
        exact ⟨rfl, ha.sub ⟨rfl, rfl, rfl, trivial⟩, H10⟩
    · have hs7 := if_f hc11 hs7
      refine WP_exit fun a ha => ?_
      obtain rfl := Option.some.inj hs7
      exact exit_seq (⟨exit_ne, rfl, ha.sub trivial, H10⟩)
  · intro e a4 w22 hO23
    rcases o2 with o2 | o2
    · skip
      obtain ⟨rfl, hO25⟩ := hO23
      obtain ⟨ha, H24⟩ := hO25
      refine exit_block_eq (nrm_seq (WP.app ?_ ha))
      refine WP_seq ?_
      refine WP_region ?_
      refine XL_q rfl (qt_assign rfl) rfl rfl ?_
      refine WL_nil_seq ?_
      refine WP_ret fun a ha => ?_
      obtain rfl := Option.some.inj h
      exact ret1 rfl ha rfl ⟨rfl, H24⟩
    · skip
      obtain ⟨p26, rfl⟩ : ∃ z, z = o2 := ⟨o2, rfl⟩
      obtain ⟨rfl, hO28⟩ := hO23
      obtain ⟨ha, H27⟩ := hO28
      obtain rfl := Option.some.inj h
      exact ret_block (ret_seq (ret1 rfl ha rfl ⟨rfl, H27⟩))
theorem w_spec_ShareOf (w : World) (G : List Res) (vp0 : Value) (p0 : List Int) (hp0 : Has G (.int .i64) vp0 p0) (p1 : Int) (r : (List Int)) (h : spec_ShareOfS p0 p1 = some r) (H : Ctx w G) : Calls Tryd.prog 33 #[vp0, .int .i64 p1] w fun e w' => ∃ (v1 : Value), e = .returned (v1) ∧ Holds (([] : List Res).flatMap Res.own) w w' [.sl 3 (.int .i64) v1 r] G := by
  have H : Holds (([] : List Res).flatMap Res.own) w w [] G := Holds.startN H
  refine calls_enter (args := [vp0, .int .i64 p1]) (n := 97) Tryd.func33 rfl rfl rfl ?_
  unfold spec_ShareOfS at h
  refine WP_seq ?_
  refine WP_region ?_
  refine XL_q rfl (qt_assign rfl) rfl rfl ?_
  refine WL_nil_seq ?_
  refine WP_seq ?_
  refine WP_seq ?_
  refine WP_still ?_
  refine XL_q rfl (qt_move rfl) rfl rfl ?_
  obtain ⟨x1, hx2, h⟩ := bind_some h
  refine QL_call rfl rfl c18 (fun w' hb => (w_spec_SharesValid w' G vp0 p0 (hp0) x1 hx2 (H.grow hb).ctx).mono fun e w'' hK => ⟨hK.1, hK.2.bel⟩) (by rfl) ?_
  refine XL_q rfl (qt_not rfl) rfl rfl ?_
  refine XL_q rfl (qt_move rfl) rfl rfl ?_
  obtain ⟨b3, hg4, h⟩ := bind_some h
  refine XL_join 4 19 (.bool b3) ?_ (fun md hmd hk => ?_)
  rotate_left
  · obtain ⟨K, rfl⟩ := Md.quiet_of hmd
    rcases btf (!x1) with hc5 | hc5
    · skip
      refine XL_skip (w_skip rfl hc5) rfl rfl ?_
      refine XL_skip (w_skip rfl hc5) rfl rfl ?_
      refine XL_skip (w_skip rfl hc5) rfl rfl ?_
      refine XL_q rfl (qt_pickT rfl hc5 rfl) rfl rfl ?_
      exact hk _ (Cov.same (vb (if_t hc5 hg4)) (Cov.fresh rfl (Cov.fresh rfl (Cov.fresh rfl (Cov.refl)))))
    · skip
      have hg4 := if_f hc5 hg4
      refine XL_q (w_take rfl hc5) (qt_move rfl) rfl rfl ?_
      obtain ⟨x6, hx7, hg4⟩ := bind_some hg4
      refine QL_call (w_take rfl hc5) rfl c46 (fun w' hb => (w_spec_l1In w' G p1 0 9999 x6 hx7 (H.grow hb).ctx).mono fun e w'' hK => ⟨hK.1, hK.2.bel⟩) (by rfl) ?_
      refine XL_q (w_take rfl hc5) (qt_not rfl) rfl rfl ?_
      refine XL_q rfl (qt_pickF rfl hc5 rfl) rfl rfl ?_
      exact hk _ (Cov.same (vb hg4) (Cov.fresh rfl (Cov.fresh rfl (Cov.fresh rfl (Cov.refl)))))
  refine QL_nil fun a ha w8 hb9 => ?_
  have H10 : Holds (([] : List Res).flatMap Res.own) w w8 [] G := H.grow hb9
  refine nrm_seq (WP.app ?_ ha)
  refine WP_cond rfl (fun hc11 => ?_) (fun hc11 => ?_)
  · have h := if_t hc11 h
    refine WP_seq ?_
    refine WP_region ?_
    refine WL_buildH (t := (.int .i64)) (args := []) (xs := ([] : List Int)) H10 (BltL.nil) u23 j3 rfl rfl rfl rfl rfl rfl (fun v12 w13 H14 => ?_)
    have H15 : Holds (([] : List Res).flatMap Res.own) w w13 [.sl 3 (.int .i64) v12 ([])] G := H14
    refine XL_q rfl (qt_assign rfl) rfl rfl ?_
    refine WL_nil_seq ?_
    refine WP_ret fun a ha => ?_
    obtain rfl := Option.some.inj h
    exact ret_seq (ret1 rfl ha rfl ⟨v12, rfl, H15⟩)
  · have h := if_f hc11 h
    refine WP_skip_seq ?_
    refine WP_seq ?_
    refine WP_still ?_
    refine XL_q rfl (qt_move rfl) rfl rfl ?_
    obtain ⟨x16, hx17, h⟩ := bind_some h
    refine QL_call rfl rfl c47 (fun w' hb => (w_spec_l1Sum w' G vp0 p0 (hp0) x16 hx17 (H10.grow hb).ctx).mono fun e w'' hK => ⟨hK.1, hK.2.bel⟩) (by rfl) ?_
    refine XL_q rfl (qt_assign rfl) rfl rfl ?_
    refine QL_nil fun a ha w18 hb19 => ?_
    have H20 : Holds (([] : List Res).flatMap Res.own) w w18 [] G := H10.grow hb19
    refine nrm_seq (WP.app ?_ ha)
    refine WP_seq ?_
    refine WP_region ?_
    refine WL_buildH (t := (.int .i64)) (args := []) (xs := ([] : List Int)) H20 (BltL.nil) u23 j3 rfl rfl rfl rfl rfl rfl (fun v21 w22 H23 => ?_)
    have H24 : Holds (([] : List Res).flatMap Res.own) w w22 [.sl 3 (.int .i64) v21 ([])] G := H23
    refine XL_q rfl (qt_assign rfl) rfl rfl ?_
    refine WL_nil_seq ?_
    refine WP_seq ?_
    refine WP_seq ?_
    refine WP_region ?_
    refine XL_q rfl (qt_assign rfl) rfl rfl ?_
    refine WL_nil_seq ?_
    refine WP_block ?_
    obtain ⟨o27, ho28, h⟩ := bind_some h
    refine fun a29 ha30 => wp_loop_fix (I := fun s a w2 => match s with | (s25, s26) => ∃ vs25, Fr a 97 [(0, vp0), (1, .int .i64 p1), (5, .int .i64 x16), (6, vs25), (7, .int .i64 s26)] ∧ Holds (([] : List Res).flatMap Res.own) w w2 [.sl 3 (.int .i64) vs25 s25] G) (O := fun o e a w2 => match o with | q0 => e = .exit 0 ∧ ∃ vq0, Fr a 97 [(0, vp0), (1, .int .i64 p1), (5, .int .i64 x16), (6, vq0)] ∧ Holds (([] : List Res).flatMap Res.own) w w2 [.sl 3 (.int .i64) vq0 q0] G) ho28 ?_ ?_ ?_
    · exact ⟨v21, ha30.sub ⟨rfl, rfl, rfl, rfl, rfl, trivial⟩, H24⟩
    · clear ha30
      intro s o33 a w31 hs32 hI34
      obtain ⟨s25, s26⟩ := s
      obtain ⟨vs25, ha, H35⟩ := hI34
      refine WP.app ?_ ha
      clear ha
      refine WP_seq ?_
      refine WP_seq ?_
      refine WP_region ?_
      refine XL_q rfl (qt_move rfl) rfl rfl ?_
      refine XL_q rfl (qt_move rfl) rfl rfl ?_
      refine XL_lenH H35.ctx (t := (.int .i64)) (hp0.c) u23 rfl rfl rfl ?_
      refine XL_q rfl (qt_lss rfl rfl) rfl rfl ?_
      refine WL_nil_seq ?_
      refine WP_cond rfl (fun hc36 => ?_) (fun hc36 => ?_)
      · have hs32 := if_t hc36 hs32
        refine WP_skip_seq ?_
        refine WP_seq ?_
        refine WP_block ?_
        refine WP_region ?_
        refine XL_q rfl (qt_move rfl) rfl rfl ?_
        refine XL_q rfl (qt_move rfl) rfl rfl ?_
        refine XL_q rfl (qt_move rfl) rfl rfl ?_
        refine XL_q rfl (qt_move rfl) rfl rfl ?_
        obtain ⟨x37, hx38, hs32⟩ := bind_some hs32
        refine XL_indexH H35.ctx (hp0.c) hx38 u23 i3 rfl rfl rfl rfl (fun b39 off40 cap41 hv42 => ?_)
        obtain ⟨F43, hat44, hdup45⟩ := H35.at (hp0.c) hx38 hv42
        refine XL_load_int (k := .i64) u3 rfl hat44 rfl rfl rfl ?_
        refine XL_q rfl (qt_mul rfl rfl) rfl rfl ?_
        refine XL_q rfl (qt_move rfl) rfl rfl ?_
        obtain ⟨x46, hx47, hs32⟩ := bind_some hs32
        refine XL_q rfl (qt_quoO rfl rfl hx47) rfl rfl ?_
        refine WL_buildH (t := (.int .i64)) (args := [.tmp 38]) (xs := ([x46] : List Int)) H35 (BltL.cons (Blt.int) rfl (BltL.nil)) u23 j3 rfl rfl rfl rfl rfl rfl (fun v48 w49 H50 => ?_)
        have H51 : Holds (([] : List Res).flatMap Res.own) w w49 [.sl 3 (.int .i64) v48 ([x46]), .sl 3 (.int .i64) vs25 s25] G := H50
        have H52 : Holds (([] : List Res).flatMap Res.own) w w49 [.sl 3 (.int .i64) vs25 s25, .sl 3 (.int .i64) v48 ([x46])] G := H51.pull 1
        obtain ⟨x53, hx54, hs32⟩ := bind_some hs32
        refine WL_appendH H52 (Has.c (Has.hd)) hx54 u23 j3 rfl rfl rfl rfl rfl rfl (fun v55 w56 H57 => ?_)
        have H58 : Holds (([] : List Res).flatMap Res.own) w w56 [.sl 3 (.int .i64) v55 x53, .sl 3 (.int .i64) v48 ([x46])] G := H57
        refine XL_q rfl (qt_assign rfl) rfl rfl ?_
        refine WL_nil fun a ha => ?_
        refine nrm_block (nrm_seq (WP.app ?_ ha))
        refine WP_region ?_
        refine XL_q rfl (qt_move rfl) rfl rfl ?_
        refine XL_q rfl (qt_add rfl rfl) rfl rfl ?_
        refine XL_q rfl (qt_assign rfl) rfl rfl ?_
        refine WL_nil fun a ha => ?_
        obtain rfl := Option.some.inj hs32
        have H59 : Holds (([] : List Res).flatMap Res.own) w w56 [.sl 3 (.int .i64) v55 x53] G := (H58.cut 1)
        exact ⟨rfl, v55, ha.sub ⟨rfl, rfl, rfl, rfl, rfl, trivial⟩, H59⟩
      · have hs32 := if_f hc36 hs32
        refine WP_exit fun a ha => ?_
        obtain rfl := Option.some.inj hs32
        exact exit_seq (⟨exit_ne, rfl, vs25, ha.sub ⟨rfl, rfl, rfl, rfl, trivial⟩, H35⟩)
    · intro e a29 w60 hO61
      obtain ⟨p62, rfl⟩ : ∃ z, z = o27 := ⟨o27, rfl⟩
      obtain ⟨rfl, hO64⟩ := hO61
      obtain ⟨vp62, ha, H63⟩ := hO64
      refine exit_block_eq (nrm_seq (WP.app ?_ ha))
      refine WP_seq ?_
      refine WP_region ?_
      refine WL_buildH (t := (.int .i64)) (args := []) (xs := ([] : List Int)) H63 (BltL.nil) u23 j3 rfl rfl rfl rfl rfl rfl (fun v65 w66 H67 => ?_)
      have H68 : Holds (([] : List Res).flatMap Res.own) w w66 [.sl 3 (.int .i64) v65 ([]), .sl 3 (.int .i64) vp62 p62] G := H67
      refine XL_q rfl (qt_assign rfl) rfl rfl ?_
      refine WL_nil_seq ?_
      refine WP_seq ?_
      refine WP_seq ?_
      refine WP_still ?_
      refine XL_q rfl (qt_move rfl) rfl rfl ?_
      refine XL_q rfl (qt_move rfl) rfl rfl ?_
      obtain ⟨x69, hx70, h⟩ := bind_some h
      refine QL_call rfl rfl c47 (fun w' hb => (w_spec_l1Sum w' ([.sl 3 (.int .i64) v65 ([]), .sl 3 (.int .i64) vp62 p62] ++ G) vp62 p62 (Has.c (Has.hd)) x69 hx70 (H68.grow hb).ctx).mono fun e w'' hK => ⟨hK.1, hK.2.bel⟩) (by rfl) ?_
      refine XL_q rfl (qt_sub rfl rfl) rfl rfl ?_
      refine XL_q rfl (qt_assign rfl) rfl rfl ?_
      refine QL_nil fun a ha w71 hb72 => ?_
      have H73 : Holds (([] : List Res).flatMap Res.own) w w71 [.sl 3 (.int .i64) v65 ([]), .sl 3 (.int .i64) vp62 p62] G := H68.grow hb72
      refine nrm_seq (WP.app ?_ ha)
      refine WP_block ?_
      obtain ⟨o77, ho78, h⟩ := bind_some h
      have H81 : Holds (([] : List Res).flatMap Res.own) w w71 [.sl 3 (.int .i64) vp62 p62, .sl 3 (.int .i64) v65 ([])] G := (H73.pull 1)
      refine fun a79 ha80 => wp_loop_fix (I := fun s a w2 => match s with | (s74, s75, s76) => ∃ vs74 vp62, Fr a 97 [(0, vp0), (1, .int .i64 p1), (5, .int .i64 x16), (6, vp62), (8, vs74), (9, .int .i64 s75)] ∧ Holds (([] : List Res).flatMap Res.own) w w2 [.sl 3 (.int .i64) vp62 s76, .sl 3 (.int .i64) vs74 s74] G) (O := fun o e a w2 => match o with | q0 => e = .exit 2 ∧ ∃ vp62, Fr a 97 [(6, vp62)] ∧ Holds (([] : List Res).flatMap Res.own) w w2 [.sl 3 (.int .i64) vp62 q0] G) ho78 ?_ ?_ ?_
      · exact ⟨v65, vp62, ha80.sub ⟨rfl, rfl, rfl, rfl, rfl, rfl, trivial⟩, H81⟩
      · clear ha80
        intro s o84 a w82 hs83 hI85
        obtain ⟨s74, s75, s76⟩ := s
        obtain ⟨vs74, vp62, ha, H86⟩ := hI85
        refine WP.app ?_ ha
        clear ha
        refine WP_seq ?_
        refine WP_seq ?_
        refine WP_region ?_
        refine XL_q rfl (qt_move rfl) rfl rfl ?_
        refine XL_q rfl (qt_gtr rfl rfl) rfl rfl ?_
        refine WL_nil_seq ?_
        refine WP_cond rfl (fun hc87 => ?_) (fun hc87 => ?_)
        · have hs83 := if_t hc87 hs83
          refine WP_skip_seq ?_
          refine WP_seq ?_
          refine WP_block ?_
          refine WP_seq ?_
          refine WP_region ?_
          refine XL_q rfl (qt_assign rfl) rfl rfl ?_
          refine WL_nil_seq ?_
          refine WP_seq ?_
          refine WP_seq ?_
          refine WP_region ?_
          refine XL_q rfl (qt_assign rfl) rfl rfl ?_
          refine WL_nil_seq ?_
          refine WP_block ?_
          obtain ⟨o90, ho91, hs83⟩ := bind_some hs83
          have H94 : Holds (([] : List Res).flatMap Res.own) w w82 [.sl 3 (.int .i64) vp62 s76, .sl 3 (.int .i64) vs74 s74] G := ((H86.pull 1).pull 1)
          refine fun a92 ha93 => wp_loop_fix (I := fun s a w2 => match s with | (s88, s89) => (Fr a 97 [(0, vp0), (1, .int .i64 p1), (5, .int .i64 x16), (6, vp62), (8, vs74), (9, .int .i64 s75), (10, .int .i64 s88), (11, .int .i64 s89)] ∧ Holds (([] : List Res).flatMap Res.own) w w2 [.sl 3 (.int .i64) vp62 s76, .sl 3 (.int .i64) vs74 s74] G)) (O := fun o e a w2 => match o with | q0 => e = .exit 4 ∧ (Fr a 97 [(0, vp0), (1, .int .i64 p1), (5, .int .i64 x16), (6, vp62), (8, vs74), (9, .int .i64 s75), (10, .int .i64 q0)] ∧ Holds (([] : List Res).flatMap Res.own) w w2 [.sl 3 (.int .i64) vp62 s76, .sl 3 (.int .i64) vs74 s74] G)) ho91 ?_ ?_ ?_
          · exact ⟨ha93.sub ⟨rfl, rfl, rfl, rfl, rfl, rfl, rfl, rfl, trivial⟩, H94⟩
          · clear ha93
            intro s o97 a w95 hs96 hI98
            obtain ⟨s88, s89⟩ := s
            obtain ⟨ha, H99⟩ := hI98
            refine WP.app ?_ ha
            clear ha
            refine WP_seq ?_
            refine WP_seq ?_
            refine WP_region ?_
            refine XL_q rfl (qt_move rfl) rfl rfl ?_
            refine XL_q rfl (qt_move rfl) rfl rfl ?_
            refine XL_lenH H99.ctx (t := (.int .i64)) (hp0.c.c) u23 rfl rfl rfl ?_
            refine XL_q rfl (qt_lss rfl rfl) rfl rfl ?_
            refine WL_nil_seq ?_
            refine WP_cond rfl (fun hc100 => ?_) (fun hc100 => ?_)
            · have hs96 := if_t hc100 hs96
              refine WP_skip_seq ?_
              refine WP_seq ?_
              refine WP_block ?_
              refine WP_seq ?_
              refine WP_quiet (by kernel_rfl) (by kernel_rfl) ?_
              refine XL_q rfl (qt_move rfl) rfl rfl ?_
              refine XL_q rfl (qt_move rfl) rfl rfl ?_
              obtain ⟨x101, hx102, hs96⟩ := bind_some hs96
              refine QL_call rfl rfl c61 (fun w' hb => (w_spec_l1Has w' ([.sl 3 (.int .i64) vp62 s76, .sl 3 (.int .i64) vs74 s74] ++ G) vs74 s74 (Has.c (Has.hd)) s89 x101 hx102 (H99.grow hb).ctx).mono fun e w'' hK => ⟨hK.1, hK.2.bel⟩) (by rfl) ?_
              refine XL_q rfl (qt_not rfl) rfl rfl ?_
              refine XL_q rfl (qt_move rfl) rfl rfl ?_
              obtain ⟨b103, hg104, hs96⟩ := bind_some hs96
              refine XL_join 22 82 (.bool b103) ?_ (fun md hmd hk => ?_)
              rotate_left
              · obtain ⟨K, rfl⟩ := Md.quiet_of hmd
                rcases btf (!x101) with hc105 | hc105
                · skip
                  have hg104 := if_t hc105 hg104
                  refine XL_q (w_take rfl hc105) (qt_move rfl) rfl rfl ?_
                  refine XL_q (w_take rfl hc105) (qt_lss rfl rfl) rfl rfl ?_
                  refine XL_q (w_take rfl hc105) (qt_move rfl) rfl rfl ?_
                  obtain ⟨b106, hg107, hg104⟩ := bind_some hg104
                  refine XL_join 18 81 (.bool b106) ?_ (fun md hmd hk => ?_)
                  rotate_left
                  · obtain ⟨K, rfl⟩ := Md.quiet_of hmd
                    rcases btf (decide (s88 < 0)) with hc108 | hc108
                    · skip
                      refine XL_skip (w_skip rfl hc108) rfl rfl ?_
                      refine XL_skip (w_skip rfl hc108) rfl rfl ?_
                      refine XL_skip (w_skip rfl hc108) rfl rfl ?_
                      refine XL_skip (w_skip rfl hc108) rfl rfl ?_
                      refine XL_skip (w_skip rfl hc108) rfl rfl ?_
                      refine XL_skip (w_skip rfl hc108) rfl rfl ?_
                      refine XL_skip (w_skip rfl hc108) rfl rfl ?_
                      refine XL_skip (w_skip rfl hc108) rfl rfl ?_
                      refine XL_skip (w_skip rfl hc108) rfl rfl ?_
                      refine XL_skip (w_skip rfl hc108) rfl rfl ?_
                      refine XL_skip (w_skip rfl hc108) rfl rfl ?_
                      refine XL_skip (w_skip rfl hc108) rfl rfl ?_
                      refine XL_skip (w_skip rfl hc108) rfl rfl ?_
                      refine XL_skip (w_skip rfl hc108) rfl rfl ?_
                      refine XL_skip (w_skip rfl hc108) rfl rfl ?_
                      refine XL_skip (w_skip rfl hc108) rfl rfl ?_
                      refine XL_skip (w_skip rfl hc108) rfl rfl ?_
                      refine XL_q (w_take rfl hc105) (qt_pickT rfl hc108 rfl) rfl rfl ?_
                      exact hk _ (Cov.same (vb (if_t hc108 hg107)) (Cov.fresh rfl (Cov.fresh rfl (Cov.fresh rfl (Cov.fresh rfl (Cov.fresh rfl (Cov.fresh rfl (Cov.fresh rfl (Cov.fresh rfl (Cov.fresh rfl (Cov.fresh rfl (Cov.fresh rfl (Cov.fresh rfl (Cov.fresh rfl (Cov.fresh rfl (Cov.fresh rfl (Cov.fresh rfl (Cov.fresh rfl (Cov.refl)))))))))))))))))))
                    · skip
                      have hg107 := if_f hc108 hg107
                      refine XL_q (w_take rfl hc108) (qt_move rfl) rfl rfl ?_
                      refine XL_q (w_take rfl hc108) (qt_move rfl) rfl rfl ?_
                      refine XL_q (w_take rfl hc108) (qt_move rfl) rfl rfl ?_
                      obtain ⟨x109, hx110, hg107⟩ := bind_some hg107
                      refine XL_indexH H99.ctx (hp0.c.c) hx110 u23 i3 (w_take rfl hc108) rfl rfl rfl (fun b111 off112 cap113 hv114 => ?_)
                      obtain ⟨F115, hat116, hdup117⟩ := H99.at (hp0.c.c) hx110 hv114
                      refine XL_load_int (k := .i64) u3 rfl hat116 (w_take rfl hc108) rfl rfl ?_
                      refine XL_q (w_take rfl hc108) (qt_mul rfl rfl) rfl rfl ?_
                      refine XL_q (w_take rfl hc108) (qt_move rfl) rfl rfl ?_
                      obtain ⟨x118, hx119, hg107⟩ := bind_some hg107
                      refine XL_q (w_take rfl hc108) (qt_remO rfl rfl hx119) rfl rfl ?_
                      refine XL_q (w_take rfl hc108) (qt_move rfl) rfl rfl ?_
                      refine XL_q (w_take rfl hc108) (qt_move rfl) rfl rfl ?_
                      refine XL_q (w_take rfl hc108) (qt_move rfl) rfl rfl ?_
                      obtain ⟨x120, hx121, hg107⟩ := bind_some hg107
                      refine XL_indexH H99.ctx (hp0.c.c) hx121 u23 i3 (w_take rfl hc108) rfl rfl rfl (fun b122 off123 cap124 hv125 => ?_)
                      obtain ⟨F126, hat127, hdup128⟩ := H99.at (hp0.c.c) hx121 hv125
                      refine XL_load_int (k := .i64) u3 rfl hat127 (w_take rfl hc108) rfl rfl ?_
                      refine XL_q (w_take rfl hc108) (qt_mul rfl rfl) rfl rfl ?_
                      refine XL_q (w_take rfl hc108) (qt_move rfl) rfl rfl ?_
                      obtain ⟨x129, hx130, hg107⟩ := bind_some hg107
                      refine XL_q (w_take rfl hc108) (qt_remO rfl rfl hx130) rfl rfl ?_
                      refine XL_q (w_take rfl hc108) (qt_gtr rfl rfl) rfl rfl ?_
                      refine XL_q (w_take rfl hc105) (qt_pickF rfl hc108 rfl) rfl rfl ?_
                      exact hk _ (Cov.same (vb hg107) (Cov.fresh rfl (Cov.fresh rfl (Cov.fresh rfl (Cov.fresh rfl (Cov.fresh rfl (Cov.fresh rfl (Cov.fresh rfl (Cov.fresh rfl (Cov.fresh rfl (Cov.fresh rfl (Cov.fresh rfl (Cov.fresh rfl (Cov.fresh rfl (Cov.fresh rfl (Cov.fresh rfl (Cov.fresh rfl (Cov.fresh rfl (Cov.refl)))))))))))))))))))
                  refine XL_q rfl (qt_pickT rfl hc105 rfl) rfl rfl ?_
                  exact hk _ (Cov.same (vb hg104) (Cov.fresh rfl (Cov.fresh rfl (Cov.fresh rfl (Cov.fresh rfl (Cov.refl))))))
                · skip
                  refine XL_skip (w_skip rfl hc105) rfl rfl ?_
                  refine XL_skip (w_skip rfl hc105) rfl rfl ?_
                  refine XL_skip (w_skip rfl hc105) rfl rfl ?_
                  refine XL_skip rfl rfl rfl ?_
                  refine XL_skip rfl rfl rfl ?_
                  refine XL_skip rfl rfl rfl ?_
                  refine XL_skip rfl rfl rfl ?_
                  refine XL_skip rfl rfl rfl ?_
                  refine XL_skip rfl rfl rfl ?_
                  refine XL_skip rfl rfl rfl ?_
                  refine XL_skip rfl rfl rfl ?_
                  refine XL_skip rfl rfl rfl ?_
                  refine XL_skip rfl rfl rfl ?_
                  refine XL_skip rfl rfl rfl ?_
                  refine XL_skip rfl rfl rfl ?_
                  refine XL_skip rfl rfl rfl ?_
                  refine XL_skip rfl rfl rfl ?_
                  refine XL_skip rfl rfl rfl ?_
                  refine XL_skip rfl rfl rfl ?_
                  refine XL_skip rfl rfl rfl ?_
                  refine XL_skip (w_skip rfl hc105) rfl rfl ?_
                  refine XL_q rfl (qt_pickF rfl hc105 rfl) rfl rfl ?_
                  exact hk _ (Cov.same (vb (if_f hc105 hg104)) (Cov.fresh rfl (Cov.fresh rfl (Cov.fresh rfl (Cov.fresh rfl (Cov.fresh rfl (Cov.fresh rfl (Cov.fresh rfl (Cov.fresh rfl (Cov.fresh rfl (Cov.fresh rfl (Cov.fresh rfl (Cov.fresh rfl (Cov.fresh rfl (Cov.fresh rfl (Cov.fresh rfl (Cov.fresh rfl (Cov.fresh rfl (Cov.fresh rfl (Cov.fresh rfl (Cov.fresh rfl (Cov.fresh rfl (Cov.refl)))))))))))))))))))))))
              refine QL_nil fun a ha w131 hb132 => ?_
              have H133 : Holds (([] : List Res).flatMap Res.own) w w131 [.sl 3 (.int .i64) vp62 s76, .sl 3 (.int .i64) vs74 s74] G := H99.grow hb132
              refine nrm_seq (WP.app ?_ ha)
              refine WP_cond rfl (fun hc134 => ?_) (fun hc134 => ?_)
              · have hs96 := if_t hc134 hs96
                refine WP_region ?_
                refine XL_q rfl (qt_move rfl) rfl rfl ?_
                refine XL_q rfl (qt_assign rfl) rfl rfl ?_
                refine WL_nil fun a ha => ?_
                refine nrm_block (nrm_seq (WP.app ?_ ha))
                refine WP_region ?_
                refine XL_q rfl (qt_move rfl) rfl rfl ?_
                refine XL_q rfl (qt_add rfl rfl) rfl rfl ?_
                refine XL_q rfl (qt_assign rfl) rfl rfl ?_
                refine WL_nil fun a ha => ?_
                obtain rfl := Option.some.inj hs96
                have H135 : Holds (([] : List Res).flatMap Res.own) w w131 [.sl 3 (.int .i64) vp62 s76, .sl 3 (.int .i64) vs74 s74] G := ((H133.pull 1).pull 1)
                exact ⟨rfl, ha.sub ⟨rfl, rfl, rfl, rfl, rfl, rfl, rfl, rfl, trivial⟩, H135⟩
              · have hs96 := if_f hc134 hs96
                refine WP_skip fun a ha => ?_
                refine nrm_block (nrm_seq (WP.app ?_ ha))
                refine WP_region ?_
                refine XL_q rfl (qt_move rfl) rfl rfl ?_
                refine XL_q rfl (qt_add rfl rfl) rfl rfl ?_
                refine XL_q rfl (qt_assign rfl) rfl rfl ?_
                refine WL_nil fun a ha => ?_
                obtain rfl := Option.some.inj hs96
                have H136 : Holds (([] : List Res).flatMap Res.own) w w131 [.sl 3 (.int .i64) vp62 s76, .sl 3 (.int .i64) vs74 s74] G := ((H133.pull 1).pull 1)
                exact ⟨rfl, ha.sub ⟨rfl, rfl, rfl, rfl, rfl, rfl, rfl, rfl, trivial⟩, H136⟩
            · have hs96 := if_f hc100 hs96
              refine WP_exit fun a ha => ?_
              obtain rfl := Option.some.inj hs96
              have H137 : Holds (([] : List Res).flatMap Res.own) w w95 [.sl 3 (.int .i64) vp62 s76, .sl 3 (.int .i64) vs74 s74] G := ((H99.pull 1).pull 1)
              exact exit_seq (⟨exit_ne, rfl, ha.sub ⟨rfl, rfl, rfl, rfl, rfl, rfl, rfl, trivial⟩, H137⟩)
          · intro e a92 w138 hO139
            obtain ⟨p140, rfl⟩ : ∃ z, z = o90 := ⟨o90, rfl⟩
            obtain ⟨rfl, hO142⟩ := hO139
            obtain ⟨ha, H141⟩ := hO142
            refine exit_block_eq (nrm_seq (WP.app ?_ ha))
            refine WP_seq ?_
            refine WP_region ?_
            refine XL_q rfl (qt_move rfl) rfl rfl ?_
            refine XL_q rfl (qt_move rfl) rfl rfl ?_
            refine WL_buildH (t := (.int .i64)) (args := [.tmp 85]) (xs := ([p140] : List Int)) H141 (BltL.cons (Blt.int) rfl (BltL.nil)) u23 j3 rfl rfl rfl rfl rfl rfl (fun v143 w144 H145 => ?_)
            have H146 : Holds (([] : List Res).flatMap Res.own) w w144 [.sl 3 (.int .i64) v143 ([p140]), .sl 3 (.int .i64) vp62 s76, .sl 3 (.int .i64) vs74 s74] G := H145
            have H147 : Holds (([] : List Res).flatMap Res.own) w w144 [.sl 3 (.int .i64) vs74 s74, .sl 3 (.int .i64) v143 ([p140]), .sl 3 (.int .i64) vp62 s76] G := H146.pull 2
            obtain ⟨x148, hx149, hs83⟩ := bind_some hs83
            refine WL_appendH H147 (Has.c (Has.hd)) hx149 u23 j3 rfl rfl rfl rfl rfl rfl (fun v150 w151 H152 => ?_)
            have H153 : Holds (([] : List Res).flatMap Res.own) w w151 [.sl 3 (.int .i64) v150 x148, .sl 3 (.int .i64) v143 ([p140]), .sl 3 (.int .i64) vp62 s76] G := H152
            refine XL_q rfl (qt_assign rfl) rfl rfl ?_
            refine WL_nil_seq ?_
            refine WP_region ?_
            refine XL_q rfl (qt_move rfl) rfl rfl ?_
            refine XL_q rfl (qt_move rfl) rfl rfl ?_
            refine XL_q rfl (qt_move rfl) rfl rfl ?_
            refine XL_q rfl (qt_move rfl) rfl rfl ?_
            obtain ⟨x154, hx155, hs83⟩ := bind_some hs83
            refine XL_indexH H153.ctx (Has.c (Has.c (Has.hd))) hx155 u23 i3 rfl rfl rfl rfl (fun b156 off157 cap158 hv159 => ?_)
            obtain ⟨F160, hat161, hdup162⟩ := H153.at (Has.c (Has.c (Has.hd))) hx155 hv159
            refine XL_load_int (k := .i64) u3 rfl hat161 rfl rfl rfl ?_
            refine XL_q rfl (qt_add rfl rfl) rfl rfl ?_
            obtain ⟨x163, hx164, hs83⟩ := bind_some hs83
            refine XL_indexH H153.ctx (Has.c (Has.c (Has.hd))) hx164 u23 i3 rfl rfl rfl rfl (fun b165 off166 cap167 hv168 => ?_)
            have H169 : Holds (([] : List Res).flatMap Res.own) w w151 [.sl 3 (.int .i64) vp62 s76, .sl 3 (.int .i64) v150 x148, .sl 3 (.int .i64) v143 ([p140])] G := H153.pull 2
            refine WL_storeH (fo := 0) (cs' := [.int .i64 (IntKind.wrap .i64 (x154 + 1))]) H169 hx164 hv168 (Upd.whole (Blt.int)) rfl il3 rfl rfl rfl rfl (fun w170 H171 => ?_)
            have H172 : Holds (([] : List Res).flatMap Res.own) w w170 [.sl 3 (.int .i64) vp62 (List.set s76 (Int.toNat p140) (IntKind.wrap .i64 (x154 + 1))), .sl 3 (.int .i64) v150 x148, .sl 3 (.int .i64) v143 ([p140])] G := H171
            refine WL_nil fun a ha => ?_
            refine nrm_block (nrm_seq (WP.app ?_ ha))
            refine WP_region ?_
            refine XL_q rfl (qt_move rfl) rfl rfl ?_
            refine XL_q rfl (qt_sub rfl rfl) rfl rfl ?_
            refine XL_q rfl (qt_assign rfl) rfl rfl ?_
            refine WL_nil fun a ha => ?_
            obtain rfl := Option.some.inj hs83
            have H173 : Holds (([] : List Res).flatMap Res.own) w w170 [.sl 3 (.int .i64) vp62 (List.set s76 (Int.toNat p140) (IntKind.wrap .i64 (x154 + 1))), .sl 3 (.int .i64) v150 x148] G := (((H172.cut 2).pull 1).pull 1)
            exact ⟨rfl, v150, vp62, ha.sub ⟨rfl, rfl, rfl, rfl, rfl, rfl, trivial⟩, H173⟩
        · have hs83 := if_f hc87 hs83
          refine WP_exit fun a ha => ?_
          obtain rfl := Option.some.inj hs83
          have H174 : Holds (([] : List Res).flatMap Res.own) w w82 [.sl 3 (.int .i64) vp62 s76] G := (H86.cut 1)
          exact exit_seq (⟨exit_ne, rfl, vp62, ha.sub ⟨rfl, trivial⟩, H174⟩)
      · intro e a79 w175 hO176
        obtain ⟨p177, rfl⟩ : ∃ z, z = o77 := ⟨o77, rfl⟩
        obtain ⟨rfl, hO179⟩ := hO176
        obtain ⟨vp62, ha, H178⟩ := hO179
        refine exit_block_eq (nrm_seq (WP.app ?_ ha))
        refine WP_seq ?_
        refine WP_region ?_
        refine XL_q rfl (qt_move rfl) rfl rfl ?_
        refine XL_q rfl (qt_assign rfl) rfl rfl ?_
        refine WL_nil_seq ?_
        refine WP_ret fun a ha => ?_
        obtain rfl := Option.some.inj h
        exact ret1 rfl ha rfl ⟨vp62, rfl, H178⟩
theorem w_laws_sameInts (w : World) (G : List Res) (vp0 : Value) (p0 : List Int) (hp0 : Has G (.int .i64) vp0 p0) (vp1 : Value) (p1 : List Int) (hp1 : Has G (.int .i64) vp1 p1) (r : Bool) (h : laws_sameIntsS p0 p1 = some r) (H : Ctx w G) : Calls Tryd.prog 32 #[vp0, vp1] w fun e w' => e = .returned (.bool r) ∧ Holds (([] : List Res).flatMap Res.own) w w' [] G := by
  have H : Holds (([] : List Res).flatMap Res.own) w w [] G := Holds.startN H
  refine calls_enter (args := [vp0, vp1]) (n := 26) Tryd.func32 rfl rfl rfl ?_
  unfold laws_sameIntsS at h
  refine WP_seq ?_
  refine WP_region ?_
  refine XL_q rfl (qt_assign rfl) rfl rfl ?_
  refine WL_nil_seq ?_
  refine WP_seq ?_
  refine WP_seq ?_
  refine WP_region ?_
  refine XL_q rfl (qt_move rfl) rfl rfl ?_
  refine XL_lenH H.ctx (t := (.int .i64)) (hp0) u23 rfl rfl rfl ?_
  refine XL_q rfl (qt_move rfl) rfl rfl ?_
  refine XL_lenH H.ctx (t := (.int .i64)) (hp1) u23 rfl rfl rfl ?_
  refine XL_q rfl (qt_neq rfl rfl) rfl rfl ?_
  refine WL_nil_seq ?_
  refine WP_cond rfl (fun hc1 => ?_) (fun hc1 => ?_)
  · have h := if_t hc1 h
    refine WP_seq ?_
    refine WP_region ?_
    refine XL_q rfl (qt_assign rfl) rfl rfl ?_
    refine WL_nil_seq ?_
    refine WP_ret fun a ha => ?_
    obtain rfl := Option.some.inj h
    exact ret_seq (ret1 rfl ha rfl ⟨rfl, H⟩)
  · have h := if_f hc1 h
    refine WP_skip_seq ?_
    refine WP_seq ?_
    refine WP_seq ?_
    refine WP_region ?_
    refine XL_q rfl (qt_assign rfl) rfl rfl ?_
    refine WL_nil_seq ?_
    refine WP_block ?_
    obtain ⟨o3, ho4, h⟩ := bind_some h
    refine fun a5 ha6 => wp_loop_fix (I := fun s a w2 => match s with | s2 => (Fr a 26 [(0, vp0), (1, vp1), (5, .int .i64 s2)] ∧ Holds (([] : List Res).flatMap Res.own) w w2 [] G)) (O := fun o e a w2 => match o with | .inl _ => e = .exit 0 ∧ (Fr a 26 [] ∧ Holds (([] : List Res).flatMap Res.own) w w2 [] G) | .inr q0 => e = .ret ∧ (Fr a 26 [(4, .bool q0)] ∧ Holds (([] : List Res).flatMap Res.own) w w2 [] G)) ho4 ?_ ?_ ?_
    · exact ⟨ha6.sub ⟨rfl, rfl, rfl, trivial⟩, H⟩
    · clear ha6
      intro s o9 a w7 hs8 hI10
      obtain ⟨s2, rfl⟩ : ∃ z, z = s := ⟨s, rfl⟩
      obtain ⟨ha, H11⟩ := hI10
      refine WP.app ?_ ha
      clear ha
      refine WP_seq ?_
      refine WP_seq ?_
      refine WP_region ?_
      refine XL_q rfl (qt_move rfl) rfl rfl ?_
      refine XL_q rfl (qt_move rfl) rfl rfl ?_
      refine XL_lenH H11.ctx (t := (.int .i64)) (hp0) u23 rfl rfl rfl ?_
      refine XL_q rfl (qt_lss rfl rfl) rfl rfl ?_
      refine WL_nil_seq ?_
      refine WP_cond rfl (fun hc12 => ?_) (fun hc12 => ?_)
      · have hs8 := if_t hc12 hs8
        refine WP_skip_seq ?_
        refine WP_seq ?_
        refine WP_block ?_
        refine WP_seq ?_
        refine WP_quiet (by kernel_rfl) (by kernel_rfl) ?_
        refine XL_q rfl (qt_move rfl) rfl rfl ?_
        refine XL_q rfl (qt_move rfl) rfl rfl ?_
        obtain ⟨x13, hx14, hs8⟩ := bind_some hs8
        refine XL_indexH H11.ctx (hp0) hx14 u23 i3 rfl rfl rfl rfl (fun b15 off16 cap17 hv18 => ?_)
        obtain ⟨F19, hat20, hdup21⟩ := H11.at (hp0) hx14 hv18
        refine XL_load_int (k := .i64) u3 rfl hat20 rfl rfl rfl ?_
        refine XL_q rfl (qt_move rfl) rfl rfl ?_
        refine XL_q rfl (qt_move rfl) rfl rfl ?_
        obtain ⟨x22, hx23, hs8⟩ := bind_some hs8
        refine XL_indexH H11.ctx (hp1) hx23 u23 i3 rfl rfl rfl rfl (fun b24 off25 cap26 hv27 => ?_)
        obtain ⟨F28, hat29, hdup30⟩ := H11.at (hp1) hx23 hv27
        refine XL_load_int (k := .i64) u3 rfl hat29 rfl rfl rfl ?_
        refine XL_q rfl (qt_neq rfl rfl) rfl rfl ?_
        refine QL_nil fun a ha w31 hb32 => ?_
        have H33 : Holds (([] : List Res).flatMap Res.own) w w31 [] G := H11.grow hb32
        refine nrm_seq (WP.app ?_ ha)
        refine WP_cond rfl (fun hc34 => ?_) (fun hc34 => ?_)
        · have hs8 := if_t hc34 hs8
          refine WP_seq ?_
          refine WP_region ?_
          refine XL_q rfl (qt_assign rfl) rfl rfl ?_
          refine WL_nil_seq ?_
          refine WP_ret fun a ha => ?_
          obtain rfl := Option.some.inj hs8
          exact ret_block (ret_seq (⟨ret_ne, rfl, ha.sub ⟨rfl, trivial⟩, H33⟩))
        · have hs8 := if_f hc34 hs8
          refine WP_skip fun a ha => ?_
          refine nrm_block (nrm_seq (WP.app ?_ ha))
          refine WP_region ?_
          refine XL_q rfl (qt_move rfl) rfl rfl ?_
          refine XL_q rfl (qt_add rfl rfl) rfl rfl ?_
          refine XL_q rfl (qt_assign rfl) rfl rfl ?_
          refine WL_nil fun a ha => ?_
          obtain rfl := Option.some.inj hs8
          exact ⟨rfl, ha.sub ⟨rfl, rfl, rfl, trivial⟩, H33⟩
      · have hs8 := if_f hc12 hs8
        refine WP_exit fun a ha => ?_
        obtain rfl := Option.some.inj hs8
        exact exit_seq (⟨exit_ne, rfl, ha.sub trivial, H11⟩)
    · intro e a5 w35 hO36
      rcases o3 with o3 | o3
      · skip
        obtain ⟨rfl, hO38⟩ := hO36
        obtain ⟨ha, H37⟩ := hO38
        refine exit_block_eq (nrm_seq (WP.app ?_ ha))
        refine WP_seq ?_
        refine WP_region ?_
        refine XL_q rfl (qt_assign rfl) rfl rfl ?_
        refine WL_nil_seq ?_
        refine WP_ret fun a ha => ?_
        obtain rfl := Option.some.inj h
        exact ret1 rfl ha rfl ⟨rfl, H37⟩
      · skip
        obtain ⟨p39, rfl⟩ : ∃ z, z = o3 := ⟨o3, rfl⟩
        obtain ⟨rfl, hO41⟩ := hO36
        obtain ⟨ha, H40⟩ := hO41
        obtain rfl := Option.some.inj h
        exact ret_block (ret_seq (ret1 rfl ha rfl ⟨rfl, H40⟩))
theorem w_laws_sumOf (w : World) (G : List Res) (vp0 : Value) (p0 : List Int) (hp0 : Has G (.int .i64) vp0 p0) (r : Int) (h : laws_sumOfS p0 = some r) (H : Ctx w G) : Calls Tryd.prog 34 #[vp0] w fun e w' => e = .returned (.int .i64 r) ∧ Holds (([] : List Res).flatMap Res.own) w w' [] G := by
  have H : Holds (([] : List Res).flatMap Res.own) w w [] G := Holds.startN H
  refine calls_enter (args := [vp0]) (n := 18) Tryd.func34 rfl rfl rfl ?_
  unfold laws_sumOfS at h
  refine WP_seq ?_
  refine WP_region ?_
  refine XL_q rfl (qt_assign rfl) rfl rfl ?_
  refine WL_nil_seq ?_
  refine WP_seq ?_
  refine WP_region ?_
  refine XL_q rfl (qt_assign rfl) rfl rfl ?_
  refine WL_nil_seq ?_
  refine WP_seq ?_
  refine WP_seq ?_
  refine WP_region ?_
  refine XL_q rfl (qt_assign rfl) rfl rfl ?_
  refine WL_nil_seq ?_
  refine WP_block ?_
  obtain ⟨o3, ho4, h⟩ := bind_some h
  refine fun a5 ha6 => wp_loop_fix (I := fun s a w2 => match s with | (s1, s2) => (Fr a 18 [(0, vp0), (3, .int .i64 s1), (4, .int .i64 s2)] ∧ Holds (([] : List Res).flatMap Res.own) w w2 [] G)) (O := fun o e a w2 => match o with | q0 => e = .exit 0 ∧ (Fr a 18 [(3, .int .i64 q0)] ∧ Holds (([] : List Res).flatMap Res.own) w w2 [] G)) ho4 ?_ ?_ ?_
  · exact ⟨ha6.sub ⟨rfl, rfl, rfl, trivial⟩, H⟩
  · clear ha6
    intro s o9 a w7 hs8 hI10
    obtain ⟨s1, s2⟩ := s
    obtain ⟨ha, H11⟩ := hI10
    refine WP.app ?_ ha
    clear ha
    refine WP_seq ?_
    refine WP_seq ?_
    refine WP_region ?_
    refine XL_q rfl (qt_move rfl) rfl rfl ?_
    refine XL_q rfl (qt_move rfl) rfl rfl ?_
    refine XL_lenH H11.ctx (t := (.int .i64)) (hp0) u23 rfl rfl rfl ?_
    refine XL_q rfl (qt_lss rfl rfl) rfl rfl ?_
    refine WL_nil_seq ?_
    refine WP_cond rfl (fun hc12 => ?_) (fun hc12 => ?_)
    · have hs8 := if_t hc12 hs8
      refine WP_skip_seq ?_
      refine WP_seq ?_
      refine WP_block ?_
      refine WP_region ?_
      refine XL_q rfl (qt_move rfl) rfl rfl ?_
      refine XL_q rfl (qt_move rfl) rfl rfl ?_
      refine XL_q rfl (qt_move rfl) rfl rfl ?_
      obtain ⟨x13, hx14, hs8⟩ := bind_some hs8
      refine XL_indexH H11.ctx (hp0) hx14 u23 i3 rfl rfl rfl rfl (fun b15 off16 cap17 hv18 => ?_)
      obtain ⟨F19, hat20, hdup21⟩ := H11.at (hp0) hx14 hv18
      refine XL_load_int (k := .i64) u3 rfl hat20 rfl rfl rfl ?_
      refine XL_q rfl (qt_add rfl rfl) rfl rfl ?_
      refine XL_q rfl (qt_assign rfl) rfl rfl ?_
      refine WL_nil fun a ha => ?_
      refine nrm_block (nrm_seq (WP.app ?_ ha))
      refine WP_region ?_
      refine XL_q rfl (qt_move rfl) rfl rfl ?_
      refine XL_q rfl (qt_add rfl rfl) rfl rfl ?_
      refine XL_q rfl (qt_assign rfl) rfl rfl ?_
      refine WL_nil fun a ha => ?_
      obtain rfl := Option.some.inj hs8
      exact ⟨rfl, ha.sub ⟨rfl, rfl, rfl, trivial⟩, H11⟩
    · have hs8 := if_f hc12 hs8
      refine WP_exit fun a ha => ?_
      obtain rfl := Option.some.inj hs8
      exact exit_seq (⟨exit_ne, rfl, ha.sub ⟨rfl, trivial⟩, H11⟩)
  · intro e a5 w22 hO23
    obtain ⟨p24, rfl⟩ : ∃ z, z = o3 := ⟨o3, rfl⟩
    obtain ⟨rfl, hO26⟩ := hO23
    obtain ⟨ha, H25⟩ := hO26
    refine exit_block_eq (nrm_seq (WP.app ?_ ha))
    refine WP_seq ?_
    refine WP_region ?_
    refine XL_q rfl (qt_move rfl) rfl rfl ?_
    refine XL_q rfl (qt_assign rfl) rfl rfl ?_
    refine WL_nil_seq ?_
    refine WP_ret fun a ha => ?_
    obtain rfl := Option.some.inj h
    exact ret1 rfl ha rfl ⟨rfl, H25⟩
theorem w_laws_FnShareOf (w : World) (G : List Res) (vp0 : Value) (p0 : List Int) (hp0 : HasRo G (.int .u8) vp0 p0) (r : Bool) (h : laws_FnShareOfS p0 = some r) (H : Ctx w G) : Calls Tryd.prog 8 #[vp0] w fun e w' => e = .returned (.bool r) ∧ Holds (([] : List Res).flatMap Res.own) w w' [] G := by
  have H : Holds (([] : List Res).flatMap Res.own) w w [] G := Holds.startN H
  refine calls_enter (args := [vp0]) (n := 118) Tryd.func8 rfl rfl rfl ?_
  unfold laws_FnShareOfS at h
  refine WP_seq ?_
  refine WP_region ?_
  refine XL_q rfl (qt_assign rfl) rfl rfl ?_
  refine WL_nil_seq ?_
  refine WP_seq ?_
  refine WP_seq ?_
  refine WP_region ?_
  refine XL_q rfl (qt_move rfl) rfl rfl ?_
  refine XL_lenH H.ctx (t := (.int .u8)) (hp0.has) u22 rfl rfl rfl ?_
  refine XL_q rfl (qt_gtr rfl rfl) rfl rfl ?_
  refine WL_nil_seq ?_
  refine WP_cond rfl (fun hc1 => ?_) (fun hc1 => ?_)
  · have h := if_t hc1 h
    refine WP_seq ?_
    refine WP_region ?_
    refine XL_q rfl (qt_assign rfl) rfl rfl ?_
    refine WL_nil_seq ?_
    refine WP_ret fun a ha => ?_
    obtain rfl := Option.some.inj h
    exact ret_seq (ret1 rfl ha rfl ⟨rfl, H⟩)
  · have h := if_f hc1 h
    refine WP_skip_seq ?_
    refine WP_seq ?_
    refine WP_region ?_
    refine XL_q rfl (qt_move rfl) rfl rfl ?_
    obtain ⟨x2, hx3, h⟩ := bind_some h
    refine WL_call rfl rfl c30 (w_spec_DrawShareOf w G vp0 p0 (hp0) x2 hx3 H.ctx) (by rfl) ?_
    rintro _ w4 ⟨v6, rfl, H5⟩; refine ⟨_, rfl, ?_⟩
    have H7 : Holds (([] : List Res).flatMap Res.own) w w4 [.sl 3 (.int .i64) v6 x2.1] G := H.calledN (Rs := []) H5
    refine XL_q rfl (qt_move rfl) rfl rfl ?_
    refine XL_q rfl (qt_extract rfl rfl) rfl rfl ?_
    refine XL_q rfl (qt_extract rfl rfl) rfl rfl ?_
    refine XL_q rfl (qt_assign rfl) rfl rfl ?_
    refine XL_q rfl (qt_assign rfl) rfl rfl ?_
    refine WL_nil_seq ?_
    refine WP_seq ?_
    refine WP_region ?_
    refine XL_q rfl (qt_move rfl) rfl rfl ?_
    refine XL_q rfl (qt_move rfl) rfl rfl ?_
    obtain ⟨x8, hx9, h⟩ := bind_some h
    refine WL_call rfl rfl c31 (w_impl_ShareOf w4 ([.sl 3 (.int .i64) v6 x2.1] ++ G) v6 x2.1 (Has.hd) x2.2 x8 hx9 H7.ctx) (by rfl) ?_
    rintro _ w10 ⟨v12, rfl, H11⟩; refine ⟨_, rfl, ?_⟩
    have H13 : Holds (([] : List Res).flatMap Res.own) w w10 [.sl 3 (.int .i64) v12 x8, .sl 3 (.int .i64) v6 x2.1] G := H7.calledN (Rs := []) H11
    refine XL_q rfl (qt_assign rfl) rfl rfl ?_
    refine WL_nil_seq ?_
    refine WP_seq ?_
    refine WP_seq ?_
    refine WP_region ?_
    refine XL_q rfl (qt_move rfl) rfl rfl ?_
    refine XL_q rfl (qt_move rfl) rfl rfl ?_
    refine XL_q rfl (qt_move rfl) rfl rfl ?_
    obtain ⟨x14, hx15, h⟩ := bind_some h
    refine WL_call rfl rfl c33 (w_spec_ShareOf w10 ([.sl 3 (.int .i64) v12 x8, .sl 3 (.int .i64) v6 x2.1] ++ G) v6 x2.1 (Has.c (Has.hd)) x2.2 x14 hx15 H13.ctx) (by rfl) ?_
    rintro _ w16 ⟨v18, rfl, H17⟩; refine ⟨_, rfl, ?_⟩
    have H19 : Holds (([] : List Res).flatMap Res.own) w w16 [.sl 3 (.int .i64) v18 x14, .sl 3 (.int .i64) v12 x8, .sl 3 (.int .i64) v6 x2.1] G := H13.calledN (Rs := []) H17
    obtain ⟨x20, hx21, h⟩ := bind_some h
    refine WL_call rfl rfl c32 (w_laws_sameInts w16 ([.sl 3 (.int .i64) v18 x14, .sl 3 (.int .i64) v12 x8, .sl 3 (.int .i64) v6 x2.1] ++ G) v12 x8 (Has.c (Has.hd)) v18 x14 (Has.hd) x20 hx21 H19.ctx) (by rfl) ?_
    rintro _ w22 ⟨rfl, H23⟩; refine ⟨_, rfl, ?_⟩
    have H24 : Holds (([] : List Res).flatMap Res.own) w w22 [.sl 3 (.int .i64) v18 x14, .sl 3 (.int .i64) v12 x8, .sl 3 (.int .i64) v6 x2.1] G := H19.calledN (Rs := []) H23
    refine XL_q rfl (qt_not rfl) rfl rfl ?_
    refine WL_nil_seq ?_
    refine WP_cond rfl (fun hc25 => ?_) (fun hc25 => ?_)
    · have h := if_t hc25 h
      refine WP_seq ?_
      refine WP_region ?_
      refine XL_q rfl (qt_assign rfl) rfl rfl ?_
      refine WL_nil_seq ?_
      refine WP_ret fun a ha => ?_
      obtain rfl := Option.some.inj h
      have H26 : Holds (([] : List Res).flatMap Res.own) w w22 [] G := (((H24.cut 0).cut 0).cut 0)
      exact ret_seq (ret1 rfl ha rfl ⟨rfl, H26⟩)
    · have h := if_f hc25 h
      refine WP_skip_seq ?_
      refine WP_seq ?_
      refine WP_seq ?_
      refine WP_still ?_
      refine XL_q rfl (qt_move rfl) rfl rfl ?_
      obtain ⟨x27, hx28, h⟩ := bind_some h
      refine QL_call rfl rfl c18 (fun w' hb => (w_spec_SharesValid w' ([.sl 3 (.int .i64) v18 x14, .sl 3 (.int .i64) v12 x8, .sl 3 (.int .i64) v6 x2.1] ++ G) v6 x2.1 (Has.c (Has.c (Has.hd))) x27 hx28 (H24.grow hb).ctx).mono fun e w'' hK => ⟨hK.1, hK.2.bel⟩) (by rfl) ?_
      refine XL_q rfl (qt_not rfl) rfl rfl ?_
      refine XL_q rfl (qt_move rfl) rfl rfl ?_
      refine XL_join 3 33 (.bool ((!x27) || (decide (x2.2 < 0)))) ?_ (fun md hmd hk => ?_)
      rotate_left
      · obtain ⟨K, rfl⟩ := Md.quiet_of hmd
        rcases btf (!x27) with hc29 | hc29
        · skip
          refine XL_skip (w_skip rfl hc29) rfl rfl ?_
          refine XL_skip (w_skip rfl hc29) rfl rfl ?_
          refine XL_q rfl (qt_pickT rfl hc29 rfl) rfl rfl ?_
          exact hk _ (Cov.same (by rw [hc29]; rfl) (Cov.fresh rfl (Cov.fresh rfl (Cov.refl))))
        · skip
          refine XL_q (w_take rfl hc29) (qt_move rfl) rfl rfl ?_
          refine XL_q (w_take rfl hc29) (qt_lss rfl rfl) rfl rfl ?_
          refine XL_q rfl (qt_pickF rfl hc29 rfl) rfl rfl ?_
          exact hk _ (Cov.same (by rw [hc29]; rfl) (Cov.fresh rfl (Cov.fresh rfl (Cov.refl))))
      refine XL_q rfl (qt_move rfl) rfl rfl ?_
      refine XL_join 3 37 (.bool (((!x27) || (decide (x2.2 < 0))) || (decide (x2.2 > 9999)))) ?_ (fun md hmd hk => ?_)
      rotate_left
      · obtain ⟨K, rfl⟩ := Md.quiet_of hmd
        rcases btf ((!x27) || (decide (x2.2 < 0))) with hc30 | hc30
        · skip
          refine XL_skip (w_skip rfl hc30) rfl rfl ?_
          refine XL_skip (w_skip rfl hc30) rfl rfl ?_
          refine XL_q rfl (qt_pickT rfl hc30 rfl) rfl rfl ?_
          exact hk _ (Cov.same (by rw [hc30]; rfl) (Cov.fresh rfl (Cov.fresh rfl (Cov.refl))))
        · skip
          refine XL_q (w_take rfl hc30) (qt_move rfl) rfl rfl ?_
          refine XL_q (w_take rfl hc30) (qt_gtr rfl rfl) rfl rfl ?_
          refine XL_q rfl (qt_pickF rfl hc30 rfl) rfl rfl ?_
          exact hk _ (Cov.same (by rw [hc30]; rfl) (Cov.fresh rfl (Cov.fresh rfl (Cov.refl))))
      refine QL_nil fun a ha w31 hb32 => ?_
      have H33 : Holds (([] : List Res).flatMap Res.own) w w31 [.sl 3 (.int .i64) v18 x14, .sl 3 (.int .i64) v12 x8, .sl 3 (.int .i64) v6 x2.1] G := H24.grow hb32
      refine nrm_seq (WP.app ?_ ha)
      refine WP_cond rfl (fun hc34 => ?_) (fun hc34 => ?_)
      · have h := if_t hc34 h
        refine WP_seq ?_
        refine WP_still ?_
        refine XL_q rfl (qt_move rfl) rfl rfl ?_
        refine XL_lenH H33.ctx (t := (.int .i64)) (Has.c (Has.hd)) u23 rfl rfl rfl ?_
        refine XL_q rfl (qt_eql rfl rfl) rfl rfl ?_
        refine XL_q rfl (qt_move rfl) rfl rfl ?_
        obtain ⟨b35, hg36, h⟩ := bind_some h
        refine XL_join 2 43 (.bool b35) ?_ (fun md hmd hk => ?_)
        rotate_left
        · obtain ⟨K, rfl⟩ := Md.quiet_of hmd
          rcases btf ((List.length x8 : Int) == 0) with hc37 | hc37
          · skip
            have hg36 := if_t hc37 hg36
            obtain ⟨x38, hx39, hg36⟩ := bind_some hg36
            refine QL_call (w_take rfl hc37) rfl c15 (fun w' hb => (w_laws_alive w' ([.sl 3 (.int .i64) v18 x14, .sl 3 (.int .i64) v12 x8, .sl 3 (.int .i64) v6 x2.1] ++ G)  x38 hx39 (H33.grow hb).ctx).mono fun e w'' hK => ⟨hK.1, hK.2.bel⟩) (by rfl) ?_
            refine XL_q rfl (qt_pickT rfl hc37 rfl) rfl rfl ?_
            exact hk _ (Cov.same (vb hg36) (Cov.fresh rfl (Cov.refl)))
          · skip
            refine XL_skip (w_skip rfl hc37) rfl rfl ?_
            refine XL_q rfl (qt_pickF rfl hc37 rfl) rfl rfl ?_
            exact hk _ (Cov.same (vb (if_f hc37 hg36)) (Cov.fresh rfl (Cov.refl)))
        refine XL_q rfl (qt_assign rfl) rfl rfl ?_
        refine QL_nil fun a ha w40 hb41 => ?_
        have H42 : Holds (([] : List Res).flatMap Res.own) w w40 [.sl 3 (.int .i64) v18 x14, .sl 3 (.int .i64) v12 x8, .sl 3 (.int .i64) v6 x2.1] G := H33.grow hb41
        refine nrm_seq (WP.app ?_ ha)
        refine WP_ret fun a ha => ?_
        obtain rfl := Option.some.inj h
        have H43 : Holds (([] : List Res).flatMap Res.own) w w40 [] G := (((H42.cut 0).cut 0).cut 0)
        exact ret_seq (ret1 rfl ha rfl ⟨rfl, H43⟩)
      · have h := if_f hc34 h
        refine WP_skip_seq ?_
        refine WP_seq ?_
        refine WP_still ?_
        refine XL_q rfl (qt_move rfl) rfl rfl ?_
        obtain ⟨x44, hx45, h⟩ := bind_some h
        refine QL_call rfl rfl c34 (fun w' hb => (w_laws_sumOf w' ([.sl 3 (.int .i64) v18 x14, .sl 3 (.int .i64) v12 x8, .sl 3 (.int .i64) v6 x2.1] ++ G) v6 x2.1 (Has.c (Has.c (Has.hd))) x44 hx45 (H33.grow hb).ctx).mono fun e w'' hK => ⟨hK.1, hK.2.bel⟩) (by rfl) ?_
        refine XL_q rfl (qt_assign rfl) rfl rfl ?_
        refine QL_nil fun a ha w46 hb47 => ?_
        have H48 : Holds (([] : List Res).flatMap Res.own) w w46 [.sl 3 (.int .i64) v18 x14, .sl 3 (.int .i64) v12 x8, .sl 3 (.int .i64) v6 x2.1] G := H33.grow hb47
        refine nrm_seq (WP.app ?_ ha)
        refine WP_seq ?_
        refine WP_seq ?_
        refine WP_region ?_
        refine XL_q rfl (qt_assign rfl) rfl rfl ?_
        refine WL_nil_seq ?_
        refine WP_block ?_
        obtain ⟨o50, ho51, h⟩ := bind_some h
        have H54 : Holds (([] : List Res).flatMap Res.own) w w46 [.sl 3 (.int .i64) v6 x2.1, .sl 3 (.int .i64) v12 x8] G := ((H48.cut 0).pull 1)
        refine fun a52 ha53 => wp_loop_fix (I := fun s a w2 => match s with | s49 => (Fr a 118 [(3, v6), (4, .int .i64 x2.2), (5, v12), (6, .int .i64 x44), (7, .int .i64 s49)] ∧ Holds (([] : List Res).flatMap Res.own) w w2 [.sl 3 (.int .i64) v6 x2.1, .sl 3 (.int .i64) v12 x8] G)) (O := fun o e a w2 => match o with | .inl _ => e = .exit 0 ∧ (Fr a 118 [(4, .int .i64 x2.2), (5, v12)] ∧ Holds (([] : List Res).flatMap Res.own) w w2 [.sl 3 (.int .i64) v12 x8] G) | .inr q0 => e = .ret ∧ (Fr a 118 [(2, .bool q0)] ∧ Holds (([] : List Res).flatMap Res.own) w w2 [] G)) ho51 ?_ ?_ ?_
        · exact ⟨ha53.sub ⟨rfl, rfl, rfl, rfl, rfl, trivial⟩, H54⟩
        · clear ha53
          intro s o57 a w55 hs56 hI58
          obtain ⟨s49, rfl⟩ : ∃ z, z = s := ⟨s, rfl⟩
          obtain ⟨ha, H59⟩ := hI58
          refine WP.app ?_ ha
          clear ha
          refine WP_seq ?_
          refine WP_seq ?_
          refine WP_region ?_
          refine XL_q rfl (qt_move rfl) rfl rfl ?_
          refine XL_q rfl (qt_move rfl) rfl rfl ?_
          refine XL_lenH H59.ctx (t := (.int .i64)) (Has.c (Has.hd)) u23 rfl rfl rfl ?_
          refine XL_q rfl (qt_lss rfl rfl) rfl rfl ?_
          refine WL_nil_seq ?_
          refine WP_cond rfl (fun hc60 => ?_) (fun hc60 => ?_)
          · have hs56 := if_t hc60 hs56
            refine WP_skip_seq ?_
            refine WP_seq ?_
            refine WP_block ?_
            refine WP_seq ?_
            refine WP_quiet (by kernel_rfl) (by kernel_rfl) ?_
            refine XL_q rfl (qt_move rfl) rfl rfl ?_
            refine XL_q rfl (qt_move rfl) rfl rfl ?_
            obtain ⟨x61, hx62, hs56⟩ := bind_some hs56
            refine XL_indexH H59.ctx (Has.c (Has.hd)) hx62 u23 i3 rfl rfl rfl rfl (fun b63 off64 cap65 hv66 => ?_)
            obtain ⟨F67, hat68, hdup69⟩ := H59.at (Has.c (Has.hd)) hx62 hv66
            refine XL_load_int (k := .i64) u3 rfl hat68 rfl rfl rfl ?_
            refine XL_q rfl (qt_move rfl) rfl rfl ?_
            refine XL_q rfl (qt_mul rfl rfl) rfl rfl ?_
            refine XL_q rfl (qt_move rfl) rfl rfl ?_
            refine XL_q rfl (qt_move rfl) rfl rfl ?_
            refine XL_q rfl (qt_move rfl) rfl rfl ?_
            obtain ⟨x70, hx71, hs56⟩ := bind_some hs56
            refine XL_indexH H59.ctx (Has.hd) hx71 u23 i3 rfl rfl rfl rfl (fun b72 off73 cap74 hv75 => ?_)
            obtain ⟨F76, hat77, hdup78⟩ := H59.at (Has.hd) hx71 hv75
            refine XL_load_int (k := .i64) u3 rfl hat77 rfl rfl rfl ?_
            refine XL_q rfl (qt_mul rfl rfl) rfl rfl ?_
            refine XL_q rfl (qt_sub rfl rfl) rfl rfl ?_
            refine XL_q rfl (qt_assign rfl) rfl rfl ?_
            refine QL_nil fun a ha w79 hb80 => ?_
            have H81 : Holds (([] : List Res).flatMap Res.own) w w79 [.sl 3 (.int .i64) v6 x2.1, .sl 3 (.int .i64) v12 x8] G := H59.grow hb80
            refine nrm_seq (WP.app ?_ ha)
            refine WP_seq ?_
            refine WP_seq ?_
            refine WP_region ?_
            refine XL_q rfl (qt_move rfl) rfl rfl ?_
            refine XL_q rfl (qt_move rfl) rfl rfl ?_
            refine XL_q rfl (qt_geq rfl rfl) rfl rfl ?_
            refine XL_q rfl (qt_move rfl) rfl rfl ?_
            refine XL_join 5 73 (.bool ((decide ((IntKind.wrap .i64 ((IntKind.wrap .i64 (x61 * x44)) - (IntKind.wrap .i64 (x2.2 * x70)))) ≥ x44)) || (decide ((IntKind.wrap .i64 ((IntKind.wrap .i64 (x61 * x44)) - (IntKind.wrap .i64 (x2.2 * x70)))) ≤ (IntKind.wrap .i64 (-x44)))))) ?_ (fun md hmd hk => ?_)
            rotate_left
            · obtain ⟨Q, rfl⟩ := Md.seq_of hmd
              rcases btf (decide ((IntKind.wrap .i64 ((IntKind.wrap .i64 (x61 * x44)) - (IntKind.wrap .i64 (x2.2 * x70)))) ≥ x44)) with hc82 | hc82
              · skip
                refine XL_skip (w_skip rfl hc82) rfl rfl ?_
                refine XL_skip (w_skip rfl hc82) rfl rfl ?_
                refine XL_skip (w_skip rfl hc82) rfl rfl ?_
                refine XL_skip (w_skip rfl hc82) rfl rfl ?_
                refine XL_q rfl (qt_pickT rfl hc82 rfl) rfl rfl ?_
                exact hk _ (Cov.same (by rw [hc82]; rfl) (Cov.fresh rfl (Cov.fresh rfl (Cov.fresh rfl (Cov.fresh rfl (Cov.refl))))))
              · skip
                refine XL_q (w_take rfl hc82) (qt_move rfl) rfl rfl ?_
                refine XL_q (w_take rfl hc82) (qt_move rfl) rfl rfl ?_
                refine XL_q (w_take rfl hc82) (qt_neg rfl) rfl rfl ?_
                refine XL_q (w_take rfl hc82) (qt_leq rfl rfl) rfl rfl ?_
                refine XL_q rfl (qt_pickF rfl hc82 rfl) rfl rfl ?_
                exact hk _ (Cov.same (by rw [hc82]; rfl) (Cov.fresh rfl (Cov.fresh rfl (Cov.fresh rfl (Cov.fresh rfl (Cov.refl))))))
            refine XL_q rfl (qt_move rfl) rfl rfl ?_
            obtain ⟨b83, hg84, hs56⟩ := bind_some hs56
            refine XL_join 13 87 (.bool b83) ?_ (fun md hmd hk => ?_)
            rotate_left
            · obtain ⟨Q, rfl⟩ := Md.seq_of hmd
              rcases btf ((decide ((IntKind.wrap .i64 ((IntKind.wrap .i64 (x61 * x44)) - (IntKind.wrap .i64 (x2.2 * x70)))) ≥ x44)) || (decide ((IntKind.wrap .i64 ((IntKind.wrap .i64 (x61 * x44)) - (IntKind.wrap .i64 (x2.2 * x70)))) ≤ (IntKind.wrap .i64 (-x44))))) with hc85 | hc85
              · skip
                refine XL_skip (w_skip rfl hc85) rfl rfl ?_
                refine XL_skip (w_skip rfl hc85) rfl rfl ?_
                refine XL_skip (w_skip rfl hc85) rfl rfl ?_
                refine XL_skip (w_skip rfl hc85) rfl rfl ?_
                refine XL_skip (w_skip rfl hc85) rfl rfl ?_
                refine XL_skip (w_skip rfl hc85) rfl rfl ?_
                refine XL_skip rfl rfl rfl ?_
                refine XL_skip rfl rfl rfl ?_
                refine XL_skip rfl rfl rfl ?_
                refine XL_skip rfl rfl rfl ?_
                refine XL_skip rfl rfl rfl ?_
                refine XL_skip (w_skip rfl hc85) rfl rfl ?_
                refine XL_q rfl (qt_pickT rfl hc85 rfl) rfl rfl ?_
                exact hk _ (Cov.same (vb (if_t hc85 hg84)) (Cov.fresh rfl (Cov.fresh rfl (Cov.fresh rfl (Cov.fresh rfl (Cov.fresh rfl (Cov.fresh rfl (Cov.fresh rfl (Cov.fresh rfl (Cov.fresh rfl (Cov.fresh rfl (Cov.fresh rfl (Cov.fresh rfl (Cov.refl))))))))))))))
              · skip
                have hg84 := if_f hc85 hg84
                refine XL_q (w_take rfl hc85) (qt_move rfl) rfl rfl ?_
                refine XL_q (w_take rfl hc85) (qt_move rfl) rfl rfl ?_
                obtain ⟨x86, hx87, hg84⟩ := bind_some hg84
                refine XL_indexH H81.ctx (Has.hd) hx87 u23 i3 (w_take rfl hc85) rfl rfl rfl (fun b88 off89 cap90 hv91 => ?_)
                obtain ⟨F92, hat93, hdup94⟩ := H81.at (Has.hd) hx87 hv91
                refine XL_load_int (k := .i64) u3 rfl hat93 (w_take rfl hc85) rfl rfl ?_
                refine XL_q (w_take rfl hc85) (qt_eql rfl rfl) rfl rfl ?_
                refine XL_q (w_take rfl hc85) (qt_move rfl) rfl rfl ?_
                obtain ⟨b95, hg96, hg84⟩ := bind_some hg84
                refine XL_join 6 86 (.bool b95) ?_ (fun md hmd hk => ?_)
                rotate_left
                · obtain ⟨Q, rfl⟩ := Md.seq_of hmd
                  rcases btf (x86 == 0) with hc97 | hc97
                  · skip
                    have hg96 := if_t hc97 hg96
                    refine XL_q (w_take rfl hc97) (qt_move rfl) rfl rfl ?_
                    refine XL_q (w_take rfl hc97) (qt_move rfl) rfl rfl ?_
                    obtain ⟨x98, hx99, hg96⟩ := bind_some hg96
                    refine XL_indexH H81.ctx (Has.c (Has.hd)) hx99 u23 i3 (w_take rfl hc97) rfl rfl rfl (fun b100 off101 cap102 hv103 => ?_)
                    obtain ⟨F104, hat105, hdup106⟩ := H81.at (Has.c (Has.hd)) hx99 hv103
                    refine XL_load_int (k := .i64) u3 rfl hat105 (w_take rfl hc97) rfl rfl ?_
                    refine XL_q (w_take rfl hc97) (qt_neq rfl rfl) rfl rfl ?_
                    refine XL_q (w_take rfl hc85) (qt_pickT rfl hc97 rfl) rfl rfl ?_
                    exact hk _ (Cov.same (vb hg96) (Cov.fresh rfl (Cov.fresh rfl (Cov.fresh rfl (Cov.fresh rfl (Cov.fresh rfl (Cov.refl)))))))
                  · skip
                    refine XL_skip (w_skip rfl hc97) rfl rfl ?_
                    refine XL_skip (w_skip rfl hc97) rfl rfl ?_
                    refine XL_skip (w_skip rfl hc97) rfl rfl ?_
                    refine XL_skip (w_skip rfl hc97) rfl rfl ?_
                    refine XL_skip (w_skip rfl hc97) rfl rfl ?_
                    refine XL_q (w_take rfl hc85) (qt_pickF rfl hc97 rfl) rfl rfl ?_
                    exact hk _ (Cov.same (vb (if_f hc97 hg96)) (Cov.fresh rfl (Cov.fresh rfl (Cov.fresh rfl (Cov.fresh rfl (Cov.fresh rfl (Cov.refl)))))))
                refine XL_q rfl (qt_pickF rfl hc85 rfl) rfl rfl ?_
                exact hk _ (Cov.same (vb hg84) (Cov.fresh rfl (Cov.fresh rfl (Cov.fresh rfl (Cov.fresh rfl (Cov.fresh rfl (Cov.fresh rfl (Cov.fresh rfl (Cov.refl)))))))))
            refine WL_nil_seq ?_
            refine WP_cond rfl (fun hc107 => ?_) (fun hc107 => ?_)
            · have hs56 := if_t hc107 hs56
              refine WP_seq ?_
              refine WP_region ?_
              refine XL_q rfl (qt_assign rfl) rfl rfl ?_
              refine WL_nil_seq ?_
              refine WP_ret fun a ha => ?_
              obtain rfl := Option.some.inj hs56
              have H108 : Holds (([] : List Res).flatMap Res.own) w w79 [] G := ((H81.cut 0).cut 0)
              exact ret_seq (ret_block (ret_seq (⟨ret_ne, rfl, ha.sub ⟨rfl, trivial⟩, H108⟩)))
            · have hs56 := if_f hc107 hs56
              refine WP_skip_seq ?_
              refine WP_seq ?_
              refine WP_region ?_
              refine XL_q rfl (qt_assign rfl) rfl rfl ?_
              refine WL_nil_seq ?_
              refine WP_block ?_
              obtain ⟨o110, ho111, hs56⟩ := bind_some hs56
              have H114 : Holds (([] : List Res).flatMap Res.own) w w79 [.sl 3 (.int .i64) v6 x2.1, .sl 3 (.int .i64) v12 x8] G := ((H81.pull 1).pull 1)
              refine fun a112 ha113 => wp_loop_fix (I := fun s a w2 => match s with | s109 => (Fr a 118 [(3, v6), (4, .int .i64 x2.2), (5, v12), (6, .int .i64 x44), (7, .int .i64 s49), (9, .int .i64 s109)] ∧ Holds (([] : List Res).flatMap Res.own) w w2 [.sl 3 (.int .i64) v6 x2.1, .sl 3 (.int .i64) v12 x8] G)) (O := fun o e a w2 => match o with | .inl _ => e = .exit 2 ∧ (Fr a 118 [(3, v6), (4, .int .i64 x2.2), (5, v12), (6, .int .i64 x44), (7, .int .i64 s49)] ∧ Holds (([] : List Res).flatMap Res.own) w w2 [.sl 3 (.int .i64) v6 x2.1, .sl 3 (.int .i64) v12 x8] G) | .inr q0 => e = .ret ∧ (Fr a 118 [(2, .bool q0)] ∧ Holds (([] : List Res).flatMap Res.own) w w2 [] G)) ho111 ?_ ?_ ?_
              · exact ⟨ha113.sub ⟨rfl, rfl, rfl, rfl, rfl, rfl, trivial⟩, H114⟩
              · clear ha113
                intro s o117 a w115 hs116 hI118
                obtain ⟨s109, rfl⟩ : ∃ z, z = s := ⟨s, rfl⟩
                obtain ⟨ha, H119⟩ := hI118
                refine WP.app ?_ ha
                clear ha
                refine WP_seq ?_
                refine WP_seq ?_
                refine WP_region ?_
                refine XL_q rfl (qt_move rfl) rfl rfl ?_
                refine XL_q rfl (qt_move rfl) rfl rfl ?_
                refine XL_lenH H119.ctx (t := (.int .i64)) (Has.c (Has.hd)) u23 rfl rfl rfl ?_
                refine XL_q rfl (qt_lss rfl rfl) rfl rfl ?_
                refine WL_nil_seq ?_
                refine WP_cond rfl (fun hc120 => ?_) (fun hc120 => ?_)
                · have hs116 := if_t hc120 hs116
                  refine WP_skip_seq ?_
                  refine WP_seq ?_
                  refine WP_block ?_
                  refine WP_seq ?_
                  refine WP_quiet (by kernel_rfl) (by kernel_rfl) ?_
                  refine XL_q rfl (qt_move rfl) rfl rfl ?_
                  refine XL_q rfl (qt_move rfl) rfl rfl ?_
                  obtain ⟨x121, hx122, hs116⟩ := bind_some hs116
                  refine XL_indexH H119.ctx (Has.hd) hx122 u23 i3 rfl rfl rfl rfl (fun b123 off124 cap125 hv126 => ?_)
                  obtain ⟨F127, hat128, hdup129⟩ := H119.at (Has.hd) hx122 hv126
                  refine XL_load_int (k := .i64) u3 rfl hat128 rfl rfl rfl ?_
                  refine XL_q rfl (qt_move rfl) rfl rfl ?_
                  refine XL_q rfl (qt_move rfl) rfl rfl ?_
                  obtain ⟨x130, hx131, hs116⟩ := bind_some hs116
                  refine XL_indexH H119.ctx (Has.hd) hx131 u23 i3 rfl rfl rfl rfl (fun b132 off133 cap134 hv135 => ?_)
                  obtain ⟨F136, hat137, hdup138⟩ := H119.at (Has.hd) hx131 hv135
                  refine XL_load_int (k := .i64) u3 rfl hat137 rfl rfl rfl ?_
                  refine XL_q rfl (qt_gtr rfl rfl) rfl rfl ?_
                  refine XL_q rfl (qt_move rfl) rfl rfl ?_
                  obtain ⟨b139, hg140, hs116⟩ := bind_some hs116
                  refine XL_join 10 113 (.bool b139) ?_ (fun md hmd hk => ?_)
                  rotate_left
                  · obtain ⟨K, rfl⟩ := Md.quiet_of hmd
                    rcases btf (decide (x121 > x130)) with hc141 | hc141
                    · skip
                      have hg140 := if_t hc141 hg140
                      refine XL_q (w_take rfl hc141) (qt_move rfl) rfl rfl ?_
                      refine XL_q (w_take rfl hc141) (qt_move rfl) rfl rfl ?_
                      obtain ⟨x142, hx143, hg140⟩ := bind_some hg140
                      refine XL_indexH H119.ctx (Has.c (Has.hd)) hx143 u23 i3 (w_take rfl hc141) rfl rfl rfl (fun b144 off145 cap146 hv147 => ?_)
                      obtain ⟨F148, hat149, hdup150⟩ := H119.at (Has.c (Has.hd)) hx143 hv147
                      refine XL_load_int (k := .i64) u3 rfl hat149 (w_take rfl hc141) rfl rfl ?_
                      refine XL_q (w_take rfl hc141) (qt_move rfl) rfl rfl ?_
                      refine XL_q (w_take rfl hc141) (qt_move rfl) rfl rfl ?_
                      obtain ⟨x151, hx152, hg140⟩ := bind_some hg140
                      refine XL_indexH H119.ctx (Has.c (Has.hd)) hx152 u23 i3 (w_take rfl hc141) rfl rfl rfl (fun b153 off154 cap155 hv156 => ?_)
                      obtain ⟨F157, hat158, hdup159⟩ := H119.at (Has.c (Has.hd)) hx152 hv156
                      refine XL_load_int (k := .i64) u3 rfl hat158 (w_take rfl hc141) rfl rfl ?_
                      refine XL_q (w_take rfl hc141) (qt_lss rfl rfl) rfl rfl ?_
                      refine XL_q rfl (qt_pickT rfl hc141 rfl) rfl rfl ?_
                      exact hk _ (Cov.same (vb hg140) (Cov.fresh rfl (Cov.fresh rfl (Cov.fresh rfl (Cov.fresh rfl (Cov.fresh rfl (Cov.fresh rfl (Cov.fresh rfl (Cov.fresh rfl (Cov.fresh rfl (Cov.refl)))))))))))
                    · skip
                      refine XL_skip (w_skip rfl hc141) rfl rfl ?_
                      refine XL_skip (w_skip rfl hc141) rfl rfl ?_
                      refine XL_skip (w_skip rfl hc141) rfl rfl ?_
                      refine XL_skip (w_skip rfl hc141) rfl rfl ?_
                      refine XL_skip (w_skip rfl hc141) rfl rfl ?_
                      refine XL_skip (w_skip rfl hc141) rfl rfl ?_
                      refine XL_skip (w_skip rfl hc141) rfl rfl ?_
                      refine XL_skip (w_skip rfl hc141) rfl rfl ?_
                      refine XL_skip (w_skip rfl hc141) rfl rfl ?_
                      refine XL_q rfl (qt_pickF rfl hc141 rfl) rfl rfl ?_
                      exact hk _ (Cov.same (vb (if_f hc141 hg140)) (Cov.fresh rfl (Cov.fresh rfl (Cov.fresh rfl (Cov.fresh rfl (Cov.fresh rfl (Cov.fresh rfl (Cov.fresh rfl (Cov.fresh rfl (Cov.fresh rfl (Cov.refl)))))))))))
                  refine QL_nil fun a ha w160 hb161 => ?_
                  have H162 : Holds (([] : List Res).flatMap Res.own) w w160 [.sl 3 (.int .i64) v6 x2.1, .sl 3 (.int .i64) v12 x8] G := H119.grow hb161
                  refine nrm_seq (WP.app ?_ ha)
                  refine WP_cond rfl (fun hc163 => ?_) (fun hc163 => ?_)
                  · have hs116 := if_t hc163 hs116
                    refine WP_seq ?_
                    refine WP_region ?_
                    refine XL_q rfl (qt_assign rfl) rfl rfl ?_
                    refine WL_nil_seq ?_
                    refine WP_ret fun a ha => ?_
                    obtain rfl := Option.some.inj hs116
                    have H164 : Holds (([] : List Res).flatMap Res.own) w w160 [] G := ((H162.cut 0).cut 0)
                    exact ret_block (ret_seq (⟨ret_ne, rfl, ha.sub ⟨rfl, trivial⟩, H164⟩))
                  · have hs116 := if_f hc163 hs116
                    refine WP_skip fun a ha => ?_
                    refine nrm_block (nrm_seq (WP.app ?_ ha))
                    refine WP_region ?_
                    refine XL_q rfl (qt_move rfl) rfl rfl ?_
                    refine XL_q rfl (qt_add rfl rfl) rfl rfl ?_
                    refine XL_q rfl (qt_assign rfl) rfl rfl ?_
                    refine WL_nil fun a ha => ?_
                    obtain rfl := Option.some.inj hs116
                    have H165 : Holds (([] : List Res).flatMap Res.own) w w160 [.sl 3 (.int .i64) v6 x2.1, .sl 3 (.int .i64) v12 x8] G := ((H162.pull 1).pull 1)
                    exact ⟨rfl, ha.sub ⟨rfl, rfl, rfl, rfl, rfl, rfl, trivial⟩, H165⟩
                · have hs116 := if_f hc120 hs116
                  refine WP_exit fun a ha => ?_
                  obtain rfl := Option.some.inj hs116
                  have H166 : Holds (([] : List Res).flatMap Res.own) w w115 [.sl 3 (.int .i64) v6 x2.1, .sl 3 (.int .i64) v12 x8] G := ((H119.pull 1).pull 1)
                  exact exit_seq (⟨exit_ne, rfl, ha.sub ⟨rfl, rfl, rfl, rfl, rfl, trivial⟩, H166⟩)
              · intro e a112 w167 hO168
                rcases o110 with o110 | o110
                · skip
                  obtain ⟨rfl, hO170⟩ := hO168
                  obtain ⟨ha, H169⟩ := hO170
                  refine exit_block_eq (nrm_block (nrm_seq (WP.app ?_ ha)))
                  refine WP_region ?_
                  refine XL_q rfl (qt_move rfl) rfl rfl ?_
                  refine XL_q rfl (qt_add rfl rfl) rfl rfl ?_
                  refine XL_q rfl (qt_assign rfl) rfl rfl ?_
                  refine WL_nil fun a ha => ?_
                  obtain rfl := Option.some.inj hs56
                  have H171 : Holds (([] : List Res).flatMap Res.own) w w167 [.sl 3 (.int .i64) v6 x2.1, .sl 3 (.int .i64) v12 x8] G := ((H169.pull 1).pull 1)
                  exact ⟨rfl, ha.sub ⟨rfl, rfl, rfl, rfl, rfl, trivial⟩, H171⟩
                · skip
                  obtain ⟨p172, rfl⟩ : ∃ z, z = o110 := ⟨o110, rfl⟩
                  obtain ⟨rfl, hO174⟩ := hO168
                  obtain ⟨ha, H173⟩ := hO174
                  obtain rfl := Option.some.inj hs56
                  exact ret_block (ret_block (ret_seq (⟨ret_ne, rfl, ha.sub ⟨rfl, trivial⟩, H173⟩)))
          · have hs56 := if_f hc60 hs56
            refine WP_exit fun a ha => ?_
            obtain rfl := Option.some.inj hs56
            have H175 : Holds (([] : List Res).flatMap Res.own) w w55 [.sl 3 (.int .i64) v12 x8] G := (H59.cut 0)
            exact exit_seq (⟨exit_ne, rfl, ha.sub ⟨rfl, rfl, trivial⟩, H175⟩)
        · intro e a52 w176 hO177
          rcases o50 with o50 | o50
          · skip
            obtain ⟨rfl, hO179⟩ := hO177
            obtain ⟨ha, H178⟩ := hO179
            refine exit_block_eq (nrm_seq (WP.app ?_ ha))
            refine WP_seq ?_
            refine WP_still ?_
            refine XL_q rfl (qt_move rfl) rfl rfl ?_
            obtain ⟨x180, hx181, h⟩ := bind_some h
            refine QL_call rfl rfl c34 (fun w' hb => (w_laws_sumOf w' ([.sl 3 (.int .i64) v12 x8] ++ G) v12 x8 (Has.hd) x180 hx181 (H178.grow hb).ctx).mono fun e w'' hK => ⟨hK.1, hK.2.bel⟩) (by rfl) ?_
            refine XL_q rfl (qt_move rfl) rfl rfl ?_
            refine XL_q rfl (qt_eql rfl rfl) rfl rfl ?_
            refine XL_q rfl (qt_assign rfl) rfl rfl ?_
            refine QL_nil fun a ha w182 hb183 => ?_
            have H184 : Holds (([] : List Res).flatMap Res.own) w w182 [.sl 3 (.int .i64) v12 x8] G := H178.grow hb183
            refine nrm_seq (WP.app ?_ ha)
            refine WP_ret fun a ha => ?_
            obtain rfl := Option.some.inj h
            have H185 : Holds (([] : List Res).flatMap Res.own) w w182 [] G := (H184.cut 0)
            exact ret1 rfl ha rfl ⟨rfl, H185⟩
          · skip
            obtain ⟨p186, rfl⟩ : ∃ z, z = o50 := ⟨o50, rfl⟩
            obtain ⟨rfl, hO188⟩ := hO177
            obtain ⟨ha, H187⟩ := hO188
            obtain rfl := Option.some.inj h
            exact ret_block (ret_seq (ret1 rfl ha rfl ⟨rfl, H187⟩))
theorem w_spec_DrawSettleLeast (w : World) (G : List Res) (vp0 : Value) (p0 : List Int) (hp0 : HasRo G (.int .u8) vp0 p0) (r : (List Int)) (h : spec_DrawSettleLeastS p0 = some r) (H : Ctx w G) : Calls Tryd.prog 35 #[vp0] w fun e w' => ∃ (v1 : Value), e = .returned (v1) ∧ Holds (([] : List Res).flatMap Res.own) w w' [.sl 3 (.int .i64) v1 r] G := by
  have H : Holds (([] : List Res).flatMap Res.own) w w [] G := Holds.startN H
  refine calls_enter (args := [vp0]) (n := 6) Tryd.func35 rfl rfl rfl ?_
  unfold spec_DrawSettleLeastS at h
  refine WP_seq ?_
  refine WP_region ?_
  refine XL_q rfl (qt_assign rfl) rfl rfl ?_
  refine WL_nil_seq ?_
  refine WP_seq ?_
  refine WP_region ?_
  refine XL_q rfl (qt_move rfl) rfl rfl ?_
  obtain ⟨x1, hx2, h⟩ := bind_some h
  refine WL_call rfl rfl c44 (w_spec_l20Open w G vp0 p0 (hp0) x1 hx2 H.ctx) (by rfl) ?_
  rintro _ w3 ⟨v5, b6, rfl, H4⟩; refine ⟨_, rfl, ?_⟩
  have H7 : Holds (([] : List Res).flatMap Res.own) w w3 [.ro (.int .u8) v5 x1.1, .bx b6 69 [v5, .int .i64 x1.2]] G := H.calledN (Rs := []) H4
  have H10 : Holds (([] : List Res).flatMap Res.own) w w3 [.bx b6 69 [v5, .int .i64 x1.2], .ro (.int .u8) v5 x1.1] G := H7.pull 1
  obtain ⟨x8, hx9, h⟩ := bind_some h
  refine WL_call rfl rfl c43 (w_spec_l20Owed w3 ([.ro (.int .u8) v5 x1.1] ++ G) b6 v5 x1.1 (HasRo.has (HasRo.hd)) x1.2 9 x8 hx9 H10.ctx) (by rfl) ?_
  rintro _ w11 ⟨v13, rfl, H12⟩; refine ⟨_, rfl, ?_⟩
  have H14 : Holds (([] : List Res).flatMap Res.own) w w11 [.sl 3 (.int .i64) v13 x8.2, .bx b6 69 [v5, .int .i64 x8.1], .ro (.int .u8) v5 x1.1] G := H10.calledN (Rs := [_]) H12
  refine XL_q rfl (qt_assign rfl) rfl rfl ?_
  refine WL_nil_seq ?_
  refine WP_ret fun a ha => ?_
  obtain rfl := Option.some.inj h
  have H15 : Holds (([] : List Res).flatMap Res.own) w w11 [.sl 3 (.int .i64) v13 x8.2] G := ((H14.cut 1).cut 1)
  exact ret1 rfl ha rfl ⟨v13, rfl, H15⟩
theorem w_spec_SettleLeast (w : World) (G : List Res) (vp0 : Value) (p0 : List Int) (hp0 : Has G (.int .i64) vp0 p0) (r : Int) (h : spec_SettleLeastS p0 = some r) (H : Ctx w G) : Calls Tryd.prog 36 #[vp0] w fun e w' => e = .returned (.int .i64 r) ∧ Holds (([] : List Res).flatMap Res.own) w w' [] G := by
  have H : Holds (([] : List Res).flatMap Res.own) w w [] G := Holds.startN H
  refine calls_enter (args := [vp0]) (n := 25) Tryd.func36 rfl rfl rfl ?_
  unfold spec_SettleLeastS at h
  refine WP_seq ?_
  refine WP_region ?_
  refine XL_q rfl (qt_assign rfl) rfl rfl ?_
  refine WL_nil_seq ?_
  refine WP_seq ?_
  refine WP_seq ?_
  refine WP_still ?_
  refine XL_q rfl (qt_move rfl) rfl rfl ?_
  obtain ⟨x1, hx2, h⟩ := bind_some h
  refine QL_call rfl rfl c14 (fun w' hb => (w_spec_OwedValid w' G vp0 p0 (hp0) x1 hx2 (H.grow hb).ctx).mono fun e w'' hK => ⟨hK.1, hK.2.bel⟩) (by rfl) ?_
  refine XL_q rfl (qt_not rfl) rfl rfl ?_
  refine QL_nil fun a ha w3 hb4 => ?_
  have H5 : Holds (([] : List Res).flatMap Res.own) w w3 [] G := H.grow hb4
  refine nrm_seq (WP.app ?_ ha)
  refine WP_cond rfl (fun hc6 => ?_) (fun hc6 => ?_)
  · have h := if_t hc6 h
    refine WP_seq ?_
    refine WP_region ?_
    refine XL_q rfl (qt_assign rfl) rfl rfl ?_
    refine WL_nil_seq ?_
    refine WP_ret fun a ha => ?_
    obtain rfl := Option.some.inj h
    exact ret_seq (ret1 rfl ha rfl ⟨rfl, H5⟩)
  · have h := if_f hc6 h
    refine WP_skip_seq ?_
    refine WP_seq ?_
    refine WP_region ?_
    refine XL_q rfl (qt_assign rfl) rfl rfl ?_
    refine WL_nil_seq ?_
    refine WP_seq ?_
    refine WP_seq ?_
    refine WP_region ?_
    refine XL_q rfl (qt_assign rfl) rfl rfl ?_
    refine WL_nil_seq ?_
    refine WP_block ?_
    obtain ⟨o9, ho10, h⟩ := bind_some h
    refine fun a11 ha12 => wp_loop_fix (I := fun s a w2 => match s with | (s7, s8) => (Fr a 25 [(0, vp0), (3, .int .i64 s7), (4, .int .i64 s8)] ∧ Holds (([] : List Res).flatMap Res.own) w w2 [] G)) (O := fun o e a w2 => match o with | q0 => e = .exit 0 ∧ (Fr a 25 [(0, vp0), (3, .int .i64 q0)] ∧ Holds (([] : List Res).flatMap Res.own) w w2 [] G)) ho10 ?_ ?_ ?_
    · exact ⟨ha12.sub ⟨rfl, rfl, rfl, trivial⟩, H5⟩
    · clear ha12
      intro s o15 a w13 hs14 hI16
      obtain ⟨s7, s8⟩ := s
      obtain ⟨ha, H17⟩ := hI16
      refine WP.app ?_ ha
      clear ha
      refine WP_seq ?_
      refine WP_seq ?_
      refine WP_region ?_
      refine XL_q rfl (qt_move rfl) rfl rfl ?_
      refine XL_q rfl (qt_move rfl) rfl rfl ?_
      refine XL_lenH H17.ctx (t := (.int .i64)) (hp0) u23 rfl rfl rfl ?_
      refine XL_q rfl (qt_lss rfl rfl) rfl rfl ?_
      refine WL_nil_seq ?_
      refine WP_cond rfl (fun hc18 => ?_) (fun hc18 => ?_)
      · have hs14 := if_t hc18 hs14
        refine WP_skip_seq ?_
        refine WP_seq ?_
        refine WP_block ?_
        refine WP_seq ?_
        refine WP_region ?_
        refine XL_q rfl (qt_move rfl) rfl rfl ?_
        refine XL_q rfl (qt_move rfl) rfl rfl ?_
        obtain ⟨x19, hx20, hs14⟩ := bind_some hs14
        refine XL_indexH H17.ctx (hp0) hx20 u23 i3 rfl rfl rfl rfl (fun b21 off22 cap23 hv24 => ?_)
        obtain ⟨F25, hat26, hdup27⟩ := H17.at (hp0) hx20 hv24
        refine XL_load_int (k := .i64) u3 rfl hat26 rfl rfl rfl ?_
        refine XL_q rfl (qt_neq rfl rfl) rfl rfl ?_
        refine WL_nil_seq ?_
        refine WP_cond rfl (fun hc28 => ?_) (fun hc28 => ?_)
        · have hs14 := if_t hc28 hs14
          refine WP_region ?_
          refine XL_q rfl (qt_move rfl) rfl rfl ?_
          refine XL_q rfl (qt_add rfl rfl) rfl rfl ?_
          refine XL_q rfl (qt_assign rfl) rfl rfl ?_
          refine WL_nil fun a ha => ?_
          refine nrm_block (nrm_seq (WP.app ?_ ha))
          refine WP_region ?_
          refine XL_q rfl (qt_move rfl) rfl rfl ?_
          refine XL_q rfl (qt_add rfl rfl) rfl rfl ?_
          refine XL_q rfl (qt_assign rfl) rfl rfl ?_
          refine WL_nil fun a ha => ?_
          obtain rfl := Option.some.inj hs14
          exact ⟨rfl, ha.sub ⟨rfl, rfl, rfl, trivial⟩, H17⟩
        · have hs14 := if_f hc28 hs14
          refine WP_skip fun a ha => ?_
          refine nrm_block (nrm_seq (WP.app ?_ ha))
          refine WP_region ?_
          refine XL_q rfl (qt_move rfl) rfl rfl ?_
          refine XL_q rfl (qt_add rfl rfl) rfl rfl ?_
          refine XL_q rfl (qt_assign rfl) rfl rfl ?_
          refine WL_nil fun a ha => ?_
          obtain rfl := Option.some.inj hs14
          exact ⟨rfl, ha.sub ⟨rfl, rfl, rfl, trivial⟩, H17⟩
      · have hs14 := if_f hc18 hs14
        refine WP_exit fun a ha => ?_
        obtain rfl := Option.some.inj hs14
        exact exit_seq (⟨exit_ne, rfl, ha.sub ⟨rfl, rfl, trivial⟩, H17⟩)
    · intro e a11 w29 hO30
      obtain ⟨p31, rfl⟩ : ∃ z, z = o9 := ⟨o9, rfl⟩
      obtain ⟨rfl, hO33⟩ := hO30
      obtain ⟨ha, H32⟩ := hO33
      refine exit_block_eq (nrm_seq (WP.app ?_ ha))
      refine WP_seq ?_
      refine WP_still ?_
      refine XL_q rfl (qt_move rfl) rfl rfl ?_
      refine XL_q rfl (qt_move rfl) rfl rfl ?_
      obtain ⟨x34, hx35, h⟩ := bind_some h
      refine QL_call rfl rfl c21 (fun w' hb => (w_spec_GroupsMost w' G vp0 p0 (hp0) x34 hx35 (H32.grow hb).ctx).mono fun e w'' hK => ⟨hK.1, hK.2.bel⟩) (by rfl) ?_
      refine XL_q rfl (qt_sub rfl rfl) rfl rfl ?_
      refine XL_q rfl (qt_assign rfl) rfl rfl ?_
      refine QL_nil fun a ha w36 hb37 => ?_
      have H38 : Holds (([] : List Res).flatMap Res.own) w w36 [] G := H32.grow hb37
      refine nrm_seq (WP.app ?_ ha)
      refine WP_ret fun a ha => ?_
      obtain rfl := Option.some.inj h
      exact ret1 rfl ha rfl ⟨rfl, H38⟩
theorem w_impl_leastGroup (w : World) (G : List Res) (vp0 : Value) (p0 : List Int) (hp0 : Has G (.int .i64) vp0 p0) (p1 : Int) (r : Int) (h : impl_leastGroupS p0 p1 = some r) (H : Ctx w G) : Calls Tryd.prog 62 #[vp0, .int .i64 p1] w fun e w' => e = .returned (.int .i64 r) ∧ Holds (([] : List Res).flatMap Res.own) w w' [] G := by
  have H : Holds (([] : List Res).flatMap Res.own) w w [] G := Holds.startN H
  refine calls_enter (args := [vp0, .int .i64 p1]) (n := 38) Tryd.func62 rfl rfl rfl ?_
  unfold impl_leastGroupS at h
  refine WP_seq ?_
  refine WP_region ?_
  refine XL_q rfl (qt_assign rfl) rfl rfl ?_
  refine WL_nil_seq ?_
  refine WP_seq ?_
  refine WP_seq ?_
  refine WP_region ?_
  refine XL_q rfl (qt_assign rfl) rfl rfl ?_
  refine WL_nil_seq ?_
  refine WP_block ?_
  obtain ⟨o2, ho3, h⟩ := bind_some h
  refine fun a4 ha5 => wp_loop_fix (I := fun s a w2 => match s with | s1 => (Fr a 38 [(0, vp0), (1, .int .i64 p1), (5, .int .i64 s1)] ∧ Holds (([] : List Res).flatMap Res.own) w w2 [] G)) (O := fun o e a w2 => match o with | .inl _ => e = .exit 0 ∧ (Fr a 38 [(1, .int .i64 p1)] ∧ Holds (([] : List Res).flatMap Res.own) w w2 [] G) | .inr q0 => e = .ret ∧ (Fr a 38 [(4, .int .i64 q0)] ∧ Holds (([] : List Res).flatMap Res.own) w w2 [] G)) ho3 ?_ ?_ ?_
  · exact ⟨ha5.sub ⟨rfl, rfl, rfl, trivial⟩, H⟩
  · clear ha5
    intro s o8 a w6 hs7 hI9
    obtain ⟨s1, rfl⟩ : ∃ z, z = s := ⟨s, rfl⟩
    obtain ⟨ha, H10⟩ := hI9
    refine WP.app ?_ ha
    clear ha
    refine WP_seq ?_
    refine WP_seq ?_
    refine WP_region ?_
    refine XL_q rfl (qt_move rfl) rfl rfl ?_
    refine XL_q rfl (qt_move rfl) rfl rfl ?_
    refine XL_q rfl (qt_lss rfl rfl) rfl rfl ?_
    refine WL_nil_seq ?_
    refine WP_cond rfl (fun hc11 => ?_) (fun hc11 => ?_)
    · have hs7 := if_t hc11 hs7
      refine WP_skip_seq ?_
      refine WP_seq ?_
      refine WP_block ?_
      refine WP_seq ?_
      refine WP_quiet (by kernel_rfl) (by kernel_rfl) ?_
      refine XL_q rfl (qt_move rfl) rfl rfl ?_
      refine XL_q rfl (qt_move rfl) rfl rfl ?_
      refine XL_q rfl (qt_andNot rfl rfl) rfl rfl ?_
      refine XL_q rfl (qt_eql rfl rfl) rfl rfl ?_
      refine XL_q rfl (qt_move rfl) rfl rfl ?_
      obtain ⟨b12, hg13, hs7⟩ := bind_some hs7
      refine XL_join 6 21 (.bool b12) ?_ (fun md hmd hk => ?_)
      rotate_left
      · obtain ⟨K, rfl⟩ := Md.quiet_of hmd
        rcases btf ((iandNot .i64 s1 p1) == 0) with hc14 | hc14
        · skip
          have hg13 := if_t hc14 hg13
          refine XL_q (w_take rfl hc14) (qt_move rfl) rfl rfl ?_
          refine XL_q (w_take rfl hc14) (qt_move rfl) rfl rfl ?_
          obtain ⟨x15, hx16, hg13⟩ := bind_some hg13
          refine XL_indexH H10.ctx (hp0) hx16 u23 i3 (w_take rfl hc14) rfl rfl rfl (fun b17 off18 cap19 hv20 => ?_)
          obtain ⟨F21, hat22, hdup23⟩ := H10.at (hp0) hx16 hv20
          refine XL_load_int (k := .i64) u3 rfl hat22 (w_take rfl hc14) rfl rfl ?_
          refine XL_q (w_take rfl hc14) (qt_eql rfl rfl) rfl rfl ?_
          refine XL_q rfl (qt_pickT rfl hc14 rfl) rfl rfl ?_
          exact hk _ (Cov.same (vb hg13) (Cov.fresh rfl (Cov.fresh rfl (Cov.fresh rfl (Cov.fresh rfl (Cov.fresh rfl (Cov.refl)))))))
        · skip
          refine XL_skip (w_skip rfl hc14) rfl rfl ?_
          refine XL_skip (w_skip rfl hc14) rfl rfl ?_
          refine XL_skip (w_skip rfl hc14) rfl rfl ?_
          refine XL_skip (w_skip rfl hc14) rfl rfl ?_
          refine XL_skip (w_skip rfl hc14) rfl rfl ?_
          refine XL_q rfl (qt_pickF rfl hc14 rfl) rfl rfl ?_
          exact hk _ (Cov.same (vb (if_f hc14 hg13)) (Cov.fresh rfl (Cov.fresh rfl (Cov.fresh rfl (Cov.fresh rfl (Cov.fresh rfl (Cov.refl)))))))
      refine XL_q rfl (qt_move rfl) rfl rfl ?_
      obtain ⟨b24, hg25, hs7⟩ := bind_some hs7
      refine XL_join 13 35 (.bool b24) ?_ (fun md hmd hk => ?_)
      rotate_left
      · obtain ⟨K, rfl⟩ := Md.quiet_of hmd
        rcases btf b12 with hc26 | hc26
        · skip
          have hg25 := if_t hc26 hg25
          refine XL_q (w_take rfl hc26) (qt_move rfl) rfl rfl ?_
          refine XL_q (w_take rfl hc26) (qt_move rfl) rfl rfl ?_
          refine XL_q (w_take rfl hc26) (qt_move rfl) rfl rfl ?_
          refine XL_q (w_take rfl hc26) (qt_andNot rfl rfl) rfl rfl ?_
          obtain ⟨x27, hx28, hg25⟩ := bind_some hg25
          refine XL_indexH H10.ctx (hp0) hx28 u23 i3 (w_take rfl hc26) rfl rfl rfl (fun b29 off30 cap31 hv32 => ?_)
          obtain ⟨F33, hat34, hdup35⟩ := H10.at (hp0) hx28 hv32
          refine XL_load_int (k := .i64) u3 rfl hat34 (w_take rfl hc26) rfl rfl ?_
          refine XL_q (w_take rfl hc26) (qt_move rfl) rfl rfl ?_
          refine XL_q (w_take rfl hc26) (qt_move rfl) rfl rfl ?_
          obtain ⟨x36, hx37, hg25⟩ := bind_some hg25
          refine XL_indexH H10.ctx (hp0) hx37 u23 i3 (w_take rfl hc26) rfl rfl rfl (fun b38 off39 cap40 hv41 => ?_)
          obtain ⟨F42, hat43, hdup44⟩ := H10.at (hp0) hx37 hv41
          refine XL_load_int (k := .i64) u3 rfl hat43 (w_take rfl hc26) rfl rfl ?_
          refine XL_q (w_take rfl hc26) (qt_sub rfl rfl) rfl rfl ?_
          refine XL_q (w_take rfl hc26) (qt_eql rfl rfl) rfl rfl ?_
          refine XL_q rfl (qt_pickT rfl hc26 rfl) rfl rfl ?_
          exact hk _ (Cov.same (vb hg25) (Cov.fresh rfl (Cov.fresh rfl (Cov.fresh rfl (Cov.fresh rfl (Cov.fresh rfl (Cov.fresh rfl (Cov.fresh rfl (Cov.fresh rfl (Cov.fresh rfl (Cov.fresh rfl (Cov.fresh rfl (Cov.fresh rfl (Cov.refl))))))))))))))
        · skip
          refine XL_skip (w_skip rfl hc26) rfl rfl ?_
          refine XL_skip (w_skip rfl hc26) rfl rfl ?_
          refine XL_skip (w_skip rfl hc26) rfl rfl ?_
          refine XL_skip (w_skip rfl hc26) rfl rfl ?_
          refine XL_skip (w_skip rfl hc26) rfl rfl ?_
          refine XL_skip (w_skip rfl hc26) rfl rfl ?_
          refine XL_skip (w_skip rfl hc26) rfl rfl ?_
          refine XL_skip (w_skip rfl hc26) rfl rfl ?_
          refine XL_skip (w_skip rfl hc26) rfl rfl ?_
          refine XL_skip (w_skip rfl hc26) rfl rfl ?_
          refine XL_skip (w_skip rfl hc26) rfl rfl ?_
          refine XL_skip (w_skip rfl hc26) rfl rfl ?_
          refine XL_q rfl (qt_pickF rfl hc26 rfl) rfl rfl ?_
          exact hk _ (Cov.same (vb (if_f hc26 hg25)) (Cov.fresh rfl (Cov.fresh rfl (Cov.fresh rfl (Cov.fresh rfl (Cov.fresh rfl (Cov.fresh rfl (Cov.fresh rfl (Cov.fresh rfl (Cov.fresh rfl (Cov.fresh rfl (Cov.fresh rfl (Cov.fresh rfl (Cov.refl))))))))))))))
      refine QL_nil fun a ha w45 hb46 => ?_
      have H47 : Holds (([] : List Res).flatMap Res.own) w w45 [] G := H10.grow hb46
      refine nrm_seq (WP.app ?_ ha)
      refine WP_cond rfl (fun hc48 => ?_) (fun hc48 => ?_)
      · have hs7 := if_t hc48 hs7
        refine WP_seq ?_
        refine WP_region ?_
        refine XL_q rfl (qt_move rfl) rfl rfl ?_
        refine XL_q rfl (qt_assign rfl) rfl rfl ?_
        refine WL_nil_seq ?_
        refine WP_ret fun a ha => ?_
        obtain rfl := Option.some.inj hs7
        exact ret_block (ret_seq (⟨ret_ne, rfl, ha.sub ⟨rfl, trivial⟩, H47⟩))
      · have hs7 := if_f hc48 hs7
        refine WP_skip fun a ha => ?_
        refine nrm_block (nrm_seq (WP.app ?_ ha))
        refine WP_region ?_
        refine XL_q rfl (qt_move rfl) rfl rfl ?_
        refine XL_q rfl (qt_add rfl rfl) rfl rfl ?_
        refine XL_q rfl (qt_assign rfl) rfl rfl ?_
        refine WL_nil fun a ha => ?_
        obtain rfl := Option.some.inj hs7
        exact ⟨rfl, ha.sub ⟨rfl, rfl, rfl, trivial⟩, H47⟩
    · have hs7 := if_f hc11 hs7
      refine WP_exit fun a ha => ?_
      obtain rfl := Option.some.inj hs7
      exact exit_seq (⟨exit_ne, rfl, ha.sub ⟨rfl, trivial⟩, H10⟩)
  · intro e a4 w49 hO50
    rcases o2 with o2 | o2
    · skip
      obtain ⟨rfl, hO52⟩ := hO50
      obtain ⟨ha, H51⟩ := hO52
      refine exit_block_eq (nrm_seq (WP.app ?_ ha))
      refine WP_seq ?_
      refine WP_region ?_
      refine XL_q rfl (qt_move rfl) rfl rfl ?_
      refine XL_q rfl (qt_assign rfl) rfl rfl ?_
      refine WL_nil_seq ?_
      refine WP_ret fun a ha => ?_
      obtain rfl := Option.some.inj h
      exact ret1 rfl ha rfl ⟨rfl, H51⟩
    · skip
      obtain ⟨p53, rfl⟩ : ∃ z, z = o2 := ⟨o2, rfl⟩
      obtain ⟨rfl, hO55⟩ := hO50
      obtain ⟨ha, H54⟩ := hO55
      obtain rfl := Option.some.inj h
      exact ret_block (ret_seq (ret1 rfl ha rfl ⟨rfl, H54⟩))
theorem w_impl_SettleBest (w : World) (G : List Res) (vp0 : Value) (p0 : List Int) (hp0 : Has G (.int .i64) vp0 p0) (r : (List (Int × Int × Int))) (h : impl_SettleBestS p0 = some r) (H : Ctx w G) : Calls Tryd.prog 37 #[vp0] w fun e w' => ∃ (v1 : Value), e = .returned (v1) ∧ Holds (([] : List Res).flatMap Res.own) w w' [.sl 40 (.pair (.int .i64) (.pair (.int .i64) (.int .i64))) v1 r] G := by
  have H : Holds (([] : List Res).flatMap Res.own) w w [] G := Holds.startN H
  refine calls_enter (args := [vp0]) (n := 29) Tryd.func37 rfl rfl rfl ?_
  unfold impl_SettleBestS at h
  refine WP_seq ?_
  refine WP_region ?_
  refine XL_q rfl (qt_assign rfl) rfl rfl ?_
  refine WL_nil_seq ?_
  refine WP_seq ?_
  refine WP_seq ?_
  refine WP_still ?_
  refine XL_q rfl (qt_move rfl) rfl rfl ?_
  obtain ⟨x1, hx2, h⟩ := bind_some h
  refine QL_call rfl rfl c13 (fun w' hb => (w_impl_OwedValid w' G vp0 p0 (hp0) x1 hx2 (H.grow hb).ctx).mono fun e w'' hK => ⟨hK.1, hK.2.bel⟩) (by rfl) ?_
  refine XL_q rfl (qt_not rfl) rfl rfl ?_
  refine QL_nil fun a ha w3 hb4 => ?_
  have H5 : Holds (([] : List Res).flatMap Res.own) w w3 [] G := H.grow hb4
  refine nrm_seq (WP.app ?_ ha)
  refine WP_cond rfl (fun hc6 => ?_) (fun hc6 => ?_)
  · have h := if_t hc6 h
    refine WP_seq ?_
    refine WP_region ?_
    refine XL_q rfl (qt_assign rfl) rfl rfl ?_
    refine WL_nil_seq ?_
    refine WP_ret fun a ha => ?_
    obtain rfl := Option.some.inj h
    have H7 : Holds (([] : List Res).flatMap Res.own) w w3 [.sl 40 (.pair (.int .i64) (.pair (.int .i64) (.int .i64))) (.slice none 0 0) ([])] G := H5.nilSl
    exact ret_seq (ret1 rfl ha rfl ⟨(.slice none 0 0), rfl, H7⟩)
  · have h := if_f hc6 h
    refine WP_skip_seq ?_
    refine WP_seq ?_
    refine WP_region ?_
    refine XL_q rfl (qt_move rfl) rfl rfl ?_
    obtain ⟨x8, hx9, h⟩ := bind_some h
    refine WL_call rfl rfl c51 (w_impl_groupTable w3 G vp0 p0 (hp0) x8 hx9 H5.ctx) (by rfl) ?_
    rintro _ w10 ⟨v12, rfl, H11⟩; refine ⟨_, rfl, ?_⟩
    have H13 : Holds (([] : List Res).flatMap Res.own) w w10 [.sl 3 (.int .i64) v12 x8] G := H5.calledN (Rs := []) H11
    refine XL_q rfl (qt_assign rfl) rfl rfl ?_
    refine WL_nil_seq ?_
    refine WP_seq ?_
    refine WP_region ?_
    refine XL_q rfl (qt_assign rfl) rfl rfl ?_
    refine WL_nil_seq ?_
    refine WP_seq ?_
    refine WP_seq ?_
    refine WP_still ?_
    refine XL_q rfl (qt_move rfl) rfl rfl ?_
    obtain ⟨x14, hx15, h⟩ := bind_some h
    refine QL_call rfl rfl c52 (fun w' hb => (w_impl_concerned w' ([.sl 3 (.int .i64) v12 x8] ++ G) vp0 p0 (hp0.c) x14 hx15 (H13.grow hb).ctx).mono fun e w'' hK => ⟨hK.1, hK.2.bel⟩) (by rfl) ?_
    refine XL_q rfl (qt_assign rfl) rfl rfl ?_
    refine QL_nil fun a ha w16 hb17 => ?_
    have H18 : Holds (([] : List Res).flatMap Res.own) w w16 [.sl 3 (.int .i64) v12 x8] G := H13.grow hb17
    refine nrm_seq (WP.app ?_ ha)
    refine WP_block ?_
    have H21 : Holds (([] : List Res).flatMap Res.own) w w16 [.sl 40 (.pair (.int .i64) (.pair (.int .i64) (.int .i64))) (.slice none 0 0) ([]), .sl 3 (.int .i64) v12 x8] G := H18.nilSl
    obtain ⟨o22, ho23, h⟩ := bind_some h
    have H26 : Holds (([] : List Res).flatMap Res.own) w w16 [.sl 3 (.int .i64) v12 x8, .sl 40 (.pair (.int .i64) (.pair (.int .i64) (.int .i64))) (.slice none 0 0) ([])] G := (H21.pull 1)
    refine fun a24 ha25 => wp_loop_fix (I := fun s a w2 => match s with | (s19, s20) => ∃ vs19, Fr a 29 [(0, vp0), (3, v12), (4, vs19), (5, .int .i64 s20)] ∧ Holds (([] : List Res).flatMap Res.own) w w2 [.sl 3 (.int .i64) v12 x8, .sl 40 (.pair (.int .i64) (.pair (.int .i64) (.int .i64))) vs19 s19] G) (O := fun o e a w2 => match o with | q0 => e = .exit 0 ∧ ∃ vq0, Fr a 29 [(4, vq0)] ∧ Holds (([] : List Res).flatMap Res.own) w w2 [.sl 40 (.pair (.int .i64) (.pair (.int .i64) (.int .i64))) vq0 q0] G) ho23 ?_ ?_ ?_
    · exact ⟨(.slice none 0 0), ha25.sub ⟨rfl, rfl, rfl, rfl, trivial⟩, H26⟩
    · clear ha25
      intro s o29 a w27 hs28 hI30
      obtain ⟨s19, s20⟩ := s
      obtain ⟨vs19, ha, H31⟩ := hI30
      refine WP.app ?_ ha
      clear ha
      refine WP_seq ?_
      refine WP_seq ?_
      refine WP_region ?_
      refine XL_q rfl (qt_move rfl) rfl rfl ?_
      refine XL_q rfl (qt_neq rfl rfl) rfl rfl ?_
      refine WL_nil_seq ?_
      refine WP_cond rfl (fun hc32 => ?_) (fun hc32 => ?_)
      · have hs28 := if_t hc32 hs28
        refine WP_skip_seq ?_
        refine WP_block ?_
        refine WP_seq ?_
        refine WP_still ?_
        refine XL_q rfl (qt_move rfl) rfl rfl ?_
        refine XL_q rfl (qt_move rfl) rfl rfl ?_
        obtain ⟨x33, hx34, hs28⟩ := bind_some hs28
        refine QL_call rfl rfl c62 (fun w' hb => (w_impl_leastGroup w' ([.sl 3 (.int .i64) v12 x8, .sl 40 (.pair (.int .i64) (.pair (.int .i64) (.int .i64))) vs19 s19] ++ G) v12 x8 (Has.hd) s20 x33 hx34 (H31.grow hb).ctx).mono fun e w'' hK => ⟨hK.1, hK.2.bel⟩) (by rfl) ?_
        refine XL_q rfl (qt_assign rfl) rfl rfl ?_
        refine QL_nil fun a ha w35 hb36 => ?_
        have H37 : Holds (([] : List Res).flatMap Res.own) w w35 [.sl 3 (.int .i64) v12 x8, .sl 40 (.pair (.int .i64) (.pair (.int .i64) (.int .i64))) vs19 s19] G := H31.grow hb36
        refine nrm_seq (WP.app ?_ ha)
        refine WP_seq ?_
        refine WP_region ?_
        refine XL_q rfl (qt_move rfl) rfl rfl ?_
        refine XL_q rfl (qt_move rfl) rfl rfl ?_
        refine XL_q rfl (qt_move rfl) rfl rfl ?_
        obtain ⟨x38, hx39, hs28⟩ := bind_some hs28
        refine WL_call rfl rfl c63 (w_impl_onlyOf w35 ([.sl 3 (.int .i64) v12 x8, .sl 40 (.pair (.int .i64) (.pair (.int .i64) (.int .i64))) vs19 s19] ++ G) vp0 p0 (hp0.c.c) x33 x38 hx39 H37.ctx) (by rfl) ?_
        rintro _ w40 ⟨v42, rfl, H41⟩; refine ⟨_, rfl, ?_⟩
        have H43 : Holds (([] : List Res).flatMap Res.own) w w40 [.sl 3 (.int .i64) v42 x38, .sl 3 (.int .i64) v12 x8, .sl 40 (.pair (.int .i64) (.pair (.int .i64) (.int .i64))) vs19 s19] G := H37.calledN (Rs := []) H41
        obtain ⟨x44, hx45, hs28⟩ := bind_some hs28
        refine WL_call rfl rfl c23 (w_impl_SettleFast w40 ([.sl 3 (.int .i64) v42 x38, .sl 3 (.int .i64) v12 x8, .sl 40 (.pair (.int .i64) (.pair (.int .i64) (.int .i64))) vs19 s19] ++ G) v42 x38 (Has.hd) x44 hx45 H43.ctx) (by rfl) ?_
        rintro _ w46 ⟨v48, rfl, H47⟩; refine ⟨_, rfl, ?_⟩
        have H49 : Holds (([] : List Res).flatMap Res.own) w w46 [.sl 40 (.pair (.int .i64) (.pair (.int .i64) (.int .i64))) v48 x44, .sl 3 (.int .i64) v42 x38, .sl 3 (.int .i64) v12 x8, .sl 40 (.pair (.int .i64) (.pair (.int .i64) (.int .i64))) vs19 s19] G := H43.calledN (Rs := []) H47
        have H50 : Holds (([] : List Res).flatMap Res.own) w w46 [.sl 40 (.pair (.int .i64) (.pair (.int .i64) (.int .i64))) vs19 s19, .sl 40 (.pair (.int .i64) (.pair (.int .i64) (.int .i64))) v48 x44, .sl 3 (.int .i64) v42 x38, .sl 3 (.int .i64) v12 x8] G := H49.pull 3
        obtain ⟨x51, hx52, hs28⟩ := bind_some hs28
        refine WL_appendH H50 (Has.c (Has.hd)) hx52 u29 j40 rfl rfl rfl rfl rfl rfl (fun v53 w54 H55 => ?_)
        have H56 : Holds (([] : List Res).flatMap Res.own) w w54 [.sl 40 (.pair (.int .i64) (.pair (.int .i64) (.int .i64))) v53 x51, .sl 40 (.pair (.int .i64) (.pair (.int .i64) (.int .i64))) v48 x44, .sl 3 (.int .i64) v42 x38, .sl 3 (.int .i64) v12 x8] G := H55
        refine XL_q rfl (qt_assign rfl) rfl rfl ?_
        refine WL_nil_seq ?_
        refine WP_region ?_
        refine XL_q rfl (qt_move rfl) rfl rfl ?_
        refine XL_q rfl (qt_move rfl) rfl rfl ?_
        refine XL_q rfl (qt_andNot rfl rfl) rfl rfl ?_
        refine XL_q rfl (qt_assign rfl) rfl rfl ?_
        refine WL_nil fun a ha => ?_
        obtain rfl := Option.some.inj hs28
        have H57 : Holds (([] : List Res).flatMap Res.own) w w54 [.sl 3 (.int .i64) v12 x8, .sl 40 (.pair (.int .i64) (.pair (.int .i64) (.int .i64))) v53 x51] G := (((H56.cut 1).cut 1).pull 1)
        exact nrm_block (⟨rfl, v53, ha.sub ⟨rfl, rfl, rfl, rfl, trivial⟩, H57⟩)
      · have hs28 := if_f hc32 hs28
        refine WP_exit fun a ha => ?_
        obtain rfl := Option.some.inj hs28
        have H58 : Holds (([] : List Res).flatMap Res.own) w w27 [.sl 40 (.pair (.int .i64) (.pair (.int .i64) (.int .i64))) vs19 s19] G := (H31.cut 0)
        exact exit_seq (⟨exit_ne, rfl, vs19, ha.sub ⟨rfl, trivial⟩, H58⟩)
    · intro e a24 w59 hO60
      obtain ⟨p61, rfl⟩ : ∃ z, z = o22 := ⟨o22, rfl⟩
      obtain ⟨rfl, hO63⟩ := hO60
      obtain ⟨vp61, ha, H62⟩ := hO63
      refine exit_block_eq (nrm_seq (WP.app ?_ ha))
      refine WP_seq ?_
      refine WP_region ?_
      refine XL_q rfl (qt_move rfl) rfl rfl ?_
      refine XL_q rfl (qt_assign rfl) rfl rfl ?_
      refine WL_nil_seq ?_
      refine WP_ret fun a ha => ?_
      obtain rfl := Option.some.inj h
      exact ret1 rfl ha rfl ⟨vp61, rfl, H62⟩
theorem w_laws_FnSettleLeast (w : World) (G : List Res) (vp0 : Value) (p0 : List Int) (hp0 : HasRo G (.int .u8) vp0 p0) (r : Bool) (h : laws_FnSettleLeastS p0 = some r) (H : Ctx w G) : Calls Tryd.prog 9 #[vp0] w fun e w' => e = .returned (.bool r) ∧ Holds (([] : List Res).flatMap Res.own) w w' [] G := by
  have H : Holds (([] : List Res).flatMap Res.own) w w [] G := Holds.startN H
  refine calls_enter (args := [vp0]) (n := 60) Tryd.func9 rfl rfl rfl ?_
  unfold laws_FnSettleLeastS at h
  refine WP_seq ?_
  refine WP_region ?_
  refine XL_q rfl (qt_assign rfl) rfl rfl ?_
  refine WL_nil_seq ?_
  refine WP_seq ?_
  refine WP_seq ?_
  refine WP_region ?_
  refine XL_q rfl (qt_move rfl) rfl rfl ?_
  refine XL_lenH H.ctx (t := (.int .u8)) (hp0.has) u22 rfl rfl rfl ?_
  refine XL_q rfl (qt_gtr rfl rfl) rfl rfl ?_
  refine WL_nil_seq ?_
  refine WP_cond rfl (fun hc1 => ?_) (fun hc1 => ?_)
  · have h := if_t hc1 h
    refine WP_seq ?_
    refine WP_region ?_
    refine XL_q rfl (qt_assign rfl) rfl rfl ?_
    refine WL_nil_seq ?_
    refine WP_ret fun a ha => ?_
    obtain rfl := Option.some.inj h
    exact ret_seq (ret1 rfl ha rfl ⟨rfl, H⟩)
  · have h := if_f hc1 h
    refine WP_skip_seq ?_
    refine WP_seq ?_
    refine WP_region ?_
    refine XL_q rfl (qt_move rfl) rfl rfl ?_
    obtain ⟨x2, hx3, h⟩ := bind_some h
    refine WL_call rfl rfl c35 (w_spec_DrawSettleLeast w G vp0 p0 (hp0) x2 hx3 H.ctx) (by rfl) ?_
    rintro _ w4 ⟨v6, rfl, H5⟩; refine ⟨_, rfl, ?_⟩
    have H7 : Holds (([] : List Res).flatMap Res.own) w w4 [.sl 3 (.int .i64) v6 x2] G := H.calledN (Rs := []) H5
    refine XL_q rfl (qt_assign rfl) rfl rfl ?_
    refine WL_nil_seq ?_
    refine WP_seq ?_
    refine WP_still ?_
    refine XL_q rfl (qt_move rfl) rfl rfl ?_
    obtain ⟨x8, hx9, h⟩ := bind_some h
    refine QL_call rfl rfl c29 (fun w' hb => (w_impl_SettleLeast w' ([.sl 3 (.int .i64) v6 x2] ++ G) v6 x2 (Has.hd) x8 hx9 (H7.grow hb).ctx).mono fun e w'' hK => ⟨hK.1, hK.2.bel⟩) (by rfl) ?_
    refine XL_q rfl (qt_assign rfl) rfl rfl ?_
    refine QL_nil fun a ha w10 hb11 => ?_
    have H12 : Holds (([] : List Res).flatMap Res.own) w w10 [.sl 3 (.int .i64) v6 x2] G := H7.grow hb11
    refine nrm_seq (WP.app ?_ ha)
    refine WP_seq ?_
    refine WP_seq ?_
    refine WP_still ?_
    refine XL_q rfl (qt_move rfl) rfl rfl ?_
    refine XL_q rfl (qt_move rfl) rfl rfl ?_
    obtain ⟨x13, hx14, h⟩ := bind_some h
    refine QL_call rfl rfl c36 (fun w' hb => (w_spec_SettleLeast w' ([.sl 3 (.int .i64) v6 x2] ++ G) v6 x2 (Has.hd) x13 hx14 (H12.grow hb).ctx).mono fun e w'' hK => ⟨hK.1, hK.2.bel⟩) (by rfl) ?_
    refine XL_q rfl (qt_neq rfl rfl) rfl rfl ?_
    refine QL_nil fun a ha w15 hb16 => ?_
    have H17 : Holds (([] : List Res).flatMap Res.own) w w15 [.sl 3 (.int .i64) v6 x2] G := H12.grow hb16
    refine nrm_seq (WP.app ?_ ha)
    refine WP_cond rfl (fun hc18 => ?_) (fun hc18 => ?_)
    · have h := if_t hc18 h
      refine WP_seq ?_
      refine WP_region ?_
      refine XL_q rfl (qt_assign rfl) rfl rfl ?_
      refine WL_nil_seq ?_
      refine WP_ret fun a ha => ?_
      obtain rfl := Option.some.inj h
      have H19 : Holds (([] : List Res).flatMap Res.own) w w15 [] G := (H17.cut 0)
      exact ret_seq (ret1 rfl ha rfl ⟨rfl, H19⟩)
    · have h := if_f hc18 h
      refine WP_skip_seq ?_
      refine WP_seq ?_
      refine WP_seq ?_
      refine WP_region ?_
      refine XL_q rfl (qt_move rfl) rfl rfl ?_
      refine XL_q rfl (qt_lss rfl rfl) rfl rfl ?_
      refine WL_nil_seq ?_
      refine WP_cond rfl (fun hc20 => ?_) (fun hc20 => ?_)
      · have h := if_t hc20 h
        refine WP_seq ?_
        refine WP_still ?_
        refine XL_q rfl (qt_move rfl) rfl rfl ?_
        refine XL_q rfl (qt_eql rfl rfl) rfl rfl ?_
        refine XL_q rfl (qt_move rfl) rfl rfl ?_
        obtain ⟨b21, hg22, h⟩ := bind_some h
        refine XL_join 2 24 (.bool b21) ?_ (fun md hmd hk => ?_)
        rotate_left
        · obtain ⟨K, rfl⟩ := Md.quiet_of hmd
          rcases btf (x8 == (-1)) with hc23 | hc23
          · skip
            have hg22 := if_t hc23 hg22
            obtain ⟨x24, hx25, hg22⟩ := bind_some hg22
            refine QL_call (w_take rfl hc23) rfl c15 (fun w' hb => (w_laws_alive w' ([.sl 3 (.int .i64) v6 x2] ++ G)  x24 hx25 (H17.grow hb).ctx).mono fun e w'' hK => ⟨hK.1, hK.2.bel⟩) (by rfl) ?_
            refine XL_q rfl (qt_pickT rfl hc23 rfl) rfl rfl ?_
            exact hk _ (Cov.same (vb hg22) (Cov.fresh rfl (Cov.refl)))
          · skip
            refine XL_skip (w_skip rfl hc23) rfl rfl ?_
            refine XL_q rfl (qt_pickF rfl hc23 rfl) rfl rfl ?_
            exact hk _ (Cov.same (vb (if_f hc23 hg22)) (Cov.fresh rfl (Cov.refl)))
        refine XL_q rfl (qt_assign rfl) rfl rfl ?_
        refine QL_nil fun a ha w26 hb27 => ?_
        have H28 : Holds (([] : List Res).flatMap Res.own) w w26 [.sl 3 (.int .i64) v6 x2] G := H17.grow hb27
        refine nrm_seq (WP.app ?_ ha)
        refine WP_ret fun a ha => ?_
        obtain rfl := Option.some.inj h
        have H29 : Holds (([] : List Res).flatMap Res.own) w w26 [] G := (H28.cut 0)
        exact ret_seq (ret1 rfl ha rfl ⟨rfl, H29⟩)
      · have h := if_f hc20 h
        refine WP_skip_seq ?_
        refine WP_seq ?_
        refine WP_region ?_
        refine XL_q rfl (qt_move rfl) rfl rfl ?_
        obtain ⟨x30, hx31, h⟩ := bind_some h
        refine WL_call rfl rfl c37 (w_impl_SettleBest w15 ([.sl 3 (.int .i64) v6 x2] ++ G) v6 x2 (Has.hd) x30 hx31 H17.ctx) (by rfl) ?_
        rintro _ w32 ⟨v34, rfl, H33⟩; refine ⟨_, rfl, ?_⟩
        have H35 : Holds (([] : List Res).flatMap Res.own) w w32 [.sl 40 (.pair (.int .i64) (.pair (.int .i64) (.int .i64))) v34 x30, .sl 3 (.int .i64) v6 x2] G := H17.calledN (Rs := []) H33
        refine XL_q rfl (qt_assign rfl) rfl rfl ?_
        refine WL_nil_seq ?_
        refine WP_seq ?_
        refine WP_region ?_
        refine XL_q rfl (qt_move rfl) rfl rfl ?_
        obtain ⟨x36, hx37, h⟩ := bind_some h
        refine WL_call rfl rfl c23 (w_impl_SettleFast w32 ([.sl 40 (.pair (.int .i64) (.pair (.int .i64) (.int .i64))) v34 x30, .sl 3 (.int .i64) v6 x2] ++ G) v6 x2 (Has.c (Has.hd)) x36 hx37 H35.ctx) (by rfl) ?_
        rintro _ w38 ⟨v40, rfl, H39⟩; refine ⟨_, rfl, ?_⟩
        have H41 : Holds (([] : List Res).flatMap Res.own) w w38 [.sl 40 (.pair (.int .i64) (.pair (.int .i64) (.int .i64))) v40 x36, .sl 40 (.pair (.int .i64) (.pair (.int .i64) (.int .i64))) v34 x30, .sl 3 (.int .i64) v6 x2] G := H35.calledN (Rs := []) H39
        refine XL_q rfl (qt_assign rfl) rfl rfl ?_
        refine WL_nil_seq ?_
        refine WP_seq ?_
        refine WP_still ?_
        refine XL_q rfl (qt_move rfl) rfl rfl ?_
        refine XL_lenH H41.ctx (t := (.pair (.int .i64) (.pair (.int .i64) (.int .i64)))) (Has.c (Has.hd)) u29 rfl rfl rfl ?_
        refine XL_q rfl (qt_move rfl) rfl rfl ?_
        refine XL_q rfl (qt_eql rfl rfl) rfl rfl ?_
        refine XL_q rfl (qt_move rfl) rfl rfl ?_
        obtain ⟨b42, hg43, h⟩ := bind_some h
        refine XL_join 4 37 (.bool b42) ?_ (fun md hmd hk => ?_)
        rotate_left
        · obtain ⟨K, rfl⟩ := Md.quiet_of hmd
          rcases btf ((List.length x30 : Int) == x8) with hc44 | hc44
          · skip
            have hg43 := if_t hc44 hg43
            refine XL_q (w_take rfl hc44) (qt_move rfl) rfl rfl ?_
            refine XL_q (w_take rfl hc44) (qt_move rfl) rfl rfl ?_
            obtain ⟨x45, hx46, hg43⟩ := bind_some hg43
            refine QL_call (w_take rfl hc44) rfl c26 (fun w' hb => (w_impl_PaysOk w' ([.sl 40 (.pair (.int .i64) (.pair (.int .i64) (.int .i64))) v40 x36, .sl 40 (.pair (.int .i64) (.pair (.int .i64) (.int .i64))) v34 x30, .sl 3 (.int .i64) v6 x2] ++ G) v6 x2 (Has.c (Has.c (Has.hd))) v34 x30 (Has.c (Has.hd)) x45 hx46 (H41.grow hb).ctx).mono fun e w'' hK => ⟨hK.1, hK.2.bel⟩) (by rfl) ?_
            refine XL_q rfl (qt_pickT rfl hc44 rfl) rfl rfl ?_
            exact hk _ (Cov.same (vb hg43) (Cov.fresh rfl (Cov.fresh rfl (Cov.fresh rfl (Cov.refl)))))
          · skip
            refine XL_skip (w_skip rfl hc44) rfl rfl ?_
            refine XL_skip (w_skip rfl hc44) rfl rfl ?_
            refine XL_skip (w_skip rfl hc44) rfl rfl ?_
            refine XL_q rfl (qt_pickF rfl hc44 rfl) rfl rfl ?_
            exact hk _ (Cov.same (vb (if_f hc44 hg43)) (Cov.fresh rfl (Cov.fresh rfl (Cov.fresh rfl (Cov.refl)))))
        refine XL_q rfl (qt_move rfl) rfl rfl ?_
        refine XL_join 5 43 (.bool (b42 && (decide ((List.length x36 : Int) ≥ x8)))) ?_ (fun md hmd hk => ?_)
        rotate_left
        · obtain ⟨K, rfl⟩ := Md.quiet_of hmd
          rcases btf b42 with hc47 | hc47
          · skip
            refine XL_q (w_take rfl hc47) (qt_move rfl) rfl rfl ?_
            refine XL_lenH H41.ctx (t := (.pair (.int .i64) (.pair (.int .i64) (.int .i64)))) (Has.hd) u29 (w_take rfl hc47) rfl rfl ?_
            refine XL_q (w_take rfl hc47) (qt_move rfl) rfl rfl ?_
            refine XL_q (w_take rfl hc47) (qt_geq rfl rfl) rfl rfl ?_
            refine XL_q rfl (qt_pickT rfl hc47 rfl) rfl rfl ?_
            exact hk _ (Cov.same (by rw [hc47]; rfl) (Cov.fresh rfl (Cov.fresh rfl (Cov.fresh rfl (Cov.fresh rfl (Cov.refl))))))
          · skip
            refine XL_skip (w_skip rfl hc47) rfl rfl ?_
            refine XL_skip (w_skip rfl hc47) rfl rfl ?_
            refine XL_skip (w_skip rfl hc47) rfl rfl ?_
            refine XL_skip (w_skip rfl hc47) rfl rfl ?_
            refine XL_q rfl (qt_pickF rfl hc47 rfl) rfl rfl ?_
            exact hk _ (Cov.same (by rw [hc47]; rfl) (Cov.fresh rfl (Cov.fresh rfl (Cov.fresh rfl (Cov.fresh rfl (Cov.refl))))))
        refine XL_q rfl (qt_move rfl) rfl rfl ?_
        refine XL_join 15 59 (.bool ((b42 && (decide ((List.length x36 : Int) ≥ x8))) && (((x8 == 0) && ((List.length x36 : Int) == 0)) || (decide ((List.length x36 : Int) < (IntKind.wrap .i64 (2 * x8))))))) ?_ (fun md hmd hk => ?_)
        rotate_left
        · obtain ⟨K, rfl⟩ := Md.quiet_of hmd
          rcases btf (b42 && (decide ((List.length x36 : Int) ≥ x8))) with hc48 | hc48
          · skip
            refine XL_q (w_take rfl hc48) (qt_move rfl) rfl rfl ?_
            refine XL_q (w_take rfl hc48) (qt_eql rfl rfl) rfl rfl ?_
            refine XL_q (w_take rfl hc48) (qt_move rfl) rfl rfl ?_
            refine XL_join 4 51 (.bool ((x8 == 0) && ((List.length x36 : Int) == 0))) ?_ (fun md hmd hk => ?_)
            rotate_left
            · obtain ⟨K, rfl⟩ := Md.quiet_of hmd
              rcases btf (x8 == 0) with hc49 | hc49
              · skip
                refine XL_q (w_take rfl hc49) (qt_move rfl) rfl rfl ?_
                refine XL_lenH H41.ctx (t := (.pair (.int .i64) (.pair (.int .i64) (.int .i64)))) (Has.hd) u29 (w_take rfl hc49) rfl rfl ?_
                refine XL_q (w_take rfl hc49) (qt_eql rfl rfl) rfl rfl ?_
                refine XL_q (w_take rfl hc48) (qt_pickT rfl hc49 rfl) rfl rfl ?_
                exact hk _ (Cov.same (by rw [hc49]; rfl) (Cov.fresh rfl (Cov.fresh rfl (Cov.fresh rfl (Cov.refl)))))
              · skip
                refine XL_skip (w_skip rfl hc49) rfl rfl ?_
                refine XL_skip (w_skip rfl hc49) rfl rfl ?_
                refine XL_skip (w_skip rfl hc49) rfl rfl ?_
                refine XL_q (w_take rfl hc48) (qt_pickF rfl hc49 rfl) rfl rfl ?_
                exact hk _ (Cov.same (by rw [hc49]; rfl) (Cov.fresh rfl (Cov.fresh rfl (Cov.fresh rfl (Cov.refl)))))
            refine XL_q (w_take rfl hc48) (qt_move rfl) rfl rfl ?_
            refine XL_join 6 58 (.bool (((x8 == 0) && ((List.length x36 : Int) == 0)) || (decide ((List.length x36 : Int) < (IntKind.wrap .i64 (2 * x8)))))) ?_ (fun md hmd hk => ?_)
            rotate_left
            · obtain ⟨K, rfl⟩ := Md.quiet_of hmd
              rcases btf ((x8 == 0) && ((List.length x36 : Int) == 0)) with hc50 | hc50
              · skip
                refine XL_skip (w_skip rfl hc50) rfl rfl ?_
                refine XL_skip (w_skip rfl hc50) rfl rfl ?_
                refine XL_skip (w_skip rfl hc50) rfl rfl ?_
                refine XL_skip (w_skip rfl hc50) rfl rfl ?_
                refine XL_skip (w_skip rfl hc50) rfl rfl ?_
                refine XL_q (w_take rfl hc48) (qt_pickT rfl hc50 rfl) rfl rfl ?_
                exact hk _ (Cov.same (by rw [hc50]; rfl) (Cov.fresh rfl (Cov.fresh rfl (Cov.fresh rfl (Cov.fresh rfl (Cov.fresh rfl (Cov.refl)))))))
              · skip
                refine XL_q (w_take rfl hc50) (qt_move rfl) rfl rfl ?_
                refine XL_lenH H41.ctx (t := (.pair (.int .i64) (.pair (.int .i64) (.int .i64)))) (Has.hd) u29 (w_take rfl hc50) rfl rfl ?_
                refine XL_q (w_take rfl hc50) (qt_move rfl) rfl rfl ?_
                refine XL_q (w_take rfl hc50) (qt_mul rfl rfl) rfl rfl ?_
                refine XL_q (w_take rfl hc50) (qt_lss rfl rfl) rfl rfl ?_
                refine XL_q (w_take rfl hc48) (qt_pickF rfl hc50 rfl) rfl rfl ?_
                exact hk _ (Cov.same (by rw [hc50]; rfl) (Cov.fresh rfl (Cov.fresh rfl (Cov.fresh rfl (Cov.fresh rfl (Cov.fresh rfl (Cov.refl)))))))
            refine XL_q rfl (qt_pickT rfl hc48 rfl) rfl rfl ?_
            exact hk _ (Cov.same (by rw [hc48]; rfl) (Cov.fresh rfl (Cov.fresh rfl (Cov.fresh rfl (Cov.fresh rfl (Cov.fresh rfl (Cov.fresh rfl (Cov.refl))))))))
          · skip
            refine XL_skip (w_skip rfl hc48) rfl rfl ?_
            refine XL_skip (w_skip rfl hc48) rfl rfl ?_
            refine XL_skip (w_skip rfl hc48) rfl rfl ?_
            refine XL_skip rfl rfl rfl ?_
            refine XL_skip rfl rfl rfl ?_
            refine XL_skip rfl rfl rfl ?_
            refine XL_skip (w_skip rfl hc48) rfl rfl ?_
            refine XL_skip (w_skip rfl hc48) rfl rfl ?_
            refine XL_skip rfl rfl rfl ?_
            refine XL_skip rfl rfl rfl ?_
            refine XL_skip rfl rfl rfl ?_
            refine XL_skip rfl rfl rfl ?_
            refine XL_skip rfl rfl rfl ?_
            refine XL_skip (w_skip rfl hc48) rfl rfl ?_
            refine XL_q rfl (qt_pickF rfl hc48 rfl) rfl rfl ?_
            exact hk _ (Cov.same (by rw [hc48]; rfl) (Cov.fresh rfl (Cov.fresh rfl (Cov.fresh rfl (Cov.fresh rfl (Cov.fresh rfl (Cov.fresh rfl (Cov.fresh rfl (Cov.fresh rfl (Cov.fresh rfl (Cov.fresh rfl (Cov.fresh rfl (Cov.fresh rfl (Cov.fresh rfl (Cov.fresh rfl (Cov.refl))))))))))))))))
        refine XL_q rfl (qt_assign rfl) rfl rfl ?_
        refine QL_nil fun a ha w51 hb52 => ?_
        have H53 : Holds (([] : List Res).flatMap Res.own) w w51 [.sl 40 (.pair (.int .i64) (.pair (.int .i64) (.int .i64))) v40 x36, .sl 40 (.pair (.int .i64) (.pair (.int .i64) (.int .i64))) v34 x30, .sl 3 (.int .i64) v6 x2] G := H41.grow hb52
        refine nrm_seq (WP.app ?_ ha)
        refine WP_ret fun a ha => ?_
        obtain rfl := Option.some.inj h
        have H54 : Holds (([] : List Res).flatMap Res.own) w w51 [] G := (((H53.cut 0).cut 0).cut 0)
        exact ret1 rfl ha rfl ⟨rfl, H54⟩
theorem w_spec_DrawSettleBest (w : World) (G : List Res) (vp0 : Value) (p0 : List Int) (hp0 : HasRo G (.int .u8) vp0 p0) (r : (List Int)) (h : spec_DrawSettleBestS p0 = some r) (H : Ctx w G) : Calls Tryd.prog 38 #[vp0] w fun e w' => ∃ (v1 : Value), e = .returned (v1) ∧ Holds (([] : List Res).flatMap Res.own) w w' [.sl 3 (.int .i64) v1 r] G := by
  have H : Holds (([] : List Res).flatMap Res.own) w w [] G := Holds.startN H
  refine calls_enter (args := [vp0]) (n := 6) Tryd.func38 rfl rfl rfl ?_
  unfold spec_DrawSettleBestS at h
  refine WP_seq ?_
  refine WP_region ?_
  refine XL_q rfl (qt_assign rfl) rfl rfl ?_
  refine WL_nil_seq ?_
  refine WP_seq ?_
  refine WP_region ?_
  refine XL_q rfl (qt_move rfl) rfl rfl ?_
  obtain ⟨x1, hx2, h⟩ := bind_some h
  refine WL_call rfl rfl c44 (w_spec_l20Open w G vp0 p0 (hp0) x1 hx2 H.ctx) (by rfl) ?_
  rintro _ w3 ⟨v5, b6, rfl, H4⟩; refine ⟨_, rfl, ?_⟩
  have H7 : Holds (([] : List Res).flatMap Res.own) w w3 [.ro (.int .u8) v5 x1.1, .bx b6 69 [v5, .int .i64 x1.2]] G := H.calledN (Rs := []) H4
  have H10 : Holds (([] : List Res).flatMap Res.own) w w3 [.bx b6 69 [v5, .int .i64 x1.2], .ro (.int .u8) v5 x1.1] G := H7.pull 1
  obtain ⟨x8, hx9, h⟩ := bind_some h
  refine WL_call rfl rfl c43 (w_spec_l20Owed w3 ([.ro (.int .u8) v5 x1.1] ++ G) b6 v5 x1.1 (HasRo.has (HasRo.hd)) x1.2 9 x8 hx9 H10.ctx) (by rfl) ?_
  rintro _ w11 ⟨v13, rfl, H12⟩; refine ⟨_, rfl, ?_⟩
  have H14 : Holds (([] : List Res).flatMap Res.own) w w11 [.sl 3 (.int .i64) v13 x8.2, .bx b6 69 [v5, .int .i64 x8.1], .ro (.int .u8) v5 x1.1] G := H10.calledN (Rs := [_]) H12
  refine XL_q rfl (qt_assign rfl) rfl rfl ?_
  refine WL_nil_seq ?_
  refine WP_ret fun a ha => ?_
  obtain rfl := Option.some.inj h
  have H15 : Holds (([] : List Res).flatMap Res.own) w w11 [.sl 3 (.int .i64) v13 x8.2] G := ((H14.cut 1).cut 1)
  exact ret1 rfl ha rfl ⟨v13, rfl, H15⟩
theorem w_spec_l5First (w : World) (G : List Res) (vp0 : Value) (p0 : List Int) (hp0 : Has G (.int .i64) vp0 p0) (vp1 : Value) (p1 : List Int) (hp1 : Has G (.int .i64) vp1 p1) (p2 : Int) (r : Int) (h : spec_l5FirstS p0 p1 p2 = some r) (H : Ctx w G) : Calls Tryd.prog 64 #[vp0, vp1, .int .i64 p2] w fun e w' => e = .returned (.int .i64 r) ∧ Holds (([] : List Res).flatMap Res.own) w w' [] G := by
  have H : Holds (([] : List Res).flatMap Res.own) w w [] G := Holds.startN H
  refine calls_enter (args := [vp0, vp1, .int .i64 p2]) (n := 46) Tryd.func64 rfl rfl rfl ?_
  unfold spec_l5FirstS at h
  refine WP_seq ?_
  refine WP_region ?_
  refine XL_q rfl (qt_assign rfl) rfl rfl ?_
  refine WL_nil_seq ?_
  refine WP_seq ?_
  refine WP_seq ?_
  refine WP_region ?_
  refine XL_q rfl (qt_assign rfl) rfl rfl ?_
  refine WL_nil_seq ?_
  refine WP_block ?_
  obtain ⟨o2, ho3, h⟩ := bind_some h
  refine fun a4 ha5 => wp_loop_fix (I := fun s a w2 => match s with | s1 => (Fr a 46 [(1, vp1), (2, .int .i64 p2), (7, .int .i64 s1)] ∧ Holds (([] : List Res).flatMap Res.own) w w2 [] G)) (O := fun o e a w2 => match o with | .inl _ => e = .exit 0 ∧ (Fr a 46 [(2, .int .i64 p2)] ∧ Holds (([] : List Res).flatMap Res.own) w w2 [] G) | .inr q0 => e = .ret ∧ (Fr a 46 [(6, .int .i64 q0)] ∧ Holds (([] : List Res).flatMap Res.own) w w2 [] G)) ho3 ?_ ?_ ?_
  · exact ⟨ha5.sub ⟨rfl, rfl, rfl, trivial⟩, H⟩
  · clear ha5
    intro s o8 a w6 hs7 hI9
    obtain ⟨s1, rfl⟩ : ∃ z, z = s := ⟨s, rfl⟩
    obtain ⟨ha, H10⟩ := hI9
    refine WP.app ?_ ha
    clear ha
    refine WP_seq ?_
    refine WP_seq ?_
    refine WP_region ?_
    refine XL_q rfl (qt_move rfl) rfl rfl ?_
    refine XL_q rfl (qt_move rfl) rfl rfl ?_
    refine XL_q rfl (qt_leq rfl rfl) rfl rfl ?_
    refine WL_nil_seq ?_
    refine WP_cond rfl (fun hc11 => ?_) (fun hc11 => ?_)
    · have hs7 := if_t hc11 hs7
      refine WP_skip_seq ?_
      refine WP_seq ?_
      refine WP_block ?_
      refine WP_seq ?_
      refine WP_quiet (by kernel_rfl) (by kernel_rfl) ?_
      refine XL_q rfl (qt_move rfl) rfl rfl ?_
      refine XL_q rfl (qt_move rfl) rfl rfl ?_
      obtain ⟨x12, hx13, hs7⟩ := bind_some hs7
      refine QL_call rfl rfl c73 (fun w' hb => (w_spec_l1Meet w' G s1 p2 x12 hx13 (H10.grow hb).ctx).mono fun e w'' hK => ⟨hK.1, hK.2.bel⟩) (by rfl) ?_
      refine XL_q rfl (qt_move rfl) rfl rfl ?_
      refine XL_q rfl (qt_eql rfl rfl) rfl rfl ?_
      refine XL_q rfl (qt_move rfl) rfl rfl ?_
      obtain ⟨b14, hg15, hs7⟩ := bind_some hs7
      refine XL_join 6 24 (.bool b14) ?_ (fun md hmd hk => ?_)
      rotate_left
      · obtain ⟨K, rfl⟩ := Md.quiet_of hmd
        rcases btf (x12 == s1) with hc16 | hc16
        · skip
          have hg15 := if_t hc16 hg15
          refine XL_q (w_take rfl hc16) (qt_move rfl) rfl rfl ?_
          refine XL_q (w_take rfl hc16) (qt_move rfl) rfl rfl ?_
          obtain ⟨x17, hx18, hg15⟩ := bind_some hg15
          refine XL_indexH H10.ctx (hp1) hx18 u23 i3 (w_take rfl hc16) rfl rfl rfl (fun b19 off20 cap21 hv22 => ?_)
          obtain ⟨F23, hat24, hdup25⟩ := H10.at (hp1) hx18 hv22
          refine XL_load_int (k := .i64) u3 rfl hat24 (w_take rfl hc16) rfl rfl ?_
          refine XL_q (w_take rfl hc16) (qt_eql rfl rfl) rfl rfl ?_
          refine XL_q rfl (qt_pickT rfl hc16 rfl) rfl rfl ?_
          exact hk _ (Cov.same (vb hg15) (Cov.fresh rfl (Cov.fresh rfl (Cov.fresh rfl (Cov.fresh rfl (Cov.fresh rfl (Cov.refl)))))))
        · skip
          refine XL_skip (w_skip rfl hc16) rfl rfl ?_
          refine XL_skip (w_skip rfl hc16) rfl rfl ?_
          refine XL_skip (w_skip rfl hc16) rfl rfl ?_
          refine XL_skip (w_skip rfl hc16) rfl rfl ?_
          refine XL_skip (w_skip rfl hc16) rfl rfl ?_
          refine XL_q rfl (qt_pickF rfl hc16 rfl) rfl rfl ?_
          exact hk _ (Cov.same (vb (if_f hc16 hg15)) (Cov.fresh rfl (Cov.fresh rfl (Cov.fresh rfl (Cov.fresh rfl (Cov.fresh rfl (Cov.refl)))))))
      refine XL_q rfl (qt_move rfl) rfl rfl ?_
      obtain ⟨b26, hg27, hs7⟩ := bind_some hs7
      refine XL_join 18 43 (.bool b26) ?_ (fun md hmd hk => ?_)
      rotate_left
      · obtain ⟨K, rfl⟩ := Md.quiet_of hmd
        rcases btf b14 with hc28 | hc28
        · skip
          have hg27 := if_t hc28 hg27
          refine XL_q (w_take rfl hc28) (qt_move rfl) rfl rfl ?_
          refine XL_q (w_take rfl hc28) (qt_move rfl) rfl rfl ?_
          refine XL_q (w_take rfl hc28) (qt_eql rfl rfl) rfl rfl ?_
          refine XL_q (w_take rfl hc28) (qt_move rfl) rfl rfl ?_
          obtain ⟨b29, hg30, hg27⟩ := bind_some hg27
          refine XL_join 13 42 (.bool b29) ?_ (fun md hmd hk => ?_)
          rotate_left
          · obtain ⟨K, rfl⟩ := Md.quiet_of hmd
            rcases btf (s1 == p2) with hc31 | hc31
            · skip
              refine XL_skip (w_skip rfl hc31) rfl rfl ?_
              refine XL_skip (w_skip rfl hc31) rfl rfl ?_
              refine XL_skip (w_skip rfl hc31) rfl rfl ?_
              refine XL_skip (w_skip rfl hc31) rfl rfl ?_
              refine XL_skip (w_skip rfl hc31) rfl rfl ?_
              refine XL_skip (w_skip rfl hc31) rfl rfl ?_
              refine XL_skip (w_skip rfl hc31) rfl rfl ?_
              refine XL_skip (w_skip rfl hc31) rfl rfl ?_
              refine XL_skip (w_skip rfl hc31) rfl rfl ?_
              refine XL_skip (w_skip rfl hc31) rfl rfl ?_
              refine XL_skip (w_skip rfl hc31) rfl rfl ?_
              refine XL_skip (w_skip rfl hc31) rfl rfl ?_
              refine XL_q (w_take rfl hc28) (qt_pickT rfl hc31 rfl) rfl rfl ?_
              exact hk _ (Cov.same (vb (if_t hc31 hg30)) (Cov.fresh rfl (Cov.fresh rfl (Cov.fresh rfl (Cov.fresh rfl (Cov.fresh rfl (Cov.fresh rfl (Cov.fresh rfl (Cov.fresh rfl (Cov.fresh rfl (Cov.fresh rfl (Cov.fresh rfl (Cov.fresh rfl (Cov.refl))))))))))))))
            · skip
              have hg30 := if_f hc31 hg30
              refine XL_q (w_take rfl hc31) (qt_move rfl) rfl rfl ?_
              refine XL_q (w_take rfl hc31) (qt_move rfl) rfl rfl ?_
              refine XL_q (w_take rfl hc31) (qt_move rfl) rfl rfl ?_
              refine XL_q (w_take rfl hc31) (qt_sub rfl rfl) rfl rfl ?_
              obtain ⟨x32, hx33, hg30⟩ := bind_some hg30
              refine XL_indexH H10.ctx (hp1) hx33 u23 i3 (w_take rfl hc31) rfl rfl rfl (fun b34 off35 cap36 hv37 => ?_)
              obtain ⟨F38, hat39, hdup40⟩ := H10.at (hp1) hx33 hv37
              refine XL_load_int (k := .i64) u3 rfl hat39 (w_take rfl hc31) rfl rfl ?_
              refine XL_q (w_take rfl hc31) (qt_move rfl) rfl rfl ?_
              refine XL_q (w_take rfl hc31) (qt_move rfl) rfl rfl ?_
              obtain ⟨x41, hx42, hg30⟩ := bind_some hg30
              refine XL_indexH H10.ctx (hp1) hx42 u23 i3 (w_take rfl hc31) rfl rfl rfl (fun b43 off44 cap45 hv46 => ?_)
              obtain ⟨F47, hat48, hdup49⟩ := H10.at (hp1) hx42 hv46
              refine XL_load_int (k := .i64) u3 rfl hat48 (w_take rfl hc31) rfl rfl ?_
              refine XL_q (w_take rfl hc31) (qt_sub rfl rfl) rfl rfl ?_
              refine XL_q (w_take rfl hc31) (qt_eql rfl rfl) rfl rfl ?_
              refine XL_q (w_take rfl hc28) (qt_pickF rfl hc31 rfl) rfl rfl ?_
              exact hk _ (Cov.same (vb hg30) (Cov.fresh rfl (Cov.fresh rfl (Cov.fresh rfl (Cov.fresh rfl (Cov.fresh rfl (Cov.fresh rfl (Cov.fresh rfl (Cov.fresh rfl (Cov.fresh rfl (Cov.fresh rfl (Cov.fresh rfl (Cov.fresh rfl (Cov.refl))))))))))))))
          refine XL_q rfl (qt_pickT rfl hc28 rfl) rfl rfl ?_
          exact hk _ (Cov.same (vb hg27) (Cov.fresh rfl (Cov.fresh rfl (Cov.fresh rfl (Cov.fresh rfl (Cov.fresh rfl (Cov.refl)))))))
        · skip
          refine XL_skip (w_skip rfl hc28) rfl rfl ?_
          refine XL_skip (w_skip rfl hc28) rfl rfl ?_
          refine XL_skip (w_skip rfl hc28) rfl rfl ?_
          refine XL_skip (w_skip rfl hc28) rfl rfl ?_
          refine XL_skip rfl rfl rfl ?_
          refine XL_skip rfl rfl rfl ?_
          refine XL_skip rfl rfl rfl ?_
          refine XL_skip rfl rfl rfl ?_
          refine XL_skip rfl rfl rfl ?_
          refine XL_skip rfl rfl rfl ?_
          refine XL_skip rfl rfl rfl ?_
          refine XL_skip rfl rfl rfl ?_
          refine XL_skip rfl rfl rfl ?_
          refine XL_skip rfl rfl rfl ?_
          refine XL_skip rfl rfl rfl ?_
          refine XL_skip rfl rfl rfl ?_
          refine XL_skip (w_skip rfl hc28) rfl rfl ?_
          refine XL_q rfl (qt_pickF rfl hc28 rfl) rfl rfl ?_
          exact hk _ (Cov.same (vb (if_f hc28 hg27)) (Cov.fresh rfl (Cov.fresh rfl (Cov.fresh rfl (Cov.fresh rfl (Cov.fresh rfl (Cov.fresh rfl (Cov.fresh rfl (Cov.fresh rfl (Cov.fresh rfl (Cov.fresh rfl (Cov.fresh rfl (Cov.fresh rfl (Cov.fresh rfl (Cov.fresh rfl (Cov.fresh rfl (Cov.fresh rfl (Cov.fresh rfl (Cov.refl)))))))))))))))))))
      refine QL_nil fun a ha w50 hb51 => ?_
      have H52 : Holds (([] : List Res).flatMap Res.own) w w50 [] G := H10.grow hb51
      refine nrm_seq (WP.app ?_ ha)
      refine WP_cond rfl (fun hc53 => ?_) (fun hc53 => ?_)
      · have hs7 := if_t hc53 hs7
        refine WP_seq ?_
        refine WP_region ?_
        refine XL_q rfl (qt_move rfl) rfl rfl ?_
        refine XL_q rfl (qt_assign rfl) rfl rfl ?_
        refine WL_nil_seq ?_
        refine WP_ret fun a ha => ?_
        obtain rfl := Option.some.inj hs7
        exact ret_block (ret_seq (⟨ret_ne, rfl, ha.sub ⟨rfl, trivial⟩, H52⟩))
      · have hs7 := if_f hc53 hs7
        refine WP_skip fun a ha => ?_
        refine nrm_block (nrm_seq (WP.app ?_ ha))
        refine WP_region ?_
        refine XL_q rfl (qt_move rfl) rfl rfl ?_
        refine XL_q rfl (qt_add rfl rfl) rfl rfl ?_
        refine XL_q rfl (qt_assign rfl) rfl rfl ?_
        refine WL_nil fun a ha => ?_
        obtain rfl := Option.some.inj hs7
        exact ⟨rfl, ha.sub ⟨rfl, rfl, rfl, trivial⟩, H52⟩
    · have hs7 := if_f hc11 hs7
      refine WP_exit fun a ha => ?_
      obtain rfl := Option.some.inj hs7
      exact exit_seq (⟨exit_ne, rfl, ha.sub ⟨rfl, trivial⟩, H10⟩)
  · intro e a4 w54 hO55
    rcases o2 with o2 | o2
    · skip
      obtain ⟨rfl, hO57⟩ := hO55
      obtain ⟨ha, H56⟩ := hO57
      refine exit_block_eq (nrm_seq (WP.app ?_ ha))
      refine WP_seq ?_
      refine WP_region ?_
      refine XL_q rfl (qt_move rfl) rfl rfl ?_
      refine XL_q rfl (qt_assign rfl) rfl rfl ?_
      refine WL_nil_seq ?_
      refine WP_ret fun a ha => ?_
      obtain rfl := Option.some.inj h
      exact ret1 rfl ha rfl ⟨rfl, H56⟩
    · skip
      obtain ⟨p58, rfl⟩ : ∃ z, z = o2 := ⟨o2, rfl⟩
      obtain ⟨rfl, hO60⟩ := hO55
      obtain ⟨ha, H59⟩ := hO60
      obtain rfl := Option.some.inj h
      exact ret_block (ret_seq (ret1 rfl ha rfl ⟨rfl, H59⟩))
theorem w_spec_SettleBest (w : World) (G : List Res) (vp0 : Value) (p0 : List Int) (hp0 : Has G (.int .i64) vp0 p0) (r : (List (Int × Int × Int))) (h : spec_SettleBestS p0 = some r) (H : Ctx w G) : Calls Tryd.prog 39 #[vp0] w fun e w' => ∃ (v1 : Value), e = .returned (v1) ∧ Holds (([] : List Res).flatMap Res.own) w w' [.sl 40 (.pair (.int .i64) (.pair (.int .i64) (.int .i64))) v1 r] G := by
  have H : Holds (([] : List Res).flatMap Res.own) w w [] G := Holds.startN H
  refine calls_enter (args := [vp0]) (n := 111) Tryd.func39 rfl rfl rfl ?_
  unfold spec_SettleBestS at h
  refine WP_seq ?_
  refine WP_region ?_
  refine XL_q rfl (qt_assign rfl) rfl rfl ?_
  refine WL_nil_seq ?_
  refine WP_seq ?_
  refine WP_region ?_
  refine WL_buildH (t := (.pair (.int .i64) (.pair (.int .i64) (.int .i64)))) (args := []) (xs := ([] : List (Int × Int × Int))) H (BltL.nil) u29 j40 rfl rfl rfl rfl rfl rfl (fun v1 w2 H3 => ?_)
  have H4 : Holds (([] : List Res).flatMap Res.own) w w2 [.sl 40 (.pair (.int .i64) (.pair (.int .i64) (.int .i64))) v1 ([])] G := H3
  refine XL_q rfl (qt_assign rfl) rfl rfl ?_
  refine WL_nil_seq ?_
  refine WP_seq ?_
  refine WP_seq ?_
  refine WP_still ?_
  refine XL_q rfl (qt_move rfl) rfl rfl ?_
  obtain ⟨x5, hx6, h⟩ := bind_some h
  refine QL_call rfl rfl c14 (fun w' hb => (w_spec_OwedValid w' ([.sl 40 (.pair (.int .i64) (.pair (.int .i64) (.int .i64))) v1 ([])] ++ G) vp0 p0 (hp0.c) x5 hx6 (H4.grow hb).ctx).mono fun e w'' hK => ⟨hK.1, hK.2.bel⟩) (by rfl) ?_
  refine XL_q rfl (qt_not rfl) rfl rfl ?_
  refine QL_nil fun a ha w7 hb8 => ?_
  have H9 : Holds (([] : List Res).flatMap Res.own) w w7 [.sl 40 (.pair (.int .i64) (.pair (.int .i64) (.int .i64))) v1 ([])] G := H4.grow hb8
  refine nrm_seq (WP.app ?_ ha)
  refine WP_cond rfl (fun hc10 => ?_) (fun hc10 => ?_)
  · have h := if_t hc10 h
    refine WP_seq ?_
    refine WP_region ?_
    refine XL_q rfl (qt_move rfl) rfl rfl ?_
    refine XL_q rfl (qt_assign rfl) rfl rfl ?_
    refine WL_nil_seq ?_
    refine WP_ret fun a ha => ?_
    obtain rfl := Option.some.inj h
    exact ret_seq (ret1 rfl ha rfl ⟨v1, rfl, H9⟩)
  · have h := if_f hc10 h
    refine WP_skip_seq ?_
    refine WP_seq ?_
    refine WP_region ?_
    refine XL_q rfl (qt_assign rfl) rfl rfl ?_
    refine WL_nil_seq ?_
    refine WP_seq ?_
    refine WP_seq ?_
    refine WP_region ?_
    refine XL_q rfl (qt_assign rfl) rfl rfl ?_
    refine WL_nil_seq ?_
    refine WP_block ?_
    obtain ⟨o13, ho14, h⟩ := bind_some h
    refine fun a15 ha16 => wp_loop_fix (I := fun s a w2 => match s with | (s11, s12) => (Fr a 111 [(0, vp0), (3, v1), (4, .int .i64 s11), (5, .int .i64 s12)] ∧ Holds (([] : List Res).flatMap Res.own) w w2 [.sl 40 (.pair (.int .i64) (.pair (.int .i64) (.int .i64))) v1 ([])] G)) (O := fun o e a w2 => match o with | q0 => e = .exit 0 ∧ (Fr a 111 [(0, vp0), (3, v1), (4, .int .i64 q0)] ∧ Holds (([] : List Res).flatMap Res.own) w w2 [.sl 40 (.pair (.int .i64) (.pair (.int .i64) (.int .i64))) v1 ([])] G)) ho14 ?_ ?_ ?_
    · exact ⟨ha16.sub ⟨rfl, rfl, rfl, rfl, trivial⟩, H9⟩
    · clear ha16
      intro s o19 a w17 hs18 hI20
      obtain ⟨s11, s12⟩ := s
      obtain ⟨ha, H21⟩ := hI20
      refine WP.app ?_ ha
      clear ha
      refine WP_seq ?_
      refine WP_seq ?_
      refine WP_region ?_
      refine XL_q rfl (qt_move rfl) rfl rfl ?_
      refine XL_q rfl (qt_move rfl) rfl rfl ?_
      refine XL_lenH H21.ctx (t := (.int .i64)) (hp0.c) u23 rfl rfl rfl ?_
      refine XL_q rfl (qt_lss rfl rfl) rfl rfl ?_
      refine WL_nil_seq ?_
      refine WP_cond rfl (fun hc22 => ?_) (fun hc22 => ?_)
      · have hs18 := if_t hc22 hs18
        refine WP_skip_seq ?_
        refine WP_seq ?_
        refine WP_block ?_
        refine WP_seq ?_
        refine WP_region ?_
        refine XL_q rfl (qt_move rfl) rfl rfl ?_
        refine XL_q rfl (qt_move rfl) rfl rfl ?_
        obtain ⟨x23, hx24, hs18⟩ := bind_some hs18
        refine XL_indexH H21.ctx (hp0.c) hx24 u23 i3 rfl rfl rfl rfl (fun b25 off26 cap27 hv28 => ?_)
        obtain ⟨F29, hat30, hdup31⟩ := H21.at (hp0.c) hx24 hv28
        refine XL_load_int (k := .i64) u3 rfl hat30 rfl rfl rfl ?_
        refine XL_q rfl (qt_neq rfl rfl) rfl rfl ?_
        refine WL_nil_seq ?_
        refine WP_cond rfl (fun hc32 => ?_) (fun hc32 => ?_)
        · have hs18 := if_t hc32 hs18
          refine WP_region ?_
          refine XL_q rfl (qt_move rfl) rfl rfl ?_
          refine XL_q rfl (qt_move rfl) rfl rfl ?_
          obtain ⟨x33, hx34, hs18⟩ := bind_some hs18
          refine XL_q rfl (qt_shlO rfl rfl hx34) rfl rfl ?_
          refine XL_q rfl (qt_add rfl rfl) rfl rfl ?_
          refine XL_q rfl (qt_assign rfl) rfl rfl ?_
          refine WL_nil fun a ha => ?_
          refine nrm_block (nrm_seq (WP.app ?_ ha))
          refine WP_region ?_
          refine XL_q rfl (qt_move rfl) rfl rfl ?_
          refine XL_q rfl (qt_add rfl rfl) rfl rfl ?_
          refine XL_q rfl (qt_assign rfl) rfl rfl ?_
          refine WL_nil fun a ha => ?_
          obtain rfl := Option.some.inj hs18
          exact ⟨rfl, ha.sub ⟨rfl, rfl, rfl, rfl, trivial⟩, H21⟩
        · have hs18 := if_f hc32 hs18
          refine WP_skip fun a ha => ?_
          refine nrm_block (nrm_seq (WP.app ?_ ha))
          refine WP_region ?_
          refine XL_q rfl (qt_move rfl) rfl rfl ?_
          refine XL_q rfl (qt_add rfl rfl) rfl rfl ?_
          refine XL_q rfl (qt_assign rfl) rfl rfl ?_
          refine WL_nil fun a ha => ?_
          obtain rfl := Option.some.inj hs18
          exact ⟨rfl, ha.sub ⟨rfl, rfl, rfl, rfl, trivial⟩, H21⟩
      · have hs18 := if_f hc22 hs18
        refine WP_exit fun a ha => ?_
        obtain rfl := Option.some.inj hs18
        exact exit_seq (⟨exit_ne, rfl, ha.sub ⟨rfl, rfl, rfl, trivial⟩, H21⟩)
    · intro e a15 w35 hO36
      obtain ⟨p37, rfl⟩ : ∃ z, z = o13 := ⟨o13, rfl⟩
      obtain ⟨rfl, hO39⟩ := hO36
      obtain ⟨ha, H38⟩ := hO39
      refine exit_block_eq (nrm_seq (WP.app ?_ ha))
      refine WP_seq ?_
      refine WP_region ?_
      refine XL_q rfl (qt_move rfl) rfl rfl ?_
      obtain ⟨x40, hx41, h⟩ := bind_some h
      refine WL_call rfl rfl c53 (w_spec_l5Groups w35 ([.sl 40 (.pair (.int .i64) (.pair (.int .i64) (.int .i64))) v1 ([])] ++ G) vp0 p0 (hp0.c) x40 hx41 H38.ctx) (by rfl) ?_
      rintro _ w42 ⟨v44, rfl, H43⟩; refine ⟨_, rfl, ?_⟩
      have H45 : Holds (([] : List Res).flatMap Res.own) w w42 [.sl 3 (.int .i64) v44 x40, .sl 40 (.pair (.int .i64) (.pair (.int .i64) (.int .i64))) v1 ([])] G := H38.calledN (Rs := []) H43
      refine XL_q rfl (qt_assign rfl) rfl rfl ?_
      refine WL_nil_seq ?_
      refine WP_seq ?_
      refine WP_region ?_
      refine WL_buildH (t := (.int .i64)) (args := []) (xs := ([] : List Int)) H45 (BltL.nil) u23 j3 rfl rfl rfl rfl rfl rfl (fun v46 w47 H48 => ?_)
      have H49 : Holds (([] : List Res).flatMap Res.own) w w47 [.sl 3 (.int .i64) v46 ([]), .sl 3 (.int .i64) v44 x40, .sl 40 (.pair (.int .i64) (.pair (.int .i64) (.int .i64))) v1 ([])] G := H48
      refine XL_q rfl (qt_assign rfl) rfl rfl ?_
      refine WL_nil_seq ?_
      refine WP_seq ?_
      refine WP_seq ?_
      refine WP_region ?_
      refine XL_q rfl (qt_assign rfl) rfl rfl ?_
      refine WL_nil_seq ?_
      refine WP_block ?_
      obtain ⟨o52, ho53, h⟩ := bind_some h
      have H56 : Holds (([] : List Res).flatMap Res.own) w w47 [.sl 40 (.pair (.int .i64) (.pair (.int .i64) (.int .i64))) v1 ([]), .sl 3 (.int .i64) v44 x40, .sl 3 (.int .i64) v46 ([])] G := ((H49.pull 1).pull 2)
      refine fun a54 ha55 => wp_loop_fix (I := fun s a w2 => match s with | (s50, s51) => ∃ vs50, Fr a 111 [(0, vp0), (3, v1), (4, .int .i64 p37), (6, v44), (7, vs50), (8, .int .i64 s51)] ∧ Holds (([] : List Res).flatMap Res.own) w w2 [.sl 40 (.pair (.int .i64) (.pair (.int .i64) (.int .i64))) v1 ([]), .sl 3 (.int .i64) v44 x40, .sl 3 (.int .i64) vs50 s50] G) (O := fun o e a w2 => match o with | q0 => e = .exit 2 ∧ ∃ vq0, Fr a 111 [(0, vp0), (3, v1), (4, .int .i64 p37), (7, vq0)] ∧ Holds (([] : List Res).flatMap Res.own) w w2 [.sl 40 (.pair (.int .i64) (.pair (.int .i64) (.int .i64))) v1 ([]), .sl 3 (.int .i64) vq0 q0] G) ho53 ?_ ?_ ?_
      · exact ⟨v46, ha55.sub ⟨rfl, rfl, rfl, rfl, rfl, rfl, trivial⟩, H56⟩
      · clear ha55
        intro s o59 a w57 hs58 hI60
        obtain ⟨s50, s51⟩ := s
        obtain ⟨vs50, ha, H61⟩ := hI60
        refine WP.app ?_ ha
        clear ha
        refine WP_seq ?_
        refine WP_seq ?_
        refine WP_region ?_
        refine XL_q rfl (qt_move rfl) rfl rfl ?_
        refine XL_q rfl (qt_move rfl) rfl rfl ?_
        refine XL_lenH H61.ctx (t := (.int .i64)) (Has.c (Has.hd)) u23 rfl rfl rfl ?_
        refine XL_q rfl (qt_lss rfl rfl) rfl rfl ?_
        refine WL_nil_seq ?_
        refine WP_cond rfl (fun hc62 => ?_) (fun hc62 => ?_)
        · have hs58 := if_t hc62 hs58
          refine WP_skip_seq ?_
          refine WP_seq ?_
          refine WP_block ?_
          refine WP_seq ?_
          refine WP_region ?_
          refine WL_buildH (t := (.int .i64)) (args := []) (xs := ([] : List Int)) H61 (BltL.nil) u23 j3 rfl rfl rfl rfl rfl rfl (fun v63 w64 H65 => ?_)
          have H66 : Holds (([] : List Res).flatMap Res.own) w w64 [.sl 3 (.int .i64) v63 ([]), .sl 40 (.pair (.int .i64) (.pair (.int .i64) (.int .i64))) v1 ([]), .sl 3 (.int .i64) v44 x40, .sl 3 (.int .i64) vs50 s50] G := H65
          refine XL_q rfl (qt_assign rfl) rfl rfl ?_
          refine WL_nil_seq ?_
          refine WP_seq ?_
          refine WP_seq ?_
          refine WP_region ?_
          refine XL_q rfl (qt_assign rfl) rfl rfl ?_
          refine WL_nil_seq ?_
          refine WP_block ?_
          obtain ⟨o69, ho70, hs58⟩ := bind_some hs58
          have H73 : Holds (([] : List Res).flatMap Res.own) w w64 [.sl 40 (.pair (.int .i64) (.pair (.int .i64) (.int .i64))) v1 ([]), .sl 3 (.int .i64) v44 x40, .sl 3 (.int .i64) vs50 s50, .sl 3 (.int .i64) v63 ([])] G := (((H66.pull 3).pull 3).pull 3)
          refine fun a71 ha72 => wp_loop_fix (I := fun s a w2 => match s with | (s67, s68) => ∃ vs67, Fr a 111 [(0, vp0), (3, v1), (4, .int .i64 p37), (6, v44), (7, vs50), (8, .int .i64 s51), (9, vs67), (10, .int .i64 s68)] ∧ Holds (([] : List Res).flatMap Res.own) w w2 [.sl 40 (.pair (.int .i64) (.pair (.int .i64) (.int .i64))) v1 ([]), .sl 3 (.int .i64) v44 x40, .sl 3 (.int .i64) vs50 s50, .sl 3 (.int .i64) vs67 s67] G) (O := fun o e a w2 => match o with | q0 => e = .exit 4 ∧ ∃ vq0, Fr a 111 [(0, vp0), (3, v1), (4, .int .i64 p37), (6, v44), (7, vs50), (8, .int .i64 s51), (9, vq0)] ∧ Holds (([] : List Res).flatMap Res.own) w w2 [.sl 40 (.pair (.int .i64) (.pair (.int .i64) (.int .i64))) v1 ([]), .sl 3 (.int .i64) v44 x40, .sl 3 (.int .i64) vs50 s50, .sl 3 (.int .i64) vq0 q0] G) ho70 ?_ ?_ ?_
          · exact ⟨v63, ha72.sub ⟨rfl, rfl, rfl, rfl, rfl, rfl, rfl, rfl, trivial⟩, H73⟩
          · clear ha72
            intro s o76 a w74 hs75 hI77
            obtain ⟨s67, s68⟩ := s
            obtain ⟨vs67, ha, H78⟩ := hI77
            refine WP.app ?_ ha
            clear ha
            refine WP_seq ?_
            refine WP_seq ?_
            refine WP_region ?_
            refine XL_q rfl (qt_move rfl) rfl rfl ?_
            refine XL_q rfl (qt_move rfl) rfl rfl ?_
            refine XL_lenH H78.ctx (t := (.int .i64)) (hp0.c.c.c.c) u23 rfl rfl rfl ?_
            refine XL_q rfl (qt_lss rfl rfl) rfl rfl ?_
            refine WL_nil_seq ?_
            refine WP_cond rfl (fun hc79 => ?_) (fun hc79 => ?_)
            · have hs75 := if_t hc79 hs75
              refine WP_skip_seq ?_
              refine WP_seq ?_
              refine WP_block ?_
              refine WP_seq ?_
              refine WP_region ?_
              refine XL_q rfl (qt_move rfl) rfl rfl ?_
              refine XL_q rfl (qt_move rfl) rfl rfl ?_
              obtain ⟨x80, hx81, hs75⟩ := bind_some hs75
              refine XL_q rfl (qt_shrO rfl rfl hx81) rfl rfl ?_
              refine XL_q rfl (qt_rem rfl rfl (by decide)) rfl rfl ?_
              refine XL_q rfl (qt_eql rfl rfl) rfl rfl ?_
              refine WL_nil_seq ?_
              refine WP_cond rfl (fun hc82 => ?_) (fun hc82 => ?_)
              · have hs75 := if_t hc82 hs75
                refine WP_region ?_
                refine XL_q rfl (qt_move rfl) rfl rfl ?_
                refine XL_q rfl (qt_move rfl) rfl rfl ?_
                refine XL_q rfl (qt_move rfl) rfl rfl ?_
                obtain ⟨x83, hx84, hs75⟩ := bind_some hs75
                refine XL_indexH H78.ctx (hp0.c.c.c.c) hx84 u23 i3 rfl rfl rfl rfl (fun b85 off86 cap87 hv88 => ?_)
                obtain ⟨F89, hat90, hdup91⟩ := H78.at (hp0.c.c.c.c) hx84 hv88
                refine XL_load_int (k := .i64) u3 rfl hat90 rfl rfl rfl ?_
                refine WL_buildH (t := (.int .i64)) (args := [.tmp 59]) (xs := ([x83] : List Int)) H78 (BltL.cons (Blt.int) rfl (BltL.nil)) u23 j3 rfl rfl rfl rfl rfl rfl (fun v92 w93 H94 => ?_)
                have H95 : Holds (([] : List Res).flatMap Res.own) w w93 [.sl 3 (.int .i64) v92 ([x83]), .sl 40 (.pair (.int .i64) (.pair (.int .i64) (.int .i64))) v1 ([]), .sl 3 (.int .i64) v44 x40, .sl 3 (.int .i64) vs50 s50, .sl 3 (.int .i64) vs67 s67] G := H94
                have H96 : Holds (([] : List Res).flatMap Res.own) w w93 [.sl 3 (.int .i64) vs67 s67, .sl 3 (.int .i64) v92 ([x83]), .sl 40 (.pair (.int .i64) (.pair (.int .i64) (.int .i64))) v1 ([]), .sl 3 (.int .i64) v44 x40, .sl 3 (.int .i64) vs50 s50] G := H95.pull 4
                obtain ⟨x97, hx98, hs75⟩ := bind_some hs75
                refine WL_appendH H96 (Has.c (Has.hd)) hx98 u23 j3 rfl rfl rfl rfl rfl rfl (fun v99 w100 H101 => ?_)
                have H102 : Holds (([] : List Res).flatMap Res.own) w w100 [.sl 3 (.int .i64) v99 x97, .sl 3 (.int .i64) v92 ([x83]), .sl 40 (.pair (.int .i64) (.pair (.int .i64) (.int .i64))) v1 ([]), .sl 3 (.int .i64) v44 x40, .sl 3 (.int .i64) vs50 s50] G := H101
                refine XL_q rfl (qt_assign rfl) rfl rfl ?_
                refine WL_nil fun a ha => ?_
                refine nrm_block (nrm_seq (WP.app ?_ ha))
                refine WP_region ?_
                refine XL_q rfl (qt_move rfl) rfl rfl ?_
                refine XL_q rfl (qt_add rfl rfl) rfl rfl ?_
                refine XL_q rfl (qt_assign rfl) rfl rfl ?_
                refine WL_nil fun a ha => ?_
                obtain rfl := Option.some.inj hs75
                have H103 : Holds (([] : List Res).flatMap Res.own) w w100 [.sl 40 (.pair (.int .i64) (.pair (.int .i64) (.int .i64))) v1 ([]), .sl 3 (.int .i64) v44 x40, .sl 3 (.int .i64) vs50 s50, .sl 3 (.int .i64) v99 x97] G := ((((H102.cut 1).pull 3).pull 3).pull 3)
                exact ⟨rfl, v99, ha.sub ⟨rfl, rfl, rfl, rfl, rfl, rfl, rfl, rfl, trivial⟩, H103⟩
              · have hs75 := if_f hc82 hs75
                refine WP_skip fun a ha => ?_
                refine nrm_block (nrm_seq (WP.app ?_ ha))
                refine WP_region ?_
                refine XL_q rfl (qt_move rfl) rfl rfl ?_
                refine XL_q rfl (qt_add rfl rfl) rfl rfl ?_
                refine XL_q rfl (qt_assign rfl) rfl rfl ?_
                refine WL_nil fun a ha => ?_
                obtain rfl := Option.some.inj hs75
                have H104 : Holds (([] : List Res).flatMap Res.own) w w74 [.sl 40 (.pair (.int .i64) (.pair (.int .i64) (.int .i64))) v1 ([]), .sl 3 (.int .i64) v44 x40, .sl 3 (.int .i64) vs50 s50, .sl 3 (.int .i64) vs67 s67] G := ((((H78.pull 3).pull 3).pull 3).pull 3)
                exact ⟨rfl, vs67, ha.sub ⟨rfl, rfl, rfl, rfl, rfl, rfl, rfl, rfl, trivial⟩, H104⟩
            · have hs75 := if_f hc79 hs75
              refine WP_exit fun a ha => ?_
              obtain rfl := Option.some.inj hs75
              have H105 : Holds (([] : List Res).flatMap Res.own) w w74 [.sl 40 (.pair (.int .i64) (.pair (.int .i64) (.int .i64))) v1 ([]), .sl 3 (.int .i64) v44 x40, .sl 3 (.int .i64) vs50 s50, .sl 3 (.int .i64) vs67 s67] G := ((((H78.pull 3).pull 3).pull 3).pull 3)
              exact exit_seq (⟨exit_ne, rfl, vs67, ha.sub ⟨rfl, rfl, rfl, rfl, rfl, rfl, rfl, trivial⟩, H105⟩)
          · intro e a71 w106 hO107
            obtain ⟨p108, rfl⟩ : ∃ z, z = o69 := ⟨o69, rfl⟩
            obtain ⟨rfl, hO110⟩ := hO107
            obtain ⟨vp108, ha, H109⟩ := hO110
            refine exit_block_eq (nrm_seq (WP.app ?_ ha))
            refine WP_seq ?_
            refine WP_region ?_
            refine XL_q rfl (qt_move rfl) rfl rfl ?_
            refine XL_q rfl (qt_move rfl) rfl rfl ?_
            obtain ⟨x111, hx112, hs58⟩ := bind_some hs58
            refine XL_indexH H109.ctx (Has.c (Has.hd)) hx112 u23 i3 rfl rfl rfl rfl (fun b113 off114 cap115 hv116 => ?_)
            obtain ⟨F117, hat118, hdup119⟩ := H109.at (Has.c (Has.hd)) hx112 hv116
            refine XL_load_int (k := .i64) u3 rfl hat118 rfl rfl rfl ?_
            refine XL_q rfl (qt_geq rfl rfl) rfl rfl ?_
            refine WL_nil_seq ?_
            refine WP_cond rfl (fun hc120 => ?_) (fun hc120 => ?_)
            · have hs58 := if_t hc120 hs58
              refine WP_region ?_
              refine XL_q rfl (qt_move rfl) rfl rfl ?_
              refine XL_q rfl (qt_move rfl) rfl rfl ?_
              obtain ⟨x121, hx122, hs58⟩ := bind_some hs58
              refine WL_call rfl rfl c21 (w_spec_GroupsMost w106 ([.sl 40 (.pair (.int .i64) (.pair (.int .i64) (.int .i64))) v1 ([]), .sl 3 (.int .i64) v44 x40, .sl 3 (.int .i64) vs50 s50, .sl 3 (.int .i64) vp108 p108] ++ G) vp108 p108 (Has.c (Has.c (Has.c (Has.hd)))) x121 hx122 H109.ctx) (by rfl) ?_
              rintro _ w123 ⟨rfl, H124⟩; refine ⟨_, rfl, ?_⟩
              have H125 : Holds (([] : List Res).flatMap Res.own) w w123 [.sl 40 (.pair (.int .i64) (.pair (.int .i64) (.int .i64))) v1 ([]), .sl 3 (.int .i64) v44 x40, .sl 3 (.int .i64) vs50 s50, .sl 3 (.int .i64) vp108 p108] G := H109.calledN (Rs := []) H124
              refine XL_q rfl (qt_max rfl rfl) rfl rfl ?_
              refine WL_buildH (t := (.int .i64)) (args := [.tmp 70]) (xs := ([(if 0 > x121 then 0 else x121)] : List Int)) H125 (BltL.cons (Blt.int) rfl (BltL.nil)) u23 j3 rfl rfl rfl rfl rfl rfl (fun v126 w127 H128 => ?_)
              have H129 : Holds (([] : List Res).flatMap Res.own) w w127 [.sl 3 (.int .i64) v126 ([(if 0 > x121 then 0 else x121)]), .sl 40 (.pair (.int .i64) (.pair (.int .i64) (.int .i64))) v1 ([]), .sl 3 (.int .i64) v44 x40, .sl 3 (.int .i64) vs50 s50, .sl 3 (.int .i64) vp108 p108] G := H128
              have H130 : Holds (([] : List Res).flatMap Res.own) w w127 [.sl 3 (.int .i64) vs50 s50, .sl 3 (.int .i64) v126 ([(if 0 > x121 then 0 else x121)]), .sl 40 (.pair (.int .i64) (.pair (.int .i64) (.int .i64))) v1 ([]), .sl 3 (.int .i64) v44 x40, .sl 3 (.int .i64) vp108 p108] G := H129.pull 3
              obtain ⟨x131, hx132, hs58⟩ := bind_some hs58
              refine WL_appendH H130 (Has.c (Has.hd)) hx132 u23 j3 rfl rfl rfl rfl rfl rfl (fun v133 w134 H135 => ?_)
              have H136 : Holds (([] : List Res).flatMap Res.own) w w134 [.sl 3 (.int .i64) v133 x131, .sl 3 (.int .i64) v126 ([(if 0 > x121 then 0 else x121)]), .sl 40 (.pair (.int .i64) (.pair (.int .i64) (.int .i64))) v1 ([]), .sl 3 (.int .i64) v44 x40, .sl 3 (.int .i64) vp108 p108] G := H135
              refine XL_q rfl (qt_assign rfl) rfl rfl ?_
              refine WL_nil fun a ha => ?_
              refine nrm_block (nrm_seq (WP.app ?_ ha))
              refine WP_region ?_
              refine XL_q rfl (qt_move rfl) rfl rfl ?_
              refine XL_q rfl (qt_add rfl rfl) rfl rfl ?_
              refine XL_q rfl (qt_assign rfl) rfl rfl ?_
              refine WL_nil fun a ha => ?_
              obtain rfl := Option.some.inj hs58
              have H137 : Holds (([] : List Res).flatMap Res.own) w w134 [.sl 40 (.pair (.int .i64) (.pair (.int .i64) (.int .i64))) v1 ([]), .sl 3 (.int .i64) v44 x40, .sl 3 (.int .i64) v133 x131] G := ((((H136.cut 1).cut 3).pull 2).pull 2)
              exact ⟨rfl, v133, ha.sub ⟨rfl, rfl, rfl, rfl, rfl, rfl, trivial⟩, H137⟩
            · have hs58 := if_f hc120 hs58
              refine WP_region ?_
              refine XL_q rfl (qt_move rfl) rfl rfl ?_
              refine WL_buildH (t := (.int .i64)) (args := [.const (.int .i64 (-1))]) (xs := ([(-1)] : List Int)) H109 (BltL.cons (Blt.int) rfl (BltL.nil)) u23 j3 rfl rfl rfl rfl rfl rfl (fun v138 w139 H140 => ?_)
              have H141 : Holds (([] : List Res).flatMap Res.own) w w139 [.sl 3 (.int .i64) v138 ([(-1)]), .sl 40 (.pair (.int .i64) (.pair (.int .i64) (.int .i64))) v1 ([]), .sl 3 (.int .i64) v44 x40, .sl 3 (.int .i64) vs50 s50, .sl 3 (.int .i64) vp108 p108] G := H140
              have H142 : Holds (([] : List Res).flatMap Res.own) w w139 [.sl 3 (.int .i64) vs50 s50, .sl 3 (.int .i64) v138 ([(-1)]), .sl 40 (.pair (.int .i64) (.pair (.int .i64) (.int .i64))) v1 ([]), .sl 3 (.int .i64) v44 x40, .sl 3 (.int .i64) vp108 p108] G := H141.pull 3
              obtain ⟨x143, hx144, hs58⟩ := bind_some hs58
              refine WL_appendH H142 (Has.c (Has.hd)) hx144 u23 j3 rfl rfl rfl rfl rfl rfl (fun v145 w146 H147 => ?_)
              have H148 : Holds (([] : List Res).flatMap Res.own) w w146 [.sl 3 (.int .i64) v145 x143, .sl 3 (.int .i64) v138 ([(-1)]), .sl 40 (.pair (.int .i64) (.pair (.int .i64) (.int .i64))) v1 ([]), .sl 3 (.int .i64) v44 x40, .sl 3 (.int .i64) vp108 p108] G := H147
              refine XL_q rfl (qt_assign rfl) rfl rfl ?_
              refine WL_nil fun a ha => ?_
              refine nrm_block (nrm_seq (WP.app ?_ ha))
              refine WP_region ?_
              refine XL_q rfl (qt_move rfl) rfl rfl ?_
              refine XL_q rfl (qt_add rfl rfl) rfl rfl ?_
              refine XL_q rfl (qt_assign rfl) rfl rfl ?_
              refine WL_nil fun a ha => ?_
              obtain rfl := Option.some.inj hs58
              have H149 : Holds (([] : List Res).flatMap Res.own) w w146 [.sl 40 (.pair (.int .i64) (.pair (.int .i64) (.int .i64))) v1 ([]), .sl 3 (.int .i64) v44 x40, .sl 3 (.int .i64) v145 x143] G := ((((H148.cut 1).cut 3).pull 2).pull 2)
              exact ⟨rfl, v145, ha.sub ⟨rfl, rfl, rfl, rfl, rfl, rfl, trivial⟩, H149⟩
        · have hs58 := if_f hc62 hs58
          refine WP_exit fun a ha => ?_
          obtain rfl := Option.some.inj hs58
          have H150 : Holds (([] : List Res).flatMap Res.own) w w57 [.sl 40 (.pair (.int .i64) (.pair (.int .i64) (.int .i64))) v1 ([]), .sl 3 (.int .i64) vs50 s50] G := (((H61.cut 1).pull 1).pull 1)
          exact exit_seq (⟨exit_ne, rfl, vs50, ha.sub ⟨rfl, rfl, rfl, rfl, trivial⟩, H150⟩)
      · intro e a54 w151 hO152
        obtain ⟨p153, rfl⟩ : ∃ z, z = o52 := ⟨o52, rfl⟩
        obtain ⟨rfl, hO155⟩ := hO152
        obtain ⟨vp153, ha, H154⟩ := hO155
        refine exit_block_eq (nrm_seq (WP.app ?_ ha))
        refine WP_seq ?_
        refine WP_block ?_
        obtain ⟨o158, ho159, h⟩ := bind_some h
        have H162 : Holds (([] : List Res).flatMap Res.own) w w151 [.sl 40 (.pair (.int .i64) (.pair (.int .i64) (.int .i64))) v1 ([]), .sl 3 (.int .i64) vp153 p153] G := ((H154.pull 1).pull 1)
        refine fun a160 ha161 => wp_loop_fix (I := fun s a w2 => match s with | (s156, s157) => ∃ vs156, Fr a 111 [(0, vp0), (3, vs156), (4, .int .i64 s157), (7, vp153)] ∧ Holds (([] : List Res).flatMap Res.own) w w2 [.sl 40 (.pair (.int .i64) (.pair (.int .i64) (.int .i64))) vs156 s156, .sl 3 (.int .i64) vp153 p153] G) (O := fun o e a w2 => match o with | q0 => e = .exit 6 ∧ ∃ vq0, Fr a 111 [(3, vq0)] ∧ Holds (([] : List Res).flatMap Res.own) w w2 [.sl 40 (.pair (.int .i64) (.pair (.int .i64) (.int .i64))) vq0 q0] G) ho159 ?_ ?_ ?_
        · exact ⟨v1, ha161.sub ⟨rfl, rfl, rfl, rfl, trivial⟩, H162⟩
        · clear ha161
          intro s o165 a w163 hs164 hI166
          obtain ⟨s156, s157⟩ := s
          obtain ⟨vs156, ha, H167⟩ := hI166
          refine WP.app ?_ ha
          clear ha
          refine WP_seq ?_
          refine WP_seq ?_
          refine WP_region ?_
          refine XL_q rfl (qt_move rfl) rfl rfl ?_
          refine XL_q rfl (qt_gtr rfl rfl) rfl rfl ?_
          refine WL_nil_seq ?_
          refine WP_cond rfl (fun hc168 => ?_) (fun hc168 => ?_)
          · have hs164 := if_t hc168 hs164
            refine WP_skip_seq ?_
            refine WP_block ?_
            refine WP_seq ?_
            refine WP_still ?_
            refine XL_q rfl (qt_move rfl) rfl rfl ?_
            refine XL_q rfl (qt_move rfl) rfl rfl ?_
            refine XL_q rfl (qt_move rfl) rfl rfl ?_
            obtain ⟨x169, hx170, hs164⟩ := bind_some hs164
            refine QL_call rfl rfl c64 (fun w' hb => (w_spec_l5First w' ([.sl 40 (.pair (.int .i64) (.pair (.int .i64) (.int .i64))) vs156 s156, .sl 3 (.int .i64) vp153 p153] ++ G) vp0 p0 (hp0.c.c) vp153 p153 (Has.c (Has.hd)) s157 x169 hx170 (H167.grow hb).ctx).mono fun e w'' hK => ⟨hK.1, hK.2.bel⟩) (by rfl) ?_
            refine XL_q rfl (qt_assign rfl) rfl rfl ?_
            refine QL_nil fun a ha w171 hb172 => ?_
            have H173 : Holds (([] : List Res).flatMap Res.own) w w171 [.sl 40 (.pair (.int .i64) (.pair (.int .i64) (.int .i64))) vs156 s156, .sl 3 (.int .i64) vp153 p153] G := H167.grow hb172
            refine nrm_seq (WP.app ?_ ha)
            refine WP_seq ?_
            refine WP_region ?_
            refine XL_q rfl (qt_move rfl) rfl rfl ?_
            refine XL_lenH H173.ctx (t := (.int .i64)) (hp0.c.c) u23 rfl rfl rfl ?_
            obtain ⟨x174, hx175, hs164⟩ := bind_some hs164
            refine WL_makeH H173 hx175 u23 j3 rfl (fun _ => ⟨rfl, rfl⟩) rfl rfl rfl rfl rfl (fun v176 w177 H178 => ?_)
            have H179 : Holds (([] : List Res).flatMap Res.own) w w177 [.sl 3 (.int .i64) v176 x174, .sl 40 (.pair (.int .i64) (.pair (.int .i64) (.int .i64))) vs156 s156, .sl 3 (.int .i64) vp153 p153] G := H178
            refine XL_q rfl (qt_assign rfl) rfl rfl ?_
            refine WL_nil_seq ?_
            refine WP_seq ?_
            refine WP_seq ?_
            refine WP_region ?_
            refine XL_q rfl (qt_assign rfl) rfl rfl ?_
            refine WL_nil_seq ?_
            refine WP_block ?_
            obtain ⟨o182, ho183, hs164⟩ := bind_some hs164
            have H186 : Holds (([] : List Res).flatMap Res.own) w w177 [.sl 40 (.pair (.int .i64) (.pair (.int .i64) (.int .i64))) vs156 s156, .sl 3 (.int .i64) vp153 p153, .sl 3 (.int .i64) v176 x174] G := ((H179.pull 2).pull 2)
            refine fun a184 ha185 => wp_loop_fix (I := fun s a w2 => match s with | (s180, s181) => (Fr a 111 [(0, vp0), (3, vs156), (4, .int .i64 s157), (7, vp153), (11, .int .i64 x169), (12, v176), (13, .int .i64 s180)] ∧ Holds (([] : List Res).flatMap Res.own) w w2 [.sl 40 (.pair (.int .i64) (.pair (.int .i64) (.int .i64))) vs156 s156, .sl 3 (.int .i64) vp153 p153, .sl 3 (.int .i64) v176 s181] G)) (O := fun o e a w2 => match o with | q0 => e = .exit 8 ∧ (Fr a 111 [(0, vp0), (3, vs156), (4, .int .i64 s157), (7, vp153), (11, .int .i64 x169), (12, v176)] ∧ Holds (([] : List Res).flatMap Res.own) w w2 [.sl 40 (.pair (.int .i64) (.pair (.int .i64) (.int .i64))) vs156 s156, .sl 3 (.int .i64) vp153 p153, .sl 3 (.int .i64) v176 q0] G)) ho183 ?_ ?_ ?_
            · exact ⟨ha185.sub ⟨rfl, rfl, rfl, rfl, rfl, rfl, rfl, trivial⟩, H186⟩
            · clear ha185
              intro s o189 a w187 hs188 hI190
              obtain ⟨s180, s181⟩ := s
              obtain ⟨ha, H191⟩ := hI190
              refine WP.app ?_ ha
              clear ha
              refine WP_seq ?_
              refine WP_seq ?_
              refine WP_region ?_
              refine XL_q rfl (qt_move rfl) rfl rfl ?_
              refine XL_q rfl (qt_move rfl) rfl rfl ?_
              refine XL_lenH H191.ctx (t := (.int .i64)) (hp0.c.c.c) u23 rfl rfl rfl ?_
              refine XL_q rfl (qt_lss rfl rfl) rfl rfl ?_
              refine WL_nil_seq ?_
              refine WP_cond rfl (fun hc192 => ?_) (fun hc192 => ?_)
              · have hs188 := if_t hc192 hs188
                refine WP_skip_seq ?_
                refine WP_seq ?_
                refine WP_block ?_
                refine WP_seq ?_
                refine WP_region ?_
                refine XL_q rfl (qt_move rfl) rfl rfl ?_
                refine XL_q rfl (qt_move rfl) rfl rfl ?_
                obtain ⟨x193, hx194, hs188⟩ := bind_some hs188
                refine XL_q rfl (qt_shrO rfl rfl hx194) rfl rfl ?_
                refine XL_q rfl (qt_rem rfl rfl (by decide)) rfl rfl ?_
                refine XL_q rfl (qt_eql rfl rfl) rfl rfl ?_
                refine WL_nil_seq ?_
                refine WP_cond rfl (fun hc195 => ?_) (fun hc195 => ?_)
                · have hs188 := if_t hc195 hs188
                  refine WP_region ?_
                  refine XL_q rfl (qt_move rfl) rfl rfl ?_
                  refine XL_q rfl (qt_move rfl) rfl rfl ?_
                  refine XL_q rfl (qt_move rfl) rfl rfl ?_
                  refine XL_q rfl (qt_move rfl) rfl rfl ?_
                  obtain ⟨x196, hx197, hs188⟩ := bind_some hs188
                  refine XL_indexH H191.ctx (hp0.c.c.c) hx197 u23 i3 rfl rfl rfl rfl (fun b198 off199 cap200 hv201 => ?_)
                  obtain ⟨F202, hat203, hdup204⟩ := H191.at (hp0.c.c.c) hx197 hv201
                  refine XL_load_int (k := .i64) u3 rfl hat203 rfl rfl rfl ?_
                  obtain ⟨x205, hx206, hs188⟩ := bind_some hs188
                  refine XL_indexH H191.ctx (Has.c (Has.c (Has.hd))) hx206 u23 i3 rfl rfl rfl rfl (fun b207 off208 cap209 hv210 => ?_)
                  have H211 : Holds (([] : List Res).flatMap Res.own) w w187 [.sl 3 (.int .i64) v176 s181, .sl 40 (.pair (.int .i64) (.pair (.int .i64) (.int .i64))) vs156 s156, .sl 3 (.int .i64) vp153 p153] G := H191.pull 2
                  refine WL_storeH (fo := 0) (cs' := [.int .i64 x196]) H211 hx206 hv210 (Upd.whole (Blt.int)) rfl il3 rfl rfl rfl rfl (fun w212 H213 => ?_)
                  have H214 : Holds (([] : List Res).flatMap Res.own) w w212 [.sl 3 (.int .i64) v176 (List.set s181 (Int.toNat s180) x196), .sl 40 (.pair (.int .i64) (.pair (.int .i64) (.int .i64))) vs156 s156, .sl 3 (.int .i64) vp153 p153] G := H213
                  refine WL_nil fun a ha => ?_
                  refine nrm_block (nrm_seq (WP.app ?_ ha))
                  refine WP_region ?_
                  refine XL_q rfl (qt_move rfl) rfl rfl ?_
                  refine XL_q rfl (qt_add rfl rfl) rfl rfl ?_
                  refine XL_q rfl (qt_assign rfl) rfl rfl ?_
                  refine WL_nil fun a ha => ?_
                  obtain rfl := Option.some.inj hs188
                  have H215 : Holds (([] : List Res).flatMap Res.own) w w212 [.sl 40 (.pair (.int .i64) (.pair (.int .i64) (.int .i64))) vs156 s156, .sl 3 (.int .i64) vp153 p153, .sl 3 (.int .i64) v176 (List.set s181 (Int.toNat s180) x196)] G := ((H214.pull 2).pull 2)
                  exact ⟨rfl, ha.sub ⟨rfl, rfl, rfl, rfl, rfl, rfl, rfl, trivial⟩, H215⟩
                · have hs188 := if_f hc195 hs188
                  refine WP_skip fun a ha => ?_
                  refine nrm_block (nrm_seq (WP.app ?_ ha))
                  refine WP_region ?_
                  refine XL_q rfl (qt_move rfl) rfl rfl ?_
                  refine XL_q rfl (qt_add rfl rfl) rfl rfl ?_
                  refine XL_q rfl (qt_assign rfl) rfl rfl ?_
                  refine WL_nil fun a ha => ?_
                  obtain rfl := Option.some.inj hs188
                  have H216 : Holds (([] : List Res).flatMap Res.own) w w187 [.sl 40 (.pair (.int .i64) (.pair (.int .i64) (.int .i64))) vs156 s156, .sl 3 (.int .i64) vp153 p153, .sl 3 (.int .i64) v176 s181] G := (((H191.pull 2).pull 2).pull 2)
                  exact ⟨rfl, ha.sub ⟨rfl, rfl, rfl, rfl, rfl, rfl, rfl, trivial⟩, H216⟩
              · have hs188 := if_f hc192 hs188
                refine WP_exit fun a ha => ?_
                obtain rfl := Option.some.inj hs188
                have H217 : Holds (([] : List Res).flatMap Res.own) w w187 [.sl 40 (.pair (.int .i64) (.pair (.int .i64) (.int .i64))) vs156 s156, .sl 3 (.int .i64) vp153 p153, .sl 3 (.int .i64) v176 s181] G := (((H191.pull 2).pull 2).pull 2)
                exact exit_seq (⟨exit_ne, rfl, ha.sub ⟨rfl, rfl, rfl, rfl, rfl, rfl, trivial⟩, H217⟩)
            · intro e a184 w218 hO219
              obtain ⟨p220, rfl⟩ : ∃ z, z = o182 := ⟨o182, rfl⟩
              obtain ⟨rfl, hO222⟩ := hO219
              obtain ⟨ha, H221⟩ := hO222
              refine exit_block_eq (nrm_seq (WP.app ?_ ha))
              refine WP_seq ?_
              refine WP_region ?_
              refine XL_q rfl (qt_move rfl) rfl rfl ?_
              refine XL_q rfl (qt_move rfl) rfl rfl ?_
              obtain ⟨x223, hx224, hs164⟩ := bind_some hs164
              refine WL_call rfl rfl c25 (w_spec_SettleFast w218 ([.sl 40 (.pair (.int .i64) (.pair (.int .i64) (.int .i64))) vs156 s156, .sl 3 (.int .i64) vp153 p153, .sl 3 (.int .i64) v176 p220] ++ G) v176 p220 (Has.c (Has.c (Has.hd))) x223 hx224 H221.ctx) (by rfl) ?_
              rintro _ w225 ⟨v227, rfl, H226⟩; refine ⟨_, rfl, ?_⟩
              have H228 : Holds (([] : List Res).flatMap Res.own) w w225 [.sl 40 (.pair (.int .i64) (.pair (.int .i64) (.int .i64))) v227 x223, .sl 40 (.pair (.int .i64) (.pair (.int .i64) (.int .i64))) vs156 s156, .sl 3 (.int .i64) vp153 p153, .sl 3 (.int .i64) v176 p220] G := H221.calledN (Rs := []) H226
              have H229 : Holds (([] : List Res).flatMap Res.own) w w225 [.sl 40 (.pair (.int .i64) (.pair (.int .i64) (.int .i64))) vs156 s156, .sl 40 (.pair (.int .i64) (.pair (.int .i64) (.int .i64))) v227 x223, .sl 3 (.int .i64) vp153 p153, .sl 3 (.int .i64) v176 p220] G := H228.pull 1
              obtain ⟨x230, hx231, hs164⟩ := bind_some hs164
              refine WL_appendH H229 (Has.c (Has.hd)) hx231 u29 j40 rfl rfl rfl rfl rfl rfl (fun v232 w233 H234 => ?_)
              have H235 : Holds (([] : List Res).flatMap Res.own) w w233 [.sl 40 (.pair (.int .i64) (.pair (.int .i64) (.int .i64))) v232 x230, .sl 40 (.pair (.int .i64) (.pair (.int .i64) (.int .i64))) v227 x223, .sl 3 (.int .i64) vp153 p153, .sl 3 (.int .i64) v176 p220] G := H234
              refine XL_q rfl (qt_assign rfl) rfl rfl ?_
              refine WL_nil_seq ?_
              refine WP_region ?_
              refine XL_q rfl (qt_move rfl) rfl rfl ?_
              refine XL_q rfl (qt_move rfl) rfl rfl ?_
              refine XL_q rfl (qt_sub rfl rfl) rfl rfl ?_
              refine XL_q rfl (qt_assign rfl) rfl rfl ?_
              refine WL_nil fun a ha => ?_
              obtain rfl := Option.some.inj hs164
              have H236 : Holds (([] : List Res).flatMap Res.own) w w233 [.sl 40 (.pair (.int .i64) (.pair (.int .i64) (.int .i64))) v232 x230, .sl 3 (.int .i64) vp153 p153] G := ((((H235.cut 1).cut 2).pull 1).pull 1)
              exact nrm_block (⟨rfl, v232, ha.sub ⟨rfl, rfl, rfl, rfl, trivial⟩, H236⟩)
          · have hs164 := if_f hc168 hs164
            refine WP_exit fun a ha => ?_
            obtain rfl := Option.some.inj hs164
            have H237 : Holds (([] : List Res).flatMap Res.own) w w163 [.sl 40 (.pair (.int .i64) (.pair (.int .i64) (.int .i64))) vs156 s156] G := (H167.cut 1)
            exact exit_seq (⟨exit_ne, rfl, vs156, ha.sub ⟨rfl, trivial⟩, H237⟩)
        · intro e a160 w238 hO239
          obtain ⟨p240, rfl⟩ : ∃ z, z = o158 := ⟨o158, rfl⟩
          obtain ⟨rfl, hO242⟩ := hO239
          obtain ⟨vp240, ha, H241⟩ := hO242
          refine exit_block_eq (nrm_seq (WP.app ?_ ha))
          refine WP_seq ?_
          refine WP_region ?_
          refine XL_q rfl (qt_move rfl) rfl rfl ?_
          refine XL_q rfl (qt_assign rfl) rfl rfl ?_
          refine WL_nil_seq ?_
          refine WP_ret fun a ha => ?_
          obtain rfl := Option.some.inj h
          exact ret1 rfl ha rfl ⟨vp240, rfl, H241⟩
theorem w_laws_FnSettleBest (w : World) (G : List Res) (vp0 : Value) (p0 : List Int) (hp0 : HasRo G (.int .u8) vp0 p0) (r : Bool) (h : laws_FnSettleBestS p0 = some r) (H : Ctx w G) : Calls Tryd.prog 10 #[vp0] w fun e w' => e = .returned (.bool r) ∧ Holds (([] : List Res).flatMap Res.own) w w' [] G := by
  have H : Holds (([] : List Res).flatMap Res.own) w w [] G := Holds.startN H
  refine calls_enter (args := [vp0]) (n := 56) Tryd.func10 rfl rfl rfl ?_
  unfold laws_FnSettleBestS at h
  refine WP_seq ?_
  refine WP_region ?_
  refine XL_q rfl (qt_assign rfl) rfl rfl ?_
  refine WL_nil_seq ?_
  refine WP_seq ?_
  refine WP_seq ?_
  refine WP_region ?_
  refine XL_q rfl (qt_move rfl) rfl rfl ?_
  refine XL_lenH H.ctx (t := (.int .u8)) (hp0.has) u22 rfl rfl rfl ?_
  refine XL_q rfl (qt_gtr rfl rfl) rfl rfl ?_
  refine WL_nil_seq ?_
  refine WP_cond rfl (fun hc1 => ?_) (fun hc1 => ?_)
  · have h := if_t hc1 h
    refine WP_seq ?_
    refine WP_region ?_
    refine XL_q rfl (qt_assign rfl) rfl rfl ?_
    refine WL_nil_seq ?_
    refine WP_ret fun a ha => ?_
    obtain rfl := Option.some.inj h
    exact ret_seq (ret1 rfl ha rfl ⟨rfl, H⟩)
  · have h := if_f hc1 h
    refine WP_skip_seq ?_
    refine WP_seq ?_
    refine WP_region ?_
    refine XL_q rfl (qt_move rfl) rfl rfl ?_
    obtain ⟨x2, hx3, h⟩ := bind_some h
    refine WL_call rfl rfl c38 (w_spec_DrawSettleBest w G vp0 p0 (hp0) x2 hx3 H.ctx) (by rfl) ?_
    rintro _ w4 ⟨v6, rfl, H5⟩; refine ⟨_, rfl, ?_⟩
    have H7 : Holds (([] : List Res).flatMap Res.own) w w4 [.sl 3 (.int .i64) v6 x2] G := H.calledN (Rs := []) H5
    refine XL_q rfl (qt_assign rfl) rfl rfl ?_
    refine WL_nil_seq ?_
    refine WP_seq ?_
    refine WP_region ?_
    refine XL_q rfl (qt_move rfl) rfl rfl ?_
    obtain ⟨x8, hx9, h⟩ := bind_some h
    refine WL_call rfl rfl c37 (w_impl_SettleBest w4 ([.sl 3 (.int .i64) v6 x2] ++ G) v6 x2 (Has.hd) x8 hx9 H7.ctx) (by rfl) ?_
    rintro _ w10 ⟨v12, rfl, H11⟩; refine ⟨_, rfl, ?_⟩
    have H13 : Holds (([] : List Res).flatMap Res.own) w w10 [.sl 40 (.pair (.int .i64) (.pair (.int .i64) (.int .i64))) v12 x8, .sl 3 (.int .i64) v6 x2] G := H7.calledN (Rs := []) H11
    refine XL_q rfl (qt_assign rfl) rfl rfl ?_
    refine WL_nil_seq ?_
    refine WP_seq ?_
    refine WP_seq ?_
    refine WP_region ?_
    refine XL_q rfl (qt_move rfl) rfl rfl ?_
    refine XL_q rfl (qt_move rfl) rfl rfl ?_
    obtain ⟨x14, hx15, h⟩ := bind_some h
    refine WL_call rfl rfl c39 (w_spec_SettleBest w10 ([.sl 40 (.pair (.int .i64) (.pair (.int .i64) (.int .i64))) v12 x8, .sl 3 (.int .i64) v6 x2] ++ G) v6 x2 (Has.c (Has.hd)) x14 hx15 H13.ctx) (by rfl) ?_
    rintro _ w16 ⟨v18, rfl, H17⟩; refine ⟨_, rfl, ?_⟩
    have H19 : Holds (([] : List Res).flatMap Res.own) w w16 [.sl 40 (.pair (.int .i64) (.pair (.int .i64) (.int .i64))) v18 x14, .sl 40 (.pair (.int .i64) (.pair (.int .i64) (.int .i64))) v12 x8, .sl 3 (.int .i64) v6 x2] G := H13.calledN (Rs := []) H17
    obtain ⟨x20, hx21, h⟩ := bind_some h
    refine WL_call rfl rfl c24 (w_laws_samePays w16 ([.sl 40 (.pair (.int .i64) (.pair (.int .i64) (.int .i64))) v18 x14, .sl 40 (.pair (.int .i64) (.pair (.int .i64) (.int .i64))) v12 x8, .sl 3 (.int .i64) v6 x2] ++ G) v12 x8 (Has.c (Has.hd)) v18 x14 (Has.hd) x20 hx21 H19.ctx) (by rfl) ?_
    rintro _ w22 ⟨rfl, H23⟩; refine ⟨_, rfl, ?_⟩
    have H24 : Holds (([] : List Res).flatMap Res.own) w w22 [.sl 40 (.pair (.int .i64) (.pair (.int .i64) (.int .i64))) v18 x14, .sl 40 (.pair (.int .i64) (.pair (.int .i64) (.int .i64))) v12 x8, .sl 3 (.int .i64) v6 x2] G := H19.calledN (Rs := []) H23
    refine XL_q rfl (qt_not rfl) rfl rfl ?_
    refine WL_nil_seq ?_
    refine WP_cond rfl (fun hc25 => ?_) (fun hc25 => ?_)
    · have h := if_t hc25 h
      refine WP_seq ?_
      refine WP_region ?_
      refine XL_q rfl (qt_assign rfl) rfl rfl ?_
      refine WL_nil_seq ?_
      refine WP_ret fun a ha => ?_
      obtain rfl := Option.some.inj h
      have H26 : Holds (([] : List Res).flatMap Res.own) w w22 [] G := (((H24.cut 0).cut 0).cut 0)
      exact ret_seq (ret1 rfl ha rfl ⟨rfl, H26⟩)
    · have h := if_f hc25 h
      refine WP_skip_seq ?_
      refine WP_seq ?_
      refine WP_seq ?_
      refine WP_still ?_
      refine XL_q rfl (qt_move rfl) rfl rfl ?_
      obtain ⟨x27, hx28, h⟩ := bind_some h
      refine QL_call rfl rfl c14 (fun w' hb => (w_spec_OwedValid w' ([.sl 40 (.pair (.int .i64) (.pair (.int .i64) (.int .i64))) v18 x14, .sl 40 (.pair (.int .i64) (.pair (.int .i64) (.int .i64))) v12 x8, .sl 3 (.int .i64) v6 x2] ++ G) v6 x2 (Has.c (Has.c (Has.hd))) x27 hx28 (H24.grow hb).ctx).mono fun e w'' hK => ⟨hK.1, hK.2.bel⟩) (by rfl) ?_
      refine XL_q rfl (qt_not rfl) rfl rfl ?_
      refine QL_nil fun a ha w29 hb30 => ?_
      have H31 : Holds (([] : List Res).flatMap Res.own) w w29 [.sl 40 (.pair (.int .i64) (.pair (.int .i64) (.int .i64))) v18 x14, .sl 40 (.pair (.int .i64) (.pair (.int .i64) (.int .i64))) v12 x8, .sl 3 (.int .i64) v6 x2] G := H24.grow hb30
      refine nrm_seq (WP.app ?_ ha)
      refine WP_cond rfl (fun hc32 => ?_) (fun hc32 => ?_)
      · have h := if_t hc32 h
        refine WP_seq ?_
        refine WP_still ?_
        refine XL_q rfl (qt_move rfl) rfl rfl ?_
        refine XL_lenH H31.ctx (t := (.pair (.int .i64) (.pair (.int .i64) (.int .i64)))) (Has.c (Has.hd)) u29 rfl rfl rfl ?_
        refine XL_q rfl (qt_eql rfl rfl) rfl rfl ?_
        refine XL_q rfl (qt_move rfl) rfl rfl ?_
        obtain ⟨b33, hg34, h⟩ := bind_some h
        refine XL_join 2 26 (.bool b33) ?_ (fun md hmd hk => ?_)
        rotate_left
        · obtain ⟨K, rfl⟩ := Md.quiet_of hmd
          rcases btf ((List.length x8 : Int) == 0) with hc35 | hc35
          · skip
            have hg34 := if_t hc35 hg34
            obtain ⟨x36, hx37, hg34⟩ := bind_some hg34
            refine QL_call (w_take rfl hc35) rfl c15 (fun w' hb => (w_laws_alive w' ([.sl 40 (.pair (.int .i64) (.pair (.int .i64) (.int .i64))) v18 x14, .sl 40 (.pair (.int .i64) (.pair (.int .i64) (.int .i64))) v12 x8, .sl 3 (.int .i64) v6 x2] ++ G)  x36 hx37 (H31.grow hb).ctx).mono fun e w'' hK => ⟨hK.1, hK.2.bel⟩) (by rfl) ?_
            refine XL_q rfl (qt_pickT rfl hc35 rfl) rfl rfl ?_
            exact hk _ (Cov.same (vb hg34) (Cov.fresh rfl (Cov.refl)))
          · skip
            refine XL_skip (w_skip rfl hc35) rfl rfl ?_
            refine XL_q rfl (qt_pickF rfl hc35 rfl) rfl rfl ?_
            exact hk _ (Cov.same (vb (if_f hc35 hg34)) (Cov.fresh rfl (Cov.refl)))
        refine XL_q rfl (qt_assign rfl) rfl rfl ?_
        refine QL_nil fun a ha w38 hb39 => ?_
        have H40 : Holds (([] : List Res).flatMap Res.own) w w38 [.sl 40 (.pair (.int .i64) (.pair (.int .i64) (.int .i64))) v18 x14, .sl 40 (.pair (.int .i64) (.pair (.int .i64) (.int .i64))) v12 x8, .sl 3 (.int .i64) v6 x2] G := H31.grow hb39
        refine nrm_seq (WP.app ?_ ha)
        refine WP_ret fun a ha => ?_
        obtain rfl := Option.some.inj h
        have H41 : Holds (([] : List Res).flatMap Res.own) w w38 [] G := (((H40.cut 0).cut 0).cut 0)
        exact ret_seq (ret1 rfl ha rfl ⟨rfl, H41⟩)
      · have h := if_f hc32 h
        refine WP_skip_seq ?_
        refine WP_seq ?_
        refine WP_seq ?_
        refine WP_region ?_
        refine XL_q rfl (qt_assign rfl) rfl rfl ?_
        refine WL_nil_seq ?_
        refine WP_block ?_
        obtain ⟨o43, ho44, h⟩ := bind_some h
        have H47 : Holds (([] : List Res).flatMap Res.own) w w29 [.sl 3 (.int .i64) v6 x2, .sl 40 (.pair (.int .i64) (.pair (.int .i64) (.int .i64))) v12 x8] G := ((H31.cut 0).pull 1)
        refine fun a45 ha46 => wp_loop_fix (I := fun s a w2 => match s with | s42 => (Fr a 56 [(3, v6), (4, v12), (5, .int .i64 s42)] ∧ Holds (([] : List Res).flatMap Res.own) w w2 [.sl 3 (.int .i64) v6 x2, .sl 40 (.pair (.int .i64) (.pair (.int .i64) (.int .i64))) v12 x8] G)) (O := fun o e a w2 => match o with | .inl _ => e = .exit 0 ∧ (Fr a 56 [(3, v6), (4, v12)] ∧ Holds (([] : List Res).flatMap Res.own) w w2 [.sl 3 (.int .i64) v6 x2, .sl 40 (.pair (.int .i64) (.pair (.int .i64) (.int .i64))) v12 x8] G) | .inr q0 => e = .ret ∧ (Fr a 56 [(2, .bool q0)] ∧ Holds (([] : List Res).flatMap Res.own) w w2 [] G)) ho44 ?_ ?_ ?_
        · exact ⟨ha46.sub ⟨rfl, rfl, rfl, trivial⟩, H47⟩
        · clear ha46
          intro s o50 a w48 hs49 hI51
          obtain ⟨s42, rfl⟩ : ∃ z, z = s := ⟨s, rfl⟩
          obtain ⟨ha, H52⟩ := hI51
          refine WP.app ?_ ha
          clear ha
          refine WP_seq ?_
          refine WP_seq ?_
          refine WP_region ?_
          refine XL_q rfl (qt_move rfl) rfl rfl ?_
          refine XL_q rfl (qt_move rfl) rfl rfl ?_
          refine XL_lenH H52.ctx (t := (.pair (.int .i64) (.pair (.int .i64) (.int .i64)))) (Has.c (Has.hd)) u29 rfl rfl rfl ?_
          refine XL_q rfl (qt_lss rfl rfl) rfl rfl ?_
          refine WL_nil_seq ?_
          refine WP_cond rfl (fun hc53 => ?_) (fun hc53 => ?_)
          · have hs49 := if_t hc53 hs49
            refine WP_skip_seq ?_
            refine WP_seq ?_
            refine WP_block ?_
            refine WP_seq ?_
            refine WP_region ?_
            refine XL_q rfl (qt_move rfl) rfl rfl ?_
            refine XL_q rfl (qt_move rfl) rfl rfl ?_
            refine XL_q rfl (qt_move rfl) rfl rfl ?_
            obtain ⟨x54, hx55, hs49⟩ := bind_some hs49
            refine XL_indexH H52.ctx (Has.c (Has.hd)) hx55 u29 i40 rfl rfl rfl rfl (fun b56 off57 cap58 hv59 => ?_)
            refine XL_q rfl (qt_fieldAddr uf40 fi40_0 nz3 rfl) rfl rfl ?_
            obtain ⟨F60, hat61, hdup62⟩ := H52.at (Has.c (Has.hd)) hx55 hv59
            obtain ⟨F63, hat64, hin65⟩ := AtP.fst hat61
            refine XL_load_int (k := .i64) u3 rfl hat64 rfl rfl rfl ?_
            obtain ⟨x66, hx67, hs49⟩ := bind_some hs49
            refine XL_indexH H52.ctx (Has.hd) hx67 u23 i3 rfl rfl rfl rfl (fun b68 off69 cap70 hv71 => ?_)
            obtain ⟨F72, hat73, hdup74⟩ := H52.at (Has.hd) hx67 hv71
            refine XL_load_int (k := .i64) u3 rfl hat73 rfl rfl rfl ?_
            refine XL_q rfl (qt_geq rfl rfl) rfl rfl ?_
            refine XL_q rfl (qt_move rfl) rfl rfl ?_
            obtain ⟨b75, hg76, hs49⟩ := bind_some hs49
            refine XL_join 10 52 (.bool b75) ?_ (fun md hmd hk => ?_)
            rotate_left
            · obtain ⟨Q, rfl⟩ := Md.seq_of hmd
              rcases btf (decide (x66 ≥ 0)) with hc77 | hc77
              · skip
                refine XL_skip (w_skip rfl hc77) rfl rfl ?_
                refine XL_skip (w_skip rfl hc77) rfl rfl ?_
                refine XL_skip (w_skip rfl hc77) rfl rfl ?_
                refine XL_skip (w_skip rfl hc77) rfl rfl ?_
                refine XL_skip (w_skip rfl hc77) rfl rfl ?_
                refine XL_skip (w_skip rfl hc77) rfl rfl ?_
                refine XL_skip (w_skip rfl hc77) rfl rfl ?_
                refine XL_skip (w_skip rfl hc77) rfl rfl ?_
                refine XL_skip (w_skip rfl hc77) rfl rfl ?_
                refine XL_q rfl (qt_pickT rfl hc77 rfl) rfl rfl ?_
                exact hk _ (Cov.same (vb (if_t hc77 hg76)) (Cov.fresh rfl (Cov.fresh rfl (Cov.fresh rfl (Cov.fresh rfl (Cov.fresh rfl (Cov.fresh rfl (Cov.fresh rfl (Cov.fresh rfl (Cov.fresh rfl (Cov.refl)))))))))))
              · skip
                have hg76 := if_f hc77 hg76
                refine XL_q (w_take rfl hc77) (qt_move rfl) rfl rfl ?_
                refine XL_q (w_take rfl hc77) (qt_move rfl) rfl rfl ?_
                refine XL_q (w_take rfl hc77) (qt_move rfl) rfl rfl ?_
                obtain ⟨x78, hx79, hg76⟩ := bind_some hg76
                refine XL_indexH H52.ctx (Has.c (Has.hd)) hx79 u29 i40 (w_take rfl hc77) rfl rfl rfl (fun b80 off81 cap82 hv83 => ?_)
                refine XL_q (w_take rfl hc77) (qt_fieldAddr uf40 fi40_1 nz3 rfl) rfl rfl ?_
                obtain ⟨F84, hat85, hdup86⟩ := H52.at (Has.c (Has.hd)) hx79 hv83
                obtain ⟨F87, hat88, hin89⟩ := AtP.snd hat85
                obtain ⟨F90, hat91, hin92⟩ := AtP.fst hat88
                refine XL_load_int (k := .i64) u3 rfl hat91 (w_take rfl hc77) rfl rfl ?_
                obtain ⟨x93, hx94, hg76⟩ := bind_some hg76
                refine XL_indexH H52.ctx (Has.hd) hx94 u23 i3 (w_take rfl hc77) rfl rfl rfl (fun b95 off96 cap97 hv98 => ?_)
                obtain ⟨F99, hat100, hdup101⟩ := H52.at (Has.hd) hx94 hv98
                refine XL_load_int (k := .i64) u3 rfl hat100 (w_take rfl hc77) rfl rfl ?_
                refine XL_q (w_take rfl hc77) (qt_leq rfl rfl) rfl rfl ?_
                refine XL_q rfl (qt_pickF rfl hc77 rfl) rfl rfl ?_
                exact hk _ (Cov.same (vb hg76) (Cov.fresh rfl (Cov.fresh rfl (Cov.fresh rfl (Cov.fresh rfl (Cov.fresh rfl (Cov.fresh rfl (Cov.fresh rfl (Cov.fresh rfl (Cov.fresh rfl (Cov.refl)))))))))))
            refine WL_nil_seq ?_
            refine WP_cond rfl (fun hc102 => ?_) (fun hc102 => ?_)
            · have hs49 := if_t hc102 hs49
              refine WP_seq ?_
              refine WP_region ?_
              refine XL_q rfl (qt_assign rfl) rfl rfl ?_
              refine WL_nil_seq ?_
              refine WP_ret fun a ha => ?_
              obtain rfl := Option.some.inj hs49
              have H103 : Holds (([] : List Res).flatMap Res.own) w w48 [] G := ((H52.cut 0).cut 0)
              exact ret_block (ret_seq (⟨ret_ne, rfl, ha.sub ⟨rfl, trivial⟩, H103⟩))
            · have hs49 := if_f hc102 hs49
              refine WP_skip fun a ha => ?_
              refine nrm_block (nrm_seq (WP.app ?_ ha))
              refine WP_region ?_
              refine XL_q rfl (qt_move rfl) rfl rfl ?_
              refine XL_q rfl (qt_add rfl rfl) rfl rfl ?_
              refine XL_q rfl (qt_assign rfl) rfl rfl ?_
              refine WL_nil fun a ha => ?_
              obtain rfl := Option.some.inj hs49
              have H104 : Holds (([] : List Res).flatMap Res.own) w w48 [.sl 3 (.int .i64) v6 x2, .sl 40 (.pair (.int .i64) (.pair (.int .i64) (.int .i64))) v12 x8] G := ((H52.pull 1).pull 1)
              exact ⟨rfl, ha.sub ⟨rfl, rfl, rfl, trivial⟩, H104⟩
          · have hs49 := if_f hc53 hs49
            refine WP_exit fun a ha => ?_
            obtain rfl := Option.some.inj hs49
            have H105 : Holds (([] : List Res).flatMap Res.own) w w48 [.sl 3 (.int .i64) v6 x2, .sl 40 (.pair (.int .i64) (.pair (.int .i64) (.int .i64))) v12 x8] G := ((H52.pull 1).pull 1)
            exact exit_seq (⟨exit_ne, rfl, ha.sub ⟨rfl, rfl, trivial⟩, H105⟩)
        · intro e a45 w106 hO107
          rcases o43 with o43 | o43
          · skip
            obtain ⟨rfl, hO109⟩ := hO107
            obtain ⟨ha, H108⟩ := hO109
            refine exit_block_eq (nrm_seq (WP.app ?_ ha))
            refine WP_seq ?_
            refine WP_still ?_
            refine XL_q rfl (qt_move rfl) rfl rfl ?_
            refine XL_q rfl (qt_move rfl) rfl rfl ?_
            obtain ⟨x110, hx111, h⟩ := bind_some h
            refine QL_call rfl rfl c26 (fun w' hb => (w_impl_PaysOk w' ([.sl 3 (.int .i64) v6 x2, .sl 40 (.pair (.int .i64) (.pair (.int .i64) (.int .i64))) v12 x8] ++ G) v6 x2 (Has.hd) v12 x8 (Has.c (Has.hd)) x110 hx111 (H108.grow hb).ctx).mono fun e w'' hK => ⟨hK.1, hK.2.bel⟩) (by rfl) ?_
            refine XL_q rfl (qt_assign rfl) rfl rfl ?_
            refine QL_nil fun a ha w112 hb113 => ?_
            have H114 : Holds (([] : List Res).flatMap Res.own) w w112 [.sl 3 (.int .i64) v6 x2, .sl 40 (.pair (.int .i64) (.pair (.int .i64) (.int .i64))) v12 x8] G := H108.grow hb113
            refine nrm_seq (WP.app ?_ ha)
            refine WP_ret fun a ha => ?_
            obtain rfl := Option.some.inj h
            have H115 : Holds (([] : List Res).flatMap Res.own) w w112 [] G := ((H114.cut 0).cut 0)
            exact ret1 rfl ha rfl ⟨rfl, H115⟩
          · skip
            obtain ⟨p116, rfl⟩ : ∃ z, z = o43 := ⟨o43, rfl⟩
            obtain ⟨rfl, hO118⟩ := hO107
            obtain ⟨ha, H117⟩ := hO118
            obtain rfl := Option.some.inj h
            exact ret_block (ret_seq (ret1 rfl ha rfl ⟨rfl, H117⟩))
theorem w_spec_DrawOwedOf (w : World) (G : List Res) (vp0 : Value) (p0 : List Int) (hp0 : HasRo G (.int .u8) vp0 p0) (r : (List Int) × (List Int)) (h : spec_DrawOwedOfS p0 = some r) (H : Ctx w G) : Calls Tryd.prog 40 #[vp0] w fun e w' => ∃ (v1 : Value) (v2 : Value), e = .returned (.tuple #[v1, v2]) ∧ Holds (([] : List Res).flatMap Res.own) w w' [.sl 3 (.int .i64) v1 r.1, .sl 3 (.int .i64) v2 r.2] G := by
  have H : Holds (([] : List Res).flatMap Res.own) w w [] G := Holds.startN H
  refine calls_enter (args := [vp0]) (n := 44) Tryd.func40 rfl rfl rfl ?_
  unfold spec_DrawOwedOfS at h
  refine WP_seq ?_
  refine WP_region ?_
  refine XL_q rfl (qt_assign rfl) rfl rfl ?_
  refine XL_q rfl (qt_assign rfl) rfl rfl ?_
  refine WL_nil_seq ?_
  refine WP_seq ?_
  refine WP_region ?_
  refine XL_q rfl (qt_move rfl) rfl rfl ?_
  obtain ⟨x1, hx2, h⟩ := bind_some h
  refine WL_call rfl rfl c44 (w_spec_l20Open w G vp0 p0 (hp0) x1 hx2 H.ctx) (by rfl) ?_
  rintro _ w3 ⟨v5, b6, rfl, H4⟩; refine ⟨_, rfl, ?_⟩
  have H7 : Holds (([] : List Res).flatMap Res.own) w w3 [.ro (.int .u8) v5 x1.1, .bx b6 69 [v5, .int .i64 x1.2]] G := H.calledN (Rs := []) H4
  refine XL_q rfl (qt_assign rfl) rfl rfl ?_
  refine WL_nil_seq ?_
  refine WP_seq ?_
  refine WP_region ?_
  refine XL_q rfl (qt_move rfl) rfl rfl ?_
  have H10 : Holds (([] : List Res).flatMap Res.own) w w3 [.bx b6 69 [v5, .int .i64 x1.2], .ro (.int .u8) v5 x1.1] G := H7.pull 1
  obtain ⟨x8, hx9, h⟩ := bind_some h
  refine WL_call rfl rfl c49 (w_spec_l20Shares w3 ([.ro (.int .u8) v5 x1.1] ++ G) b6 v5 x1.1 (HasRo.has (HasRo.hd)) x1.2 9 x8 hx9 H10.ctx) (by rfl) ?_
  rintro _ w11 ⟨v13, rfl, H12⟩; refine ⟨_, rfl, ?_⟩
  have H14 : Holds (([] : List Res).flatMap Res.own) w w11 [.sl 3 (.int .i64) v13 x8.2, .bx b6 69 [v5, .int .i64 x8.1], .ro (.int .u8) v5 x1.1] G := H10.calledN (Rs := [_]) H12
  refine XL_q rfl (qt_assign rfl) rfl rfl ?_
  refine WL_nil_seq ?_
  refine WP_seq ?_
  refine WP_region ?_
  refine WL_buildH (t := (.int .i64)) (args := []) (xs := ([] : List Int)) H14 (BltL.nil) u23 j3 rfl rfl rfl rfl rfl rfl (fun v15 w16 H17 => ?_)
  have H18 : Holds (([] : List Res).flatMap Res.own) w w16 [.sl 3 (.int .i64) v15 ([]), .sl 3 (.int .i64) v13 x8.2, .bx b6 69 [v5, .int .i64 x8.1], .ro (.int .u8) v5 x1.1] G := H17
  refine XL_q rfl (qt_assign rfl) rfl rfl ?_
  refine WL_nil_seq ?_
  refine WP_seq ?_
  refine WP_seq ?_
  refine WP_region ?_
  refine XL_q rfl (qt_assign rfl) rfl rfl ?_
  refine WL_nil_seq ?_
  refine WP_block ?_
  obtain ⟨o22, ho23, h⟩ := bind_some h
  have H26 : Holds (([] : List Res).flatMap Res.own) w w16 [.bx b6 69 [v5, .int .i64 x8.1], .ro (.int .u8) v5 x1.1, .sl 3 (.int .i64) v13 x8.2, .sl 3 (.int .i64) v15 ([])] G := (((H18.pull 1).pull 3).pull 3)
  refine fun a24 ha25 => wp_loop_fix (I := fun s a w2 => match s with | (s19, s20, s21) => ∃ vs19, Fr a 44 [(4, .pointer (some ⟨b6, 0, none⟩)), (5, v13), (6, vs19), (7, .int .i64 s20)] ∧ Holds (([] : List Res).flatMap Res.own) w w2 [.bx b6 69 [v5, .int .i64 s21], .ro (.int .u8) v5 x1.1, .sl 3 (.int .i64) v13 x8.2, .sl 3 (.int .i64) vs19 s19] G) (O := fun o e a w2 => match o with | (q0, q1) => e = .exit 0 ∧ ∃ vq0, Fr a 44 [(4, .pointer (some ⟨b6, 0, none⟩)), (5, v13), (6, vq0)] ∧ Holds (([] : List Res).flatMap Res.own) w w2 [.bx b6 69 [v5, .int .i64 q1], .ro (.int .u8) v5 x1.1, .sl 3 (.int .i64) v13 x8.2, .sl 3 (.int .i64) vq0 q0] G) ho23 ?_ ?_ ?_
  · exact ⟨v15, ha25.sub ⟨rfl, rfl, rfl, rfl, trivial⟩, H26⟩
  · clear ha25
    intro s o29 a w27 hs28 hI30
    obtain ⟨s19, s20, s21⟩ := s
    obtain ⟨vs19, ha, H31⟩ := hI30
    refine WP.app ?_ ha
    clear ha
    refine WP_seq ?_
    refine WP_seq ?_
    refine WP_region ?_
    refine XL_q rfl (qt_move rfl) rfl rfl ?_
    refine XL_q rfl (qt_move rfl) rfl rfl ?_
    refine XL_lenH H31.ctx (t := (.int .i64)) (Has.c (Has.c (Has.hd))) u23 rfl rfl rfl ?_
    refine XL_q rfl (qt_lss rfl rfl) rfl rfl ?_
    refine WL_nil_seq ?_
    refine WP_cond rfl (fun hc32 => ?_) (fun hc32 => ?_)
    · have hs28 := if_t hc32 hs28
      refine WP_skip_seq ?_
      refine WP_seq ?_
      refine WP_block ?_
      refine WP_region ?_
      refine XL_q rfl (qt_move rfl) rfl rfl ?_
      refine XL_q rfl (qt_move rfl) rfl rfl ?_
      obtain ⟨x33, hx34, hs28⟩ := bind_some hs28
      refine WL_call rfl rfl c65 (w_spec_l20Rd__pick w27 ([.ro (.int .u8) v5 x1.1, .sl 3 (.int .i64) v13 x8.2, .sl 3 (.int .i64) vs19 s19] ++ G) b6 v5 x1.1 (HasRo.has (HasRo.hd)) s21 200 x33 hx34 H31.ctx) (by rfl) ?_
      rintro _ w35 ⟨rfl, H36⟩; refine ⟨_, rfl, ?_⟩
      have H37 : Holds (([] : List Res).flatMap Res.own) w w35 [.bx b6 69 [v5, .int .i64 x33.1], .ro (.int .u8) v5 x1.1, .sl 3 (.int .i64) v13 x8.2, .sl 3 (.int .i64) vs19 s19] G := H31.calledN (Rs := [_]) H36
      refine XL_q rfl (qt_move rfl) rfl rfl ?_
      obtain ⟨x38, hx39, hs28⟩ := bind_some hs28
      refine WL_call rfl rfl c65 (w_spec_l20Rd__pick w35 ([.ro (.int .u8) v5 x1.1, .sl 3 (.int .i64) v13 x8.2, .sl 3 (.int .i64) vs19 s19] ++ G) b6 v5 x1.1 (HasRo.has (HasRo.hd)) x33.1 3 x38 hx39 H37.ctx) (by rfl) ?_
      rintro _ w40 ⟨rfl, H41⟩; refine ⟨_, rfl, ?_⟩
      have H42 : Holds (([] : List Res).flatMap Res.own) w w40 [.bx b6 69 [v5, .int .i64 x38.1], .ro (.int .u8) v5 x1.1, .sl 3 (.int .i64) v13 x8.2, .sl 3 (.int .i64) vs19 s19] G := H37.calledN (Rs := [_]) H41
      refine XL_q rfl (qt_mul rfl rfl) rfl rfl ?_
      refine XL_q rfl (qt_move rfl) rfl rfl ?_
      obtain ⟨x43, hx44, hs28⟩ := bind_some hs28
      refine WL_call rfl rfl c65 (w_spec_l20Rd__pick w40 ([.ro (.int .u8) v5 x1.1, .sl 3 (.int .i64) v13 x8.2, .sl 3 (.int .i64) vs19 s19] ++ G) b6 v5 x1.1 (HasRo.has (HasRo.hd)) x38.1 40 x43 hx44 H42.ctx) (by rfl) ?_
      rintro _ w45 ⟨rfl, H46⟩; refine ⟨_, rfl, ?_⟩
      have H47 : Holds (([] : List Res).flatMap Res.own) w w45 [.bx b6 69 [v5, .int .i64 x43.1], .ro (.int .u8) v5 x1.1, .sl 3 (.int .i64) v13 x8.2, .sl 3 (.int .i64) vs19 s19] G := H42.calledN (Rs := [_]) H46
      refine XL_q rfl (qt_quo rfl rfl (by decide)) rfl rfl ?_
      refine XL_q rfl (qt_mul rfl rfl) rfl rfl ?_
      refine XL_q rfl (qt_add rfl rfl) rfl rfl ?_
      refine XL_q rfl (qt_move rfl) rfl rfl ?_
      obtain ⟨x48, hx49, hs28⟩ := bind_some hs28
      refine WL_call rfl rfl c65 (w_spec_l20Rd__pick w45 ([.ro (.int .u8) v5 x1.1, .sl 3 (.int .i64) v13 x8.2, .sl 3 (.int .i64) vs19 s19] ++ G) b6 v5 x1.1 (HasRo.has (HasRo.hd)) x43.1 40 x48 hx49 H47.ctx) (by rfl) ?_
      rintro _ w50 ⟨rfl, H51⟩; refine ⟨_, rfl, ?_⟩
      have H52 : Holds (([] : List Res).flatMap Res.own) w w50 [.bx b6 69 [v5, .int .i64 x48.1], .ro (.int .u8) v5 x1.1, .sl 3 (.int .i64) v13 x8.2, .sl 3 (.int .i64) vs19 s19] G := H47.calledN (Rs := [_]) H51
      refine XL_q rfl (qt_quo rfl rfl (by decide)) rfl rfl ?_
      refine XL_q rfl (qt_mul rfl rfl) rfl rfl ?_
      obtain ⟨x53, hx54, hs28⟩ := bind_some hs28
      refine XL_qe rfl (qt_sub rfl rfl) (vi hx54) rfl rfl ?_
      refine WL_buildH (t := (.int .i64)) (args := [.tmp 34]) (xs := ([x53] : List Int)) H52 (BltL.cons (Blt.int) rfl (BltL.nil)) u23 j3 rfl rfl rfl rfl rfl rfl (fun v55 w56 H57 => ?_)
      have H58 : Holds (([] : List Res).flatMap Res.own) w w56 [.sl 3 (.int .i64) v55 ([x53]), .bx b6 69 [v5, .int .i64 x48.1], .ro (.int .u8) v5 x1.1, .sl 3 (.int .i64) v13 x8.2, .sl 3 (.int .i64) vs19 s19] G := H57
      have H59 : Holds (([] : List Res).flatMap Res.own) w w56 [.sl 3 (.int .i64) vs19 s19, .sl 3 (.int .i64) v55 ([x53]), .bx b6 69 [v5, .int .i64 x48.1], .ro (.int .u8) v5 x1.1, .sl 3 (.int .i64) v13 x8.2] G := H58.pull 4
      obtain ⟨x60, hx61, hs28⟩ := bind_some hs28
      refine WL_appendH H59 (Has.c (Has.hd)) hx61 u23 j3 rfl rfl rfl rfl rfl rfl (fun v62 w63 H64 => ?_)
      have H65 : Holds (([] : List Res).flatMap Res.own) w w63 [.sl 3 (.int .i64) v62 x60, .sl 3 (.int .i64) v55 ([x53]), .bx b6 69 [v5, .int .i64 x48.1], .ro (.int .u8) v5 x1.1, .sl 3 (.int .i64) v13 x8.2] G := H64
      refine XL_q rfl (qt_assign rfl) rfl rfl ?_
      refine WL_nil fun a ha => ?_
      refine nrm_block (nrm_seq (WP.app ?_ ha))
      refine WP_region ?_
      refine XL_q rfl (qt_move rfl) rfl rfl ?_
      refine XL_q rfl (qt_add rfl rfl) rfl rfl ?_
      refine XL_q rfl (qt_assign rfl) rfl rfl ?_
      refine WL_nil fun a ha => ?_
      obtain rfl := Option.some.inj hs28
      have H66 : Holds (([] : List Res).flatMap Res.own) w w63 [.bx b6 69 [v5, .int .i64 x48.1], .ro (.int .u8) v5 x1.1, .sl 3 (.int .i64) v13 x8.2, .sl 3 (.int .i64) v62 x60] G := ((((H65.cut 1).pull 3).pull 3).pull 3)
      exact ⟨rfl, v62, ha.sub ⟨rfl, rfl, rfl, rfl, trivial⟩, H66⟩
    · have hs28 := if_f hc32 hs28
      refine WP_exit fun a ha => ?_
      obtain rfl := Option.some.inj hs28
      have H67 : Holds (([] : List Res).flatMap Res.own) w w27 [.bx b6 69 [v5, .int .i64 s21], .ro (.int .u8) v5 x1.1, .sl 3 (.int .i64) v13 x8.2, .sl 3 (.int .i64) vs19 s19] G := ((((H31.pull 3).pull 3).pull 3).pull 3)
      exact exit_seq (⟨exit_ne, rfl, vs19, ha.sub ⟨rfl, rfl, rfl, trivial⟩, H67⟩)
  · intro e a24 w68 hO69
    obtain ⟨p70, p71⟩ := o22
    obtain ⟨rfl, hO73⟩ := hO69
    obtain ⟨vp70, ha, H72⟩ := hO73
    refine exit_block_eq (nrm_seq (WP.app ?_ ha))
    refine WP_seq ?_
    refine WP_seq ?_
    refine WP_region ?_
    refine XL_q rfl (qt_move rfl) rfl rfl ?_
    obtain ⟨x74, hx75, h⟩ := bind_some h
    refine WL_call rfl rfl c66 (w_spec_l20Rd__odd w68 ([.ro (.int .u8) v5 x1.1, .sl 3 (.int .i64) v13 x8.2, .sl 3 (.int .i64) vp70 p70] ++ G) b6 v5 x1.1 (HasRo.has (HasRo.hd)) p71 14 x74 hx75 H72.ctx) (by rfl) ?_
    rintro _ w76 ⟨rfl, H77⟩; refine ⟨_, rfl, ?_⟩
    have H78 : Holds (([] : List Res).flatMap Res.own) w w76 [.bx b6 69 [v5, .int .i64 x74.1], .ro (.int .u8) v5 x1.1, .sl 3 (.int .i64) v13 x8.2, .sl 3 (.int .i64) vp70 p70] G := H72.calledN (Rs := [_]) H77
    refine WL_nil_seq ?_
    obtain ⟨o80, ho81, h⟩ := bind_some h
    obtain ⟨j79, rfl⟩ : ∃ z, z = o80 := ⟨o80, rfl⟩
    refine WP_join (M := fun a w2 => ∃ vj79, Fr a 44 [(5, v13), (6, vj79)] ∧ Holds (([] : List Res).flatMap Res.own) w w2 [.sl 3 (.int .i64) v13 x8.2, .sl 3 (.int .i64) vj79 j79] G) ?_ ?_
    · refine WP_cond rfl (fun hc82 => ?_) (fun hc82 => ?_)
      · have ho81 := if_t hc82 ho81
        refine WP_region ?_
        refine XL_q rfl (qt_move rfl) rfl rfl ?_
        refine WL_buildH (t := (.int .i64)) (args := [.const (.int .i64 1)]) (xs := ([1] : List Int)) H78 (BltL.cons (Blt.int) rfl (BltL.nil)) u23 j3 rfl rfl rfl rfl rfl rfl (fun v83 w84 H85 => ?_)
        have H86 : Holds (([] : List Res).flatMap Res.own) w w84 [.sl 3 (.int .i64) v83 ([1]), .bx b6 69 [v5, .int .i64 x74.1], .ro (.int .u8) v5 x1.1, .sl 3 (.int .i64) v13 x8.2, .sl 3 (.int .i64) vp70 p70] G := H85
        have H87 : Holds (([] : List Res).flatMap Res.own) w w84 [.sl 3 (.int .i64) vp70 p70, .sl 3 (.int .i64) v83 ([1]), .bx b6 69 [v5, .int .i64 x74.1], .ro (.int .u8) v5 x1.1, .sl 3 (.int .i64) v13 x8.2] G := H86.pull 4
        obtain ⟨x88, hx89, ho81⟩ := bind_some ho81
        refine WL_appendH H87 (Has.c (Has.hd)) hx89 u23 j3 rfl rfl rfl rfl rfl rfl (fun v90 w91 H92 => ?_)
        have H93 : Holds (([] : List Res).flatMap Res.own) w w91 [.sl 3 (.int .i64) v90 x88, .sl 3 (.int .i64) v83 ([1]), .bx b6 69 [v5, .int .i64 x74.1], .ro (.int .u8) v5 x1.1, .sl 3 (.int .i64) v13 x8.2] G := H92
        refine XL_q rfl (qt_assign rfl) rfl rfl ?_
        refine WL_nil fun a ha => ?_
        obtain rfl := Option.some.inj ho81
        have H94 : Holds (([] : List Res).flatMap Res.own) w w91 [.sl 3 (.int .i64) v13 x8.2, .sl 3 (.int .i64) v90 x88] G := ((((H93.cut 1).cut 1).cut 1).pull 1)
        exact nrm_seq (⟨v90, ha.sub ⟨rfl, rfl, trivial⟩, H94⟩)
      · have ho81 := if_f hc82 ho81
        refine WP_skip fun a ha => ?_
        obtain rfl := Option.some.inj ho81
        have H95 : Holds (([] : List Res).flatMap Res.own) w w76 [.sl 3 (.int .i64) v13 x8.2, .sl 3 (.int .i64) vp70 p70] G := ((((H78.cut 0).cut 0).pull 1).pull 1)
        exact nrm_seq (⟨vp70, ha.sub ⟨rfl, rfl, trivial⟩, H95⟩)
    · intro a w96 hI97
      obtain ⟨vj79, ha, H98⟩ := hI97
      refine WP.app ?_ ha
      clear ha
      refine WP_seq ?_
      refine WP_region ?_
      refine XL_q rfl (qt_move rfl) rfl rfl ?_
      refine XL_q rfl (qt_move rfl) rfl rfl ?_
      refine XL_q rfl (qt_assign rfl) rfl rfl ?_
      refine XL_q rfl (qt_assign rfl) rfl rfl ?_
      refine WL_nil_seq ?_
      refine WP_ret fun a ha => ?_
      obtain rfl := Option.some.inj h
      have H99 : Holds (([] : List Res).flatMap Res.own) w w96 [.sl 3 (.int .i64) v13 x8.2, .sl 3 (.int .i64) vj79 j79] G := ((H98.pull 1).pull 1)
      exact ret2 rfl ha rfl rfl ⟨v13, vj79, rfl, H99⟩
theorem w_impl_OwedOf (w : World) (G : List Res) (vp0 : Value) (p0 : List Int) (hp0 : Has G (.int .i64) vp0 p0) (vp1 : Value) (p1 : List Int) (hp1 : Has G (.int .i64) vp1 p1) (r : (List Int)) (h : impl_OwedOfS p0 p1 = some r) (H : Ctx w G) : Calls Tryd.prog 41 #[vp0, vp1] w fun e w' => ∃ (v1 : Value), e = .returned (v1) ∧ Holds (([] : List Res).flatMap Res.own) w w' [.sl 3 (.int .i64) v1 r] G := by
  have H : Holds (([] : List Res).flatMap Res.own) w w [] G := Holds.startN H
  refine calls_enter (args := [vp0, vp1]) (n := 44) Tryd.func41 rfl rfl rfl ?_
  unfold impl_OwedOfS at h
  refine WP_seq ?_
  refine WP_region ?_
  refine XL_q rfl (qt_assign rfl) rfl rfl ?_
  refine WL_nil_seq ?_
  refine WP_seq ?_
  refine WP_seq ?_
  refine WP_still ?_
  refine XL_q rfl (qt_move rfl) rfl rfl ?_
  obtain ⟨x1, hx2, h⟩ := bind_some h
  refine QL_call rfl rfl c17 (fun w' hb => (w_impl_SharesValid w' G vp0 p0 (hp0) x1 hx2 (H.grow hb).ctx).mono fun e w'' hK => ⟨hK.1, hK.2.bel⟩) (by rfl) ?_
  refine XL_q rfl (qt_not rfl) rfl rfl ?_
  refine XL_q rfl (qt_move rfl) rfl rfl ?_
  obtain ⟨b3, hg4, h⟩ := bind_some h
  refine XL_join 6 17 (.bool b3) ?_ (fun md hmd hk => ?_)
  rotate_left
  · obtain ⟨K, rfl⟩ := Md.quiet_of hmd
    rcases btf (!x1) with hc5 | hc5
    · skip
      refine XL_skip (w_skip rfl hc5) rfl rfl ?_
      refine XL_skip (w_skip rfl hc5) rfl rfl ?_
      refine XL_skip (w_skip rfl hc5) rfl rfl ?_
      refine XL_skip (w_skip rfl hc5) rfl rfl ?_
      refine XL_skip (w_skip rfl hc5) rfl rfl ?_
      refine XL_q rfl (qt_pickT rfl hc5 rfl) rfl rfl ?_
      exact hk _ (Cov.same (vb (if_t hc5 hg4)) (Cov.fresh rfl (Cov.fresh rfl (Cov.fresh rfl (Cov.fresh rfl (Cov.fresh rfl (Cov.refl)))))))
    · skip
      have hg4 := if_f hc5 hg4
      refine XL_q (w_take rfl hc5) (qt_move rfl) rfl rfl ?_
      refine XL_q (w_take rfl hc5) (qt_move rfl) rfl rfl ?_
      refine XL_lenH H.ctx (t := (.int .i64)) (hp0) u23 (w_take rfl hc5) rfl rfl ?_
      obtain ⟨x6, hx7, hg4⟩ := bind_some hg4
      refine QL_call (w_take rfl hc5) rfl c50 (fun w' hb => (w_impl_amountsOk w' G vp1 p1 (hp1) (List.length p0 : Int) 9999 x6 hx7 (H.grow hb).ctx).mono fun e w'' hK => ⟨hK.1, hK.2.bel⟩) (by rfl) ?_
      refine XL_q (w_take rfl hc5) (qt_not rfl) rfl rfl ?_
      refine XL_q rfl (qt_pickF rfl hc5 rfl) rfl rfl ?_
      exact hk _ (Cov.same (vb hg4) (Cov.fresh rfl (Cov.fresh rfl (Cov.fresh rfl (Cov.fresh rfl (Cov.fresh rfl (Cov.refl)))))))
  refine XL_q rfl (qt_move rfl) rfl rfl ?_
  obtain ⟨b8, hg9, h⟩ := bind_some h
  refine XL_join 4 22 (.bool b8) ?_ (fun md hmd hk => ?_)
  rotate_left
  · obtain ⟨K, rfl⟩ := Md.quiet_of hmd
    rcases btf b3 with hc10 | hc10
    · skip
      refine XL_skip (w_skip rfl hc10) rfl rfl ?_
      refine XL_skip (w_skip rfl hc10) rfl rfl ?_
      refine XL_skip (w_skip rfl hc10) rfl rfl ?_
      refine XL_q rfl (qt_pickT rfl hc10 rfl) rfl rfl ?_
      exact hk _ (Cov.same (vb (if_t hc10 hg9)) (Cov.fresh rfl (Cov.fresh rfl (Cov.fresh rfl (Cov.refl)))))
    · skip
      have hg9 := if_f hc10 hg9
      refine XL_q (w_take rfl hc10) (qt_move rfl) rfl rfl ?_
      obtain ⟨x11, hx12, hg9⟩ := bind_some hg9
      refine QL_call (w_take rfl hc10) rfl c45 (fun w' hb => (w_impl_sumOf w' G vp1 p1 (hp1) x11 hx12 (H.grow hb).ctx).mono fun e w'' hK => ⟨hK.1, hK.2.bel⟩) (by rfl) ?_
      refine XL_q (w_take rfl hc10) (qt_gtr rfl rfl) rfl rfl ?_
      refine XL_q rfl (qt_pickF rfl hc10 rfl) rfl rfl ?_
      exact hk _ (Cov.same (vb hg9) (Cov.fresh rfl (Cov.fresh rfl (Cov.fresh rfl (Cov.refl)))))
  refine QL_nil fun a ha w13 hb14 => ?_
  have H15 : Holds (([] : List Res).flatMap Res.own) w w13 [] G := H.grow hb14
  refine nrm_seq (WP.app ?_ ha)
  refine WP_cond rfl (fun hc16 => ?_) (fun hc16 => ?_)
  · have h := if_t hc16 h
    refine WP_seq ?_
    refine WP_region ?_
    refine XL_q rfl (qt_assign rfl) rfl rfl ?_
    refine WL_nil_seq ?_
    refine WP_ret fun a ha => ?_
    obtain rfl := Option.some.inj h
    have H17 : Holds (([] : List Res).flatMap Res.own) w w13 [.sl 3 (.int .i64) (.slice none 0 0) ([])] G := H15.nilSl
    exact ret_seq (ret1 rfl ha rfl ⟨(.slice none 0 0), rfl, H17⟩)
  · have h := if_f hc16 h
    refine WP_skip_seq ?_
    refine WP_seq ?_
    refine WP_region ?_
    refine XL_q rfl (qt_move rfl) rfl rfl ?_
    obtain ⟨x18, hx19, h⟩ := bind_some h
    refine WL_call rfl rfl c54 (w_impl_copyInts w13 G vp1 p1 (hp1) x18 hx19 H15.ctx) (by rfl) ?_
    rintro _ w20 ⟨v22, rfl, H21⟩; refine ⟨_, rfl, ?_⟩
    have H23 : Holds (([] : List Res).flatMap Res.own) w w20 [.sl 3 (.int .i64) v22 x18] G := H15.calledN (Rs := []) H21
    refine XL_q rfl (qt_assign rfl) rfl rfl ?_
    refine WL_nil_seq ?_
    refine WP_seq ?_
    refine WP_seq ?_
    refine WP_region ?_
    refine XL_q rfl (qt_move rfl) rfl rfl ?_
    refine XL_q rfl (qt_move rfl) rfl rfl ?_
    obtain ⟨x24, hx25, h⟩ := bind_some h
    refine WL_call rfl rfl c45 (w_impl_sumOf w20 ([.sl 3 (.int .i64) v22 x18] ++ G) vp1 p1 (hp1.c) x24 hx25 H23.ctx) (by rfl) ?_
    rintro _ w26 ⟨rfl, H27⟩; refine ⟨_, rfl, ?_⟩
    have H28 : Holds (([] : List Res).flatMap Res.own) w w26 [.sl 3 (.int .i64) v22 x18] G := H23.calledN (Rs := []) H27
    obtain ⟨x29, hx30, h⟩ := bind_some h
    refine WL_call rfl rfl c31 (w_impl_ShareOf w26 ([.sl 3 (.int .i64) v22 x18] ++ G) vp0 p0 (hp0.c) x24 x29 hx30 H28.ctx) (by rfl) ?_
    rintro _ w31 ⟨v33, rfl, H32⟩; refine ⟨_, rfl, ?_⟩
    have H34 : Holds (([] : List Res).flatMap Res.own) w w31 [.sl 3 (.int .i64) v33 x29, .sl 3 (.int .i64) v22 x18] G := H28.calledN (Rs := []) H32
    refine XL_lenH H34.ctx (t := (.int .i64)) (Has.hd) u23 rfl rfl rfl ?_
    refine XL_q rfl (qt_move rfl) rfl rfl ?_
    refine WL_nil_seq ?_
    refine WP_block ?_
    obtain ⟨o37, ho38, h⟩ := bind_some h
    have H41 : Holds (([] : List Res).flatMap Res.own) w w31 [.sl 3 (.int .i64) v22 x18, .sl 3 (.int .i64) v33 x29] G := (H34.pull 1)
    refine fun a39 ha40 => wp_loop_fix (I := fun s a w2 => match s with | (s35, s36) => (Fr a 44 [(5, v22), (28, v33), (29, .int .i64 (List.length x29 : Int)), (30, .int .i64 s35)] ∧ Holds (([] : List Res).flatMap Res.own) w w2 [.sl 3 (.int .i64) v22 s36, .sl 3 (.int .i64) v33 x29] G)) (O := fun o e a w2 => match o with | q0 => e = .exit 0 ∧ (Fr a 44 [(5, v22)] ∧ Holds (([] : List Res).flatMap Res.own) w w2 [.sl 3 (.int .i64) v22 q0] G)) ho38 ?_ ?_ ?_
    · exact ⟨ha40.sub ⟨rfl, rfl, rfl, rfl, trivial⟩, H41⟩
    · clear ha40
      intro s o44 a w42 hs43 hI45
      obtain ⟨s35, s36⟩ := s
      obtain ⟨ha, H46⟩ := hI45
      refine WP.app ?_ ha
      clear ha
      refine WP_seq ?_
      refine WP_region ?_
      refine XL_q rfl (qt_lss rfl rfl) rfl rfl ?_
      refine WL_nil_seq ?_
      refine WP_seq ?_
      refine WP_cond rfl (fun hc47 => ?_) (fun hc47 => ?_)
      · have hs43 := if_t hc47 hs43
        refine WP_skip_seq ?_
        refine WP_seq ?_
        refine WP_block ?_
        refine WP_seq ?_
        refine WP_region ?_
        refine XL_q rfl (qt_move rfl) rfl rfl ?_
        obtain ⟨x48, hx49, hs43⟩ := bind_some hs43
        refine XL_indexH H46.ctx (Has.c (Has.hd)) hx49 u23 i3 rfl rfl rfl rfl (fun b50 off51 cap52 hv53 => ?_)
        obtain ⟨F54, hat55, hdup56⟩ := H46.at (Has.c (Has.hd)) hx49 hv53
        refine XL_load_int (k := .i64) u3 rfl hat55 rfl rfl rfl ?_
        refine XL_q rfl (qt_assign rfl) rfl rfl ?_
        refine XL_q rfl (qt_assign rfl) rfl rfl ?_
        refine WL_nil_seq ?_
        refine WP_region ?_
        refine XL_q rfl (qt_move rfl) rfl rfl ?_
        refine XL_q rfl (qt_move rfl) rfl rfl ?_
        obtain ⟨x57, hx58, hs43⟩ := bind_some hs43
        refine XL_indexH H46.ctx (Has.hd) hx58 u23 i3 rfl rfl rfl rfl (fun b59 off60 cap61 hv62 => ?_)
        obtain ⟨F63, hat64, hdup65⟩ := H46.at (Has.hd) hx58 hv62
        refine XL_load_int (k := .i64) u3 rfl hat64 rfl rfl rfl ?_
        refine XL_q rfl (qt_move rfl) rfl rfl ?_
        refine XL_q rfl (qt_sub rfl rfl) rfl rfl ?_
        obtain ⟨x66, hx67, hs43⟩ := bind_some hs43
        refine XL_indexH H46.ctx (Has.hd) hx67 u23 i3 rfl rfl rfl rfl (fun b68 off69 cap70 hv71 => ?_)
        refine WL_storeH (fo := 0) (cs' := [.int .i64 (IntKind.wrap .i64 (x57 - x48))]) H46 hx67 hv71 (Upd.whole (Blt.int)) rfl il3 rfl rfl rfl rfl (fun w72 H73 => ?_)
        have H74 : Holds (([] : List Res).flatMap Res.own) w w72 [.sl 3 (.int .i64) v22 (List.set s36 (Int.toNat s35) (IntKind.wrap .i64 (x57 - x48))), .sl 3 (.int .i64) v33 x29] G := H73
        refine WL_nil fun a ha => ?_
        refine nrm_block (nrm_seq (WP.app ?_ ha))
        refine WP_region ?_
        refine XL_q rfl (qt_add rfl rfl) rfl rfl ?_
        refine XL_q rfl (qt_move rfl) rfl rfl ?_
        refine WL_nil fun a ha => ?_
        obtain rfl := Option.some.inj hs43
        have H75 : Holds (([] : List Res).flatMap Res.own) w w72 [.sl 3 (.int .i64) v22 (List.set s36 (Int.toNat s35) (IntKind.wrap .i64 (x57 - x48))), .sl 3 (.int .i64) v33 x29] G := ((H74.pull 1).pull 1)
        exact ⟨rfl, ha.sub ⟨rfl, rfl, rfl, rfl, trivial⟩, H75⟩
      · have hs43 := if_f hc47 hs43
        refine WP_exit fun a ha => ?_
        obtain rfl := Option.some.inj hs43
        have H76 : Holds (([] : List Res).flatMap Res.own) w w42 [.sl 3 (.int .i64) v22 s36] G := (H46.cut 1)
        exact exit_seq (⟨exit_ne, rfl, ha.sub ⟨rfl, trivial⟩, H76⟩)
    · intro e a39 w77 hO78
      obtain ⟨p79, rfl⟩ : ∃ z, z = o37 := ⟨o37, rfl⟩
      obtain ⟨rfl, hO81⟩ := hO78
      obtain ⟨ha, H80⟩ := hO81
      refine exit_block_eq (nrm_seq (WP.app ?_ ha))
      refine WP_seq ?_
      refine WP_region ?_
      refine XL_q rfl (qt_move rfl) rfl rfl ?_
      refine XL_q rfl (qt_assign rfl) rfl rfl ?_
      refine WL_nil_seq ?_
      refine WP_ret fun a ha => ?_
      obtain rfl := Option.some.inj h
      exact ret1 rfl ha rfl ⟨v22, rfl, H80⟩
end Go.Proofs.YtohhaladggoglaaDoor
