/- The walks: each Go function computes its shallow function. Printed by a program. -/
import Derived.Test.YtcjkbcdlpfgbgaaWX7E3
set_option linter.unusedVariables false
set_option maxRecDepth 10000
namespace Go.Proofs.Ytcjkbcdlpfgbgaa
open Go Go.RowKit
theorem w_laws_FnExactEndDeeds (w : World) (G : List Res) (vp0_0 : Value) (p0_0 : List (Int × (List (Int × Int)) × Int)) (hp0_0 : Has G (.pair (.int .i64) (.pair (.slice (.pair (.int .i64) (.int .i64))) (.int .i64))) vp0_0 p0_0) (vp0_1 : Value) (p0_1 : List Int) (hp0_1 : Has G (.int .i64) vp0_1 p0_1) (vp0_2 : Value) (p0_2 : List Int) (hp0_2 : Has G (.int .i64) vp0_2 p0_2) (p0_3 : Int) (vp0_4 : Value) (p0_4 : List (Int × (List (Int × Int)) × (List Int))) (hp0_4 : Has G (.pair (.int .i64) (.pair (.slice (.pair (.int .i64) (.int .i64))) (.slice (.int .i64)))) vp0_4 p0_4) (r : Bool) (h : laws_FnExactEndDeedsS p0_0 p0_1 p0_2 p0_3 p0_4 = some r) (H : Ctx w G) : Calls Try.prog 6 #[.agg #[vp0_0, vp0_1, vp0_2, .int .i64 p0_3, vp0_4]] w fun e w' => e = .returned (.bool r) ∧ Holds (([] : List Res).flatMap Res.own) w w' [] G := by
  have H : Holds (([] : List Res).flatMap Res.own) w w [] G := Holds.startN H
  refine calls_enter (args := [.agg #[vp0_0, vp0_1, vp0_2, .int .i64 p0_3, vp0_4]]) (n := 69) Try.func6 rfl rfl rfl ?_
  unfold laws_FnExactEndDeedsS at h
  refine WP_seq ?_
  refine WP_region ?_
  refine WL_box (cs := [vp0_0, vp0_1, vp0_2, .int .i64 p0_3, vp0_4]) H rfl rfl rfl rfl (fun b1 w2 H3 => ?_)
  have H4 : Holds (([] : List Res).flatMap Res.own) w w2 [.bx b1 26 [vp0_0, vp0_1, vp0_2, .int .i64 p0_3, vp0_4]] G := H3
  refine XL_q rfl (qt_assign rfl) rfl rfl ?_
  refine WL_nil_seq ?_
  refine WP_seq ?_
  refine WP_region ?_
  refine XL_q rfl (qt_assign rfl) rfl rfl ?_
  refine WL_nil_seq ?_
  refine WP_seq ?_
  refine WP_still ?_
  have hB5 : Bx w2 b1 26 [vp0_0, vp0_1, vp0_2, .int .i64 p0_3, vp0_4] := Holds.bx (H4.pull 0)
  refine XL_load_bxA (cs := [vp0_0, vp0_1, vp0_2, .int .i64 p0_3, vp0_4]) us26 uo26 il26 hB5 rfl rfl rfl ?_
  change XL _ _ _ _ _ ((11, .agg #[vp0_0, vp0_1, vp0_2, .int .i64 p0_3, vp0_4]) :: _) _
  refine XL_q rfl (qt_move rfl) rfl rfl ?_
  obtain ⟨x6, hx7, h⟩ := bind_some h
  refine QL_call rfl rfl c7 (fun w' hb => (w_laws_szHouse w' ([.bx b1 26 [vp0_0, vp0_1, vp0_2, .int .i64 p0_3, vp0_4]] ++ G) vp0_0 p0_0 (hp0_0.c) vp0_1 p0_1 (hp0_1.c) vp0_2 p0_2 (hp0_2.c) p0_3 vp0_4 p0_4 (hp0_4.c) 1048576 x6 hx7 (H4.grow hb).ctx).mono fun e w'' hK => ⟨hK.1, hK.2.bel⟩) (by rfl) ?_
  refine XL_q rfl (qt_assign rfl) rfl rfl ?_
  refine QL_nil fun a ha w8 hb9 => ?_
  have H10 : Holds (([] : List Res).flatMap Res.own) w w8 [.bx b1 26 [vp0_0, vp0_1, vp0_2, .int .i64 p0_3, vp0_4]] G := H4.grow hb9
  refine nrm_seq (WP.app ?_ ha)
  refine WP_seq ?_
  refine WP_seq ?_
  refine WP_region ?_
  refine XL_q rfl (qt_move rfl) rfl rfl ?_
  refine XL_q rfl (qt_lss rfl rfl) rfl rfl ?_
  refine WL_nil_seq ?_
  refine WP_cond rfl (fun hc11 => ?_) (fun hc11 => ?_)
  · have h := if_t hc11 h
    refine WP_seq ?_
    refine WP_region ?_
    refine XL_q rfl (qt_assign rfl) rfl rfl ?_
    refine WL_nil_seq ?_
    refine WP_ret fun a ha => ?_
    obtain rfl := Option.some.inj h
    have H12 : Holds (([] : List Res).flatMap Res.own) w w8 [] G := (H10.cut 0)
    exact ret_seq (ret1 rfl ha rfl ⟨rfl, H12⟩)
  · have h := if_f hc11 h
    refine WP_skip_seq ?_
    refine WP_seq ?_
    refine WP_region ?_
    have hB13 : Bx w8 b1 26 [vp0_0, vp0_1, vp0_2, .int .i64 p0_3, vp0_4] := Holds.bx (H10.pull 0)
    refine XL_load_bxA (cs := [vp0_0, vp0_1, vp0_2, .int .i64 p0_3, vp0_4]) us26 uo26 il26 hB13 rfl rfl rfl ?_
    change XL _ _ _ _ _ ((16, .agg #[vp0_0, vp0_1, vp0_2, .int .i64 p0_3, vp0_4]) :: _) _
    obtain ⟨x14, hx15, h⟩ := bind_some h
    refine WL_call rfl rfl c9 (w_laws_toHouse w8 ([.bx b1 26 [vp0_0, vp0_1, vp0_2, .int .i64 p0_3, vp0_4]] ++ G) vp0_0 p0_0 (hp0_0.c) vp0_1 p0_1 (hp0_1.c) vp0_2 p0_2 (hp0_2.c) p0_3 vp0_4 p0_4 (hp0_4.c) x14 hx15 H10.ctx) (by rfl) ?_
    rintro _ w16 ⟨v18, cs19, F20, v21, v22, v23, cs24, F25, rfl, H17⟩; refine ⟨_, rfl, ?_⟩
    have H26 : Holds (([] : List Res).flatMap Res.own) w w16 [dpR 84 (.pair (.leaf (.int .i64)) (.pair (.sl 103 (.leaf (.pair (.int .i64) (.int .i64)))) (.leaf (.int .i64)))) v18 cs19 x14.1 F20, .sl 3 (.int .i64) v21 x14.2.1, .sl 3 (.int .i64) v22 x14.2.2.1, dpR 50 (.pair (.leaf (.int .i64)) (.pair (.sl 63 (.leaf (.pair (.int .i64) (.int .i64)))) (.sl 3 (.leaf (.int .i64))))) v23 cs24 x14.2.2.2.2 F25, .bx b1 26 [vp0_0, vp0_1, vp0_2, .int .i64 p0_3, vp0_4]] G := H10.calledN (Rs := []) H17
    obtain ⟨x27, hx28, h⟩ := bind_some h
    have V29 : Ctx w16 ([.ro (.pair (.int .i64) (.pair (.slice (.pair (.int .i64) (.int .i64))) (.int .i64))) v18 x14.1, .sl 3 (.int .i64) v21 x14.2.1, .sl 3 (.int .i64) v22 x14.2.2.1, .ro (.pair (.int .i64) (.pair (.slice (.pair (.int .i64) (.int .i64))) (.slice (.int .i64)))) v23 x14.2.2.2.2, .bx b1 26 [vp0_0, vp0_1, vp0_2, .int .i64 p0_3, vp0_4]] ++ G) := H26.viewG (Vw.dp (NsOk.self NsOk.nil) (Vw.c (Vw.c (Vw.dp (NsOk.self NsOk.nil) (Vw.c Vw.refl)))))
    refine WL_call rfl rfl c16 (w_spec_EndDeeds w16 ([.ro (.pair (.int .i64) (.pair (.slice (.pair (.int .i64) (.int .i64))) (.int .i64))) v18 x14.1, .sl 3 (.int .i64) v21 x14.2.1, .sl 3 (.int .i64) v22 x14.2.2.1, .ro (.pair (.int .i64) (.pair (.slice (.pair (.int .i64) (.int .i64))) (.slice (.int .i64)))) v23 x14.2.2.2.2, .bx b1 26 [vp0_0, vp0_1, vp0_2, .int .i64 p0_3, vp0_4]] ++ G) v18 x14.1 (HasRo.has (HasRo.hd)) v21 x14.2.1 (Has.c (Has.hd)) v22 x14.2.2.1 (Has.c (Has.c (Has.hd))) x14.2.2.2.1 v23 x14.2.2.2.2 (HasRo.has (HasRo.c (HasRo.c (HasRo.c (HasRo.hd))))) x27 hx28 V29) (by rfl) ?_
    rintro _ w30 ⟨v32, rfl, H31⟩; refine ⟨_, rfl, ?_⟩
    have H33 : Holds (([] : List Res).flatMap Res.own) w w30 [.sl 68 (.pair (.int .i64) (.pair (.int .i64) (.pair (.int .i64) (.int .i64)))) v32 x27, dpR 84 (.pair (.leaf (.int .i64)) (.pair (.sl 103 (.leaf (.pair (.int .i64) (.int .i64)))) (.leaf (.int .i64)))) v18 cs19 x14.1 F20, .sl 3 (.int .i64) v21 x14.2.1, .sl 3 (.int .i64) v22 x14.2.2.1, dpR 50 (.pair (.leaf (.int .i64)) (.pair (.sl 63 (.leaf (.pair (.int .i64) (.int .i64)))) (.sl 3 (.leaf (.int .i64))))) v23 cs24 x14.2.2.2.2 F25, .bx b1 26 [vp0_0, vp0_1, vp0_2, .int .i64 p0_3, vp0_4]] G := H26.calledV (Rs := []) H31 (all_cons (Pure.sl rfl) all_nil)
    refine XL_q rfl (qt_assign rfl) rfl rfl ?_
    refine WL_nil_seq ?_
    refine WP_seq ?_
    refine WP_region ?_
    have hB34 : Bx w30 b1 26 [vp0_0, vp0_1, vp0_2, .int .i64 p0_3, vp0_4] := Holds.bx (H33.pull 5)
    refine XL_load_bxA (cs := [vp0_0, vp0_1, vp0_2, .int .i64 p0_3, vp0_4]) us26 uo26 il26 hB34 rfl rfl rfl ?_
    change XL _ _ _ _ _ ((19, .agg #[vp0_0, vp0_1, vp0_2, .int .i64 p0_3, vp0_4]) :: _) _
    obtain ⟨x35, hx36, h⟩ := bind_some h
    have V37 : Ctx w30 ([.sl 68 (.pair (.int .i64) (.pair (.int .i64) (.pair (.int .i64) (.int .i64)))) v32 x27, .ro (.pair (.int .i64) (.pair (.slice (.pair (.int .i64) (.int .i64))) (.int .i64))) v18 x14.1, .sl 3 (.int .i64) v21 x14.2.1, .sl 3 (.int .i64) v22 x14.2.2.1, .ro (.pair (.int .i64) (.pair (.slice (.pair (.int .i64) (.int .i64))) (.slice (.int .i64)))) v23 x14.2.2.2.2, .bx b1 26 [vp0_0, vp0_1, vp0_2, .int .i64 p0_3, vp0_4]] ++ G) := H33.viewG (Vw.c (Vw.dp (NsOk.self NsOk.nil) (Vw.c (Vw.c (Vw.dp (NsOk.self NsOk.nil) (Vw.c Vw.refl))))))
    refine WL_call rfl rfl c9 (w_laws_toHouse w30 ([.sl 68 (.pair (.int .i64) (.pair (.int .i64) (.pair (.int .i64) (.int .i64)))) v32 x27, .ro (.pair (.int .i64) (.pair (.slice (.pair (.int .i64) (.int .i64))) (.int .i64))) v18 x14.1, .sl 3 (.int .i64) v21 x14.2.1, .sl 3 (.int .i64) v22 x14.2.2.1, .ro (.pair (.int .i64) (.pair (.slice (.pair (.int .i64) (.int .i64))) (.slice (.int .i64)))) v23 x14.2.2.2.2, .bx b1 26 [vp0_0, vp0_1, vp0_2, .int .i64 p0_3, vp0_4]] ++ G) vp0_0 p0_0 (hp0_0.c.c.c.c.c.c) vp0_1 p0_1 (hp0_1.c.c.c.c.c.c) vp0_2 p0_2 (hp0_2.c.c.c.c.c.c) p0_3 vp0_4 p0_4 (hp0_4.c.c.c.c.c.c) x35 hx36 V37) (by rfl) ?_
    rintro _ w38 ⟨v40, cs41, F42, v43, v44, v45, cs46, F47, rfl, H39⟩; refine ⟨_, rfl, ?_⟩
    have H48 : Holds (([] : List Res).flatMap Res.own) w w38 [dpR 84 (.pair (.leaf (.int .i64)) (.pair (.sl 103 (.leaf (.pair (.int .i64) (.int .i64)))) (.leaf (.int .i64)))) v40 cs41 x35.1 F42, .sl 3 (.int .i64) v43 x35.2.1, .sl 3 (.int .i64) v44 x35.2.2.1, dpR 50 (.pair (.leaf (.int .i64)) (.pair (.sl 63 (.leaf (.pair (.int .i64) (.int .i64)))) (.sl 3 (.leaf (.int .i64))))) v45 cs46 x35.2.2.2.2 F47, .sl 68 (.pair (.int .i64) (.pair (.int .i64) (.pair (.int .i64) (.int .i64)))) v32 x27, dpR 84 (.pair (.leaf (.int .i64)) (.pair (.sl 103 (.leaf (.pair (.int .i64) (.int .i64)))) (.leaf (.int .i64)))) v18 cs19 x14.1 F20, .sl 3 (.int .i64) v21 x14.2.1, .sl 3 (.int .i64) v22 x14.2.2.1, dpR 50 (.pair (.leaf (.int .i64)) (.pair (.sl 63 (.leaf (.pair (.int .i64) (.int .i64)))) (.sl 3 (.leaf (.int .i64))))) v23 cs24 x14.2.2.2.2 F25, .bx b1 26 [vp0_0, vp0_1, vp0_2, .int .i64 p0_3, vp0_4]] G := H33.calledV (Rs := []) H39 (all_cons Pure.dp (all_cons (Pure.sl rfl) (all_cons (Pure.sl rfl) (all_cons Pure.dp all_nil))))
    refine WL_alloc (cs := [.slice none 0 0, .slice none 0 0, .slice none 0 0, .int .i64 0, .slice none 0 0]) H48 z32 rfl rfl rfl (fun b49 w50 H51 => ?_)
    have H52 : Holds (([] : List Res).flatMap Res.own) w w50 [.bx b49 32 [.slice none 0 0, .slice none 0 0, .slice none 0 0, .int .i64 0, .slice none 0 0], dpR 84 (.pair (.leaf (.int .i64)) (.pair (.sl 103 (.leaf (.pair (.int .i64) (.int .i64)))) (.leaf (.int .i64)))) v40 cs41 x35.1 F42, .sl 3 (.int .i64) v43 x35.2.1, .sl 3 (.int .i64) v44 x35.2.2.1, dpR 50 (.pair (.leaf (.int .i64)) (.pair (.sl 63 (.leaf (.pair (.int .i64) (.int .i64)))) (.sl 3 (.leaf (.int .i64))))) v45 cs46 x35.2.2.2.2 F47, .sl 68 (.pair (.int .i64) (.pair (.int .i64) (.pair (.int .i64) (.int .i64)))) v32 x27, dpR 84 (.pair (.leaf (.int .i64)) (.pair (.sl 103 (.leaf (.pair (.int .i64) (.int .i64)))) (.leaf (.int .i64)))) v18 cs19 x14.1 F20, .sl 3 (.int .i64) v21 x14.2.1, .sl 3 (.int .i64) v22 x14.2.2.1, dpR 50 (.pair (.leaf (.int .i64)) (.pair (.sl 63 (.leaf (.pair (.int .i64) (.int .i64)))) (.sl 3 (.leaf (.int .i64))))) v23 cs24 x14.2.2.2.2 F25, .bx b1 26 [vp0_0, vp0_1, vp0_2, .int .i64 p0_3, vp0_4]] G := H51
    have V55 : Ctx w50 ([.bx b49 32 [.slice none 0 0, .slice none 0 0, .slice none 0 0, .int .i64 0, .slice none 0 0], .ro (.pair (.int .i64) (.pair (.slice (.pair (.int .i64) (.int .i64))) (.int .i64))) v40 x35.1, .sl 3 (.int .i64) v43 x35.2.1, .sl 3 (.int .i64) v44 x35.2.2.1, .ro (.pair (.int .i64) (.pair (.slice (.pair (.int .i64) (.int .i64))) (.slice (.int .i64)))) v45 x35.2.2.2.2, .sl 68 (.pair (.int .i64) (.pair (.int .i64) (.pair (.int .i64) (.int .i64)))) v32 x27, .ro (.pair (.int .i64) (.pair (.slice (.pair (.int .i64) (.int .i64))) (.int .i64))) v18 x14.1, .sl 3 (.int .i64) v21 x14.2.1, .sl 3 (.int .i64) v22 x14.2.2.1, .ro (.pair (.int .i64) (.pair (.slice (.pair (.int .i64) (.int .i64))) (.slice (.int .i64)))) v23 x14.2.2.2.2, .bx b1 26 [vp0_0, vp0_1, vp0_2, .int .i64 p0_3, vp0_4]] ++ G) := H52.viewG (Vw.c (Vw.dp (NsOk.self NsOk.nil) (Vw.c (Vw.c (Vw.dp (NsOk.self NsOk.nil) (Vw.c (Vw.dp (NsOk.self NsOk.nil) (Vw.c (Vw.c (Vw.dp (NsOk.self NsOk.nil) (Vw.c Vw.refl)))))))))))
    refine WL_store_bxA (cs' := [v40, v43, v44, .int .i64 x35.2.2.2.1, v45]) H52 rfl il32 rfl (allOne (V55.sliceOne (HasRo.has (HasRo.c (HasRo.hd)))) (allOne (V55.sliceOne (Has.c (Has.c (Has.hd)))) (allOne (V55.sliceOne (Has.c (Has.c (Has.c (Has.hd))))) (allOne rfl (allOne (V55.sliceOne (HasRo.has (HasRo.c (HasRo.c (HasRo.c (HasRo.c (HasRo.hd))))))) rfl))))) rfl rfl rfl (fun w53 H54 => ?_)
    have H56 : Holds (([] : List Res).flatMap Res.own) w w53 [.bx b49 32 [v40, v43, v44, .int .i64 x35.2.2.2.1, v45], dpR 84 (.pair (.leaf (.int .i64)) (.pair (.sl 103 (.leaf (.pair (.int .i64) (.int .i64)))) (.leaf (.int .i64)))) v40 cs41 x35.1 F42, .sl 3 (.int .i64) v43 x35.2.1, .sl 3 (.int .i64) v44 x35.2.2.1, dpR 50 (.pair (.leaf (.int .i64)) (.pair (.sl 63 (.leaf (.pair (.int .i64) (.int .i64)))) (.sl 3 (.leaf (.int .i64))))) v45 cs46 x35.2.2.2.2 F47, .sl 68 (.pair (.int .i64) (.pair (.int .i64) (.pair (.int .i64) (.int .i64)))) v32 x27, dpR 84 (.pair (.leaf (.int .i64)) (.pair (.sl 103 (.leaf (.pair (.int .i64) (.int .i64)))) (.leaf (.int .i64)))) v18 cs19 x14.1 F20, .sl 3 (.int .i64) v21 x14.2.1, .sl 3 (.int .i64) v22 x14.2.2.1, dpR 50 (.pair (.leaf (.int .i64)) (.pair (.sl 63 (.leaf (.pair (.int .i64) (.int .i64)))) (.sl 3 (.leaf (.int .i64))))) v23 cs24 x14.2.2.2.2 F25, .bx b1 26 [vp0_0, vp0_1, vp0_2, .int .i64 p0_3, vp0_4]] G := H54
    refine WL_nil_seq ?_
    refine WP_seq ?_
    refine WP_region ?_
    have hB57 : Bx w53 b49 32 [v40, v43, v44, .int .i64 x35.2.2.2.1, v45] := Holds.bx (H56.pull 0)
    refine XL_load_bxA (cs := [v40, v43, v44, .int .i64 x35.2.2.2.1, v45]) us32 uo32 il32 hB57 rfl rfl rfl ?_
    change XL _ _ _ _ _ ((21, .agg #[v40, v43, v44, .int .i64 x35.2.2.2.1, v45]) :: _) _
    obtain ⟨x58, hx59, h⟩ := bind_some h
    have V60 : Ctx w53 ([.bx b49 32 [v40, v43, v44, .int .i64 x35.2.2.2.1, v45], .ro (.pair (.int .i64) (.pair (.slice (.pair (.int .i64) (.int .i64))) (.int .i64))) v40 x35.1, .sl 3 (.int .i64) v43 x35.2.1, .sl 3 (.int .i64) v44 x35.2.2.1, .ro (.pair (.int .i64) (.pair (.slice (.pair (.int .i64) (.int .i64))) (.slice (.int .i64)))) v45 x35.2.2.2.2, .sl 68 (.pair (.int .i64) (.pair (.int .i64) (.pair (.int .i64) (.int .i64)))) v32 x27, .ro (.pair (.int .i64) (.pair (.slice (.pair (.int .i64) (.int .i64))) (.int .i64))) v18 x14.1, .sl 3 (.int .i64) v21 x14.2.1, .sl 3 (.int .i64) v22 x14.2.2.1, .ro (.pair (.int .i64) (.pair (.slice (.pair (.int .i64) (.int .i64))) (.slice (.int .i64)))) v23 x14.2.2.2.2, .bx b1 26 [vp0_0, vp0_1, vp0_2, .int .i64 p0_3, vp0_4]] ++ G) := H56.viewG (Vw.c (Vw.dp (NsOk.self NsOk.nil) (Vw.c (Vw.c (Vw.dp (NsOk.self NsOk.nil) (Vw.c (Vw.dp (NsOk.self NsOk.nil) (Vw.c (Vw.c (Vw.dp (NsOk.self NsOk.nil) (Vw.c Vw.refl)))))))))))
    refine WL_call rfl rfl c17 (w_impl_EndDeeds w53 ([.bx b49 32 [v40, v43, v44, .int .i64 x35.2.2.2.1, v45], .ro (.pair (.int .i64) (.pair (.slice (.pair (.int .i64) (.int .i64))) (.int .i64))) v40 x35.1, .sl 3 (.int .i64) v43 x35.2.1, .sl 3 (.int .i64) v44 x35.2.2.1, .ro (.pair (.int .i64) (.pair (.slice (.pair (.int .i64) (.int .i64))) (.slice (.int .i64)))) v45 x35.2.2.2.2, .sl 68 (.pair (.int .i64) (.pair (.int .i64) (.pair (.int .i64) (.int .i64)))) v32 x27, .ro (.pair (.int .i64) (.pair (.slice (.pair (.int .i64) (.int .i64))) (.int .i64))) v18 x14.1, .sl 3 (.int .i64) v21 x14.2.1, .sl 3 (.int .i64) v22 x14.2.2.1, .ro (.pair (.int .i64) (.pair (.slice (.pair (.int .i64) (.int .i64))) (.slice (.int .i64)))) v23 x14.2.2.2.2, .bx b1 26 [vp0_0, vp0_1, vp0_2, .int .i64 p0_3, vp0_4]] ++ G) v40 x35.1 (HasRo.has (HasRo.c (HasRo.hd))) v43 x35.2.1 (Has.c (Has.c (Has.hd))) v44 x35.2.2.1 (Has.c (Has.c (Has.c (Has.hd)))) x35.2.2.2.1 v45 x35.2.2.2.2 (HasRo.has (HasRo.c (HasRo.c (HasRo.c (HasRo.c (HasRo.hd)))))) x58 hx59 V60) (by rfl) ?_
    rintro _ w61 ⟨v63, rfl, H62⟩; refine ⟨_, rfl, ?_⟩
    have H64 : Holds (([] : List Res).flatMap Res.own) w w61 [.sl 68 (.pair (.int .i64) (.pair (.int .i64) (.pair (.int .i64) (.int .i64)))) v63 x58, .bx b49 32 [v40, v43, v44, .int .i64 x35.2.2.2.1, v45], dpR 84 (.pair (.leaf (.int .i64)) (.pair (.sl 103 (.leaf (.pair (.int .i64) (.int .i64)))) (.leaf (.int .i64)))) v40 cs41 x35.1 F42, .sl 3 (.int .i64) v43 x35.2.1, .sl 3 (.int .i64) v44 x35.2.2.1, dpR 50 (.pair (.leaf (.int .i64)) (.pair (.sl 63 (.leaf (.pair (.int .i64) (.int .i64)))) (.sl 3 (.leaf (.int .i64))))) v45 cs46 x35.2.2.2.2 F47, .sl 68 (.pair (.int .i64) (.pair (.int .i64) (.pair (.int .i64) (.int .i64)))) v32 x27, dpR 84 (.pair (.leaf (.int .i64)) (.pair (.sl 103 (.leaf (.pair (.int .i64) (.int .i64)))) (.leaf (.int .i64)))) v18 cs19 x14.1 F20, .sl 3 (.int .i64) v21 x14.2.1, .sl 3 (.int .i64) v22 x14.2.2.1, dpR 50 (.pair (.leaf (.int .i64)) (.pair (.sl 63 (.leaf (.pair (.int .i64) (.int .i64)))) (.sl 3 (.leaf (.int .i64))))) v23 cs24 x14.2.2.2.2 F25, .bx b1 26 [vp0_0, vp0_1, vp0_2, .int .i64 p0_3, vp0_4]] G := H56.calledV (Rs := []) H62 (all_cons (Pure.sl rfl) all_nil)
    refine XL_q rfl (qt_assign rfl) rfl rfl ?_
    refine WL_nil_seq ?_
    refine WP_seq ?_
    refine WP_seq ?_
    refine WP_still ?_
    refine XL_q rfl (qt_move rfl) rfl rfl ?_
    refine XL_q rfl (qt_move rfl) rfl rfl ?_
    obtain ⟨x65, hx66, h⟩ := bind_some h
    refine QL_call rfl rfl c18 (fun w' hb => (w_laws_eqHouseDeedS w' ([.sl 68 (.pair (.int .i64) (.pair (.int .i64) (.pair (.int .i64) (.int .i64)))) v63 x58, .bx b49 32 [v40, v43, v44, .int .i64 x35.2.2.2.1, v45], .ro (.pair (.int .i64) (.pair (.slice (.pair (.int .i64) (.int .i64))) (.int .i64))) v40 x35.1, .sl 3 (.int .i64) v43 x35.2.1, .sl 3 (.int .i64) v44 x35.2.2.1, .ro (.pair (.int .i64) (.pair (.slice (.pair (.int .i64) (.int .i64))) (.slice (.int .i64)))) v45 x35.2.2.2.2, .sl 68 (.pair (.int .i64) (.pair (.int .i64) (.pair (.int .i64) (.int .i64)))) v32 x27, .ro (.pair (.int .i64) (.pair (.slice (.pair (.int .i64) (.int .i64))) (.int .i64))) v18 x14.1, .sl 3 (.int .i64) v21 x14.2.1, .sl 3 (.int .i64) v22 x14.2.2.1, .ro (.pair (.int .i64) (.pair (.slice (.pair (.int .i64) (.int .i64))) (.slice (.int .i64)))) v23 x14.2.2.2.2, .bx b1 26 [vp0_0, vp0_1, vp0_2, .int .i64 p0_3, vp0_4]] ++ G) v63 x58 (Has.hd) v32 x27 (Has.c (Has.c (Has.c (Has.c (Has.c (Has.c (Has.hd))))))) x65 hx66 ((H64.grow hb).viewG (Vw.c (Vw.c (Vw.dp (NsOk.self NsOk.nil) (Vw.c (Vw.c (Vw.dp (NsOk.self NsOk.nil) (Vw.c (Vw.dp (NsOk.self NsOk.nil) (Vw.c (Vw.c (Vw.dp (NsOk.self NsOk.nil) (Vw.c Vw.refl)))))))))))))).mono fun e w'' hK => ⟨hK.1, hK.2.bel⟩) (by rfl) ?_
    refine XL_q rfl (qt_not rfl) rfl rfl ?_
    refine QL_nil fun a ha w67 hb68 => ?_
    have H69 : Holds (([] : List Res).flatMap Res.own) w w67 [.sl 68 (.pair (.int .i64) (.pair (.int .i64) (.pair (.int .i64) (.int .i64)))) v63 x58, .bx b49 32 [v40, v43, v44, .int .i64 x35.2.2.2.1, v45], dpR 84 (.pair (.leaf (.int .i64)) (.pair (.sl 103 (.leaf (.pair (.int .i64) (.int .i64)))) (.leaf (.int .i64)))) v40 cs41 x35.1 F42, .sl 3 (.int .i64) v43 x35.2.1, .sl 3 (.int .i64) v44 x35.2.2.1, dpR 50 (.pair (.leaf (.int .i64)) (.pair (.sl 63 (.leaf (.pair (.int .i64) (.int .i64)))) (.sl 3 (.leaf (.int .i64))))) v45 cs46 x35.2.2.2.2 F47, .sl 68 (.pair (.int .i64) (.pair (.int .i64) (.pair (.int .i64) (.int .i64)))) v32 x27, dpR 84 (.pair (.leaf (.int .i64)) (.pair (.sl 103 (.leaf (.pair (.int .i64) (.int .i64)))) (.leaf (.int .i64)))) v18 cs19 x14.1 F20, .sl 3 (.int .i64) v21 x14.2.1, .sl 3 (.int .i64) v22 x14.2.2.1, dpR 50 (.pair (.leaf (.int .i64)) (.pair (.sl 63 (.leaf (.pair (.int .i64) (.int .i64)))) (.sl 3 (.leaf (.int .i64))))) v23 cs24 x14.2.2.2.2 F25, .bx b1 26 [vp0_0, vp0_1, vp0_2, .int .i64 p0_3, vp0_4]] G := H64.grow hb68
    refine nrm_seq (WP.app ?_ ha)
    refine WP_cond rfl (fun hc70 => ?_) (fun hc70 => ?_)
    · have h := if_t hc70 h
      refine WP_seq ?_
      refine WP_region ?_
      refine XL_q rfl (qt_assign rfl) rfl rfl ?_
      refine WL_nil_seq ?_
      refine WP_ret fun a ha => ?_
      obtain rfl := Option.some.inj h
      have H71 : Holds (([] : List Res).flatMap Res.own) w w67 [] G := ((((((((((((H69.cut 0).cut 0).cut 0).cut 0).cut 0).cut 0).cut 0).cut 0).cut 0).cut 0).cut 0).cut 0)
      exact ret_seq (ret1 rfl ha rfl ⟨rfl, H71⟩)
    · have h := if_f hc70 h
      refine WP_skip_seq ?_
      refine WP_seq ?_
      refine WP_seq ?_
      obtain ⟨x74, hx75, h⟩ := bind_some h
      obtain ⟨x88, hx89, h⟩ := bind_some h
      refine WP_join (M := fun a w2 => (Fr a 69 [(1, .pointer (some ⟨b1, 0, none⟩)), (4, v32), (5, .pointer (some ⟨b49, 0, none⟩)), (6, v63), (31, .bool (!x88))] ∧ Holds (([] : List Res).flatMap Res.own) w w2 [.bx b1 26 [vp0_0, vp0_1, vp0_2, .int .i64 p0_3, vp0_4], .sl 68 (.pair (.int .i64) (.pair (.int .i64) (.pair (.int .i64) (.int .i64)))) v32 x27, .bx b49 32 [v40, v43, v44, .int .i64 x35.2.2.2.1, v45], dpR 84 (.pair (.leaf (.int .i64)) (.pair (.sl 103 (.leaf (.pair (.int .i64) (.int .i64)))) (.leaf (.int .i64)))) v40 cs41 x35.1 F42, .sl 3 (.int .i64) v43 x35.2.1, .sl 3 (.int .i64) v44 x35.2.2.1, dpR 50 (.pair (.leaf (.int .i64)) (.pair (.sl 63 (.leaf (.pair (.int .i64) (.int .i64)))) (.sl 3 (.leaf (.int .i64))))) v45 cs46 x35.2.2.2.2 F47, .sl 68 (.pair (.int .i64) (.pair (.int .i64) (.pair (.int .i64) (.int .i64)))) v63 x58] G)) ?_ ?_
      · refine WP_ordersT (fun w1 w2 => Chg (([] : List Res).flatMap Res.own) w1 w2) 5 (by kernel_rfl) (fun w272 hb273 => ?_)
        have H274 : Holds (([] : List Res).flatMap Res.own) w w272 [.sl 68 (.pair (.int .i64) (.pair (.int .i64) (.pair (.int .i64) (.int .i64)))) v63 x58, .bx b49 32 [v40, v43, v44, .int .i64 x35.2.2.2.1, v45], dpR 84 (.pair (.leaf (.int .i64)) (.pair (.sl 103 (.leaf (.pair (.int .i64) (.int .i64)))) (.leaf (.int .i64)))) v40 cs41 x35.1 F42, .sl 3 (.int .i64) v43 x35.2.1, .sl 3 (.int .i64) v44 x35.2.2.1, dpR 50 (.pair (.leaf (.int .i64)) (.pair (.sl 63 (.leaf (.pair (.int .i64) (.int .i64)))) (.sl 3 (.leaf (.int .i64))))) v45 cs46 x35.2.2.2.2 F47, .sl 68 (.pair (.int .i64) (.pair (.int .i64) (.pair (.int .i64) (.int .i64)))) v32 x27, dpR 84 (.pair (.leaf (.int .i64)) (.pair (.sl 103 (.leaf (.pair (.int .i64) (.int .i64)))) (.leaf (.int .i64)))) v18 cs19 x14.1 F20, .sl 3 (.int .i64) v21 x14.2.1, .sl 3 (.int .i64) v22 x14.2.2.1, dpR 50 (.pair (.leaf (.int .i64)) (.pair (.sl 63 (.leaf (.pair (.int .i64) (.int .i64)))) (.sl 3 (.leaf (.int .i64))))) v23 cs24 x14.2.2.2.2 F25, .bx b1 26 [vp0_0, vp0_1, vp0_2, .int .i64 p0_3, vp0_4]] G := H69.grow hb273
        have C275 : Ctx w272 ([] ++ ([.sl 68 (.pair (.int .i64) (.pair (.int .i64) (.pair (.int .i64) (.int .i64)))) v63 x58, .bx b49 32 [v40, v43, v44, .int .i64 x35.2.2.2.1, v45], .ro (.pair (.int .i64) (.pair (.slice (.pair (.int .i64) (.int .i64))) (.int .i64))) v40 x35.1, .sl 3 (.int .i64) v43 x35.2.1, .sl 3 (.int .i64) v44 x35.2.2.1, .ro (.pair (.int .i64) (.pair (.slice (.pair (.int .i64) (.int .i64))) (.slice (.int .i64)))) v45 x35.2.2.2.2, .sl 68 (.pair (.int .i64) (.pair (.int .i64) (.pair (.int .i64) (.int .i64)))) v32 x27, .ro (.pair (.int .i64) (.pair (.slice (.pair (.int .i64) (.int .i64))) (.int .i64))) v18 x14.1, .sl 3 (.int .i64) v21 x14.2.1, .sl 3 (.int .i64) v22 x14.2.2.1, .ro (.pair (.int .i64) (.pair (.slice (.pair (.int .i64) (.int .i64))) (.slice (.int .i64)))) v23 x14.2.2.2.2, .bx b1 26 [vp0_0, vp0_1, vp0_2, .int .i64 p0_3, vp0_4]] ++ G)) := H274.viewG (Vw.c (Vw.c (Vw.dp (NsOk.self NsOk.nil) (Vw.c (Vw.c (Vw.dp (NsOk.self NsOk.nil) (Vw.c (Vw.dp (NsOk.self NsOk.nil) (Vw.c (Vw.c (Vw.dp (NsOk.self NsOk.nil) (Vw.c Vw.refl))))))))))))
        have H276 : Holds (([] : List Res).flatMap Res.own) w272 w272 [] ([.sl 68 (.pair (.int .i64) (.pair (.int .i64) (.pair (.int .i64) (.int .i64)))) v63 x58, .bx b49 32 [v40, v43, v44, .int .i64 x35.2.2.2.1, v45], .ro (.pair (.int .i64) (.pair (.slice (.pair (.int .i64) (.int .i64))) (.int .i64))) v40 x35.1, .sl 3 (.int .i64) v43 x35.2.1, .sl 3 (.int .i64) v44 x35.2.2.1, .ro (.pair (.int .i64) (.pair (.slice (.pair (.int .i64) (.int .i64))) (.slice (.int .i64)))) v45 x35.2.2.2.2, .sl 68 (.pair (.int .i64) (.pair (.int .i64) (.pair (.int .i64) (.int .i64)))) v32 x27, .ro (.pair (.int .i64) (.pair (.slice (.pair (.int .i64) (.int .i64))) (.int .i64))) v18 x14.1, .sl 3 (.int .i64) v21 x14.2.1, .sl 3 (.int .i64) v22 x14.2.2.1, .ro (.pair (.int .i64) (.pair (.slice (.pair (.int .i64) (.int .i64))) (.slice (.int .i64)))) v23 x14.2.2.2.2, .bx b1 26 [vp0_0, vp0_1, vp0_2, .int .i64 p0_3, vp0_4]] ++ G) := Holds.startN (Rs := []) C275
        have hB295 : Bx w272 b49 32 [v40, v43, v44, .int .i64 x35.2.2.2.1, v45] := HasB.bx (HasB.c (HasB.hd)) H276.ctx
        refine XC_take (i := 0) rfl (by kernel_rfl) (by kernel_rfl) (by kernel_rfl) (by kernel_rfl) rfl H276.chg rfl (qs_agg (cs := [v40, v43, v44, .int .i64 x35.2.2.2.1, v45]) us32 uo32 il32 rfl (fun j z hj => by rw [Nat.zero_add]; exact hB295.cell hj) H276.chg (Ctx.outB (Rs := []) C275 (HasB.c (HasB.hd)))) rfl rfl ?_
        change XC _ _ _ _ _ _ _ _ ((27, .agg #[v40, v43, v44, .int .i64 x35.2.2.2.1, v45]) :: _) _
        have hB296 : Bx w272 b1 26 [vp0_0, vp0_1, vp0_2, .int .i64 p0_3, vp0_4] := HasB.bx (HasB.c (HasB.c (HasB.c (HasB.c (HasB.c (HasB.c (HasB.c (HasB.c (HasB.c (HasB.c (HasB.c (HasB.hd)))))))))))) H276.ctx
        refine XC_take (i := 1) rfl (by kernel_rfl) (by kernel_rfl) (by kernel_rfl) (by kernel_rfl) rfl H276.chg rfl (qs_agg (cs := [vp0_0, vp0_1, vp0_2, .int .i64 p0_3, vp0_4]) us26 uo26 il26 rfl (fun j z hj => by rw [Nat.zero_add]; exact hB296.cell hj) H276.chg (Ctx.outB (Rs := []) C275 (HasB.c (HasB.c (HasB.c (HasB.c (HasB.c (HasB.c (HasB.c (HasB.c (HasB.c (HasB.c (HasB.c (HasB.hd)))))))))))))) rfl rfl ?_
        change XC _ _ _ _ _ _ _ _ ((28, .agg #[vp0_0, vp0_1, vp0_2, .int .i64 p0_3, vp0_4]) :: _) _
        refine XC_all [2] (by kernel_rfl) (by simp) (allc ?_ alln)
        · refine XC_do rfl ?_
          refine WL_call rfl rfl c9 (w_laws_toHouse w272 ([.sl 68 (.pair (.int .i64) (.pair (.int .i64) (.pair (.int .i64) (.int .i64)))) v63 x58, .bx b49 32 [v40, v43, v44, .int .i64 x35.2.2.2.1, v45], .ro (.pair (.int .i64) (.pair (.slice (.pair (.int .i64) (.int .i64))) (.int .i64))) v40 x35.1, .sl 3 (.int .i64) v43 x35.2.1, .sl 3 (.int .i64) v44 x35.2.2.1, .ro (.pair (.int .i64) (.pair (.slice (.pair (.int .i64) (.int .i64))) (.slice (.int .i64)))) v45 x35.2.2.2.2, .sl 68 (.pair (.int .i64) (.pair (.int .i64) (.pair (.int .i64) (.int .i64)))) v32 x27, .ro (.pair (.int .i64) (.pair (.slice (.pair (.int .i64) (.int .i64))) (.int .i64))) v18 x14.1, .sl 3 (.int .i64) v21 x14.2.1, .sl 3 (.int .i64) v22 x14.2.2.1, .ro (.pair (.int .i64) (.pair (.slice (.pair (.int .i64) (.int .i64))) (.slice (.int .i64)))) v23 x14.2.2.2.2, .bx b1 26 [vp0_0, vp0_1, vp0_2, .int .i64 p0_3, vp0_4]] ++ G) vp0_0 p0_0 (hp0_0.c.c.c.c.c.c.c.c.c.c.c.c) vp0_1 p0_1 (hp0_1.c.c.c.c.c.c.c.c.c.c.c.c) vp0_2 p0_2 (hp0_2.c.c.c.c.c.c.c.c.c.c.c.c) p0_3 vp0_4 p0_4 (hp0_4.c.c.c.c.c.c.c.c.c.c.c.c) x74 hx75 H276.ctx) (by rfl) ?_
          rintro _ w297 ⟨v299, cs300, F301, v302, v303, v304, cs305, F306, rfl, H298⟩; refine ⟨_, rfl, ?_⟩
          have H307 : Holds (([] : List Res).flatMap Res.own) w272 w297 [dpR 84 (.pair (.leaf (.int .i64)) (.pair (.sl 103 (.leaf (.pair (.int .i64) (.int .i64)))) (.leaf (.int .i64)))) v299 cs300 x74.1 F301, .sl 3 (.int .i64) v302 x74.2.1, .sl 3 (.int .i64) v303 x74.2.2.1, dpR 50 (.pair (.leaf (.int .i64)) (.pair (.sl 63 (.leaf (.pair (.int .i64) (.int .i64)))) (.sl 3 (.leaf (.int .i64))))) v304 cs305 x74.2.2.2.2 F306] ([.sl 68 (.pair (.int .i64) (.pair (.int .i64) (.pair (.int .i64) (.int .i64)))) v63 x58, .bx b49 32 [v40, v43, v44, .int .i64 x35.2.2.2.1, v45], .ro (.pair (.int .i64) (.pair (.slice (.pair (.int .i64) (.int .i64))) (.int .i64))) v40 x35.1, .sl 3 (.int .i64) v43 x35.2.1, .sl 3 (.int .i64) v44 x35.2.2.1, .ro (.pair (.int .i64) (.pair (.slice (.pair (.int .i64) (.int .i64))) (.slice (.int .i64)))) v45 x35.2.2.2.2, .sl 68 (.pair (.int .i64) (.pair (.int .i64) (.pair (.int .i64) (.int .i64)))) v32 x27, .ro (.pair (.int .i64) (.pair (.slice (.pair (.int .i64) (.int .i64))) (.int .i64))) v18 x14.1, .sl 3 (.int .i64) v21 x14.2.1, .sl 3 (.int .i64) v22 x14.2.2.1, .ro (.pair (.int .i64) (.pair (.slice (.pair (.int .i64) (.int .i64))) (.slice (.int .i64)))) v23 x14.2.2.2.2, .bx b1 26 [vp0_0, vp0_1, vp0_2, .int .i64 p0_3, vp0_4]] ++ G) := H276.calledN (Rs := []) H298
          refine WL_nil fun a ha => ⟨rfl, fun _ => H307.chg, (?_ : XC _ _ _ _ _ _ _ _ _ _) a ha⟩
          refine XC_all [3] (by kernel_rfl) (by simp) (allc ?_ alln)
          · refine XC_do rfl ?_
            have V308 : Ctx w297 ([.ro (.pair (.int .i64) (.pair (.slice (.pair (.int .i64) (.int .i64))) (.int .i64))) v299 x74.1, .sl 3 (.int .i64) v302 x74.2.1, .sl 3 (.int .i64) v303 x74.2.2.1, .ro (.pair (.int .i64) (.pair (.slice (.pair (.int .i64) (.int .i64))) (.slice (.int .i64)))) v304 x74.2.2.2.2] ++ ([.sl 68 (.pair (.int .i64) (.pair (.int .i64) (.pair (.int .i64) (.int .i64)))) v63 x58, .bx b49 32 [v40, v43, v44, .int .i64 x35.2.2.2.1, v45], .ro (.pair (.int .i64) (.pair (.slice (.pair (.int .i64) (.int .i64))) (.int .i64))) v40 x35.1, .sl 3 (.int .i64) v43 x35.2.1, .sl 3 (.int .i64) v44 x35.2.2.1, .ro (.pair (.int .i64) (.pair (.slice (.pair (.int .i64) (.int .i64))) (.slice (.int .i64)))) v45 x35.2.2.2.2, .sl 68 (.pair (.int .i64) (.pair (.int .i64) (.pair (.int .i64) (.int .i64)))) v32 x27, .ro (.pair (.int .i64) (.pair (.slice (.pair (.int .i64) (.int .i64))) (.int .i64))) v18 x14.1, .sl 3 (.int .i64) v21 x14.2.1, .sl 3 (.int .i64) v22 x14.2.2.1, .ro (.pair (.int .i64) (.pair (.slice (.pair (.int .i64) (.int .i64))) (.slice (.int .i64)))) v23 x14.2.2.2.2, .bx b1 26 [vp0_0, vp0_1, vp0_2, .int .i64 p0_3, vp0_4]] ++ G)) := H307.viewG (Vw.dp (NsOk.self NsOk.nil) (Vw.c (Vw.c (Vw.dp (NsOk.self NsOk.nil) Vw.refl))))
            refine WL_call rfl rfl c11 (w_laws_eqHouse w297 ([.ro (.pair (.int .i64) (.pair (.slice (.pair (.int .i64) (.int .i64))) (.int .i64))) v299 x74.1, .sl 3 (.int .i64) v302 x74.2.1, .sl 3 (.int .i64) v303 x74.2.2.1, .ro (.pair (.int .i64) (.pair (.slice (.pair (.int .i64) (.int .i64))) (.slice (.int .i64)))) v304 x74.2.2.2.2] ++ ([.sl 68 (.pair (.int .i64) (.pair (.int .i64) (.pair (.int .i64) (.int .i64)))) v63 x58, .bx b49 32 [v40, v43, v44, .int .i64 x35.2.2.2.1, v45], .ro (.pair (.int .i64) (.pair (.slice (.pair (.int .i64) (.int .i64))) (.int .i64))) v40 x35.1, .sl 3 (.int .i64) v43 x35.2.1, .sl 3 (.int .i64) v44 x35.2.2.1, .ro (.pair (.int .i64) (.pair (.slice (.pair (.int .i64) (.int .i64))) (.slice (.int .i64)))) v45 x35.2.2.2.2, .sl 68 (.pair (.int .i64) (.pair (.int .i64) (.pair (.int .i64) (.int .i64)))) v32 x27, .ro (.pair (.int .i64) (.pair (.slice (.pair (.int .i64) (.int .i64))) (.int .i64))) v18 x14.1, .sl 3 (.int .i64) v21 x14.2.1, .sl 3 (.int .i64) v22 x14.2.2.1, .ro (.pair (.int .i64) (.pair (.slice (.pair (.int .i64) (.int .i64))) (.slice (.int .i64)))) v23 x14.2.2.2.2, .bx b1 26 [vp0_0, vp0_1, vp0_2, .int .i64 p0_3, vp0_4]] ++ G)) v40 x35.1 (HasRo.has (HasRo.c (HasRo.c (HasRo.c (HasRo.c (HasRo.c (HasRo.c (HasRo.hd)))))))) v43 x35.2.1 (Has.c (Has.c (Has.c (Has.c (Has.c (Has.c (Has.c (Has.hd)))))))) v44 x35.2.2.1 (Has.c (Has.c (Has.c (Has.c (Has.c (Has.c (Has.c (Has.c (Has.hd))))))))) x35.2.2.2.1 v45 x35.2.2.2.2 (HasRo.has (HasRo.c (HasRo.c (HasRo.c (HasRo.c (HasRo.c (HasRo.c (HasRo.c (HasRo.c (HasRo.c (HasRo.hd))))))))))) v299 x74.1 (HasRo.has (HasRo.hd)) v302 x74.2.1 (Has.c (Has.hd)) v303 x74.2.2.1 (Has.c (Has.c (Has.hd))) x74.2.2.2.1 v304 x74.2.2.2.2 (HasRo.has (HasRo.c (HasRo.c (HasRo.c (HasRo.hd))))) x88 hx89 V308) (by rfl) ?_
            rintro _ w309 ⟨rfl, H310⟩; refine ⟨_, rfl, ?_⟩
            have H311 : Holds (([] : List Res).flatMap Res.own) w272 w309 [dpR 84 (.pair (.leaf (.int .i64)) (.pair (.sl 103 (.leaf (.pair (.int .i64) (.int .i64)))) (.leaf (.int .i64)))) v299 cs300 x74.1 F301, .sl 3 (.int .i64) v302 x74.2.1, .sl 3 (.int .i64) v303 x74.2.2.1, dpR 50 (.pair (.leaf (.int .i64)) (.pair (.sl 63 (.leaf (.pair (.int .i64) (.int .i64)))) (.sl 3 (.leaf (.int .i64))))) v304 cs305 x74.2.2.2.2 F306] ([.sl 68 (.pair (.int .i64) (.pair (.int .i64) (.pair (.int .i64) (.int .i64)))) v63 x58, .bx b49 32 [v40, v43, v44, .int .i64 x35.2.2.2.1, v45], .ro (.pair (.int .i64) (.pair (.slice (.pair (.int .i64) (.int .i64))) (.int .i64))) v40 x35.1, .sl 3 (.int .i64) v43 x35.2.1, .sl 3 (.int .i64) v44 x35.2.2.1, .ro (.pair (.int .i64) (.pair (.slice (.pair (.int .i64) (.int .i64))) (.slice (.int .i64)))) v45 x35.2.2.2.2, .sl 68 (.pair (.int .i64) (.pair (.int .i64) (.pair (.int .i64) (.int .i64)))) v32 x27, .ro (.pair (.int .i64) (.pair (.slice (.pair (.int .i64) (.int .i64))) (.int .i64))) v18 x14.1, .sl 3 (.int .i64) v21 x14.2.1, .sl 3 (.int .i64) v22 x14.2.2.1, .ro (.pair (.int .i64) (.pair (.slice (.pair (.int .i64) (.int .i64))) (.slice (.int .i64)))) v23 x14.2.2.2.2, .bx b1 26 [vp0_0, vp0_1, vp0_2, .int .i64 p0_3, vp0_4]] ++ G) := H307.calledV (Rs := []) H310 all_nil
            refine WL_nil fun a ha => ⟨rfl, fun _ => H311.chg, (?_ : XC _ _ _ _ _ _ _ _ _ _) a ha⟩
            refine XC_take (i := 4) rfl (by kernel_rfl) (by kernel_rfl) (by kernel_rfl) (by kernel_rfl) rfl H311.chg rfl (QtS.of (fun _ => qt_not rfl)) rfl rfl ?_
            have H312 : Holds (([] : List Res).flatMap Res.own) w w309 [dpR 84 (.pair (.leaf (.int .i64)) (.pair (.sl 103 (.leaf (.pair (.int .i64) (.int .i64)))) (.leaf (.int .i64)))) v299 cs300 x74.1 F301, .sl 3 (.int .i64) v302 x74.2.1, .sl 3 (.int .i64) v303 x74.2.2.1, dpR 50 (.pair (.leaf (.int .i64)) (.pair (.sl 63 (.leaf (.pair (.int .i64) (.int .i64)))) (.sl 3 (.leaf (.int .i64))))) v304 cs305 x74.2.2.2.2 F306, .sl 68 (.pair (.int .i64) (.pair (.int .i64) (.pair (.int .i64) (.int .i64)))) v63 x58, .bx b49 32 [v40, v43, v44, .int .i64 x35.2.2.2.1, v45], dpR 84 (.pair (.leaf (.int .i64)) (.pair (.sl 103 (.leaf (.pair (.int .i64) (.int .i64)))) (.leaf (.int .i64)))) v40 cs41 x35.1 F42, .sl 3 (.int .i64) v43 x35.2.1, .sl 3 (.int .i64) v44 x35.2.2.1, dpR 50 (.pair (.leaf (.int .i64)) (.pair (.sl 63 (.leaf (.pair (.int .i64) (.int .i64)))) (.sl 3 (.leaf (.int .i64))))) v45 cs46 x35.2.2.2.2 F47, .sl 68 (.pair (.int .i64) (.pair (.int .i64) (.pair (.int .i64) (.int .i64)))) v32 x27, dpR 84 (.pair (.leaf (.int .i64)) (.pair (.sl 103 (.leaf (.pair (.int .i64) (.int .i64)))) (.leaf (.int .i64)))) v18 cs19 x14.1 F20, .sl 3 (.int .i64) v21 x14.2.1, .sl 3 (.int .i64) v22 x14.2.2.1, dpR 50 (.pair (.leaf (.int .i64)) (.pair (.sl 63 (.leaf (.pair (.int .i64) (.int .i64)))) (.sl 3 (.leaf (.int .i64))))) v23 cs24 x14.2.2.2.2 F25, .bx b1 26 [vp0_0, vp0_1, vp0_2, .int .i64 p0_3, vp0_4]] G := H274.calledV (Rs := []) H311 (all_cons Pure.dp (all_cons (Pure.sl rfl) (all_cons (Pure.sl rfl) (all_cons Pure.dp all_nil))))
            refine XC_done (by kernel_rfl) (fun a ha => ?_)
            have H313 : Holds (([] : List Res).flatMap Res.own) w w309 [.bx b1 26 [vp0_0, vp0_1, vp0_2, .int .i64 p0_3, vp0_4], .sl 68 (.pair (.int .i64) (.pair (.int .i64) (.pair (.int .i64) (.int .i64)))) v32 x27, .bx b49 32 [v40, v43, v44, .int .i64 x35.2.2.2.1, v45], dpR 84 (.pair (.leaf (.int .i64)) (.pair (.sl 103 (.leaf (.pair (.int .i64) (.int .i64)))) (.leaf (.int .i64)))) v40 cs41 x35.1 F42, .sl 3 (.int .i64) v43 x35.2.1, .sl 3 (.int .i64) v44 x35.2.2.1, dpR 50 (.pair (.leaf (.int .i64)) (.pair (.sl 63 (.leaf (.pair (.int .i64) (.int .i64)))) (.sl 3 (.leaf (.int .i64))))) v45 cs46 x35.2.2.2.2 F47, .sl 68 (.pair (.int .i64) (.pair (.int .i64) (.pair (.int .i64) (.int .i64)))) v63 x58] G := (((((((((((((((H312.cut 0).cut 0).cut 0).cut 0).cut 7).cut 7).cut 7).cut 7).pull 5).pull 5).pull 5).pull 5).pull 5).pull 6).pull 7)
            exact ⟨ha.sub ⟨rfl, rfl, rfl, rfl, rfl, trivial⟩, H313⟩
      · intro a w314 hI315
        obtain ⟨ha, H316⟩ := hI315
        refine WP.app ?_ ha
        clear ha
        refine WP_cond rfl (fun hc317 => ?_) (fun hc317 => ?_)
        · have h := if_t hc317 h
          refine WP_seq ?_
          refine WP_region ?_
          refine XL_q rfl (qt_assign rfl) rfl rfl ?_
          refine WL_nil_seq ?_
          refine WP_ret fun a ha => ?_
          obtain rfl := Option.some.inj h
          have H318 : Holds (([] : List Res).flatMap Res.own) w w314 [] G := ((((((((H316.cut 0).cut 0).cut 0).cut 0).cut 0).cut 0).cut 0).cut 0)
          exact ret_seq (ret1 rfl ha rfl ⟨rfl, H318⟩)
        · have h := if_f hc317 h
          refine WP_skip_seq ?_
          refine WP_seq ?_
          refine WP_region ?_
          refine XL_q rfl (qt_assign rfl) rfl rfl ?_
          refine WL_nil_seq ?_
          refine WP_seq ?_
          refine WP_region ?_
          have hB319 : Bx w314 b49 32 [v40, v43, v44, .int .i64 x35.2.2.2.1, v45] := Holds.bx (H316.pull 2)
          refine XL_load_bxA (cs := [v40, v43, v44, .int .i64 x35.2.2.2.1, v45]) us32 uo32 il32 hB319 rfl rfl rfl ?_
          change XL _ _ _ _ _ ((32, .agg #[v40, v43, v44, .int .i64 x35.2.2.2.1, v45]) :: _) _
          refine XL_q rfl (qt_move rfl) rfl rfl ?_
          have H322 : Holds (([] : List Res).flatMap Res.own) w w314 [dpR 50 (.pair (.leaf (.int .i64)) (.pair (.sl 63 (.leaf (.pair (.int .i64) (.int .i64)))) (.sl 3 (.leaf (.int .i64))))) v45 cs46 x35.2.2.2.2 F47, .bx b1 26 [vp0_0, vp0_1, vp0_2, .int .i64 p0_3, vp0_4], .sl 68 (.pair (.int .i64) (.pair (.int .i64) (.pair (.int .i64) (.int .i64)))) v32 x27, .bx b49 32 [v40, v43, v44, .int .i64 x35.2.2.2.1, v45], dpR 84 (.pair (.leaf (.int .i64)) (.pair (.sl 103 (.leaf (.pair (.int .i64) (.int .i64)))) (.leaf (.int .i64)))) v40 cs41 x35.1 F42, .sl 3 (.int .i64) v43 x35.2.1, .sl 3 (.int .i64) v44 x35.2.2.1, .sl 68 (.pair (.int .i64) (.pair (.int .i64) (.pair (.int .i64) (.int .i64)))) v63 x58] G := H316.pull 6
          have H323 : Holds (([] : List Res).flatMap Res.own) w w314 [.sl 3 (.int .i64) v44 x35.2.2.1, dpR 50 (.pair (.leaf (.int .i64)) (.pair (.sl 63 (.leaf (.pair (.int .i64) (.int .i64)))) (.sl 3 (.leaf (.int .i64))))) v45 cs46 x35.2.2.2.2 F47, .bx b1 26 [vp0_0, vp0_1, vp0_2, .int .i64 p0_3, vp0_4], .sl 68 (.pair (.int .i64) (.pair (.int .i64) (.pair (.int .i64) (.int .i64)))) v32 x27, .bx b49 32 [v40, v43, v44, .int .i64 x35.2.2.2.1, v45], dpR 84 (.pair (.leaf (.int .i64)) (.pair (.sl 103 (.leaf (.pair (.int .i64) (.int .i64)))) (.leaf (.int .i64)))) v40 cs41 x35.1 F42, .sl 3 (.int .i64) v43 x35.2.1, .sl 68 (.pair (.int .i64) (.pair (.int .i64) (.pair (.int .i64) (.int .i64)))) v63 x58] G := H322.pull 6
          have H324 : Holds (([] : List Res).flatMap Res.own) w w314 [.sl 3 (.int .i64) v43 x35.2.1, .sl 3 (.int .i64) v44 x35.2.2.1, dpR 50 (.pair (.leaf (.int .i64)) (.pair (.sl 63 (.leaf (.pair (.int .i64) (.int .i64)))) (.sl 3 (.leaf (.int .i64))))) v45 cs46 x35.2.2.2.2 F47, .bx b1 26 [vp0_0, vp0_1, vp0_2, .int .i64 p0_3, vp0_4], .sl 68 (.pair (.int .i64) (.pair (.int .i64) (.pair (.int .i64) (.int .i64)))) v32 x27, .bx b49 32 [v40, v43, v44, .int .i64 x35.2.2.2.1, v45], dpR 84 (.pair (.leaf (.int .i64)) (.pair (.sl 103 (.leaf (.pair (.int .i64) (.int .i64)))) (.leaf (.int .i64)))) v40 cs41 x35.1 F42, .sl 68 (.pair (.int .i64) (.pair (.int .i64) (.pair (.int .i64) (.int .i64)))) v63 x58] G := H323.pull 6
          have H325 : Holds (([] : List Res).flatMap Res.own) w w314 [dpR 84 (.pair (.leaf (.int .i64)) (.pair (.sl 103 (.leaf (.pair (.int .i64) (.int .i64)))) (.leaf (.int .i64)))) v40 cs41 x35.1 F42, .sl 3 (.int .i64) v43 x35.2.1, .sl 3 (.int .i64) v44 x35.2.2.1, dpR 50 (.pair (.leaf (.int .i64)) (.pair (.sl 63 (.leaf (.pair (.int .i64) (.int .i64)))) (.sl 3 (.leaf (.int .i64))))) v45 cs46 x35.2.2.2.2 F47, .bx b1 26 [vp0_0, vp0_1, vp0_2, .int .i64 p0_3, vp0_4], .sl 68 (.pair (.int .i64) (.pair (.int .i64) (.pair (.int .i64) (.int .i64)))) v32 x27, .bx b49 32 [v40, v43, v44, .int .i64 x35.2.2.2.1, v45], .sl 68 (.pair (.int .i64) (.pair (.int .i64) (.pair (.int .i64) (.int .i64)))) v63 x58] G := H324.pull 6
          obtain ⟨x320, hx321, h⟩ := bind_some h
          refine WL_call rfl rfl c19 (w_laws_markHouse w314 ([.bx b1 26 [vp0_0, vp0_1, vp0_2, .int .i64 p0_3, vp0_4], .sl 68 (.pair (.int .i64) (.pair (.int .i64) (.pair (.int .i64) (.int .i64)))) v32 x27, .bx b49 32 [v40, v43, v44, .int .i64 x35.2.2.2.1, v45], .sl 68 (.pair (.int .i64) (.pair (.int .i64) (.pair (.int .i64) (.int .i64)))) v63 x58] ++ G) v40 x35.1 cs41 F42 v43 x35.2.1 v44 x35.2.2.1 x35.2.2.2.1 v45 x35.2.2.2.2 cs46 F47 1 x320 hx321 H325.ctx) (by rfl) ?_
          rintro _ w326 ⟨cs328, F329, cs330, F331, rfl, H327⟩; refine ⟨_, rfl, ?_⟩
          have H332 : Holds (([] : List Res).flatMap Res.own) w w326 [dpR 84 (.pair (.leaf (.int .i64)) (.pair (.sl 103 (.leaf (.pair (.int .i64) (.int .i64)))) (.leaf (.int .i64)))) v40 cs328 x320.1 F329, .sl 3 (.int .i64) v43 x320.2.1, .sl 3 (.int .i64) v44 x320.2.2.1, dpR 50 (.pair (.leaf (.int .i64)) (.pair (.sl 63 (.leaf (.pair (.int .i64) (.int .i64)))) (.sl 3 (.leaf (.int .i64))))) v45 cs330 x320.2.2.2.1 F331, .bx b1 26 [vp0_0, vp0_1, vp0_2, .int .i64 p0_3, vp0_4], .sl 68 (.pair (.int .i64) (.pair (.int .i64) (.pair (.int .i64) (.int .i64)))) v32 x27, .bx b49 32 [v40, v43, v44, .int .i64 x35.2.2.2.1, v45], .sl 68 (.pair (.int .i64) (.pair (.int .i64) (.pair (.int .i64) (.int .i64)))) v63 x58] G := H325.calledN (Rs := [_, _, _, _]) H327
          refine XL_q rfl (qt_assign rfl) rfl rfl ?_
          refine WL_nil_seq ?_
          refine WP_seq ?_
          refine WP_seq ?_
          refine WP_still ?_
          refine XL_q rfl (qt_move rfl) rfl rfl ?_
          refine XL_q rfl (qt_lss rfl rfl) rfl rfl ?_
          refine XL_q rfl (qt_move rfl) rfl rfl ?_
          obtain ⟨b333, hg334, h⟩ := bind_some h
          refine XL_join 5 42 (.bool b333) ?_ (fun md hmd hk => ?_)
          rotate_left
          · obtain ⟨K, rfl⟩ := Md.quiet_of hmd
            rcases btf (decide (x320.2.2.2.2 < 0)) with hc335 | hc335
            · skip
              refine XL_skip (w_skip rfl hc335) rfl rfl ?_
              refine XL_skip (w_skip rfl hc335) rfl rfl ?_
              refine XL_skip (w_skip rfl hc335) rfl rfl ?_
              refine XL_skip (w_skip rfl hc335) rfl rfl ?_
              refine XL_q rfl (qt_pickT rfl hc335 rfl) rfl rfl ?_
              exact hk _ (Cov.same (vb (if_t hc335 hg334)) (Cov.fresh rfl (Cov.fresh rfl (Cov.fresh rfl (Cov.fresh rfl (Cov.refl))))))
            · skip
              have hg334 := if_f hc335 hg334
              refine XL_q (w_take rfl hc335) (qt_move rfl) rfl rfl ?_
              refine XL_q (w_take rfl hc335) (qt_move rfl) rfl rfl ?_
              obtain ⟨x336, hx337, hg334⟩ := bind_some hg334
              refine QL_call (w_take rfl hc335) rfl c18 (fun w' hb => (w_laws_eqHouseDeedS w' ([.ro (.pair (.int .i64) (.pair (.slice (.pair (.int .i64) (.int .i64))) (.int .i64))) v40 x320.1, .sl 3 (.int .i64) v43 x320.2.1, .sl 3 (.int .i64) v44 x320.2.2.1, .ro (.pair (.int .i64) (.pair (.slice (.pair (.int .i64) (.int .i64))) (.slice (.int .i64)))) v45 x320.2.2.2.1, .bx b1 26 [vp0_0, vp0_1, vp0_2, .int .i64 p0_3, vp0_4], .sl 68 (.pair (.int .i64) (.pair (.int .i64) (.pair (.int .i64) (.int .i64)))) v32 x27, .bx b49 32 [v40, v43, v44, .int .i64 x35.2.2.2.1, v45], .sl 68 (.pair (.int .i64) (.pair (.int .i64) (.pair (.int .i64) (.int .i64)))) v63 x58] ++ G) v63 x58 (Has.c (Has.c (Has.c (Has.c (Has.c (Has.c (Has.c (Has.hd)))))))) v32 x27 (Has.c (Has.c (Has.c (Has.c (Has.c (Has.hd)))))) x336 hx337 ((H332.grow hb).viewG (Vw.dp (NsOk.self NsOk.nil) (Vw.c (Vw.c (Vw.dp (NsOk.self NsOk.nil) (Vw.c (Vw.c (Vw.c (Vw.c Vw.refl)))))))))).mono fun e w'' hK => ⟨hK.1, hK.2.bel⟩) (by rfl) ?_
              refine XL_q (w_take rfl hc335) (qt_not rfl) rfl rfl ?_
              refine XL_q rfl (qt_pickF rfl hc335 rfl) rfl rfl ?_
              exact hk _ (Cov.same (vb hg334) (Cov.fresh rfl (Cov.fresh rfl (Cov.fresh rfl (Cov.fresh rfl (Cov.refl))))))
          refine QL_nil fun a ha w338 hb339 => ?_
          have H340 : Holds (([] : List Res).flatMap Res.own) w w338 [dpR 84 (.pair (.leaf (.int .i64)) (.pair (.sl 103 (.leaf (.pair (.int .i64) (.int .i64)))) (.leaf (.int .i64)))) v40 cs328 x320.1 F329, .sl 3 (.int .i64) v43 x320.2.1, .sl 3 (.int .i64) v44 x320.2.2.1, dpR 50 (.pair (.leaf (.int .i64)) (.pair (.sl 63 (.leaf (.pair (.int .i64) (.int .i64)))) (.sl 3 (.leaf (.int .i64))))) v45 cs330 x320.2.2.2.1 F331, .bx b1 26 [vp0_0, vp0_1, vp0_2, .int .i64 p0_3, vp0_4], .sl 68 (.pair (.int .i64) (.pair (.int .i64) (.pair (.int .i64) (.int .i64)))) v32 x27, .bx b49 32 [v40, v43, v44, .int .i64 x35.2.2.2.1, v45], .sl 68 (.pair (.int .i64) (.pair (.int .i64) (.pair (.int .i64) (.int .i64)))) v63 x58] G := H332.grow hb339
          refine nrm_seq (WP.app ?_ ha)
          refine WP_cond rfl (fun hc341 => ?_) (fun hc341 => ?_)
          · have h := if_t hc341 h
            refine WP_seq ?_
            refine WP_region ?_
            refine XL_q rfl (qt_assign rfl) rfl rfl ?_
            refine WL_nil_seq ?_
            refine WP_ret fun a ha => ?_
            obtain rfl := Option.some.inj h
            have H342 : Holds (([] : List Res).flatMap Res.own) w w338 [] G := ((((((((H340.cut 0).cut 0).cut 0).cut 0).cut 0).cut 0).cut 0).cut 0)
            exact ret_seq (ret1 rfl ha rfl ⟨rfl, H342⟩)
          · have h := if_f hc341 h
            refine WP_skip_seq ?_
            refine WP_seq ?_
            refine WP_region ?_
            refine XL_q rfl (qt_assign rfl) rfl rfl ?_
            refine WL_nil_seq ?_
            refine WP_seq ?_
            refine WP_region ?_
            refine XL_q rfl (qt_move rfl) rfl rfl ?_
            refine XL_q rfl (qt_move rfl) rfl rfl ?_
            have H345 : Holds (([] : List Res).flatMap Res.own) w w338 [.sl 68 (.pair (.int .i64) (.pair (.int .i64) (.pair (.int .i64) (.int .i64)))) v63 x58, dpR 84 (.pair (.leaf (.int .i64)) (.pair (.sl 103 (.leaf (.pair (.int .i64) (.int .i64)))) (.leaf (.int .i64)))) v40 cs328 x320.1 F329, .sl 3 (.int .i64) v43 x320.2.1, .sl 3 (.int .i64) v44 x320.2.2.1, dpR 50 (.pair (.leaf (.int .i64)) (.pair (.sl 63 (.leaf (.pair (.int .i64) (.int .i64)))) (.sl 3 (.leaf (.int .i64))))) v45 cs330 x320.2.2.2.1 F331, .bx b1 26 [vp0_0, vp0_1, vp0_2, .int .i64 p0_3, vp0_4], .sl 68 (.pair (.int .i64) (.pair (.int .i64) (.pair (.int .i64) (.int .i64)))) v32 x27, .bx b49 32 [v40, v43, v44, .int .i64 x35.2.2.2.1, v45]] G := H340.pull 7
            obtain ⟨x343, hx344, h⟩ := bind_some h
            have V346 : Ctx w338 ([.sl 68 (.pair (.int .i64) (.pair (.int .i64) (.pair (.int .i64) (.int .i64)))) v63 x58, .ro (.pair (.int .i64) (.pair (.slice (.pair (.int .i64) (.int .i64))) (.int .i64))) v40 x320.1, .sl 3 (.int .i64) v43 x320.2.1, .sl 3 (.int .i64) v44 x320.2.2.1, .ro (.pair (.int .i64) (.pair (.slice (.pair (.int .i64) (.int .i64))) (.slice (.int .i64)))) v45 x320.2.2.2.1, .bx b1 26 [vp0_0, vp0_1, vp0_2, .int .i64 p0_3, vp0_4], .sl 68 (.pair (.int .i64) (.pair (.int .i64) (.pair (.int .i64) (.int .i64)))) v32 x27, .bx b49 32 [v40, v43, v44, .int .i64 x35.2.2.2.1, v45]] ++ G) := H345.viewG (Vw.c (Vw.dp (NsOk.self NsOk.nil) (Vw.c (Vw.c (Vw.dp (NsOk.self NsOk.nil) (Vw.c (Vw.c (Vw.c Vw.refl))))))))
            refine WL_call rfl rfl c20 (w_laws_markHouseDeedS w338 ([.ro (.pair (.int .i64) (.pair (.slice (.pair (.int .i64) (.int .i64))) (.int .i64))) v40 x320.1, .sl 3 (.int .i64) v43 x320.2.1, .sl 3 (.int .i64) v44 x320.2.2.1, .ro (.pair (.int .i64) (.pair (.slice (.pair (.int .i64) (.int .i64))) (.slice (.int .i64)))) v45 x320.2.2.2.1, .bx b1 26 [vp0_0, vp0_1, vp0_2, .int .i64 p0_3, vp0_4], .sl 68 (.pair (.int .i64) (.pair (.int .i64) (.pair (.int .i64) (.int .i64)))) v32 x27, .bx b49 32 [v40, v43, v44, .int .i64 x35.2.2.2.1, v45]] ++ G) v63 x58 1 x343 hx344 V346) (by rfl) ?_
            rintro _ w347 ⟨rfl, H348⟩; refine ⟨_, rfl, ?_⟩
            have H349 : Holds (([] : List Res).flatMap Res.own) w w347 [.sl 68 (.pair (.int .i64) (.pair (.int .i64) (.pair (.int .i64) (.int .i64)))) v63 x343.1, dpR 84 (.pair (.leaf (.int .i64)) (.pair (.sl 103 (.leaf (.pair (.int .i64) (.int .i64)))) (.leaf (.int .i64)))) v40 cs328 x320.1 F329, .sl 3 (.int .i64) v43 x320.2.1, .sl 3 (.int .i64) v44 x320.2.2.1, dpR 50 (.pair (.leaf (.int .i64)) (.pair (.sl 63 (.leaf (.pair (.int .i64) (.int .i64)))) (.sl 3 (.leaf (.int .i64))))) v45 cs330 x320.2.2.2.1 F331, .bx b1 26 [vp0_0, vp0_1, vp0_2, .int .i64 p0_3, vp0_4], .sl 68 (.pair (.int .i64) (.pair (.int .i64) (.pair (.int .i64) (.int .i64)))) v32 x27, .bx b49 32 [v40, v43, v44, .int .i64 x35.2.2.2.1, v45]] G := H345.calledV (Rs := [_]) H348 (all_cons (Pure.sl rfl) all_nil)
            refine XL_q rfl (qt_assign rfl) rfl rfl ?_
            refine WL_nil_seq ?_
            refine WP_seq ?_
            refine WP_region ?_
            refine XL_q rfl (qt_assign rfl) rfl rfl ?_
            refine WL_nil_seq ?_
            refine WP_seq ?_
            refine WP_still ?_
            refine XL_q rfl (qt_move rfl) rfl rfl ?_
            refine XL_q rfl (qt_move rfl) rfl rfl ?_
            obtain ⟨x350, hx351, h⟩ := bind_some h
            refine QL_call rfl rfl c21 (fun w' hb => (w_laws_heldHouseDeedS w' ([.sl 68 (.pair (.int .i64) (.pair (.int .i64) (.pair (.int .i64) (.int .i64)))) v63 x343.1, .ro (.pair (.int .i64) (.pair (.slice (.pair (.int .i64) (.int .i64))) (.int .i64))) v40 x320.1, .sl 3 (.int .i64) v43 x320.2.1, .sl 3 (.int .i64) v44 x320.2.2.1, .ro (.pair (.int .i64) (.pair (.slice (.pair (.int .i64) (.int .i64))) (.slice (.int .i64)))) v45 x320.2.2.2.1, .bx b1 26 [vp0_0, vp0_1, vp0_2, .int .i64 p0_3, vp0_4], .sl 68 (.pair (.int .i64) (.pair (.int .i64) (.pair (.int .i64) (.int .i64)))) v32 x27, .bx b49 32 [v40, v43, v44, .int .i64 x35.2.2.2.1, v45]] ++ G) v63 x343.1 (Has.hd) 1 x350 hx351 ((H349.grow hb).viewG (Vw.c (Vw.dp (NsOk.self NsOk.nil) (Vw.c (Vw.c (Vw.dp (NsOk.self NsOk.nil) (Vw.c (Vw.c (Vw.c Vw.refl)))))))))).mono fun e w'' hK => ⟨hK.1, hK.2.bel⟩) (by rfl) ?_
            refine XL_q rfl (qt_assign rfl) rfl rfl ?_
            refine QL_nil fun a ha w352 hb353 => ?_
            have H354 : Holds (([] : List Res).flatMap Res.own) w w352 [.sl 68 (.pair (.int .i64) (.pair (.int .i64) (.pair (.int .i64) (.int .i64)))) v63 x343.1, dpR 84 (.pair (.leaf (.int .i64)) (.pair (.sl 103 (.leaf (.pair (.int .i64) (.int .i64)))) (.leaf (.int .i64)))) v40 cs328 x320.1 F329, .sl 3 (.int .i64) v43 x320.2.1, .sl 3 (.int .i64) v44 x320.2.2.1, dpR 50 (.pair (.leaf (.int .i64)) (.pair (.sl 63 (.leaf (.pair (.int .i64) (.int .i64)))) (.sl 3 (.leaf (.int .i64))))) v45 cs330 x320.2.2.2.1 F331, .bx b1 26 [vp0_0, vp0_1, vp0_2, .int .i64 p0_3, vp0_4], .sl 68 (.pair (.int .i64) (.pair (.int .i64) (.pair (.int .i64) (.int .i64)))) v32 x27, .bx b49 32 [v40, v43, v44, .int .i64 x35.2.2.2.1, v45]] G := H349.grow hb353
            refine nrm_seq (WP.app ?_ ha)
            refine WP_seq ?_
            refine WP_seq ?_
            refine WP_region ?_
            refine XL_q rfl (qt_move rfl) rfl rfl ?_
            refine XL_q rfl (qt_lss rfl rfl) rfl rfl ?_
            refine WL_nil_seq ?_
            refine WP_cond rfl (fun hc355 => ?_) (fun hc355 => ?_)
            · have h := if_t hc355 h
              refine WP_seq ?_
              refine WP_region ?_
              refine XL_q rfl (qt_assign rfl) rfl rfl ?_
              refine WL_nil_seq ?_
              refine WP_ret fun a ha => ?_
              obtain rfl := Option.some.inj h
              have H356 : Holds (([] : List Res).flatMap Res.own) w w352 [] G := ((((((((H354.cut 0).cut 0).cut 0).cut 0).cut 0).cut 0).cut 0).cut 0)
              exact ret_seq (ret1 rfl ha rfl ⟨rfl, H356⟩)
            · have h := if_f hc355 h
              refine WP_skip_seq ?_
              refine WP_seq ?_
              refine WP_seq ?_
              refine WP_region ?_
              refine XL_q rfl (qt_move rfl) rfl rfl ?_
              refine XL_q rfl (qt_move rfl) rfl rfl ?_
              refine XL_q rfl (qt_neq rfl rfl) rfl rfl ?_
              refine WL_nil_seq ?_
              refine WP_cond rfl (fun hc357 => ?_) (fun hc357 => ?_)
              · have h := if_t hc357 h
                refine WP_seq ?_
                refine WP_region ?_
                refine XL_q rfl (qt_assign rfl) rfl rfl ?_
                refine WL_nil_seq ?_
                refine WP_ret fun a ha => ?_
                obtain rfl := Option.some.inj h
                have H358 : Holds (([] : List Res).flatMap Res.own) w w352 [] G := ((((((((H354.cut 0).cut 0).cut 0).cut 0).cut 0).cut 0).cut 0).cut 0)
                exact ret_seq (ret1 rfl ha rfl ⟨rfl, H358⟩)
              · have h := if_f hc357 h
                refine WP_skip_seq ?_
                refine WP_seq ?_
                refine WP_region ?_
                have hB359 : Bx w352 b1 26 [vp0_0, vp0_1, vp0_2, .int .i64 p0_3, vp0_4] := Holds.bx (H354.pull 5)
                refine XL_load_bxA (cs := [vp0_0, vp0_1, vp0_2, .int .i64 p0_3, vp0_4]) us26 uo26 il26 hB359 rfl rfl rfl ?_
                change XL _ _ _ _ _ ((54, .agg #[vp0_0, vp0_1, vp0_2, .int .i64 p0_3, vp0_4]) :: _) _
                obtain ⟨x360, hx361, h⟩ := bind_some h
                have V362 : Ctx w352 ([.sl 68 (.pair (.int .i64) (.pair (.int .i64) (.pair (.int .i64) (.int .i64)))) v63 x343.1, .ro (.pair (.int .i64) (.pair (.slice (.pair (.int .i64) (.int .i64))) (.int .i64))) v40 x320.1, .sl 3 (.int .i64) v43 x320.2.1, .sl 3 (.int .i64) v44 x320.2.2.1, .ro (.pair (.int .i64) (.pair (.slice (.pair (.int .i64) (.int .i64))) (.slice (.int .i64)))) v45 x320.2.2.2.1, .bx b1 26 [vp0_0, vp0_1, vp0_2, .int .i64 p0_3, vp0_4], .sl 68 (.pair (.int .i64) (.pair (.int .i64) (.pair (.int .i64) (.int .i64)))) v32 x27, .bx b49 32 [v40, v43, v44, .int .i64 x35.2.2.2.1, v45]] ++ G) := H354.viewG (Vw.c (Vw.dp (NsOk.self NsOk.nil) (Vw.c (Vw.c (Vw.dp (NsOk.self NsOk.nil) (Vw.c (Vw.c (Vw.c Vw.refl))))))))
                refine WL_call rfl rfl c9 (w_laws_toHouse w352 ([.sl 68 (.pair (.int .i64) (.pair (.int .i64) (.pair (.int .i64) (.int .i64)))) v63 x343.1, .ro (.pair (.int .i64) (.pair (.slice (.pair (.int .i64) (.int .i64))) (.int .i64))) v40 x320.1, .sl 3 (.int .i64) v43 x320.2.1, .sl 3 (.int .i64) v44 x320.2.2.1, .ro (.pair (.int .i64) (.pair (.slice (.pair (.int .i64) (.int .i64))) (.slice (.int .i64)))) v45 x320.2.2.2.1, .bx b1 26 [vp0_0, vp0_1, vp0_2, .int .i64 p0_3, vp0_4], .sl 68 (.pair (.int .i64) (.pair (.int .i64) (.pair (.int .i64) (.int .i64)))) v32 x27, .bx b49 32 [v40, v43, v44, .int .i64 x35.2.2.2.1, v45]] ++ G) vp0_0 p0_0 (hp0_0.c.c.c.c.c.c.c.c) vp0_1 p0_1 (hp0_1.c.c.c.c.c.c.c.c) vp0_2 p0_2 (hp0_2.c.c.c.c.c.c.c.c) p0_3 vp0_4 p0_4 (hp0_4.c.c.c.c.c.c.c.c) x360 hx361 V362) (by rfl) ?_
                rintro _ w363 ⟨v365, cs366, F367, v368, v369, v370, cs371, F372, rfl, H364⟩; refine ⟨_, rfl, ?_⟩
                have H373 : Holds (([] : List Res).flatMap Res.own) w w363 [dpR 84 (.pair (.leaf (.int .i64)) (.pair (.sl 103 (.leaf (.pair (.int .i64) (.int .i64)))) (.leaf (.int .i64)))) v365 cs366 x360.1 F367, .sl 3 (.int .i64) v368 x360.2.1, .sl 3 (.int .i64) v369 x360.2.2.1, dpR 50 (.pair (.leaf (.int .i64)) (.pair (.sl 63 (.leaf (.pair (.int .i64) (.int .i64)))) (.sl 3 (.leaf (.int .i64))))) v370 cs371 x360.2.2.2.2 F372, .sl 68 (.pair (.int .i64) (.pair (.int .i64) (.pair (.int .i64) (.int .i64)))) v63 x343.1, dpR 84 (.pair (.leaf (.int .i64)) (.pair (.sl 103 (.leaf (.pair (.int .i64) (.int .i64)))) (.leaf (.int .i64)))) v40 cs328 x320.1 F329, .sl 3 (.int .i64) v43 x320.2.1, .sl 3 (.int .i64) v44 x320.2.2.1, dpR 50 (.pair (.leaf (.int .i64)) (.pair (.sl 63 (.leaf (.pair (.int .i64) (.int .i64)))) (.sl 3 (.leaf (.int .i64))))) v45 cs330 x320.2.2.2.1 F331, .bx b1 26 [vp0_0, vp0_1, vp0_2, .int .i64 p0_3, vp0_4], .sl 68 (.pair (.int .i64) (.pair (.int .i64) (.pair (.int .i64) (.int .i64)))) v32 x27, .bx b49 32 [v40, v43, v44, .int .i64 x35.2.2.2.1, v45]] G := H354.calledV (Rs := []) H364 (all_cons Pure.dp (all_cons (Pure.sl rfl) (all_cons (Pure.sl rfl) (all_cons Pure.dp all_nil))))
                obtain ⟨x374, hx375, h⟩ := bind_some h
                have V376 : Ctx w363 ([.ro (.pair (.int .i64) (.pair (.slice (.pair (.int .i64) (.int .i64))) (.int .i64))) v365 x360.1, .sl 3 (.int .i64) v368 x360.2.1, .sl 3 (.int .i64) v369 x360.2.2.1, .ro (.pair (.int .i64) (.pair (.slice (.pair (.int .i64) (.int .i64))) (.slice (.int .i64)))) v370 x360.2.2.2.2, .sl 68 (.pair (.int .i64) (.pair (.int .i64) (.pair (.int .i64) (.int .i64)))) v63 x343.1, .ro (.pair (.int .i64) (.pair (.slice (.pair (.int .i64) (.int .i64))) (.int .i64))) v40 x320.1, .sl 3 (.int .i64) v43 x320.2.1, .sl 3 (.int .i64) v44 x320.2.2.1, .ro (.pair (.int .i64) (.pair (.slice (.pair (.int .i64) (.int .i64))) (.slice (.int .i64)))) v45 x320.2.2.2.1, .bx b1 26 [vp0_0, vp0_1, vp0_2, .int .i64 p0_3, vp0_4], .sl 68 (.pair (.int .i64) (.pair (.int .i64) (.pair (.int .i64) (.int .i64)))) v32 x27, .bx b49 32 [v40, v43, v44, .int .i64 x35.2.2.2.1, v45]] ++ G) := H373.viewG (Vw.dp (NsOk.self NsOk.nil) (Vw.c (Vw.c (Vw.dp (NsOk.self NsOk.nil) (Vw.c (Vw.dp (NsOk.self NsOk.nil) (Vw.c (Vw.c (Vw.dp (NsOk.self NsOk.nil) (Vw.c (Vw.c (Vw.c Vw.refl))))))))))))
                refine WL_call rfl rfl c17 (w_impl_EndDeeds w363 ([.ro (.pair (.int .i64) (.pair (.slice (.pair (.int .i64) (.int .i64))) (.int .i64))) v365 x360.1, .sl 3 (.int .i64) v368 x360.2.1, .sl 3 (.int .i64) v369 x360.2.2.1, .ro (.pair (.int .i64) (.pair (.slice (.pair (.int .i64) (.int .i64))) (.slice (.int .i64)))) v370 x360.2.2.2.2, .sl 68 (.pair (.int .i64) (.pair (.int .i64) (.pair (.int .i64) (.int .i64)))) v63 x343.1, .ro (.pair (.int .i64) (.pair (.slice (.pair (.int .i64) (.int .i64))) (.int .i64))) v40 x320.1, .sl 3 (.int .i64) v43 x320.2.1, .sl 3 (.int .i64) v44 x320.2.2.1, .ro (.pair (.int .i64) (.pair (.slice (.pair (.int .i64) (.int .i64))) (.slice (.int .i64)))) v45 x320.2.2.2.1, .bx b1 26 [vp0_0, vp0_1, vp0_2, .int .i64 p0_3, vp0_4], .sl 68 (.pair (.int .i64) (.pair (.int .i64) (.pair (.int .i64) (.int .i64)))) v32 x27, .bx b49 32 [v40, v43, v44, .int .i64 x35.2.2.2.1, v45]] ++ G) v365 x360.1 (HasRo.has (HasRo.hd)) v368 x360.2.1 (Has.c (Has.hd)) v369 x360.2.2.1 (Has.c (Has.c (Has.hd))) x360.2.2.2.1 v370 x360.2.2.2.2 (HasRo.has (HasRo.c (HasRo.c (HasRo.c (HasRo.hd))))) x374 hx375 V376) (by rfl) ?_
                rintro _ w377 ⟨v379, rfl, H378⟩; refine ⟨_, rfl, ?_⟩
                have H380 : Holds (([] : List Res).flatMap Res.own) w w377 [.sl 68 (.pair (.int .i64) (.pair (.int .i64) (.pair (.int .i64) (.int .i64)))) v379 x374, dpR 84 (.pair (.leaf (.int .i64)) (.pair (.sl 103 (.leaf (.pair (.int .i64) (.int .i64)))) (.leaf (.int .i64)))) v365 cs366 x360.1 F367, .sl 3 (.int .i64) v368 x360.2.1, .sl 3 (.int .i64) v369 x360.2.2.1, dpR 50 (.pair (.leaf (.int .i64)) (.pair (.sl 63 (.leaf (.pair (.int .i64) (.int .i64)))) (.sl 3 (.leaf (.int .i64))))) v370 cs371 x360.2.2.2.2 F372, .sl 68 (.pair (.int .i64) (.pair (.int .i64) (.pair (.int .i64) (.int .i64)))) v63 x343.1, dpR 84 (.pair (.leaf (.int .i64)) (.pair (.sl 103 (.leaf (.pair (.int .i64) (.int .i64)))) (.leaf (.int .i64)))) v40 cs328 x320.1 F329, .sl 3 (.int .i64) v43 x320.2.1, .sl 3 (.int .i64) v44 x320.2.2.1, dpR 50 (.pair (.leaf (.int .i64)) (.pair (.sl 63 (.leaf (.pair (.int .i64) (.int .i64)))) (.sl 3 (.leaf (.int .i64))))) v45 cs330 x320.2.2.2.1 F331, .bx b1 26 [vp0_0, vp0_1, vp0_2, .int .i64 p0_3, vp0_4], .sl 68 (.pair (.int .i64) (.pair (.int .i64) (.pair (.int .i64) (.int .i64)))) v32 x27, .bx b49 32 [v40, v43, v44, .int .i64 x35.2.2.2.1, v45]] G := H373.calledV (Rs := []) H378 (all_cons (Pure.sl rfl) all_nil)
                refine XL_q rfl (qt_assign rfl) rfl rfl ?_
                refine WL_nil_seq ?_
                refine WP_seq ?_
                refine WP_seq ?_
                refine WP_still ?_
                refine XL_q rfl (qt_move rfl) rfl rfl ?_
                refine XL_q rfl (qt_move rfl) rfl rfl ?_
                obtain ⟨x381, hx382, h⟩ := bind_some h
                refine QL_call rfl rfl c18 (fun w' hb => (w_laws_eqHouseDeedS w' ([.sl 68 (.pair (.int .i64) (.pair (.int .i64) (.pair (.int .i64) (.int .i64)))) v379 x374, .ro (.pair (.int .i64) (.pair (.slice (.pair (.int .i64) (.int .i64))) (.int .i64))) v365 x360.1, .sl 3 (.int .i64) v368 x360.2.1, .sl 3 (.int .i64) v369 x360.2.2.1, .ro (.pair (.int .i64) (.pair (.slice (.pair (.int .i64) (.int .i64))) (.slice (.int .i64)))) v370 x360.2.2.2.2, .sl 68 (.pair (.int .i64) (.pair (.int .i64) (.pair (.int .i64) (.int .i64)))) v63 x343.1, .ro (.pair (.int .i64) (.pair (.slice (.pair (.int .i64) (.int .i64))) (.int .i64))) v40 x320.1, .sl 3 (.int .i64) v43 x320.2.1, .sl 3 (.int .i64) v44 x320.2.2.1, .ro (.pair (.int .i64) (.pair (.slice (.pair (.int .i64) (.int .i64))) (.slice (.int .i64)))) v45 x320.2.2.2.1, .bx b1 26 [vp0_0, vp0_1, vp0_2, .int .i64 p0_3, vp0_4], .sl 68 (.pair (.int .i64) (.pair (.int .i64) (.pair (.int .i64) (.int .i64)))) v32 x27, .bx b49 32 [v40, v43, v44, .int .i64 x35.2.2.2.1, v45]] ++ G) v379 x374 (Has.hd) v32 x27 (Has.c (Has.c (Has.c (Has.c (Has.c (Has.c (Has.c (Has.c (Has.c (Has.c (Has.c (Has.hd)))))))))))) x381 hx382 ((H380.grow hb).viewG (Vw.c (Vw.dp (NsOk.self NsOk.nil) (Vw.c (Vw.c (Vw.dp (NsOk.self NsOk.nil) (Vw.c (Vw.dp (NsOk.self NsOk.nil) (Vw.c (Vw.c (Vw.dp (NsOk.self NsOk.nil) (Vw.c (Vw.c (Vw.c Vw.refl))))))))))))))).mono fun e w'' hK => ⟨hK.1, hK.2.bel⟩) (by rfl) ?_
                refine XL_q rfl (qt_not rfl) rfl rfl ?_
                refine QL_nil fun a ha w383 hb384 => ?_
                have H385 : Holds (([] : List Res).flatMap Res.own) w w383 [.sl 68 (.pair (.int .i64) (.pair (.int .i64) (.pair (.int .i64) (.int .i64)))) v379 x374, dpR 84 (.pair (.leaf (.int .i64)) (.pair (.sl 103 (.leaf (.pair (.int .i64) (.int .i64)))) (.leaf (.int .i64)))) v365 cs366 x360.1 F367, .sl 3 (.int .i64) v368 x360.2.1, .sl 3 (.int .i64) v369 x360.2.2.1, dpR 50 (.pair (.leaf (.int .i64)) (.pair (.sl 63 (.leaf (.pair (.int .i64) (.int .i64)))) (.sl 3 (.leaf (.int .i64))))) v370 cs371 x360.2.2.2.2 F372, .sl 68 (.pair (.int .i64) (.pair (.int .i64) (.pair (.int .i64) (.int .i64)))) v63 x343.1, dpR 84 (.pair (.leaf (.int .i64)) (.pair (.sl 103 (.leaf (.pair (.int .i64) (.int .i64)))) (.leaf (.int .i64)))) v40 cs328 x320.1 F329, .sl 3 (.int .i64) v43 x320.2.1, .sl 3 (.int .i64) v44 x320.2.2.1, dpR 50 (.pair (.leaf (.int .i64)) (.pair (.sl 63 (.leaf (.pair (.int .i64) (.int .i64)))) (.sl 3 (.leaf (.int .i64))))) v45 cs330 x320.2.2.2.1 F331, .bx b1 26 [vp0_0, vp0_1, vp0_2, .int .i64 p0_3, vp0_4], .sl 68 (.pair (.int .i64) (.pair (.int .i64) (.pair (.int .i64) (.int .i64)))) v32 x27, .bx b49 32 [v40, v43, v44, .int .i64 x35.2.2.2.1, v45]] G := H380.grow hb384
                refine nrm_seq (WP.app ?_ ha)
                refine WP_cond rfl (fun hc386 => ?_) (fun hc386 => ?_)
                · have h := if_t hc386 h
                  refine WP_seq ?_
                  refine WP_region ?_
                  refine XL_q rfl (qt_assign rfl) rfl rfl ?_
                  refine WL_nil_seq ?_
                  refine WP_ret fun a ha => ?_
                  obtain rfl := Option.some.inj h
                  have H387 : Holds (([] : List Res).flatMap Res.own) w w383 [] G := (((((((((((((H385.cut 0).cut 0).cut 0).cut 0).cut 0).cut 0).cut 0).cut 0).cut 0).cut 0).cut 0).cut 0).cut 0)
                  exact ret_seq (ret1 rfl ha rfl ⟨rfl, H387⟩)
                · have h := if_f hc386 h
                  refine WP_skip_seq ?_
                  refine WP_seq ?_
                  refine WP_region ?_
                  refine XL_q rfl (qt_assign rfl) rfl rfl ?_
                  refine WL_nil_seq ?_
                  refine WP_seq ?_
                  refine WP_still ?_
                  refine XL_q rfl (qt_move rfl) rfl rfl ?_
                  refine XL_q rfl (qt_move rfl) rfl rfl ?_
                  obtain ⟨x388, hx389, h⟩ := bind_some h
                  refine QL_call rfl rfl c21 (fun w' hb => (w_laws_heldHouseDeedS w' ([.sl 68 (.pair (.int .i64) (.pair (.int .i64) (.pair (.int .i64) (.int .i64)))) v379 x374, .ro (.pair (.int .i64) (.pair (.slice (.pair (.int .i64) (.int .i64))) (.int .i64))) v365 x360.1, .sl 3 (.int .i64) v368 x360.2.1, .sl 3 (.int .i64) v369 x360.2.2.1, .ro (.pair (.int .i64) (.pair (.slice (.pair (.int .i64) (.int .i64))) (.slice (.int .i64)))) v370 x360.2.2.2.2, .sl 68 (.pair (.int .i64) (.pair (.int .i64) (.pair (.int .i64) (.int .i64)))) v63 x343.1, .ro (.pair (.int .i64) (.pair (.slice (.pair (.int .i64) (.int .i64))) (.int .i64))) v40 x320.1, .sl 3 (.int .i64) v43 x320.2.1, .sl 3 (.int .i64) v44 x320.2.2.1, .ro (.pair (.int .i64) (.pair (.slice (.pair (.int .i64) (.int .i64))) (.slice (.int .i64)))) v45 x320.2.2.2.1, .bx b1 26 [vp0_0, vp0_1, vp0_2, .int .i64 p0_3, vp0_4], .sl 68 (.pair (.int .i64) (.pair (.int .i64) (.pair (.int .i64) (.int .i64)))) v32 x27, .bx b49 32 [v40, v43, v44, .int .i64 x35.2.2.2.1, v45]] ++ G) v63 x343.1 (Has.c (Has.c (Has.c (Has.c (Has.c (Has.hd)))))) 1 x388 hx389 ((H385.grow hb).viewG (Vw.c (Vw.dp (NsOk.self NsOk.nil) (Vw.c (Vw.c (Vw.dp (NsOk.self NsOk.nil) (Vw.c (Vw.dp (NsOk.self NsOk.nil) (Vw.c (Vw.c (Vw.dp (NsOk.self NsOk.nil) (Vw.c (Vw.c (Vw.c Vw.refl))))))))))))))).mono fun e w'' hK => ⟨hK.1, hK.2.bel⟩) (by rfl) ?_
                  refine XL_q rfl (qt_assign rfl) rfl rfl ?_
                  refine QL_nil fun a ha w390 hb391 => ?_
                  have H392 : Holds (([] : List Res).flatMap Res.own) w w390 [.sl 68 (.pair (.int .i64) (.pair (.int .i64) (.pair (.int .i64) (.int .i64)))) v379 x374, dpR 84 (.pair (.leaf (.int .i64)) (.pair (.sl 103 (.leaf (.pair (.int .i64) (.int .i64)))) (.leaf (.int .i64)))) v365 cs366 x360.1 F367, .sl 3 (.int .i64) v368 x360.2.1, .sl 3 (.int .i64) v369 x360.2.2.1, dpR 50 (.pair (.leaf (.int .i64)) (.pair (.sl 63 (.leaf (.pair (.int .i64) (.int .i64)))) (.sl 3 (.leaf (.int .i64))))) v370 cs371 x360.2.2.2.2 F372, .sl 68 (.pair (.int .i64) (.pair (.int .i64) (.pair (.int .i64) (.int .i64)))) v63 x343.1, dpR 84 (.pair (.leaf (.int .i64)) (.pair (.sl 103 (.leaf (.pair (.int .i64) (.int .i64)))) (.leaf (.int .i64)))) v40 cs328 x320.1 F329, .sl 3 (.int .i64) v43 x320.2.1, .sl 3 (.int .i64) v44 x320.2.2.1, dpR 50 (.pair (.leaf (.int .i64)) (.pair (.sl 63 (.leaf (.pair (.int .i64) (.int .i64)))) (.sl 3 (.leaf (.int .i64))))) v45 cs330 x320.2.2.2.1 F331, .bx b1 26 [vp0_0, vp0_1, vp0_2, .int .i64 p0_3, vp0_4], .sl 68 (.pair (.int .i64) (.pair (.int .i64) (.pair (.int .i64) (.int .i64)))) v32 x27, .bx b49 32 [v40, v43, v44, .int .i64 x35.2.2.2.1, v45]] G := H385.grow hb391
                  refine nrm_seq (WP.app ?_ ha)
                  refine WP_seq ?_
                  refine WP_seq ?_
                  refine WP_region ?_
                  refine XL_q rfl (qt_move rfl) rfl rfl ?_
                  refine XL_q rfl (qt_lss rfl rfl) rfl rfl ?_
                  refine WL_nil_seq ?_
                  refine WP_cond rfl (fun hc393 => ?_) (fun hc393 => ?_)
                  · have h := if_t hc393 h
                    refine WP_seq ?_
                    refine WP_region ?_
                    refine XL_q rfl (qt_assign rfl) rfl rfl ?_
                    refine WL_nil_seq ?_
                    refine WP_ret fun a ha => ?_
                    obtain rfl := Option.some.inj h
                    have H394 : Holds (([] : List Res).flatMap Res.own) w w390 [] G := (((((((((((((H392.cut 0).cut 0).cut 0).cut 0).cut 0).cut 0).cut 0).cut 0).cut 0).cut 0).cut 0).cut 0).cut 0)
                    exact ret_seq (ret1 rfl ha rfl ⟨rfl, H394⟩)
                  · have h := if_f hc393 h
                    refine WP_skip_seq ?_
                    refine WP_seq ?_
                    refine WP_seq ?_
                    refine WP_region ?_
                    refine XL_q rfl (qt_move rfl) rfl rfl ?_
                    refine XL_q rfl (qt_move rfl) rfl rfl ?_
                    refine XL_q rfl (qt_neq rfl rfl) rfl rfl ?_
                    refine WL_nil_seq ?_
                    refine WP_cond rfl (fun hc395 => ?_) (fun hc395 => ?_)
                    · have h := if_t hc395 h
                      refine WP_seq ?_
                      refine WP_region ?_
                      refine XL_q rfl (qt_assign rfl) rfl rfl ?_
                      refine WL_nil_seq ?_
                      refine WP_ret fun a ha => ?_
                      obtain rfl := Option.some.inj h
                      have H396 : Holds (([] : List Res).flatMap Res.own) w w390 [] G := (((((((((((((H392.cut 0).cut 0).cut 0).cut 0).cut 0).cut 0).cut 0).cut 0).cut 0).cut 0).cut 0).cut 0).cut 0)
                      exact ret_seq (ret1 rfl ha rfl ⟨rfl, H396⟩)
                    · have h := if_f hc395 h
                      refine WP_skip_seq ?_
                      refine WP_seq ?_
                      refine WP_region ?_
                      refine XL_q rfl (qt_assign rfl) rfl rfl ?_
                      refine WL_nil_seq ?_
                      refine WP_ret fun a ha => ?_
                      obtain rfl := Option.some.inj h
                      have H397 : Holds (([] : List Res).flatMap Res.own) w w390 [] G := (((((((((((((H392.cut 0).cut 0).cut 0).cut 0).cut 0).cut 0).cut 0).cut 0).cut 0).cut 0).cut 0).cut 0).cut 0)
                      exact ret1 rfl ha rfl ⟨rfl, H397⟩
end Go.Proofs.Ytcjkbcdlpfgbgaa
