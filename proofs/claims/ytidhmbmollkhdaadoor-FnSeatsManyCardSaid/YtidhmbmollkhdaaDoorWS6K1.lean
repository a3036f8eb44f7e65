/- The walks that SeatsMany needs. Printed by a program. -/
import Derived.Test.YtidhmbmollkhdaaDoorChecked
import Derived.Test.YtidhmbmollkhdaaDoorShS6M
import Derived.Test.YtidhmbmollkhdaaDoorRany
set_option linter.unusedVariables false
set_option maxRecDepth 10000
namespace Go.Proofs.YtidhmbmollkhdaaDoor
open Go Go.RowKit
theorem i3 : (Tryd.prog.info? 3).map (·.size) = some (Ty.size (.int .i64)) := by kernel_rfl
theorem j3 : (Tryd.prog.info? 3).map (fun i => (i.zero, i.size, i.bytes)) = some (some (.int .i64 0), Ty.size (.int .i64), 8) := by kernel_rfl
theorem u27 : Tryd.prog.underlying 27 = some (.slice 3) := by kernel_rfl
theorem w_impl_copyInts (w : World) (G : List Res) (vp0 : Value) (p0 : List Int) (hp0 : Has G (.int .i64) vp0 p0) (r : (List Int)) (h : impl_copyIntsS p0 = some r) (H : Ctx w G) : Calls Tryd.prog 81 #[vp0] w fun e w' => ∃ (v1 : Value), e = .returned (v1) ∧ Holds (([] : List Res).flatMap Res.own) w w' [.sl 3 (.int .i64) v1 r] G := by
  have H : Holds (([] : List Res).flatMap Res.own) w w [] G := Holds.startN H
  refine calls_enter (args := [vp0]) (n := 14) Tryd.func81 rfl rfl rfl ?_
  unfold impl_copyIntsS at h
  refine WP_seq ?_
  refine WP_region ?_
  refine XL_q rfl (qt_assign rfl) rfl rfl ?_
  refine WL_nil_seq ?_
  refine WP_seq ?_
  refine WP_seq ?_
  refine WP_region ?_
  refine XL_q rfl (qt_move rfl) rfl rfl ?_
  refine XL_lenH H.ctx (t := (.int .i64)) (hp0) u27 rfl rfl rfl ?_
  refine XL_q rfl (qt_eql rfl rfl) rfl rfl ?_
  refine WL_nil_seq ?_
  refine WP_cond rfl (fun hc1 => ?_) (fun hc1 => ?_)
  · have h := if_t hc1 h
    refine WP_seq ?_
    refine WP_region ?_
    refine XL_q rfl (qt_assign rfl) rfl rfl ?_
    refine WL_nil_seq ?_
    refine WP_ret fun a ha => ?_
    obtain rfl := Option.some.inj h
    have H2 : Holds (([] : List Res).flatMap Res.own) w w [.sl 3 (.int .i64) (.slice none 0 0) ([])] G := H.nilSl
    exact ret_seq (ret1 rfl ha rfl ⟨(.slice none 0 0), rfl, H2⟩)
  · have h := if_f hc1 h
    refine WP_skip_seq ?_
    refine WP_seq ?_
    refine WP_region ?_
    refine XL_q rfl (qt_move rfl) rfl rfl ?_
    refine XL_lenH H.ctx (t := (.int .i64)) (hp0) u27 rfl rfl rfl ?_
    obtain ⟨x3, hx4, h⟩ := bind_some h
    refine WL_makeH H hx4 u27 j3 rfl (fun _ => ⟨rfl, rfl⟩) rfl rfl rfl rfl rfl (fun v5 w6 H7 => ?_)
    have H8 : Holds (([] : List Res).flatMap Res.own) w w6 [.sl 3 (.int .i64) v5 x3] G := H7
    refine XL_q rfl (qt_assign rfl) rfl rfl ?_
    refine WL_nil_seq ?_
    refine WP_seq ?_
    refine WP_region ?_
    refine XL_q rfl (qt_move rfl) rfl rfl ?_
    refine XL_q rfl (qt_move rfl) rfl rfl ?_
    refine WL_copyH rfl H8 (hp0.c) rfl u27 i3 rfl rfl rfl rfl (fun w9 H10 => ?_)
    have H11 : Holds (([] : List Res).flatMap Res.own) w w9 [.sl 3 (.int .i64) v5 (List.take (List.length x3) p0 ++ List.drop (List.length p0) x3)] G := H10
    refine WL_nil_seq ?_
    refine WP_seq ?_
    refine WP_region ?_
    refine XL_q rfl (qt_move rfl) rfl rfl ?_
    refine XL_q rfl (qt_assign rfl) rfl rfl ?_
    refine WL_nil_seq ?_
    refine WP_ret fun a ha => ?_
    obtain rfl := Option.some.inj h
    exact ret1 rfl ha rfl ⟨v5, rfl, H11⟩
end Go.Proofs.YtidhmbmollkhdaaDoor
