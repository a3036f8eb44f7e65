/- The walk of laws.FnSeatsMany. Printed by a program. -/
import Derived.Test.YtidhmbmollkhdaaDoorWS6M1
set_option linter.unusedVariables false
set_option maxRecDepth 10000
namespace Go.Proofs.YtidhmbmollkhdaaDoor
open Go Go.RowKit
theorem w_laws_FnSeatsMany (w : World) (G : List Res) (vp0 : Value) (p0 : List Int) (hp0 : HasRo G (.int .u8) vp0 p0) (r : Bool) (h : laws_FnSeatsManyS p0 = some r) (H : Ctx w G) : Calls Tryd.prog 14 #[vp0] w fun e w' => e = .returned (.bool r) ∧ Holds (([] : List Res).flatMap Res.own) w w' [] G := by
  have H : Holds (([] : List Res).flatMap Res.own) w w [] G := Holds.startN H
  refine calls_enter (args := [vp0]) (n := 50) Tryd.func14 rfl rfl rfl ?_
  unfold laws_FnSeatsManyS at h
  refine WP_seq ?_
  refine WP_region ?_
  refine XL_q rfl (qt_assign rfl) rfl rfl ?_
  refine WL_nil_seq ?_
  refine WP_seq ?_
  refine WP_seq ?_
  refine WP_region ?_
  refine XL_q rfl (qt_move rfl) rfl rfl ?_
  refine XL_lenH H.ctx (t := (.int .u8)) (hp0.has) u22 rfl rfl rfl ?_
  refine XL_q rfl (qt_gtr rfl rfl) rfl rfl ?_
  refine WL_nil_seq ?_
  refine WP_cond rfl (fun hc1 => ?_) (fun hc1 => ?_)
  · have h := if_t hc1 h
    refine WP_seq ?_
    refine WP_region ?_
    refine XL_q rfl (qt_assign rfl) rfl rfl ?_
    refine WL_nil_seq ?_
    refine WP_ret fun a ha => ?_
    obtain rfl := Option.some.inj h
    exact ret_seq (ret1 rfl ha rfl ⟨rfl, H⟩)
  · have h := if_f hc1 h
    refine WP_skip_seq ?_
    refine WP_seq ?_
    refine WP_region ?_
    refine XL_q rfl (qt_move rfl) rfl rfl ?_
    obtain ⟨x2, hx3, h⟩ := bind_some h
    refine WL_call rfl rfl c53 (w_spec_DrawSeatsMany w G vp0 p0 (hp0) x2 hx3 H.ctx) (by rfl) ?_
    rintro _ w4 ⟨v6, rfl, H5⟩; refine ⟨_, rfl, ?_⟩
    have H7 : Holds (([] : List Res).flatMap Res.own) w w4 [.sl 3 (.int .i64) v6 x2] G := H.calledN (Rs := []) H5
    refine XL_q rfl (qt_assign rfl) rfl rfl ?_
    refine WL_nil_seq ?_
    refine WP_seq ?_
    refine WP_still ?_
    refine XL_q rfl (qt_move rfl) rfl rfl ?_
    obtain ⟨x8, hx9, h⟩ := bind_some h
    refine QL_call rfl rfl c54 (fun w' hb => (w_impl_SeatsMany w' ([.sl 3 (.int .i64) v6 x2] ++ G) v6 x2 (Has.hd) x8 hx9 (H7.grow hb).ctx).mono fun e w'' hK => ⟨hK.1, hK.2.bel⟩) (by rfl) ?_
    refine XL_q rfl (qt_assign rfl) rfl rfl ?_
    refine QL_nil fun a ha w10 hb11 => ?_
    have H12 : Holds (([] : List Res).flatMap Res.own) w w10 [.sl 3 (.int .i64) v6 x2] G := H7.grow hb11
    refine nrm_seq (WP.app ?_ ha)
    refine WP_seq ?_
    refine WP_seq ?_
    refine WP_still ?_
    refine XL_q rfl (qt_move rfl) rfl rfl ?_
    refine XL_q rfl (qt_move rfl) rfl rfl ?_
    obtain ⟨x13, hx14, h⟩ := bind_some h
    refine QL_call rfl rfl c55 (fun w' hb => (w_spec_SeatsMany w' ([.sl 3 (.int .i64) v6 x2] ++ G) v6 x2 (Has.hd) x13 hx14 (H12.grow hb).ctx).mono fun e w'' hK => ⟨hK.1, hK.2.bel⟩) (by rfl) ?_
    refine XL_q rfl (qt_neq rfl rfl) rfl rfl ?_
    refine QL_nil fun a ha w15 hb16 => ?_
    have H17 : Holds (([] : List Res).flatMap Res.own) w w15 [.sl 3 (.int .i64) v6 x2] G := H12.grow hb16
    refine nrm_seq (WP.app ?_ ha)
    refine WP_cond rfl (fun hc18 => ?_) (fun hc18 => ?_)
    · have h := if_t hc18 h
      refine WP_seq ?_
      refine WP_region ?_
      refine XL_q rfl (qt_assign rfl) rfl rfl ?_
      refine WL_nil_seq ?_
      refine WP_ret fun a ha => ?_
      obtain rfl := Option.some.inj h
      have H19 : Holds (([] : List Res).flatMap Res.own) w w15 [] G := (H17.cut 0)
      exact ret_seq (ret1 rfl ha rfl ⟨rfl, H19⟩)
    · have h := if_f hc18 h
      refine WP_skip_seq ?_
      refine WP_seq ?_
      obtain ⟨b20, hob20, h⟩ := bind_some h
      obtain ⟨b57, hob57, h⟩ := bind_some h
      obtain ⟨b58, hob58, h⟩ := bind_some h
      obtain ⟨b64, hob64, h⟩ := bind_some h
      refine WP_join (M := fun a w2 => (Fr a 50 [(2, .bool b64)] ∧ Holds (([] : List Res).flatMap Res.own) w w2 [] G)) ?_ ?_
      · refine WP_orders (by kernel_rfl) (fun w220 hb221 => ?_)
        have H222 : Holds (([] : List Res).flatMap Res.own) w w220 [.sl 3 (.int .i64) v6 x2] G := H17.grow hb221
        rcases btf ((List.length x2 : Int) == 0) with hc223 | hc223
        · skip
          have ho224 := if_t hc223 hob20
          obtain rfl := Option.some.inj ho224
          rcases btf (x8 == 0) with hc225 | hc225
          · skip
            have ho226 := if_t hc225 hob57
            obtain rfl := Option.some.inj ho226
            have hc227 : true = true := rfl
            have ho228 := if_t hc227 hob58
            obtain rfl := Option.some.inj ho228
            rcases btf (decide (x8 ≤ (List.length x2 : Int))) with hc229 | hc229
            · skip
              have ho230 := if_t hc229 hob64
              obtain ⟨x231, hx232, ho230⟩ := bind_some ho230
              obtain rfl := Option.some.inj ho230
              refine XB_take (i := 0) rfl (by kernel_rfl) (by kernel_rfl) (by kernel_rfl) rfl (fun _ => qt_move rfl) rfl rfl ?_
              refine XB_lenH (i := 1) rfl (by kernel_rfl) (by kernel_rfl) (by kernel_rfl) H222.ctx (t := (.int .i64)) (Has.hd) u27 rfl rfl rfl ?_
              refine XB_take (i := 2) rfl (by kernel_rfl) (by kernel_rfl) (by kernel_rfl) rfl (fun _ => qt_eql rfl rfl) rfl rfl ?_
              refine XB_take (i := 3) rfl (by kernel_rfl) (by kernel_rfl) (by kernel_rfl) rfl (fun _ => qt_move rfl) rfl rfl ?_
              refine XB_take (i := 4) rfl (by kernel_rfl) (by kernel_rfl) (by kernel_rfl) (w_take rfl hc223) (fun _ => qt_move rfl) rfl rfl ?_
              refine XB_take (i := 5) rfl (by kernel_rfl) (by kernel_rfl) (by kernel_rfl) (w_take rfl hc223) (fun _ => qt_eql rfl rfl) rfl rfl ?_
              refine XB_take (i := 6) rfl (by kernel_rfl) (by kernel_rfl) (by kernel_rfl) rfl (fun _ => qt_pickT rfl hc223 rfl) rfl rfl ?_
              refine XB_take (i := 7) rfl (by kernel_rfl) (by kernel_rfl) (by kernel_rfl) rfl (fun _ => qt_move rfl) rfl rfl ?_
              refine XB_skip (i := 8) rfl (by kernel_rfl) (by kernel_rfl) (by kernel_rfl) (w_skip rfl hc225) rfl rfl ?_
              refine XB_skip (i := 9) rfl (by kernel_rfl) (by kernel_rfl) (by kernel_rfl) (w_skip rfl hc225) rfl rfl ?_
              refine XB_skip (i := 10) rfl (by kernel_rfl) (by kernel_rfl) (by kernel_rfl) (w_skip rfl hc225) rfl rfl ?_
              refine XB_skip (i := 11) rfl (by kernel_rfl) (by kernel_rfl) (by kernel_rfl) (w_skip rfl hc225) rfl rfl ?_
              refine XB_skip (i := 12) rfl (by kernel_rfl) (by kernel_rfl) (by kernel_rfl) rfl rfl rfl ?_
              refine XB_skip (i := 13) rfl (by kernel_rfl) (by kernel_rfl) (by kernel_rfl) rfl rfl rfl ?_
              refine XB_skip (i := 14) rfl (by kernel_rfl) (by kernel_rfl) (by kernel_rfl) rfl rfl rfl ?_
              refine XB_skip (i := 15) rfl (by kernel_rfl) (by kernel_rfl) (by kernel_rfl) rfl rfl rfl ?_
              refine XB_skip (i := 16) rfl (by kernel_rfl) (by kernel_rfl) (by kernel_rfl) rfl rfl rfl ?_
              refine XB_skip (i := 17) rfl (by kernel_rfl) (by kernel_rfl) (by kernel_rfl) rfl rfl rfl ?_
              refine XB_skip (i := 18) rfl (by kernel_rfl) (by kernel_rfl) (by kernel_rfl) rfl rfl rfl ?_
              refine XB_skip (i := 19) rfl (by kernel_rfl) (by kernel_rfl) (by kernel_rfl) rfl rfl rfl ?_
              refine XB_skip (i := 20) rfl (by kernel_rfl) (by kernel_rfl) (by kernel_rfl) rfl rfl rfl ?_
              refine XB_skip (i := 21) rfl (by kernel_rfl) (by kernel_rfl) (by kernel_rfl) rfl rfl rfl ?_
              refine XB_skip (i := 22) rfl (by kernel_rfl) (by kernel_rfl) (by kernel_rfl) rfl rfl rfl ?_
              refine XB_skip (i := 23) rfl (by kernel_rfl) (by kernel_rfl) (by kernel_rfl) (w_skip rfl hc225) rfl rfl ?_
              refine XB_take (i := 24) rfl (by kernel_rfl) (by kernel_rfl) (by kernel_rfl) rfl (fun _ => qt_pickT rfl hc225 rfl) rfl rfl ?_
              refine XB_take (i := 25) rfl (by kernel_rfl) (by kernel_rfl) (by kernel_rfl) rfl (fun _ => qt_move rfl) rfl rfl ?_
              refine XB_take (i := 26) rfl (by kernel_rfl) (by kernel_rfl) (by kernel_rfl) (w_take rfl hc227) (fun _ => qt_move rfl) rfl rfl ?_
              refine XB_take (i := 27) rfl (by kernel_rfl) (by kernel_rfl) (by kernel_rfl) (w_take rfl hc227) (fun _ => qt_move rfl) rfl rfl ?_
              refine XB_lenH (i := 28) rfl (by kernel_rfl) (by kernel_rfl) (by kernel_rfl) H222.ctx (t := (.int .i64)) (Has.hd) u27 (w_take rfl hc227) rfl rfl ?_
              refine XB_take (i := 29) rfl (by kernel_rfl) (by kernel_rfl) (by kernel_rfl) (w_take rfl hc227) (fun _ => qt_leq rfl rfl) rfl rfl ?_
              refine XB_take (i := 30) rfl (by kernel_rfl) (by kernel_rfl) (by kernel_rfl) rfl (fun _ => qt_pickT rfl hc227 rfl) rfl rfl ?_
              refine XB_take (i := 31) rfl (by kernel_rfl) (by kernel_rfl) (by kernel_rfl) rfl (fun _ => qt_move rfl) rfl rfl ?_
              refine XB_all [32] (by kernel_rfl) (by simp) (allc ?_ alln)
              · refine XB_do rfl ?_
                refine WL_call (w_take rfl hc229) rfl c20 (w_laws_alive w220 ([.sl 3 (.int .i64) v6 x2] ++ G)  x231 hx232 H222.ctx) (by rfl) ?_
                rintro _ w236 ⟨rfl, H237⟩; refine ⟨_, rfl, ?_⟩
                have H238 : Holds (([] : List Res).flatMap Res.own) w w236 [.sl 3 (.int .i64) v6 x2] G := H222.calledN (Rs := []) H237
                refine WL_nil fun a ha => ⟨rfl, (?_ : XB _ _ _ _ _ _ _ _) a ha⟩
                refine XB_take (i := 33) rfl (by kernel_rfl) (by kernel_rfl) (by kernel_rfl) rfl (fun _ => qt_pickT rfl hc229 rfl) rfl rfl ?_
                refine XB_take (i := 34) rfl (by kernel_rfl) (by kernel_rfl) (by kernel_rfl) rfl (fun _ => qt_assign rfl) rfl rfl ?_
                refine XB_done (by kernel_rfl) (fun a ha => ?_)
                have H239 : Holds (([] : List Res).flatMap Res.own) w w236 [] G := (H238.cut 0)
                exact ⟨ha.sub ⟨rfl, trivial⟩, H239⟩
            · skip
              have ho240 := if_f hc229 hob64
              obtain rfl := Option.some.inj ho240
              refine XB_take (i := 0) rfl (by kernel_rfl) (by kernel_rfl) (by kernel_rfl) rfl (fun _ => qt_move rfl) rfl rfl ?_
              refine XB_lenH (i := 1) rfl (by kernel_rfl) (by kernel_rfl) (by kernel_rfl) H222.ctx (t := (.int .i64)) (Has.hd) u27 rfl rfl rfl ?_
              refine XB_take (i := 2) rfl (by kernel_rfl) (by kernel_rfl) (by kernel_rfl) rfl (fun _ => qt_eql rfl rfl) rfl rfl ?_
              refine XB_take (i := 3) rfl (by kernel_rfl) (by kernel_rfl) (by kernel_rfl) rfl (fun _ => qt_move rfl) rfl rfl ?_
              refine XB_take (i := 4) rfl (by kernel_rfl) (by kernel_rfl) (by kernel_rfl) (w_take rfl hc223) (fun _ => qt_move rfl) rfl rfl ?_
              refine XB_take (i := 5) rfl (by kernel_rfl) (by kernel_rfl) (by kernel_rfl) (w_take rfl hc223) (fun _ => qt_eql rfl rfl) rfl rfl ?_
              refine XB_take (i := 6) rfl (by kernel_rfl) (by kernel_rfl) (by kernel_rfl) rfl (fun _ => qt_pickT rfl hc223 rfl) rfl rfl ?_
              refine XB_take (i := 7) rfl (by kernel_rfl) (by kernel_rfl) (by kernel_rfl) rfl (fun _ => qt_move rfl) rfl rfl ?_
              refine XB_skip (i := 8) rfl (by kernel_rfl) (by kernel_rfl) (by kernel_rfl) (w_skip rfl hc225) rfl rfl ?_
              refine XB_skip (i := 9) rfl (by kernel_rfl) (by kernel_rfl) (by kernel_rfl) (w_skip rfl hc225) rfl rfl ?_
              refine XB_skip (i := 10) rfl (by kernel_rfl) (by kernel_rfl) (by kernel_rfl) (w_skip rfl hc225) rfl rfl ?_
              refine XB_skip (i := 11) rfl (by kernel_rfl) (by kernel_rfl) (by kernel_rfl) (w_skip rfl hc225) rfl rfl ?_
              refine XB_skip (i := 12) rfl (by kernel_rfl) (by kernel_rfl) (by kernel_rfl) rfl rfl rfl ?_
              refine XB_skip (i := 13) rfl (by kernel_rfl) (by kernel_rfl) (by kernel_rfl) rfl rfl rfl ?_
              refine XB_skip (i := 14) rfl (by kernel_rfl) (by kernel_rfl) (by kernel_rfl) rfl rfl rfl ?_
              refine XB_skip (i := 15) rfl (by kernel_rfl) (by kernel_rfl) (by kernel_rfl) rfl rfl rfl ?_
              refine XB_skip (i := 16) rfl (by kernel_rfl) (by kernel_rfl) (by kernel_rfl) rfl rfl rfl ?_
              refine XB_skip (i := 17) rfl (by kernel_rfl) (by kernel_rfl) (by kernel_rfl) rfl rfl rfl ?_
              refine XB_skip (i := 18) rfl (by kernel_rfl) (by kernel_rfl) (by kernel_rfl) rfl rfl rfl ?_
              refine XB_skip (i := 19) rfl (by kernel_rfl) (by kernel_rfl) (by kernel_rfl) rfl rfl rfl ?_
              refine XB_skip (i := 20) rfl (by kernel_rfl) (by kernel_rfl) (by kernel_rfl) rfl rfl rfl ?_
              refine XB_skip (i := 21) rfl (by kernel_rfl) (by kernel_rfl) (by kernel_rfl) rfl rfl rfl ?_
              refine XB_skip (i := 22) rfl (by kernel_rfl) (by kernel_rfl) (by kernel_rfl) rfl rfl rfl ?_
              refine XB_skip (i := 23) rfl (by kernel_rfl) (by kernel_rfl) (by kernel_rfl) (w_skip rfl hc225) rfl rfl ?_
              refine XB_take (i := 24) rfl (by kernel_rfl) (by kernel_rfl) (by kernel_rfl) rfl (fun _ => qt_pickT rfl hc225 rfl) rfl rfl ?_
              refine XB_take (i := 25) rfl (by kernel_rfl) (by kernel_rfl) (by kernel_rfl) rfl (fun _ => qt_move rfl) rfl rfl ?_
              refine XB_take (i := 26) rfl (by kernel_rfl) (by kernel_rfl) (by kernel_rfl) (w_take rfl hc227) (fun _ => qt_move rfl) rfl rfl ?_
              refine XB_take (i := 27) rfl (by kernel_rfl) (by kernel_rfl) (by kernel_rfl) (w_take rfl hc227) (fun _ => qt_move rfl) rfl rfl ?_
              refine XB_lenH (i := 28) rfl (by kernel_rfl) (by kernel_rfl) (by kernel_rfl) H222.ctx (t := (.int .i64)) (Has.hd) u27 (w_take rfl hc227) rfl rfl ?_
              refine XB_take (i := 29) rfl (by kernel_rfl) (by kernel_rfl) (by kernel_rfl) (w_take rfl hc227) (fun _ => qt_leq rfl rfl) rfl rfl ?_
              refine XB_take (i := 30) rfl (by kernel_rfl) (by kernel_rfl) (by kernel_rfl) rfl (fun _ => qt_pickT rfl hc227 rfl) rfl rfl ?_
              refine XB_take (i := 31) rfl (by kernel_rfl) (by kernel_rfl) (by kernel_rfl) rfl (fun _ => qt_move rfl) rfl rfl ?_
              refine XB_skip (i := 32) rfl (by kernel_rfl) (by kernel_rfl) (by kernel_rfl) (w_skip rfl hc229) rfl rfl ?_
              refine XB_take (i := 33) rfl (by kernel_rfl) (by kernel_rfl) (by kernel_rfl) rfl (fun _ => qt_pickF rfl hc229 rfl) rfl rfl ?_
              refine XB_take (i := 34) rfl (by kernel_rfl) (by kernel_rfl) (by kernel_rfl) rfl (fun _ => qt_assign rfl) rfl rfl ?_
              refine XB_done (by kernel_rfl) (fun a ha => ?_)
              have H241 : Holds (([] : List Res).flatMap Res.own) w w220 [] G := (H222.cut 0)
              exact ⟨ha.sub ⟨rfl, trivial⟩, H241⟩
          · skip
            have ho242 := if_f hc225 hob57
            obtain ⟨b244, hob244, ho242⟩ := bind_some ho242
            rcases btf (decide ((List.length x2 : Int) > 0)) with hc243 | hc243
            · skip
              have ho245 := if_t hc243 hob244
              obtain ⟨x250, hx251, ho245⟩ := bind_some ho245
              obtain ⟨x256, hx257, ho245⟩ := bind_some ho245
              obtain ⟨x270, hx271, ho245⟩ := bind_some ho245
              obtain ⟨x276, hx277, ho245⟩ := bind_some ho245
              obtain rfl := Option.some.inj ho245
              obtain rfl := Option.some.inj ho242
              rcases btf (x276 == x8) with hc281 | hc281
              · skip
                have ho282 := if_t hc281 hob58
                obtain rfl := Option.some.inj ho282
                rcases btf (decide (x8 ≤ (List.length x2 : Int))) with hc283 | hc283
                · skip
                  have ho284 := if_t hc283 hob64
                  obtain ⟨x285, hx286, ho284⟩ := bind_some ho284
                  obtain rfl := Option.some.inj ho284
                  refine XB_take (i := 0) rfl (by kernel_rfl) (by kernel_rfl) (by kernel_rfl) rfl (fun _ => qt_move rfl) rfl rfl ?_
                  refine XB_lenH (i := 1) rfl (by kernel_rfl) (by kernel_rfl) (by kernel_rfl) H222.ctx (t := (.int .i64)) (Has.hd) u27 rfl rfl rfl ?_
                  refine XB_take (i := 2) rfl (by kernel_rfl) (by kernel_rfl) (by kernel_rfl) rfl (fun _ => qt_eql rfl rfl) rfl rfl ?_
                  refine XB_take (i := 3) rfl (by kernel_rfl) (by kernel_rfl) (by kernel_rfl) rfl (fun _ => qt_move rfl) rfl rfl ?_
                  refine XB_take (i := 4) rfl (by kernel_rfl) (by kernel_rfl) (by kernel_rfl) (w_take rfl hc223) (fun _ => qt_move rfl) rfl rfl ?_
                  refine XB_take (i := 5) rfl (by kernel_rfl) (by kernel_rfl) (by kernel_rfl) (w_take rfl hc223) (fun _ => qt_eql rfl rfl) rfl rfl ?_
                  refine XB_take (i := 6) rfl (by kernel_rfl) (by kernel_rfl) (by kernel_rfl) rfl (fun _ => qt_pickT rfl hc223 rfl) rfl rfl ?_
                  refine XB_take (i := 7) rfl (by kernel_rfl) (by kernel_rfl) (by kernel_rfl) rfl (fun _ => qt_move rfl) rfl rfl ?_
                  refine XB_take (i := 8) rfl (by kernel_rfl) (by kernel_rfl) (by kernel_rfl) (w_take rfl hc225) (fun _ => qt_move rfl) rfl rfl ?_
                  refine XB_lenH (i := 9) rfl (by kernel_rfl) (by kernel_rfl) (by kernel_rfl) H222.ctx (t := (.int .i64)) (Has.hd) u27 (w_take rfl hc225) rfl rfl ?_
                  refine XB_take (i := 10) rfl (by kernel_rfl) (by kernel_rfl) (by kernel_rfl) (w_take rfl hc225) (fun _ => qt_gtr rfl rfl) rfl rfl ?_
                  refine XB_take (i := 11) rfl (by kernel_rfl) (by kernel_rfl) (by kernel_rfl) (w_take rfl hc225) (fun _ => qt_move rfl) rfl rfl ?_
                  refine XB_take (i := 13) rfl (by kernel_rfl) (by kernel_rfl) (by kernel_rfl) (w_take rfl hc243) (fun _ => qt_move rfl) rfl rfl ?_
                  refine XB_take (i := 15) rfl (by kernel_rfl) (by kernel_rfl) (by kernel_rfl) (w_take rfl hc243) (fun _ => qt_move rfl) rfl rfl ?_
                  refine XB_indexH (i := 16) rfl (by kernel_rfl) (by kernel_rfl) (by kernel_rfl) H222.ctx (Has.hd) hx257 u27 i3 (w_take rfl hc243) rfl rfl rfl (fun b290 off291 cap292 hv293 => ?_)
                  refine XB_take (i := 21) rfl (by kernel_rfl) (by kernel_rfl) (by kernel_rfl) (w_take rfl hc243) (fun _ => qt_move rfl) rfl rfl ?_
                  refine XB_all [12, 17] (by kernel_rfl) (by simp) (allc ?_ (allc ?_ alln))
                  · refine XB_do rfl ?_
                    refine WL_buildH (t := (.int .i64)) (args := []) (xs := ([] : List Int)) H222 (BltL.nil) u27 j3 rfl rfl rfl rfl (w_take rfl hc243) rfl (fun v294 w295 H296 => ?_)
                    have H297 : Holds (([] : List Res).flatMap Res.own) w w295 [.sl 3 (.int .i64) v294 ([]), .sl 3 (.int .i64) v6 x2] G := H296
                    refine WL_nil fun a ha => ⟨rfl, (?_ : XB _ _ _ _ _ _ _ _) a ha⟩
                    refine XB_all [14, 17] (by kernel_rfl) (by simp) (allc ?_ (allc ?_ alln))
                    · refine XB_do rfl ?_
                      refine WL_appendH H297 (Has.c (Has.hd)) hx251 u27 j3 rfl rfl (w_take rfl hc243) rfl rfl rfl (fun v298 w299 H300 => ?_)
                      have H301 : Holds (([] : List Res).flatMap Res.own) w w299 [.sl 3 (.int .i64) v298 x250, .sl 3 (.int .i64) v6 x2] G := H300
                      refine WL_nil fun a ha => ⟨rfl, (?_ : XB _ _ _ _ _ _ _ _) a ha⟩
                      refine XB_all [17] (by kernel_rfl) (by simp) (allc ?_ alln)
                      · refine XB_do rfl ?_
                        obtain ⟨F302, hat303, hdup304⟩ := H301.at (Has.c (Has.hd)) hx257 hv293
                        refine XL_load_int (k := .i64) u3 rfl hat303 (w_take rfl hc243) rfl rfl ?_
                        refine WL_nil fun a ha => ⟨rfl, (?_ : XB _ _ _ _ _ _ _ _) a ha⟩
                        refine XB_all [18] (by kernel_rfl) (by simp) (allc ?_ alln)
                        · refine XB_do rfl ?_
                          refine WL_buildH (t := (.int .i64)) (args := [.tmp 33]) (xs := ([x256] : List Int)) H301 (BltL.cons (Blt.int) rfl (BltL.nil)) u27 j3 rfl rfl rfl rfl (w_take rfl hc243) rfl (fun v305 w306 H307 => ?_)
                          have H308 : Holds (([] : List Res).flatMap Res.own) w w306 [.sl 3 (.int .i64) v305 ([x256]), .sl 3 (.int .i64) v298 x250, .sl 3 (.int .i64) v6 x2] G := H307
                          refine WL_nil fun a ha => ⟨rfl, (?_ : XB _ _ _ _ _ _ _ _) a ha⟩
                          refine XB_all [19] (by kernel_rfl) (by simp) (allc ?_ alln)
                          · refine XB_do rfl ?_
                            have H309 : Holds (([] : List Res).flatMap Res.own) w w306 [.sl 3 (.int .i64) v298 x250, .sl 3 (.int .i64) v305 ([x256]), .sl 3 (.int .i64) v6 x2] G := H308.pull 1
                            refine WL_appendH H309 (Has.c (Has.hd)) hx271 u27 j3 rfl rfl (w_take rfl hc243) rfl rfl rfl (fun v310 w311 H312 => ?_)
                            have H313 : Holds (([] : List Res).flatMap Res.own) w w311 [.sl 3 (.int .i64) v310 x270, .sl 3 (.int .i64) v305 ([x256]), .sl 3 (.int .i64) v6 x2] G := H312
                            refine WL_nil fun a ha => ⟨rfl, (?_ : XB _ _ _ _ _ _ _ _) a ha⟩
                            refine XB_all [20] (by kernel_rfl) (by simp) (allc ?_ alln)
                            · refine XB_do rfl ?_
                              refine WL_call (w_take rfl hc243) rfl c54 (w_impl_SeatsMany w311 ([.sl 3 (.int .i64) v310 x270, .sl 3 (.int .i64) v305 ([x256]), .sl 3 (.int .i64) v6 x2] ++ G) v310 x270 (Has.hd) x276 hx277 H313.ctx) (by rfl) ?_
                              rintro _ w314 ⟨rfl, H315⟩; refine ⟨_, rfl, ?_⟩
                              have H316 : Holds (([] : List Res).flatMap Res.own) w w314 [.sl 3 (.int .i64) v310 x270, .sl 3 (.int .i64) v305 ([x256]), .sl 3 (.int .i64) v6 x2] G := H313.calledN (Rs := []) H315
                              refine WL_nil fun a ha => ⟨rfl, (?_ : XB _ _ _ _ _ _ _ _) a ha⟩
                              refine XB_take (i := 22) rfl (by kernel_rfl) (by kernel_rfl) (by kernel_rfl) (w_take rfl hc243) (fun _ => qt_eql rfl rfl) rfl rfl ?_
                              refine XB_take (i := 23) rfl (by kernel_rfl) (by kernel_rfl) (by kernel_rfl) (w_take rfl hc225) (fun _ => qt_pickT rfl hc243 rfl) rfl rfl ?_
                              refine XB_take (i := 24) rfl (by kernel_rfl) (by kernel_rfl) (by kernel_rfl) rfl (fun _ => qt_pickF rfl hc225 rfl) rfl rfl ?_
                              refine XB_take (i := 25) rfl (by kernel_rfl) (by kernel_rfl) (by kernel_rfl) rfl (fun _ => qt_move rfl) rfl rfl ?_
                              refine XB_take (i := 26) rfl (by kernel_rfl) (by kernel_rfl) (by kernel_rfl) (w_take rfl hc281) (fun _ => qt_move rfl) rfl rfl ?_
                              refine XB_take (i := 27) rfl (by kernel_rfl) (by kernel_rfl) (by kernel_rfl) (w_take rfl hc281) (fun _ => qt_move rfl) rfl rfl ?_
                              refine XB_lenH (i := 28) rfl (by kernel_rfl) (by kernel_rfl) (by kernel_rfl) H316.ctx (t := (.int .i64)) (Has.c (Has.c (Has.hd))) u27 (w_take rfl hc281) rfl rfl ?_
                              refine XB_take (i := 29) rfl (by kernel_rfl) (by kernel_rfl) (by kernel_rfl) (w_take rfl hc281) (fun _ => qt_leq rfl rfl) rfl rfl ?_
                              refine XB_take (i := 30) rfl (by kernel_rfl) (by kernel_rfl) (by kernel_rfl) rfl (fun _ => qt_pickT rfl hc281 rfl) rfl rfl ?_
                              refine XB_take (i := 31) rfl (by kernel_rfl) (by kernel_rfl) (by kernel_rfl) rfl (fun _ => qt_move rfl) rfl rfl ?_
                              refine XB_all [32] (by kernel_rfl) (by simp) (allc ?_ alln)
                              · refine XB_do rfl ?_
                                refine WL_call (w_take rfl hc283) rfl c20 (w_laws_alive w314 ([.sl 3 (.int .i64) v310 x270, .sl 3 (.int .i64) v305 ([x256]), .sl 3 (.int .i64) v6 x2] ++ G)  x285 hx286 H316.ctx) (by rfl) ?_
                                rintro _ w317 ⟨rfl, H318⟩; refine ⟨_, rfl, ?_⟩
                                have H319 : Holds (([] : List Res).flatMap Res.own) w w317 [.sl 3 (.int .i64) v310 x270, .sl 3 (.int .i64) v305 ([x256]), .sl 3 (.int .i64) v6 x2] G := H316.calledN (Rs := []) H318
                                refine WL_nil fun a ha => ⟨rfl, (?_ : XB _ _ _ _ _ _ _ _) a ha⟩
                                refine XB_take (i := 33) rfl (by kernel_rfl) (by kernel_rfl) (by kernel_rfl) rfl (fun _ => qt_pickT rfl hc283 rfl) rfl rfl ?_
                                refine XB_take (i := 34) rfl (by kernel_rfl) (by kernel_rfl) (by kernel_rfl) rfl (fun _ => qt_assign rfl) rfl rfl ?_
                                refine XB_done (by kernel_rfl) (fun a ha => ?_)
                                have H320 : Holds (([] : List Res).flatMap Res.own) w w317 [] G := (((H319.cut 0).cut 0).cut 0)
                                exact ⟨ha.sub ⟨rfl, trivial⟩, H320⟩
                    · refine XB_do rfl ?_
                      obtain ⟨F321, hat322, hdup323⟩ := H297.at (Has.c (Has.hd)) hx257 hv293
                      refine XL_load_int (k := .i64) u3 rfl hat322 (w_take rfl hc243) rfl rfl ?_
                      refine WL_nil fun a ha => ⟨rfl, (?_ : XB _ _ _ _ _ _ _ _) a ha⟩
                      refine XB_all [14, 18] (by kernel_rfl) (by simp) (allc ?_ (allc ?_ alln))
                      · refine XB_do rfl ?_
                        refine WL_appendH H297 (Has.c (Has.hd)) hx251 u27 j3 rfl rfl (w_take rfl hc243) rfl rfl rfl (fun v324 w325 H326 => ?_)
                        have H327 : Holds (([] : List Res).flatMap Res.own) w w325 [.sl 3 (.int .i64) v324 x250, .sl 3 (.int .i64) v6 x2] G := H326
                        refine WL_nil fun a ha => ⟨rfl, (?_ : XB _ _ _ _ _ _ _ _) a ha⟩
                        refine XB_all [18] (by kernel_rfl) (by simp) (allc ?_ alln)
                        · refine XB_do rfl ?_
                          refine WL_buildH (t := (.int .i64)) (args := [.tmp 33]) (xs := ([x256] : List Int)) H327 (BltL.cons (Blt.int) rfl (BltL.nil)) u27 j3 rfl rfl rfl rfl (w_take rfl hc243) rfl (fun v328 w329 H330 => ?_)
                          have H331 : Holds (([] : List Res).flatMap Res.own) w w329 [.sl 3 (.int .i64) v328 ([x256]), .sl 3 (.int .i64) v324 x250, .sl 3 (.int .i64) v6 x2] G := H330
                          refine WL_nil fun a ha => ⟨rfl, (?_ : XB _ _ _ _ _ _ _ _) a ha⟩
                          refine XB_all [19] (by kernel_rfl) (by simp) (allc ?_ alln)
                          · refine XB_do rfl ?_
                            have H332 : Holds (([] : List Res).flatMap Res.own) w w329 [.sl 3 (.int .i64) v324 x250, .sl 3 (.int .i64) v328 ([x256]), .sl 3 (.int .i64) v6 x2] G := H331.pull 1
                            refine WL_appendH H332 (Has.c (Has.hd)) hx271 u27 j3 rfl rfl (w_take rfl hc243) rfl rfl rfl (fun v333 w334 H335 => ?_)
                            have H336 : Holds (([] : List Res).flatMap Res.own) w w334 [.sl 3 (.int .i64) v333 x270, .sl 3 (.int .i64) v328 ([x256]), .sl 3 (.int .i64) v6 x2] G := H335
                            refine WL_nil fun a ha => ⟨rfl, (?_ : XB _ _ _ _ _ _ _ _) a ha⟩
                            refine XB_all [20] (by kernel_rfl) (by simp) (allc ?_ alln)
                            · refine XB_do rfl ?_
                              refine WL_call (w_take rfl hc243) rfl c54 (w_impl_SeatsMany w334 ([.sl 3 (.int .i64) v333 x270, .sl 3 (.int .i64) v328 ([x256]), .sl 3 (.int .i64) v6 x2] ++ G) v333 x270 (Has.hd) x276 hx277 H336.ctx) (by rfl) ?_
                              rintro _ w337 ⟨rfl, H338⟩; refine ⟨_, rfl, ?_⟩
                              have H339 : Holds (([] : List Res).flatMap Res.own) w w337 [.sl 3 (.int .i64) v333 x270, .sl 3 (.int .i64) v328 ([x256]), .sl 3 (.int .i64) v6 x2] G := H336.calledN (Rs := []) H338
                              refine WL_nil fun a ha => ⟨rfl, (?_ : XB _ _ _ _ _ _ _ _) a ha⟩
                              refine XB_take (i := 22) rfl (by kernel_rfl) (by kernel_rfl) (by kernel_rfl) (w_take rfl hc243) (fun _ => qt_eql rfl rfl) rfl rfl ?_
                              refine XB_take (i := 23) rfl (by kernel_rfl) (by kernel_rfl) (by kernel_rfl) (w_take rfl hc225) (fun _ => qt_pickT rfl hc243 rfl) rfl rfl ?_
                              refine XB_take (i := 24) rfl (by kernel_rfl) (by kernel_rfl) (by kernel_rfl) rfl (fun _ => qt_pickF rfl hc225 rfl) rfl rfl ?_
                              refine XB_take (i := 25) rfl (by kernel_rfl) (by kernel_rfl) (by kernel_rfl) rfl (fun _ => qt_move rfl) rfl rfl ?_
                              refine XB_take (i := 26) rfl (by kernel_rfl) (by kernel_rfl) (by kernel_rfl) (w_take rfl hc281) (fun _ => qt_move rfl) rfl rfl ?_
                              refine XB_take (i := 27) rfl (by kernel_rfl) (by kernel_rfl) (by kernel_rfl) (w_take rfl hc281) (fun _ => qt_move rfl) rfl rfl ?_
                              refine XB_lenH (i := 28) rfl (by kernel_rfl) (by kernel_rfl) (by kernel_rfl) H339.ctx (t := (.int .i64)) (Has.c (Has.c (Has.hd))) u27 (w_take rfl hc281) rfl rfl ?_
                              refine XB_take (i := 29) rfl (by kernel_rfl) (by kernel_rfl) (by kernel_rfl) (w_take rfl hc281) (fun _ => qt_leq rfl rfl) rfl rfl ?_
                              refine XB_take (i := 30) rfl (by kernel_rfl) (by kernel_rfl) (by kernel_rfl) rfl (fun _ => qt_pickT rfl hc281 rfl) rfl rfl ?_
                              refine XB_take (i := 31) rfl (by kernel_rfl) (by kernel_rfl) (by kernel_rfl) rfl (fun _ => qt_move rfl) rfl rfl ?_
                              refine XB_all [32] (by kernel_rfl) (by simp) (allc ?_ alln)
                              · refine XB_do rfl ?_
                                refine WL_call (w_take rfl hc283) rfl c20 (w_laws_alive w337 ([.sl 3 (.int .i64) v333 x270, .sl 3 (.int .i64) v328 ([x256]), .sl 3 (.int .i64) v6 x2] ++ G)  x285 hx286 H339.ctx) (by rfl) ?_
                                rintro _ w340 ⟨rfl, H341⟩; refine ⟨_, rfl, ?_⟩
                                have H342 : Holds (([] : List Res).flatMap Res.own) w w340 [.sl 3 (.int .i64) v333 x270, .sl 3 (.int .i64) v328 ([x256]), .sl 3 (.int .i64) v6 x2] G := H339.calledN (Rs := []) H341
                                refine WL_nil fun a ha => ⟨rfl, (?_ : XB _ _ _ _ _ _ _ _) a ha⟩
                                refine XB_take (i := 33) rfl (by kernel_rfl) (by kernel_rfl) (by kernel_rfl) rfl (fun _ => qt_pickT rfl hc283 rfl) rfl rfl ?_
                                refine XB_take (i := 34) rfl (by kernel_rfl) (by kernel_rfl) (by kernel_rfl) rfl (fun _ => qt_assign rfl) rfl rfl ?_
                                refine XB_done (by kernel_rfl) (fun a ha => ?_)
                                have H343 : Holds (([] : List Res).flatMap Res.own) w w340 [] G := (((H342.cut 0).cut 0).cut 0)
                                exact ⟨ha.sub ⟨rfl, trivial⟩, H343⟩
                      · refine XB_do rfl ?_
                        refine WL_buildH (t := (.int .i64)) (args := [.tmp 33]) (xs := ([x256] : List Int)) H297 (BltL.cons (Blt.int) rfl (BltL.nil)) u27 j3 rfl rfl rfl rfl (w_take rfl hc243) rfl (fun v344 w345 H346 => ?_)
                        have H347 : Holds (([] : List Res).flatMap Res.own) w w345 [.sl 3 (.int .i64) v344 ([x256]), .sl 3 (.int .i64) v294 ([]), .sl 3 (.int .i64) v6 x2] G := H346
                        refine WL_nil fun a ha => ⟨rfl, (?_ : XB _ _ _ _ _ _ _ _) a ha⟩
                        refine XB_all [14] (by kernel_rfl) (by simp) (allc ?_ alln)
                        · refine XB_do rfl ?_
                          have H348 : Holds (([] : List Res).flatMap Res.own) w w345 [.sl 3 (.int .i64) v294 ([]), .sl 3 (.int .i64) v344 ([x256]), .sl 3 (.int .i64) v6 x2] G := H347.pull 1
                          refine WL_appendH H348 (Has.c (Has.c (Has.hd))) hx251 u27 j3 rfl rfl (w_take rfl hc243) rfl rfl rfl (fun v349 w350 H351 => ?_)
                          have H352 : Holds (([] : List Res).flatMap Res.own) w w350 [.sl 3 (.int .i64) v349 x250, .sl 3 (.int .i64) v344 ([x256]), .sl 3 (.int .i64) v6 x2] G := H351
                          refine WL_nil fun a ha => ⟨rfl, (?_ : XB _ _ _ _ _ _ _ _) a ha⟩
                          refine XB_all [19] (by kernel_rfl) (by simp) (allc ?_ alln)
                          · refine XB_do rfl ?_
                            refine WL_appendH H352 (Has.c (Has.hd)) hx271 u27 j3 rfl rfl (w_take rfl hc243) rfl rfl rfl (fun v353 w354 H355 => ?_)
                            have H356 : Holds (([] : List Res).flatMap Res.own) w w354 [.sl 3 (.int .i64) v353 x270, .sl 3 (.int .i64) v344 ([x256]), .sl 3 (.int .i64) v6 x2] G := H355
                            refine WL_nil fun a ha => ⟨rfl, (?_ : XB _ _ _ _ _ _ _ _) a ha⟩
                            refine XB_all [20] (by kernel_rfl) (by simp) (allc ?_ alln)
                            · refine XB_do rfl ?_
                              refine WL_call (w_take rfl hc243) rfl c54 (w_impl_SeatsMany w354 ([.sl 3 (.int .i64) v353 x270, .sl 3 (.int .i64) v344 ([x256]), .sl 3 (.int .i64) v6 x2] ++ G) v353 x270 (Has.hd) x276 hx277 H356.ctx) (by rfl) ?_
                              rintro _ w357 ⟨rfl, H358⟩; refine ⟨_, rfl, ?_⟩
                              have H359 : Holds (([] : List Res).flatMap Res.own) w w357 [.sl 3 (.int .i64) v353 x270, .sl 3 (.int .i64) v344 ([x256]), .sl 3 (.int .i64) v6 x2] G := H356.calledN (Rs := []) H358
                              refine WL_nil fun a ha => ⟨rfl, (?_ : XB _ _ _ _ _ _ _ _) a ha⟩
                              refine XB_take (i := 22) rfl (by kernel_rfl) (by kernel_rfl) (by kernel_rfl) (w_take rfl hc243) (fun _ => qt_eql rfl rfl) rfl rfl ?_
                              refine XB_take (i := 23) rfl (by kernel_rfl) (by kernel_rfl) (by kernel_rfl) (w_take rfl hc225) (fun _ => qt_pickT rfl hc243 rfl) rfl rfl ?_
                              refine XB_take (i := 24) rfl (by kernel_rfl) (by kernel_rfl) (by kernel_rfl) rfl (fun _ => qt_pickF rfl hc225 rfl) rfl rfl ?_
                              refine XB_take (i := 25) rfl (by kernel_rfl) (by kernel_rfl) (by kernel_rfl) rfl (fun _ => qt_move rfl) rfl rfl ?_
                              refine XB_take (i := 26) rfl (by kernel_rfl) (by kernel_rfl) (by kernel_rfl) (w_take rfl hc281) (fun _ => qt_move rfl) rfl rfl ?_
                              refine XB_take (i := 27) rfl (by kernel_rfl) (by kernel_rfl) (by kernel_rfl) (w_take rfl hc281) (fun _ => qt_move rfl) rfl rfl ?_
                              refine XB_lenH (i := 28) rfl (by kernel_rfl) (by kernel_rfl) (by kernel_rfl) H359.ctx (t := (.int .i64)) (Has.c (Has.c (Has.hd))) u27 (w_take rfl hc281) rfl rfl ?_
                              refine XB_take (i := 29) rfl (by kernel_rfl) (by kernel_rfl) (by kernel_rfl) (w_take rfl hc281) (fun _ => qt_leq rfl rfl) rfl rfl ?_
                              refine XB_take (i := 30) rfl (by kernel_rfl) (by kernel_rfl) (by kernel_rfl) rfl (fun _ => qt_pickT rfl hc281 rfl) rfl rfl ?_
                              refine XB_take (i := 31) rfl (by kernel_rfl) (by kernel_rfl) (by kernel_rfl) rfl (fun _ => qt_move rfl) rfl rfl ?_
                              refine XB_all [32] (by kernel_rfl) (by simp) (allc ?_ alln)
                              · refine XB_do rfl ?_
                                refine WL_call (w_take rfl hc283) rfl c20 (w_laws_alive w357 ([.sl 3 (.int .i64) v353 x270, .sl 3 (.int .i64) v344 ([x256]), .sl 3 (.int .i64) v6 x2] ++ G)  x285 hx286 H359.ctx) (by rfl) ?_
                                rintro _ w360 ⟨rfl, H361⟩; refine ⟨_, rfl, ?_⟩
                                have H362 : Holds (([] : List Res).flatMap Res.own) w w360 [.sl 3 (.int .i64) v353 x270, .sl 3 (.int .i64) v344 ([x256]), .sl 3 (.int .i64) v6 x2] G := H359.calledN (Rs := []) H361
                                refine WL_nil fun a ha => ⟨rfl, (?_ : XB _ _ _ _ _ _ _ _) a ha⟩
                                refine XB_take (i := 33) rfl (by kernel_rfl) (by kernel_rfl) (by kernel_rfl) rfl (fun _ => qt_pickT rfl hc283 rfl) rfl rfl ?_
                                refine XB_take (i := 34) rfl (by kernel_rfl) (by kernel_rfl) (by kernel_rfl) rfl (fun _ => qt_assign rfl) rfl rfl ?_
                                refine XB_done (by kernel_rfl) (fun a ha => ?_)
                                have H363 : Holds (([] : List Res).flatMap Res.own) w w360 [] G := (((H362.cut 0).cut 0).cut 0)
                                exact ⟨ha.sub ⟨rfl, trivial⟩, H363⟩
                  · refine XB_do rfl ?_
                    obtain ⟨F364, hat365, hdup366⟩ := H222.at (Has.hd) hx257 hv293
                    refine XL_load_int (k := .i64) u3 rfl hat365 (w_take rfl hc243) rfl rfl ?_
                    refine WL_nil fun a ha => ⟨rfl, (?_ : XB _ _ _ _ _ _ _ _) a ha⟩
                    refine XB_all [12, 18] (by kernel_rfl) (by simp) (allc ?_ (allc ?_ alln))
                    · refine XB_do rfl ?_
                      refine WL_buildH (t := (.int .i64)) (args := []) (xs := ([] : List Int)) H222 (BltL.nil) u27 j3 rfl rfl rfl rfl (w_take rfl hc243) rfl (fun v367 w368 H369 => ?_)
                      have H370 : Holds (([] : List Res).flatMap Res.own) w w368 [.sl 3 (.int .i64) v367 ([]), .sl 3 (.int .i64) v6 x2] G := H369
                      refine WL_nil fun a ha => ⟨rfl, (?_ : XB _ _ _ _ _ _ _ _) a ha⟩
                      refine XB_all [14, 18] (by kernel_rfl) (by simp) (allc ?_ (allc ?_ alln))
                      · refine XB_do rfl ?_
                        refine WL_appendH H370 (Has.c (Has.hd)) hx251 u27 j3 rfl rfl (w_take rfl hc243) rfl rfl rfl (fun v371 w372 H373 => ?_)
                        have H374 : Holds (([] : List Res).flatMap Res.own) w w372 [.sl 3 (.int .i64) v371 x250, .sl 3 (.int .i64) v6 x2] G := H373
                        refine WL_nil fun a ha => ⟨rfl, (?_ : XB _ _ _ _ _ _ _ _) a ha⟩
                        refine XB_all [18] (by kernel_rfl) (by simp) (allc ?_ alln)
                        · refine XB_do rfl ?_
                          refine WL_buildH (t := (.int .i64)) (args := [.tmp 33]) (xs := ([x256] : List Int)) H374 (BltL.cons (Blt.int) rfl (BltL.nil)) u27 j3 rfl rfl rfl rfl (w_take rfl hc243) rfl (fun v375 w376 H377 => ?_)
                          have H378 : Holds (([] : List Res).flatMap Res.own) w w376 [.sl 3 (.int .i64) v375 ([x256]), .sl 3 (.int .i64) v371 x250, .sl 3 (.int .i64) v6 x2] G := H377
                          refine WL_nil fun a ha => ⟨rfl, (?_ : XB _ _ _ _ _ _ _ _) a ha⟩
                          refine XB_all [19] (by kernel_rfl) (by simp) (allc ?_ alln)
                          · refine XB_do rfl ?_
                            have H379 : Holds (([] : List Res).flatMap Res.own) w w376 [.sl 3 (.int .i64) v371 x250, .sl 3 (.int .i64) v375 ([x256]), .sl 3 (.int .i64) v6 x2] G := H378.pull 1
                            refine WL_appendH H379 (Has.c (Has.hd)) hx271 u27 j3 rfl rfl (w_take rfl hc243) rfl rfl rfl (fun v380 w381 H382 => ?_)
                            have H383 : Holds (([] : List Res).flatMap Res.own) w w381 [.sl 3 (.int .i64) v380 x270, .sl 3 (.int .i64) v375 ([x256]), .sl 3 (.int .i64) v6 x2] G := H382
                            refine WL_nil fun a ha => ⟨rfl, (?_ : XB _ _ _ _ _ _ _ _) a ha⟩
                            refine XB_all [20] (by kernel_rfl) (by simp) (allc ?_ alln)
                            · refine XB_do rfl ?_
                              refine WL_call (w_take rfl hc243) rfl c54 (w_impl_SeatsMany w381 ([.sl 3 (.int .i64) v380 x270, .sl 3 (.int .i64) v375 ([x256]), .sl 3 (.int .i64) v6 x2] ++ G) v380 x270 (Has.hd) x276 hx277 H383.ctx) (by rfl) ?_
                              rintro _ w384 ⟨rfl, H385⟩; refine ⟨_, rfl, ?_⟩
                              have H386 : Holds (([] : List Res).flatMap Res.own) w w384 [.sl 3 (.int .i64) v380 x270, .sl 3 (.int .i64) v375 ([x256]), .sl 3 (.int .i64) v6 x2] G := H383.calledN (Rs := []) H385
                              refine WL_nil fun a ha => ⟨rfl, (?_ : XB _ _ _ _ _ _ _ _) a ha⟩
                              refine XB_take (i := 22) rfl (by kernel_rfl) (by kernel_rfl) (by kernel_rfl) (w_take rfl hc243) (fun _ => qt_eql rfl rfl) rfl rfl ?_
                              refine XB_take (i := 23) rfl (by kernel_rfl) (by kernel_rfl) (by kernel_rfl) (w_take rfl hc225) (fun _ => qt_pickT rfl hc243 rfl) rfl rfl ?_
                              refine XB_take (i := 24) rfl (by kernel_rfl) (by kernel_rfl) (by kernel_rfl) rfl (fun _ => qt_pickF rfl hc225 rfl) rfl rfl ?_
                              refine XB_take (i := 25) rfl (by kernel_rfl) (by kernel_rfl) (by kernel_rfl) rfl (fun _ => qt_move rfl) rfl rfl ?_
                              refine XB_take (i := 26) rfl (by kernel_rfl) (by kernel_rfl) (by kernel_rfl) (w_take rfl hc281) (fun _ => qt_move rfl) rfl rfl ?_
                              refine XB_take (i := 27) rfl (by kernel_rfl) (by kernel_rfl) (by kernel_rfl) (w_take rfl hc281) (fun _ => qt_move rfl) rfl rfl ?_
                              refine XB_lenH (i := 28) rfl (by kernel_rfl) (by kernel_rfl) (by kernel_rfl) H386.ctx (t := (.int .i64)) (Has.c (Has.c (Has.hd))) u27 (w_take rfl hc281) rfl rfl ?_
                              refine XB_take (i := 29) rfl (by kernel_rfl) (by kernel_rfl) (by kernel_rfl) (w_take rfl hc281) (fun _ => qt_leq rfl rfl) rfl rfl ?_
                              refine XB_take (i := 30) rfl (by kernel_rfl) (by kernel_rfl) (by kernel_rfl) rfl (fun _ => qt_pickT rfl hc281 rfl) rfl rfl ?_
                              refine XB_take (i := 31) rfl (by kernel_rfl) (by kernel_rfl) (by kernel_rfl) rfl (fun _ => qt_move rfl) rfl rfl ?_
                              refine XB_all [32] (by kernel_rfl) (by simp) (allc ?_ alln)
                              · refine XB_do rfl ?_
                                refine WL_call (w_take rfl hc283) rfl c20 (w_laws_alive w384 ([.sl 3 (.int .i64) v380 x270, .sl 3 (.int .i64) v375 ([x256]), .sl 3 (.int .i64) v6 x2] ++ G)  x285 hx286 H386.ctx) (by rfl) ?_
                                rintro _ w387 ⟨rfl, H388⟩; refine ⟨_, rfl, ?_⟩
                                have H389 : Holds (([] : List Res).flatMap Res.own) w w387 [.sl 3 (.int .i64) v380 x270, .sl 3 (.int .i64) v375 ([x256]), .sl 3 (.int .i64) v6 x2] G := H386.calledN (Rs := []) H388
                                refine WL_nil fun a ha => ⟨rfl, (?_ : XB _ _ _ _ _ _ _ _) a ha⟩
                                refine XB_take (i := 33) rfl (by kernel_rfl) (by kernel_rfl) (by kernel_rfl) rfl (fun _ => qt_pickT rfl hc283 rfl) rfl rfl ?_
                                refine XB_take (i := 34) rfl (by kernel_rfl) (by kernel_rfl) (by kernel_rfl) rfl (fun _ => qt_assign rfl) rfl rfl ?_
                                refine XB_done (by kernel_rfl) (fun a ha => ?_)
                                have H390 : Holds (([] : List Res).flatMap Res.own) w w387 [] G := (((H389.cut 0).cut 0).cut 0)
                                exact ⟨ha.sub ⟨rfl, trivial⟩, H390⟩
                      · refine XB_do rfl ?_
                        refine WL_buildH (t := (.int .i64)) (args := [.tmp 33]) (xs := ([x256] : List Int)) H370 (BltL.cons (Blt.int) rfl (BltL.nil)) u27 j3 rfl rfl rfl rfl (w_take rfl hc243) rfl (fun v391 w392 H393 => ?_)
                        have H394 : Holds (([] : List Res).flatMap Res.own) w w392 [.sl 3 (.int .i64) v391 ([x256]), .sl 3 (.int .i64) v367 ([]), .sl 3 (.int .i64) v6 x2] G := H393
                        refine WL_nil fun a ha => ⟨rfl, (?_ : XB _ _ _ _ _ _ _ _) a ha⟩
                        refine XB_all [14] (by kernel_rfl) (by simp) (allc ?_ alln)
                        · refine XB_do rfl ?_
                          have H395 : Holds (([] : List Res).flatMap Res.own) w w392 [.sl 3 (.int .i64) v367 ([]), .sl 3 (.int .i64) v391 ([x256]), .sl 3 (.int .i64) v6 x2] G := H394.pull 1
                          refine WL_appendH H395 (Has.c (Has.c (Has.hd))) hx251 u27 j3 rfl rfl (w_take rfl hc243) rfl rfl rfl (fun v396 w397 H398 => ?_)
                          have H399 : Holds (([] : List Res).flatMap Res.own) w w397 [.sl 3 (.int .i64) v396 x250, .sl 3 (.int .i64) v391 ([x256]), .sl 3 (.int .i64) v6 x2] G := H398
                          refine WL_nil fun a ha => ⟨rfl, (?_ : XB _ _ _ _ _ _ _ _) a ha⟩
                          refine XB_all [19] (by kernel_rfl) (by simp) (allc ?_ alln)
                          · refine XB_do rfl ?_
                            refine WL_appendH H399 (Has.c (Has.hd)) hx271 u27 j3 rfl rfl (w_take rfl hc243) rfl rfl rfl (fun v400 w401 H402 => ?_)
                            have H403 : Holds (([] : List Res).flatMap Res.own) w w401 [.sl 3 (.int .i64) v400 x270, .sl 3 (.int .i64) v391 ([x256]), .sl 3 (.int .i64) v6 x2] G := H402
                            refine WL_nil fun a ha => ⟨rfl, (?_ : XB _ _ _ _ _ _ _ _) a ha⟩
                            refine XB_all [20] (by kernel_rfl) (by simp) (allc ?_ alln)
                            · refine XB_do rfl ?_
                              refine WL_call (w_take rfl hc243) rfl c54 (w_impl_SeatsMany w401 ([.sl 3 (.int .i64) v400 x270, .sl 3 (.int .i64) v391 ([x256]), .sl 3 (.int .i64) v6 x2] ++ G) v400 x270 (Has.hd) x276 hx277 H403.ctx) (by rfl) ?_
                              rintro _ w404 ⟨rfl, H405⟩; refine ⟨_, rfl, ?_⟩
                              have H406 : Holds (([] : List Res).flatMap Res.own) w w404 [.sl 3 (.int .i64) v400 x270, .sl 3 (.int .i64) v391 ([x256]), .sl 3 (.int .i64) v6 x2] G := H403.calledN (Rs := []) H405
                              refine WL_nil fun a ha => ⟨rfl, (?_ : XB _ _ _ _ _ _ _ _) a ha⟩
                              refine XB_take (i := 22) rfl (by kernel_rfl) (by kernel_rfl) (by kernel_rfl) (w_take rfl hc243) (fun _ => qt_eql rfl rfl) rfl rfl ?_
                              refine XB_take (i := 23) rfl (by kernel_rfl) (by kernel_rfl) (by kernel_rfl) (w_take rfl hc225) (fun _ => qt_pickT rfl hc243 rfl) rfl rfl ?_
                              refine XB_take (i := 24) rfl (by kernel_rfl) (by kernel_rfl) (by kernel_rfl) rfl (fun _ => qt_pickF rfl hc225 rfl) rfl rfl ?_
                              refine XB_take (i := 25) rfl (by kernel_rfl) (by kernel_rfl) (by kernel_rfl) rfl (fun _ => qt_move rfl) rfl rfl ?_
                              refine XB_take (i := 26) rfl (by kernel_rfl) (by kernel_rfl) (by kernel_rfl) (w_take rfl hc281) (fun _ => qt_move rfl) rfl rfl ?_
                              refine XB_take (i := 27) rfl (by kernel_rfl) (by kernel_rfl) (by kernel_rfl) (w_take rfl hc281) (fun _ => qt_move rfl) rfl rfl ?_
                              refine XB_lenH (i := 28) rfl (by kernel_rfl) (by kernel_rfl) (by kernel_rfl) H406.ctx (t := (.int .i64)) (Has.c (Has.c (Has.hd))) u27 (w_take rfl hc281) rfl rfl ?_
                              refine XB_take (i := 29) rfl (by kernel_rfl) (by kernel_rfl) (by kernel_rfl) (w_take rfl hc281) (fun _ => qt_leq rfl rfl) rfl rfl ?_
                              refine XB_take (i := 30) rfl (by kernel_rfl) (by kernel_rfl) (by kernel_rfl) rfl (fun _ => qt_pickT rfl hc281 rfl) rfl rfl ?_
                              refine XB_take (i := 31) rfl (by kernel_rfl) (by kernel_rfl) (by kernel_rfl) rfl (fun _ => qt_move rfl) rfl rfl ?_
                              refine XB_all [32] (by kernel_rfl) (by simp) (allc ?_ alln)
                              · refine XB_do rfl ?_
                                refine WL_call (w_take rfl hc283) rfl c20 (w_laws_alive w404 ([.sl 3 (.int .i64) v400 x270, .sl 3 (.int .i64) v391 ([x256]), .sl 3 (.int .i64) v6 x2] ++ G)  x285 hx286 H406.ctx) (by rfl) ?_
                                rintro _ w407 ⟨rfl, H408⟩; refine ⟨_, rfl, ?_⟩
                                have H409 : Holds (([] : List Res).flatMap Res.own) w w407 [.sl 3 (.int .i64) v400 x270, .sl 3 (.int .i64) v391 ([x256]), .sl 3 (.int .i64) v6 x2] G := H406.calledN (Rs := []) H408
                                refine WL_nil fun a ha => ⟨rfl, (?_ : XB _ _ _ _ _ _ _ _) a ha⟩
                                refine XB_take (i := 33) rfl (by kernel_rfl) (by kernel_rfl) (by kernel_rfl) rfl (fun _ => qt_pickT rfl hc283 rfl) rfl rfl ?_
                                refine XB_take (i := 34) rfl (by kernel_rfl) (by kernel_rfl) (by kernel_rfl) rfl (fun _ => qt_assign rfl) rfl rfl ?_
                                refine XB_done (by kernel_rfl) (fun a ha => ?_)
                                have H410 : Holds (([] : List Res).flatMap Res.own) w w407 [] G := (((H409.cut 0).cut 0).cut 0)
                                exact ⟨ha.sub ⟨rfl, trivial⟩, H410⟩
                    · refine XB_do rfl ?_
                      refine WL_buildH (t := (.int .i64)) (args := [.tmp 33]) (xs := ([x256] : List Int)) H222 (BltL.cons (Blt.int) rfl (BltL.nil)) u27 j3 rfl rfl rfl rfl (w_take rfl hc243) rfl (fun v411 w412 H413 => ?_)
                      have H414 : Holds (([] : List Res).flatMap Res.own) w w412 [.sl 3 (.int .i64) v411 ([x256]), .sl 3 (.int .i64) v6 x2] G := H413
                      refine WL_nil fun a ha => ⟨rfl, (?_ : XB _ _ _ _ _ _ _ _) a ha⟩
                      refine XB_all [12] (by kernel_rfl) (by simp) (allc ?_ alln)
                      · refine XB_do rfl ?_
                        refine WL_buildH (t := (.int .i64)) (args := []) (xs := ([] : List Int)) H414 (BltL.nil) u27 j3 rfl rfl rfl rfl (w_take rfl hc243) rfl (fun v415 w416 H417 => ?_)
                        have H418 : Holds (([] : List Res).flatMap Res.own) w w416 [.sl 3 (.int .i64) v415 ([]), .sl 3 (.int .i64) v411 ([x256]), .sl 3 (.int .i64) v6 x2] G := H417
                        refine WL_nil fun a ha => ⟨rfl, (?_ : XB _ _ _ _ _ _ _ _) a ha⟩
                        refine XB_all [14] (by kernel_rfl) (by simp) (allc ?_ alln)
                        · refine XB_do rfl ?_
                          refine WL_appendH H418 (Has.c (Has.c (Has.hd))) hx251 u27 j3 rfl rfl (w_take rfl hc243) rfl rfl rfl (fun v419 w420 H421 => ?_)
                          have H422 : Holds (([] : List Res).flatMap Res.own) w w420 [.sl 3 (.int .i64) v419 x250, .sl 3 (.int .i64) v411 ([x256]), .sl 3 (.int .i64) v6 x2] G := H421
                          refine WL_nil fun a ha => ⟨rfl, (?_ : XB _ _ _ _ _ _ _ _) a ha⟩
                          refine XB_all [19] (by kernel_rfl) (by simp) (allc ?_ alln)
                          · refine XB_do rfl ?_
                            refine WL_appendH H422 (Has.c (Has.hd)) hx271 u27 j3 rfl rfl (w_take rfl hc243) rfl rfl rfl (fun v423 w424 H425 => ?_)
                            have H426 : Holds (([] : List Res).flatMap Res.own) w w424 [.sl 3 (.int .i64) v423 x270, .sl 3 (.int .i64) v411 ([x256]), .sl 3 (.int .i64) v6 x2] G := H425
                            refine WL_nil fun a ha => ⟨rfl, (?_ : XB _ _ _ _ _ _ _ _) a ha⟩
                            refine XB_all [20] (by kernel_rfl) (by simp) (allc ?_ alln)
                            · refine XB_do rfl ?_
                              refine WL_call (w_take rfl hc243) rfl c54 (w_impl_SeatsMany w424 ([.sl 3 (.int .i64) v423 x270, .sl 3 (.int .i64) v411 ([x256]), .sl 3 (.int .i64) v6 x2] ++ G) v423 x270 (Has.hd) x276 hx277 H426.ctx) (by rfl) ?_
                              rintro _ w427 ⟨rfl, H428⟩; refine ⟨_, rfl, ?_⟩
                              have H429 : Holds (([] : List Res).flatMap Res.own) w w427 [.sl 3 (.int .i64) v423 x270, .sl 3 (.int .i64) v411 ([x256]), .sl 3 (.int .i64) v6 x2] G := H426.calledN (Rs := []) H428
                              refine WL_nil fun a ha => ⟨rfl, (?_ : XB _ _ _ _ _ _ _ _) a ha⟩
                              refine XB_take (i := 22) rfl (by kernel_rfl) (by kernel_rfl) (by kernel_rfl) (w_take rfl hc243) (fun _ => qt_eql rfl rfl) rfl rfl ?_
                              refine XB_take (i := 23) rfl (by kernel_rfl) (by kernel_rfl) (by kernel_rfl) (w_take rfl hc225) (fun _ => qt_pickT rfl hc243 rfl) rfl rfl ?_
                              refine XB_take (i := 24) rfl (by kernel_rfl) (by kernel_rfl) (by kernel_rfl) rfl (fun _ => qt_pickF rfl hc225 rfl) rfl rfl ?_
                              refine XB_take (i := 25) rfl (by kernel_rfl) (by kernel_rfl) (by kernel_rfl) rfl (fun _ => qt_move rfl) rfl rfl ?_
                              refine XB_take (i := 26) rfl (by kernel_rfl) (by kernel_rfl) (by kernel_rfl) (w_take rfl hc281) (fun _ => qt_move rfl) rfl rfl ?_
                              refine XB_take (i := 27) rfl (by kernel_rfl) (by kernel_rfl) (by kernel_rfl) (w_take rfl hc281) (fun _ => qt_move rfl) rfl rfl ?_
                              refine XB_lenH (i := 28) rfl (by kernel_rfl) (by kernel_rfl) (by kernel_rfl) H429.ctx (t := (.int .i64)) (Has.c (Has.c (Has.hd))) u27 (w_take rfl hc281) rfl rfl ?_
                              refine XB_take (i := 29) rfl (by kernel_rfl) (by kernel_rfl) (by kernel_rfl) (w_take rfl hc281) (fun _ => qt_leq rfl rfl) rfl rfl ?_
                              refine XB_take (i := 30) rfl (by kernel_rfl) (by kernel_rfl) (by kernel_rfl) rfl (fun _ => qt_pickT rfl hc281 rfl) rfl rfl ?_
                              refine XB_take (i := 31) rfl (by kernel_rfl) (by kernel_rfl) (by kernel_rfl) rfl (fun _ => qt_move rfl) rfl rfl ?_
                              refine XB_all [32] (by kernel_rfl) (by simp) (allc ?_ alln)
                              · refine XB_do rfl ?_
                                refine WL_call (w_take rfl hc283) rfl c20 (w_laws_alive w427 ([.sl 3 (.int .i64) v423 x270, .sl 3 (.int .i64) v411 ([x256]), .sl 3 (.int .i64) v6 x2] ++ G)  x285 hx286 H429.ctx) (by rfl) ?_
                                rintro _ w430 ⟨rfl, H431⟩; refine ⟨_, rfl, ?_⟩
                                have H432 : Holds (([] : List Res).flatMap Res.own) w w430 [.sl 3 (.int .i64) v423 x270, .sl 3 (.int .i64) v411 ([x256]), .sl 3 (.int .i64) v6 x2] G := H429.calledN (Rs := []) H431
                                refine WL_nil fun a ha => ⟨rfl, (?_ : XB _ _ _ _ _ _ _ _) a ha⟩
                                refine XB_take (i := 33) rfl (by kernel_rfl) (by kernel_rfl) (by kernel_rfl) rfl (fun _ => qt_pickT rfl hc283 rfl) rfl rfl ?_
                                refine XB_take (i := 34) rfl (by kernel_rfl) (by kernel_rfl) (by kernel_rfl) rfl (fun _ => qt_assign rfl) rfl rfl ?_
                                refine XB_done (by kernel_rfl) (fun a ha => ?_)
                                have H433 : Holds (([] : List Res).flatMap Res.own) w w430 [] G := (((H432.cut 0).cut 0).cut 0)
                                exact ⟨ha.sub ⟨rfl, trivial⟩, H433⟩
                · skip
                  have ho434 := if_f hc283 hob64
                  obtain rfl := Option.some.inj ho434
                  refine XB_take (i := 0) rfl (by kernel_rfl) (by kernel_rfl) (by kernel_rfl) rfl (fun _ => qt_move rfl) rfl rfl ?_
                  refine XB_lenH (i := 1) rfl (by kernel_rfl) (by kernel_rfl) (by kernel_rfl) H222.ctx (t := (.int .i64)) (Has.hd) u27 rfl rfl rfl ?_
                  refine XB_take (i := 2) rfl (by kernel_rfl) (by kernel_rfl) (by kernel_rfl) rfl (fun _ => qt_eql rfl rfl) rfl rfl ?_
                  refine XB_take (i := 3) rfl (by kernel_rfl) (by kernel_rfl) (by kernel_rfl) rfl (fun _ => qt_move rfl) rfl rfl ?_
                  refine XB_take (i := 4) rfl (by kernel_rfl) (by kernel_rfl) (by kernel_rfl) (w_take rfl hc223) (fun _ => qt_move rfl) rfl rfl ?_
                  refine XB_take (i := 5) rfl (by kernel_rfl) (by kernel_rfl) (by kernel_rfl) (w_take rfl hc223) (fun _ => qt_eql rfl rfl) rfl rfl ?_
                  refine XB_take (i := 6) rfl (by kernel_rfl) (by kernel_rfl) (by kernel_rfl) rfl (fun _ => qt_pickT rfl hc223 rfl) rfl rfl ?_
                  refine XB_take (i := 7) rfl (by kernel_rfl) (by kernel_rfl) (by kernel_rfl) rfl (fun _ => qt_move rfl) rfl rfl ?_
                  refine XB_take (i := 8) rfl (by kernel_rfl) (by kernel_rfl) (by kernel_rfl) (w_take rfl hc225) (fun _ => qt_move rfl) rfl rfl ?_
                  refine XB_lenH (i := 9) rfl (by kernel_rfl) (by kernel_rfl) (by kernel_rfl) H222.ctx (t := (.int .i64)) (Has.hd) u27 (w_take rfl hc225) rfl rfl ?_
                  refine XB_take (i := 10) rfl (by kernel_rfl) (by kernel_rfl) (by kernel_rfl) (w_take rfl hc225) (fun _ => qt_gtr rfl rfl) rfl rfl ?_
                  refine XB_take (i := 11) rfl (by kernel_rfl) (by kernel_rfl) (by kernel_rfl) (w_take rfl hc225) (fun _ => qt_move rfl) rfl rfl ?_
                  refine XB_take (i := 13) rfl (by kernel_rfl) (by kernel_rfl) (by kernel_rfl) (w_take rfl hc243) (fun _ => qt_move rfl) rfl rfl ?_
                  refine XB_take (i := 15) rfl (by kernel_rfl) (by kernel_rfl) (by kernel_rfl) (w_take rfl hc243) (fun _ => qt_move rfl) rfl rfl ?_
                  refine XB_indexH (i := 16) rfl (by kernel_rfl) (by kernel_rfl) (by kernel_rfl) H222.ctx (Has.hd) hx257 u27 i3 (w_take rfl hc243) rfl rfl rfl (fun b435 off436 cap437 hv438 => ?_)
                  refine XB_take (i := 21) rfl (by kernel_rfl) (by kernel_rfl) (by kernel_rfl) (w_take rfl hc243) (fun _ => qt_move rfl) rfl rfl ?_
                  refine XB_all [12, 17] (by kernel_rfl) (by simp) (allc ?_ (allc ?_ alln))
                  · refine XB_do rfl ?_
                    refine WL_buildH (t := (.int .i64)) (args := []) (xs := ([] : List Int)) H222 (BltL.nil) u27 j3 rfl rfl rfl rfl (w_take rfl hc243) rfl (fun v439 w440 H441 => ?_)
                    have H442 : Holds (([] : List Res).flatMap Res.own) w w440 [.sl 3 (.int .i64) v439 ([]), .sl 3 (.int .i64) v6 x2] G := H441
                    refine WL_nil fun a ha => ⟨rfl, (?_ : XB _ _ _ _ _ _ _ _) a ha⟩
                    refine XB_all [14, 17] (by kernel_rfl) (by simp) (allc ?_ (allc ?_ alln))
                    · refine XB_do rfl ?_
                      refine WL_appendH H442 (Has.c (Has.hd)) hx251 u27 j3 rfl rfl (w_take rfl hc243) rfl rfl rfl (fun v443 w444 H445 => ?_)
                      have H446 : Holds (([] : List Res).flatMap Res.own) w w444 [.sl 3 (.int .i64) v443 x250, .sl 3 (.int .i64) v6 x2] G := H445
                      refine WL_nil fun a ha => ⟨rfl, (?_ : XB _ _ _ _ _ _ _ _) a ha⟩
                      refine XB_all [17] (by kernel_rfl) (by simp) (allc ?_ alln)
                      · refine XB_do rfl ?_
                        obtain ⟨F447, hat448, hdup449⟩ := H446.at (Has.c (Has.hd)) hx257 hv438
                        refine XL_load_int (k := .i64) u3 rfl hat448 (w_take rfl hc243) rfl rfl ?_
                        refine WL_nil fun a ha => ⟨rfl, (?_ : XB _ _ _ _ _ _ _ _) a ha⟩
                        refine XB_all [18] (by kernel_rfl) (by simp) (allc ?_ alln)
                        · refine XB_do rfl ?_
                          refine WL_buildH (t := (.int .i64)) (args := [.tmp 33]) (xs := ([x256] : List Int)) H446 (BltL.cons (Blt.int) rfl (BltL.nil)) u27 j3 rfl rfl rfl rfl (w_take rfl hc243) rfl (fun v450 w451 H452 => ?_)
                          have H453 : Holds (([] : List Res).flatMap Res.own) w w451 [.sl 3 (.int .i64) v450 ([x256]), .sl 3 (.int .i64) v443 x250, .sl 3 (.int .i64) v6 x2] G := H452
                          refine WL_nil fun a ha => ⟨rfl, (?_ : XB _ _ _ _ _ _ _ _) a ha⟩
                          refine XB_all [19] (by kernel_rfl) (by simp) (allc ?_ alln)
                          · refine XB_do rfl ?_
                            have H454 : Holds (([] : List Res).flatMap Res.own) w w451 [.sl 3 (.int .i64) v443 x250, .sl 3 (.int .i64) v450 ([x256]), .sl 3 (.int .i64) v6 x2] G := H453.pull 1
                            refine WL_appendH H454 (Has.c (Has.hd)) hx271 u27 j3 rfl rfl (w_take rfl hc243) rfl rfl rfl (fun v455 w456 H457 => ?_)
                            have H458 : Holds (([] : List Res).flatMap Res.own) w w456 [.sl 3 (.int .i64) v455 x270, .sl 3 (.int .i64) v450 ([x256]), .sl 3 (.int .i64) v6 x2] G := H457
                            refine WL_nil fun a ha => ⟨rfl, (?_ : XB _ _ _ _ _ _ _ _) a ha⟩
                            refine XB_all [20] (by kernel_rfl) (by simp) (allc ?_ alln)
                            · refine XB_do rfl ?_
                              refine WL_call (w_take rfl hc243) rfl c54 (w_impl_SeatsMany w456 ([.sl 3 (.int .i64) v455 x270, .sl 3 (.int .i64) v450 ([x256]), .sl 3 (.int .i64) v6 x2] ++ G) v455 x270 (Has.hd) x276 hx277 H458.ctx) (by rfl) ?_
                              rintro _ w459 ⟨rfl, H460⟩; refine ⟨_, rfl, ?_⟩
                              have H461 : Holds (([] : List Res).flatMap Res.own) w w459 [.sl 3 (.int .i64) v455 x270, .sl 3 (.int .i64) v450 ([x256]), .sl 3 (.int .i64) v6 x2] G := H458.calledN (Rs := []) H460
                              refine WL_nil fun a ha => ⟨rfl, (?_ : XB _ _ _ _ _ _ _ _) a ha⟩
                              refine XB_take (i := 22) rfl (by kernel_rfl) (by kernel_rfl) (by kernel_rfl) (w_take rfl hc243) (fun _ => qt_eql rfl rfl) rfl rfl ?_
                              refine XB_take (i := 23) rfl (by kernel_rfl) (by kernel_rfl) (by kernel_rfl) (w_take rfl hc225) (fun _ => qt_pickT rfl hc243 rfl) rfl rfl ?_
                              refine XB_take (i := 24) rfl (by kernel_rfl) (by kernel_rfl) (by kernel_rfl) rfl (fun _ => qt_pickF rfl hc225 rfl) rfl rfl ?_
                              refine XB_take (i := 25) rfl (by kernel_rfl) (by kernel_rfl) (by kernel_rfl) rfl (fun _ => qt_move rfl) rfl rfl ?_
                              refine XB_take (i := 26) rfl (by kernel_rfl) (by kernel_rfl) (by kernel_rfl) (w_take rfl hc281) (fun _ => qt_move rfl) rfl rfl ?_
                              refine XB_take (i := 27) rfl (by kernel_rfl) (by kernel_rfl) (by kernel_rfl) (w_take rfl hc281) (fun _ => qt_move rfl) rfl rfl ?_
                              refine XB_lenH (i := 28) rfl (by kernel_rfl) (by kernel_rfl) (by kernel_rfl) H461.ctx (t := (.int .i64)) (Has.c (Has.c (Has.hd))) u27 (w_take rfl hc281) rfl rfl ?_
                              refine XB_take (i := 29) rfl (by kernel_rfl) (by kernel_rfl) (by kernel_rfl) (w_take rfl hc281) (fun _ => qt_leq rfl rfl) rfl rfl ?_
                              refine XB_take (i := 30) rfl (by kernel_rfl) (by kernel_rfl) (by kernel_rfl) rfl (fun _ => qt_pickT rfl hc281 rfl) rfl rfl ?_
                              refine XB_take (i := 31) rfl (by kernel_rfl) (by kernel_rfl) (by kernel_rfl) rfl (fun _ => qt_move rfl) rfl rfl ?_
                              refine XB_skip (i := 32) rfl (by kernel_rfl) (by kernel_rfl) (by kernel_rfl) (w_skip rfl hc283) rfl rfl ?_
                              refine XB_take (i := 33) rfl (by kernel_rfl) (by kernel_rfl) (by kernel_rfl) rfl (fun _ => qt_pickF rfl hc283 rfl) rfl rfl ?_
                              refine XB_take (i := 34) rfl (by kernel_rfl) (by kernel_rfl) (by kernel_rfl) rfl (fun _ => qt_assign rfl) rfl rfl ?_
                              refine XB_done (by kernel_rfl) (fun a ha => ?_)
                              have H462 : Holds (([] : List Res).flatMap Res.own) w w459 [] G := (((H461.cut 0).cut 0).cut 0)
                              exact ⟨ha.sub ⟨rfl, trivial⟩, H462⟩
                    · refine XB_do rfl ?_
                      obtain ⟨F463, hat464, hdup465⟩ := H442.at (Has.c (Has.hd)) hx257 hv438
                      refine XL_load_int (k := .i64) u3 rfl hat464 (w_take rfl hc243) rfl rfl ?_
                      refine WL_nil fun a ha => ⟨rfl, (?_ : XB _ _ _ _ _ _ _ _) a ha⟩
                      refine XB_all [14, 18] (by kernel_rfl) (by simp) (allc ?_ (allc ?_ alln))
                      · refine XB_do rfl ?_
                        refine WL_appendH H442 (Has.c (Has.hd)) hx251 u27 j3 rfl rfl (w_take rfl hc243) rfl rfl rfl (fun v466 w467 H468 => ?_)
                        have H469 : Holds (([] : List Res).flatMap Res.own) w w467 [.sl 3 (.int .i64) v466 x250, .sl 3 (.int .i64) v6 x2] G := H468
                        refine WL_nil fun a ha => ⟨rfl, (?_ : XB _ _ _ _ _ _ _ _) a ha⟩
                        refine XB_all [18] (by kernel_rfl) (by simp) (allc ?_ alln)
                        · refine XB_do rfl ?_
                          refine WL_buildH (t := (.int .i64)) (args := [.tmp 33]) (xs := ([x256] : List Int)) H469 (BltL.cons (Blt.int) rfl (BltL.nil)) u27 j3 rfl rfl rfl rfl (w_take rfl hc243) rfl (fun v470 w471 H472 => ?_)
                          have H473 : Holds (([] : List Res).flatMap Res.own) w w471 [.sl 3 (.int .i64) v470 ([x256]), .sl 3 (.int .i64) v466 x250, .sl 3 (.int .i64) v6 x2] G := H472
                          refine WL_nil fun a ha => ⟨rfl, (?_ : XB _ _ _ _ _ _ _ _) a ha⟩
                          refine XB_all [19] (by kernel_rfl) (by simp) (allc ?_ alln)
                          · refine XB_do rfl ?_
                            have H474 : Holds (([] : List Res).flatMap Res.own) w w471 [.sl 3 (.int .i64) v466 x250, .sl 3 (.int .i64) v470 ([x256]), .sl 3 (.int .i64) v6 x2] G := H473.pull 1
                            refine WL_appendH H474 (Has.c (Has.hd)) hx271 u27 j3 rfl rfl (w_take rfl hc243) rfl rfl rfl (fun v475 w476 H477 => ?_)
                            have H478 : Holds (([] : List Res).flatMap Res.own) w w476 [.sl 3 (.int .i64) v475 x270, .sl 3 (.int .i64) v470 ([x256]), .sl 3 (.int .i64) v6 x2] G := H477
                            refine WL_nil fun a ha => ⟨rfl, (?_ : XB _ _ _ _ _ _ _ _) a ha⟩
                            refine XB_all [20] (by kernel_rfl) (by simp) (allc ?_ alln)
                            · refine XB_do rfl ?_
                              refine WL_call (w_take rfl hc243) rfl c54 (w_impl_SeatsMany w476 ([.sl 3 (.int .i64) v475 x270, .sl 3 (.int .i64) v470 ([x256]), .sl 3 (.int .i64) v6 x2] ++ G) v475 x270 (Has.hd) x276 hx277 H478.ctx) (by rfl) ?_
                              rintro _ w479 ⟨rfl, H480⟩; refine ⟨_, rfl, ?_⟩
                              have H481 : Holds (([] : List Res).flatMap Res.own) w w479 [.sl 3 (.int .i64) v475 x270, .sl 3 (.int .i64) v470 ([x256]), .sl 3 (.int .i64) v6 x2] G := H478.calledN (Rs := []) H480
                              refine WL_nil fun a ha => ⟨rfl, (?_ : XB _ _ _ _ _ _ _ _) a ha⟩
                              refine XB_take (i := 22) rfl (by kernel_rfl) (by kernel_rfl) (by kernel_rfl) (w_take rfl hc243) (fun _ => qt_eql rfl rfl) rfl rfl ?_
                              refine XB_take (i := 23) rfl (by kernel_rfl) (by kernel_rfl) (by kernel_rfl) (w_take rfl hc225) (fun _ => qt_pickT rfl hc243 rfl) rfl rfl ?_
                              refine XB_take (i := 24) rfl (by kernel_rfl) (by kernel_rfl) (by kernel_rfl) rfl (fun _ => qt_pickF rfl hc225 rfl) rfl rfl ?_
                              refine XB_take (i := 25) rfl (by kernel_rfl) (by kernel_rfl) (by kernel_rfl) rfl (fun _ => qt_move rfl) rfl rfl ?_
                              refine XB_take (i := 26) rfl (by kernel_rfl) (by kernel_rfl) (by kernel_rfl) (w_take rfl hc281) (fun _ => qt_move rfl) rfl rfl ?_
                              refine XB_take (i := 27) rfl (by kernel_rfl) (by kernel_rfl) (by kernel_rfl) (w_take rfl hc281) (fun _ => qt_move rfl) rfl rfl ?_
                              refine XB_lenH (i := 28) rfl (by kernel_rfl) (by kernel_rfl) (by kernel_rfl) H481.ctx (t := (.int .i64)) (Has.c (Has.c (Has.hd))) u27 (w_take rfl hc281) rfl rfl ?_
                              refine XB_take (i := 29) rfl (by kernel_rfl) (by kernel_rfl) (by kernel_rfl) (w_take rfl hc281) (fun _ => qt_leq rfl rfl) rfl rfl ?_
                              refine XB_take (i := 30) rfl (by kernel_rfl) (by kernel_rfl) (by kernel_rfl) rfl (fun _ => qt_pickT rfl hc281 rfl) rfl rfl ?_
                              refine XB_take (i := 31) rfl (by kernel_rfl) (by kernel_rfl) (by kernel_rfl) rfl (fun _ => qt_move rfl) rfl rfl ?_
                              refine XB_skip (i := 32) rfl (by kernel_rfl) (by kernel_rfl) (by kernel_rfl) (w_skip rfl hc283) rfl rfl ?_
                              refine XB_take (i := 33) rfl (by kernel_rfl) (by kernel_rfl) (by kernel_rfl) rfl (fun _ => qt_pickF rfl hc283 rfl) rfl rfl ?_
                              refine XB_take (i := 34) rfl (by kernel_rfl) (by kernel_rfl) (by kernel_rfl) rfl (fun _ => qt_assign rfl) rfl rfl ?_
                              refine XB_done (by kernel_rfl) (fun a ha => ?_)
                              have H482 : Holds (([] : List Res).flatMap Res.own) w w479 [] G := (((H481.cut 0).cut 0).cut 0)
                              exact ⟨ha.sub ⟨rfl, trivial⟩, H482⟩
                      · refine XB_do rfl ?_
                        refine WL_buildH (t := (.int .i64)) (args := [.tmp 33]) (xs := ([x256] : List Int)) H442 (BltL.cons (Blt.int) rfl (BltL.nil)) u27 j3 rfl rfl rfl rfl (w_take rfl hc243) rfl (fun v483 w484 H485 => ?_)
                        have H486 : Holds (([] : List Res).flatMap Res.own) w w484 [.sl 3 (.int .i64) v483 ([x256]), .sl 3 (.int .i64) v439 ([]), .sl 3 (.int .i64) v6 x2] G := H485
                        refine WL_nil fun a ha => ⟨rfl, (?_ : XB _ _ _ _ _ _ _ _) a ha⟩
                        refine XB_all [14] (by kernel_rfl) (by simp) (allc ?_ alln)
                        · refine XB_do rfl ?_
                          have H487 : Holds (([] : List Res).flatMap Res.own) w w484 [.sl 3 (.int .i64) v439 ([]), .sl 3 (.int .i64) v483 ([x256]), .sl 3 (.int .i64) v6 x2] G := H486.pull 1
                          refine WL_appendH H487 (Has.c (Has.c (Has.hd))) hx251 u27 j3 rfl rfl (w_take rfl hc243) rfl rfl rfl (fun v488 w489 H490 => ?_)
                          have H491 : Holds (([] : List Res).flatMap Res.own) w w489 [.sl 3 (.int .i64) v488 x250, .sl 3 (.int .i64) v483 ([x256]), .sl 3 (.int .i64) v6 x2] G := H490
                          refine WL_nil fun a ha => ⟨rfl, (?_ : XB _ _ _ _ _ _ _ _) a ha⟩
                          refine XB_all [19] (by kernel_rfl) (by simp) (allc ?_ alln)
                          · refine XB_do rfl ?_
                            refine WL_appendH H491 (Has.c (Has.hd)) hx271 u27 j3 rfl rfl (w_take rfl hc243) rfl rfl rfl (fun v492 w493 H494 => ?_)
                            have H495 : Holds (([] : List Res).flatMap Res.own) w w493 [.sl 3 (.int .i64) v492 x270, .sl 3 (.int .i64) v483 ([x256]), .sl 3 (.int .i64) v6 x2] G := H494
                            refine WL_nil fun a ha => ⟨rfl, (?_ : XB _ _ _ _ _ _ _ _) a ha⟩
                            refine XB_all [20] (by kernel_rfl) (by simp) (allc ?_ alln)
                            · refine XB_do rfl ?_
                              refine WL_call (w_take rfl hc243) rfl c54 (w_impl_SeatsMany w493 ([.sl 3 (.int .i64) v492 x270, .sl 3 (.int .i64) v483 ([x256]), .sl 3 (.int .i64) v6 x2] ++ G) v492 x270 (Has.hd) x276 hx277 H495.ctx) (by rfl) ?_
                              rintro _ w496 ⟨rfl, H497⟩; refine ⟨_, rfl, ?_⟩
                              have H498 : Holds (([] : List Res).flatMap Res.own) w w496 [.sl 3 (.int .i64) v492 x270, .sl 3 (.int .i64) v483 ([x256]), .sl 3 (.int .i64) v6 x2] G := H495.calledN (Rs := []) H497
                              refine WL_nil fun a ha => ⟨rfl, (?_ : XB _ _ _ _ _ _ _ _) a ha⟩
                              refine XB_take (i := 22) rfl (by kernel_rfl) (by kernel_rfl) (by kernel_rfl) (w_take rfl hc243) (fun _ => qt_eql rfl rfl) rfl rfl ?_
                              refine XB_take (i := 23) rfl (by kernel_rfl) (by kernel_rfl) (by kernel_rfl) (w_take rfl hc225) (fun _ => qt_pickT rfl hc243 rfl) rfl rfl ?_
                              refine XB_take (i := 24) rfl (by kernel_rfl) (by kernel_rfl) (by kernel_rfl) rfl (fun _ => qt_pickF rfl hc225 rfl) rfl rfl ?_
                              refine XB_take (i := 25) rfl (by kernel_rfl) (by kernel_rfl) (by kernel_rfl) rfl (fun _ => qt_move rfl) rfl rfl ?_
                              refine XB_take (i := 26) rfl (by kernel_rfl) (by kernel_rfl) (by kernel_rfl) (w_take rfl hc281) (fun _ => qt_move rfl) rfl rfl ?_
                              refine XB_take (i := 27) rfl (by kernel_rfl) (by kernel_rfl) (by kernel_rfl) (w_take rfl hc281) (fun _ => qt_move rfl) rfl rfl ?_
                              refine XB_lenH (i := 28) rfl (by kernel_rfl) (by kernel_rfl) (by kernel_rfl) H498.ctx (t := (.int .i64)) (Has.c (Has.c (Has.hd))) u27 (w_take rfl hc281) rfl rfl ?_
                              refine XB_take (i := 29) rfl (by kernel_rfl) (by kernel_rfl) (by kernel_rfl) (w_take rfl hc281) (fun _ => qt_leq rfl rfl) rfl rfl ?_
                              refine XB_take (i := 30) rfl (by kernel_rfl) (by kernel_rfl) (by kernel_rfl) rfl (fun _ => qt_pickT rfl hc281 rfl) rfl rfl ?_
                              refine XB_take (i := 31) rfl (by kernel_rfl) (by kernel_rfl) (by kernel_rfl) rfl (fun _ => qt_move rfl) rfl rfl ?_
                              refine XB_skip (i := 32) rfl (by kernel_rfl) (by kernel_rfl) (by kernel_rfl) (w_skip rfl hc283) rfl rfl ?_
                              refine XB_take (i := 33) rfl (by kernel_rfl) (by kernel_rfl) (by kernel_rfl) rfl (fun _ => qt_pickF rfl hc283 rfl) rfl rfl ?_
                              refine XB_take (i := 34) rfl (by kernel_rfl) (by kernel_rfl) (by kernel_rfl) rfl (fun _ => qt_assign rfl) rfl rfl ?_
                              refine XB_done (by kernel_rfl) (fun a ha => ?_)
                              have H499 : Holds (([] : List Res).flatMap Res.own) w w496 [] G := (((H498.cut 0).cut 0).cut 0)
                              exact ⟨ha.sub ⟨rfl, trivial⟩, H499⟩
                  · refine XB_do rfl ?_
                    obtain ⟨F500, hat501, hdup502⟩ := H222.at (Has.hd) hx257 hv438
                    refine XL_load_int (k := .i64) u3 rfl hat501 (w_take rfl hc243) rfl rfl ?_
                    refine WL_nil fun a ha => ⟨rfl, (?_ : XB _ _ _ _ _ _ _ _) a ha⟩
                    refine XB_all [12, 18] (by kernel_rfl) (by simp) (allc ?_ (allc ?_ alln))
                    · refine XB_do rfl ?_
                      refine WL_buildH (t := (.int .i64)) (args := []) (xs := ([] : List Int)) H222 (BltL.nil) u27 j3 rfl rfl rfl rfl (w_take rfl hc243) rfl (fun v503 w504 H505 => ?_)
                      have H506 : Holds (([] : List Res).flatMap Res.own) w w504 [.sl 3 (.int .i64) v503 ([]), .sl 3 (.int .i64) v6 x2] G := H505
                      refine WL_nil fun a ha => ⟨rfl, (?_ : XB _ _ _ _ _ _ _ _) a ha⟩
                      refine XB_all [14, 18] (by kernel_rfl) (by simp) (allc ?_ (allc ?_ alln))
                      · refine XB_do rfl ?_
                        refine WL_appendH H506 (Has.c (Has.hd)) hx251 u27 j3 rfl rfl (w_take rfl hc243) rfl rfl rfl (fun v507 w508 H509 => ?_)
                        have H510 : Holds (([] : List Res).flatMap Res.own) w w508 [.sl 3 (.int .i64) v507 x250, .sl 3 (.int .i64) v6 x2] G := H509
                        refine WL_nil fun a ha => ⟨rfl, (?_ : XB _ _ _ _ _ _ _ _) a ha⟩
                        refine XB_all [18] (by kernel_rfl) (by simp) (allc ?_ alln)
                        · refine XB_do rfl ?_
                          refine WL_buildH (t := (.int .i64)) (args := [.tmp 33]) (xs := ([x256] : List Int)) H510 (BltL.cons (Blt.int) rfl (BltL.nil)) u27 j3 rfl rfl rfl rfl (w_take rfl hc243) rfl (fun v511 w512 H513 => ?_)
                          have H514 : Holds (([] : List Res).flatMap Res.own) w w512 [.sl 3 (.int .i64) v511 ([x256]), .sl 3 (.int .i64) v507 x250, .sl 3 (.int .i64) v6 x2] G := H513
                          refine WL_nil fun a ha => ⟨rfl, (?_ : XB _ _ _ _ _ _ _ _) a ha⟩
                          refine XB_all [19] (by kernel_rfl) (by simp) (allc ?_ alln)
                          · refine XB_do rfl ?_
                            have H515 : Holds (([] : List Res).flatMap Res.own) w w512 [.sl 3 (.int .i64) v507 x250, .sl 3 (.int .i64) v511 ([x256]), .sl 3 (.int .i64) v6 x2] G := H514.pull 1
                            refine WL_appendH H515 (Has.c (Has.hd)) hx271 u27 j3 rfl rfl (w_take rfl hc243) rfl rfl rfl (fun v516 w517 H518 => ?_)
                            have H519 : Holds (([] : List Res).flatMap Res.own) w w517 [.sl 3 (.int .i64) v516 x270, .sl 3 (.int .i64) v511 ([x256]), .sl 3 (.int .i64) v6 x2] G := H518
                            refine WL_nil fun a ha => ⟨rfl, (?_ : XB _ _ _ _ _ _ _ _) a ha⟩
                            refine XB_all [20] (by kernel_rfl) (by simp) (allc ?_ alln)
                            · refine XB_do rfl ?_
                              refine WL_call (w_take rfl hc243) rfl c54 (w_impl_SeatsMany w517 ([.sl 3 (.int .i64) v516 x270, .sl 3 (.int .i64) v511 ([x256]), .sl 3 (.int .i64) v6 x2] ++ G) v516 x270 (Has.hd) x276 hx277 H519.ctx) (by rfl) ?_
                              rintro _ w520 ⟨rfl, H521⟩; refine ⟨_, rfl, ?_⟩
                              have H522 : Holds (([] : List Res).flatMap Res.own) w w520 [.sl 3 (.int .i64) v516 x270, .sl 3 (.int .i64) v511 ([x256]), .sl 3 (.int .i64) v6 x2] G := H519.calledN (Rs := []) H521
                              refine WL_nil fun a ha => ⟨rfl, (?_ : XB _ _ _ _ _ _ _ _) a ha⟩
                              refine XB_take (i := 22) rfl (by kernel_rfl) (by kernel_rfl) (by kernel_rfl) (w_take rfl hc243) (fun _ => qt_eql rfl rfl) rfl rfl ?_
                              refine XB_take (i := 23) rfl (by kernel_rfl) (by kernel_rfl) (by kernel_rfl) (w_take rfl hc225) (fun _ => qt_pickT rfl hc243 rfl) rfl rfl ?_
                              refine XB_take (i := 24) rfl (by kernel_rfl) (by kernel_rfl) (by kernel_rfl) rfl (fun _ => qt_pickF rfl hc225 rfl) rfl rfl ?_
                              refine XB_take (i := 25) rfl (by kernel_rfl) (by kernel_rfl) (by kernel_rfl) rfl (fun _ => qt_move rfl) rfl rfl ?_
                              refine XB_take (i := 26) rfl (by kernel_rfl) (by kernel_rfl) (by kernel_rfl) (w_take rfl hc281) (fun _ => qt_move rfl) rfl rfl ?_
                              refine XB_take (i := 27) rfl (by kernel_rfl) (by kernel_rfl) (by kernel_rfl) (w_take rfl hc281) (fun _ => qt_move rfl) rfl rfl ?_
                              refine XB_lenH (i := 28) rfl (by kernel_rfl) (by kernel_rfl) (by kernel_rfl) H522.ctx (t := (.int .i64)) (Has.c (Has.c (Has.hd))) u27 (w_take rfl hc281) rfl rfl ?_
                              refine XB_take (i := 29) rfl (by kernel_rfl) (by kernel_rfl) (by kernel_rfl) (w_take rfl hc281) (fun _ => qt_leq rfl rfl) rfl rfl ?_
                              refine XB_take (i := 30) rfl (by kernel_rfl) (by kernel_rfl) (by kernel_rfl) rfl (fun _ => qt_pickT rfl hc281 rfl) rfl rfl ?_
                              refine XB_take (i := 31) rfl (by kernel_rfl) (by kernel_rfl) (by kernel_rfl) rfl (fun _ => qt_move rfl) rfl rfl ?_
                              refine XB_skip (i := 32) rfl (by kernel_rfl) (by kernel_rfl) (by kernel_rfl) (w_skip rfl hc283) rfl rfl ?_
                              refine XB_take (i := 33) rfl (by kernel_rfl) (by kernel_rfl) (by kernel_rfl) rfl (fun _ => qt_pickF rfl hc283 rfl) rfl rfl ?_
                              refine XB_take (i := 34) rfl (by kernel_rfl) (by kernel_rfl) (by kernel_rfl) rfl (fun _ => qt_assign rfl) rfl rfl ?_
                              refine XB_done (by kernel_rfl) (fun a ha => ?_)
                              have H523 : Holds (([] : List Res).flatMap Res.own) w w520 [] G := (((H522.cut 0).cut 0).cut 0)
                              exact ⟨ha.sub ⟨rfl, trivial⟩, H523⟩
                      · refine XB_do rfl ?_
                        refine WL_buildH (t := (.int .i64)) (args := [.tmp 33]) (xs := ([x256] : List Int)) H506 (BltL.cons (Blt.int) rfl (BltL.nil)) u27 j3 rfl rfl rfl rfl (w_take rfl hc243) rfl (fun v524 w525 H526 => ?_)
                        have H527 : Holds (([] : List Res).flatMap Res.own) w w525 [.sl 3 (.int .i64) v524 ([x256]), .sl 3 (.int .i64) v503 ([]), .sl 3 (.int .i64) v6 x2] G := H526
                        refine WL_nil fun a ha => ⟨rfl, (?_ : XB _ _ _ _ _ _ _ _) a ha⟩
                        refine XB_all [14] (by kernel_rfl) (by simp) (allc ?_ alln)
                        · refine XB_do rfl ?_
                          have H528 : Holds (([] : List Res).flatMap Res.own) w w525 [.sl 3 (.int .i64) v503 ([]), .sl 3 (.int .i64) v524 ([x256]), .sl 3 (.int .i64) v6 x2] G := H527.pull 1
                          refine WL_appendH H528 (Has.c (Has.c (Has.hd))) hx251 u27 j3 rfl rfl (w_take rfl hc243) rfl rfl rfl (fun v529 w530 H531 => ?_)
                          have H532 : Holds (([] : List Res).flatMap Res.own) w w530 [.sl 3 (.int .i64) v529 x250, .sl 3 (.int .i64) v524 ([x256]), .sl 3 (.int .i64) v6 x2] G := H531
                          refine WL_nil fun a ha => ⟨rfl, (?_ : XB _ _ _ _ _ _ _ _) a ha⟩
                          refine XB_all [19] (by kernel_rfl) (by simp) (allc ?_ alln)
                          · refine XB_do rfl ?_
                            refine WL_appendH H532 (Has.c (Has.hd)) hx271 u27 j3 rfl rfl (w_take rfl hc243) rfl rfl rfl (fun v533 w534 H535 => ?_)
                            have H536 : Holds (([] : List Res).flatMap Res.own) w w534 [.sl 3 (.int .i64) v533 x270, .sl 3 (.int .i64) v524 ([x256]), .sl 3 (.int .i64) v6 x2] G := H535
                            refine WL_nil fun a ha => ⟨rfl, (?_ : XB _ _ _ _ _ _ _ _) a ha⟩
                            refine XB_all [20] (by kernel_rfl) (by simp) (allc ?_ alln)
                            · refine XB_do rfl ?_
                              refine WL_call (w_take rfl hc243) rfl c54 (w_impl_SeatsMany w534 ([.sl 3 (.int .i64) v533 x270, .sl 3 (.int .i64) v524 ([x256]), .sl 3 (.int .i64) v6 x2] ++ G) v533 x270 (Has.hd) x276 hx277 H536.ctx) (by rfl) ?_
                              rintro _ w537 ⟨rfl, H538⟩; refine ⟨_, rfl, ?_⟩
                              have H539 : Holds (([] : List Res).flatMap Res.own) w w537 [.sl 3 (.int .i64) v533 x270, .sl 3 (.int .i64) v524 ([x256]), .sl 3 (.int .i64) v6 x2] G := H536.calledN (Rs := []) H538
                              refine WL_nil fun a ha => ⟨rfl, (?_ : XB _ _ _ _ _ _ _ _) a ha⟩
                              refine XB_take (i := 22) rfl (by kernel_rfl) (by kernel_rfl) (by kernel_rfl) (w_take rfl hc243) (fun _ => qt_eql rfl rfl) rfl rfl ?_
                              refine XB_take (i := 23) rfl (by kernel_rfl) (by kernel_rfl) (by kernel_rfl) (w_take rfl hc225) (fun _ => qt_pickT rfl hc243 rfl) rfl rfl ?_
                              refine XB_take (i := 24) rfl (by kernel_rfl) (by kernel_rfl) (by kernel_rfl) rfl (fun _ => qt_pickF rfl hc225 rfl) rfl rfl ?_
                              refine XB_take (i := 25) rfl (by kernel_rfl) (by kernel_rfl) (by kernel_rfl) rfl (fun _ => qt_move rfl) rfl rfl ?_
                              refine XB_take (i := 26) rfl (by kernel_rfl) (by kernel_rfl) (by kernel_rfl) (w_take rfl hc281) (fun _ => qt_move rfl) rfl rfl ?_
                              refine XB_take (i := 27) rfl (by kernel_rfl) (by kernel_rfl) (by kernel_rfl) (w_take rfl hc281) (fun _ => qt_move rfl) rfl rfl ?_
                              refine XB_lenH (i := 28) rfl (by kernel_rfl) (by kernel_rfl) (by kernel_rfl) H539.ctx (t := (.int .i64)) (Has.c (Has.c (Has.hd))) u27 (w_take rfl hc281) rfl rfl ?_
                              refine XB_take (i := 29) rfl (by kernel_rfl) (by kernel_rfl) (by kernel_rfl) (w_take rfl hc281) (fun _ => qt_leq rfl rfl) rfl rfl ?_
                              refine XB_take (i := 30) rfl (by kernel_rfl) (by kernel_rfl) (by kernel_rfl) rfl (fun _ => qt_pickT rfl hc281 rfl) rfl rfl ?_
                              refine XB_take (i := 31) rfl (by kernel_rfl) (by kernel_rfl) (by kernel_rfl) rfl (fun _ => qt_move rfl) rfl rfl ?_
                              refine XB_skip (i := 32) rfl (by kernel_rfl) (by kernel_rfl) (by kernel_rfl) (w_skip rfl hc283) rfl rfl ?_
                              refine XB_take (i := 33) rfl (by kernel_rfl) (by kernel_rfl) (by kernel_rfl) rfl (fun _ => qt_pickF rfl hc283 rfl) rfl rfl ?_
                              refine XB_take (i := 34) rfl (by kernel_rfl) (by kernel_rfl) (by kernel_rfl) rfl (fun _ => qt_assign rfl) rfl rfl ?_
                              refine XB_done (by kernel_rfl) (fun a ha => ?_)
                              have H540 : Holds (([] : List Res).flatMap Res.own) w w537 [] G := (((H539.cut 0).cut 0).cut 0)
                              exact ⟨ha.sub ⟨rfl, trivial⟩, H540⟩
                    · refine XB_do rfl ?_
                      refine WL_buildH (t := (.int .i64)) (args := [.tmp 33]) (xs := ([x256] : List Int)) H222 (BltL.cons (Blt.int) rfl (BltL.nil)) u27 j3 rfl rfl rfl rfl (w_take rfl hc243) rfl (fun v541 w542 H543 => ?_)
                      have H544 : Holds (([] : List Res).flatMap Res.own) w w542 [.sl 3 (.int .i64) v541 ([x256]), .sl 3 (.int .i64) v6 x2] G := H543
                      refine WL_nil fun a ha => ⟨rfl, (?_ : XB _ _ _ _ _ _ _ _) a ha⟩
                      refine XB_all [12] (by kernel_rfl) (by simp) (allc ?_ alln)
                      · refine XB_do rfl ?_
                        refine WL_buildH (t := (.int .i64)) (args := []) (xs := ([] : List Int)) H544 (BltL.nil) u27 j3 rfl rfl rfl rfl (w_take rfl hc243) rfl (fun v545 w546 H547 => ?_)
                        have H548 : Holds (([] : List Res).flatMap Res.own) w w546 [.sl 3 (.int .i64) v545 ([]), .sl 3 (.int .i64) v541 ([x256]), .sl 3 (.int .i64) v6 x2] G := H547
                        refine WL_nil fun a ha => ⟨rfl, (?_ : XB _ _ _ _ _ _ _ _) a ha⟩
                        refine XB_all [14] (by kernel_rfl) (by simp) (allc ?_ alln)
                        · refine XB_do rfl ?_
                          refine WL_appendH H548 (Has.c (Has.c (Has.hd))) hx251 u27 j3 rfl rfl (w_take rfl hc243) rfl rfl rfl (fun v549 w550 H551 => ?_)
                          have H552 : Holds (([] : List Res).flatMap Res.own) w w550 [.sl 3 (.int .i64) v549 x250, .sl 3 (.int .i64) v541 ([x256]), .sl 3 (.int .i64) v6 x2] G := H551
                          refine WL_nil fun a ha => ⟨rfl, (?_ : XB _ _ _ _ _ _ _ _) a ha⟩
                          refine XB_all [19] (by kernel_rfl) (by simp) (allc ?_ alln)
                          · refine XB_do rfl ?_
                            refine WL_appendH H552 (Has.c (Has.hd)) hx271 u27 j3 rfl rfl (w_take rfl hc243) rfl rfl rfl (fun v553 w554 H555 => ?_)
                            have H556 : Holds (([] : List Res).flatMap Res.own) w w554 [.sl 3 (.int .i64) v553 x270, .sl 3 (.int .i64) v541 ([x256]), .sl 3 (.int .i64) v6 x2] G := H555
                            refine WL_nil fun a ha => ⟨rfl, (?_ : XB _ _ _ _ _ _ _ _) a ha⟩
                            refine XB_all [20] (by kernel_rfl) (by simp) (allc ?_ alln)
                            · refine XB_do rfl ?_
                              refine WL_call (w_take rfl hc243) rfl c54 (w_impl_SeatsMany w554 ([.sl 3 (.int .i64) v553 x270, .sl 3 (.int .i64) v541 ([x256]), .sl 3 (.int .i64) v6 x2] ++ G) v553 x270 (Has.hd) x276 hx277 H556.ctx) (by rfl) ?_
                              rintro _ w557 ⟨rfl, H558⟩; refine ⟨_, rfl, ?_⟩
                              have H559 : Holds (([] : List Res).flatMap Res.own) w w557 [.sl 3 (.int .i64) v553 x270, .sl 3 (.int .i64) v541 ([x256]), .sl 3 (.int .i64) v6 x2] G := H556.calledN (Rs := []) H558
                              refine WL_nil fun a ha => ⟨rfl, (?_ : XB _ _ _ _ _ _ _ _) a ha⟩
                              refine XB_take (i := 22) rfl (by kernel_rfl) (by kernel_rfl) (by kernel_rfl) (w_take rfl hc243) (fun _ => qt_eql rfl rfl) rfl rfl ?_
                              refine XB_take (i := 23) rfl (by kernel_rfl) (by kernel_rfl) (by kernel_rfl) (w_take rfl hc225) (fun _ => qt_pickT rfl hc243 rfl) rfl rfl ?_
                              refine XB_take (i := 24) rfl (by kernel_rfl) (by kernel_rfl) (by kernel_rfl) rfl (fun _ => qt_pickF rfl hc225 rfl) rfl rfl ?_
                              refine XB_take (i := 25) rfl (by kernel_rfl) (by kernel_rfl) (by kernel_rfl) rfl (fun _ => qt_move rfl) rfl rfl ?_
                              refine XB_take (i := 26) rfl (by kernel_rfl) (by kernel_rfl) (by kernel_rfl) (w_take rfl hc281) (fun _ => qt_move rfl) rfl rfl ?_
                              refine XB_take (i := 27) rfl (by kernel_rfl) (by kernel_rfl) (by kernel_rfl) (w_take rfl hc281) (fun _ => qt_move rfl) rfl rfl ?_
                              refine XB_lenH (i := 28) rfl (by kernel_rfl) (by kernel_rfl) (by kernel_rfl) H559.ctx (t := (.int .i64)) (Has.c (Has.c (Has.hd))) u27 (w_take rfl hc281) rfl rfl ?_
                              refine XB_take (i := 29) rfl (by kernel_rfl) (by kernel_rfl) (by kernel_rfl) (w_take rfl hc281) (fun _ => qt_leq rfl rfl) rfl rfl ?_
                              refine XB_take (i := 30) rfl (by kernel_rfl) (by kernel_rfl) (by kernel_rfl) rfl (fun _ => qt_pickT rfl hc281 rfl) rfl rfl ?_
                              refine XB_take (i := 31) rfl (by kernel_rfl) (by kernel_rfl) (by kernel_rfl) rfl (fun _ => qt_move rfl) rfl rfl ?_
                              refine XB_skip (i := 32) rfl (by kernel_rfl) (by kernel_rfl) (by kernel_rfl) (w_skip rfl hc283) rfl rfl ?_
                              refine XB_take (i := 33) rfl (by kernel_rfl) (by kernel_rfl) (by kernel_rfl) rfl (fun _ => qt_pickF rfl hc283 rfl) rfl rfl ?_
                              refine XB_take (i := 34) rfl (by kernel_rfl) (by kernel_rfl) (by kernel_rfl) rfl (fun _ => qt_assign rfl) rfl rfl ?_
                              refine XB_done (by kernel_rfl) (fun a ha => ?_)
                              have H560 : Holds (([] : List Res).flatMap Res.own) w w557 [] G := (((H559.cut 0).cut 0).cut 0)
                              exact ⟨ha.sub ⟨rfl, trivial⟩, H560⟩
              · skip
                have ho561 := if_f hc281 hob58
                obtain rfl := Option.some.inj ho561
                have hc562 : false = false := rfl
                have ho563 := if_f hc562 hob64
                obtain rfl := Option.some.inj ho563
                refine XB_take (i := 0) rfl (by kernel_rfl) (by kernel_rfl) (by kernel_rfl) rfl (fun _ => qt_move rfl) rfl rfl ?_
                refine XB_lenH (i := 1) rfl (by kernel_rfl) (by kernel_rfl) (by kernel_rfl) H222.ctx (t := (.int .i64)) (Has.hd) u27 rfl rfl rfl ?_
                refine XB_take (i := 2) rfl (by kernel_rfl) (by kernel_rfl) (by kernel_rfl) rfl (fun _ => qt_eql rfl rfl) rfl rfl ?_
                refine XB_take (i := 3) rfl (by kernel_rfl) (by kernel_rfl) (by kernel_rfl) rfl (fun _ => qt_move rfl) rfl rfl ?_
                refine XB_take (i := 4) rfl (by kernel_rfl) (by kernel_rfl) (by kernel_rfl) (w_take rfl hc223) (fun _ => qt_move rfl) rfl rfl ?_
                refine XB_take (i := 5) rfl (by kernel_rfl) (by kernel_rfl) (by kernel_rfl) (w_take rfl hc223) (fun _ => qt_eql rfl rfl) rfl rfl ?_
                refine XB_take (i := 6) rfl (by kernel_rfl) (by kernel_rfl) (by kernel_rfl) rfl (fun _ => qt_pickT rfl hc223 rfl) rfl rfl ?_
                refine XB_take (i := 7) rfl (by kernel_rfl) (by kernel_rfl) (by kernel_rfl) rfl (fun _ => qt_move rfl) rfl rfl ?_
                refine XB_take (i := 8) rfl (by kernel_rfl) (by kernel_rfl) (by kernel_rfl) (w_take rfl hc225) (fun _ => qt_move rfl) rfl rfl ?_
                refine XB_lenH (i := 9) rfl (by kernel_rfl) (by kernel_rfl) (by kernel_rfl) H222.ctx (t := (.int .i64)) (Has.hd) u27 (w_take rfl hc225) rfl rfl ?_
                refine XB_take (i := 10) rfl (by kernel_rfl) (by kernel_rfl) (by kernel_rfl) (w_take rfl hc225) (fun _ => qt_gtr rfl rfl) rfl rfl ?_
                refine XB_take (i := 11) rfl (by kernel_rfl) (by kernel_rfl) (by kernel_rfl) (w_take rfl hc225) (fun _ => qt_move rfl) rfl rfl ?_
                refine XB_take (i := 13) rfl (by kernel_rfl) (by kernel_rfl) (by kernel_rfl) (w_take rfl hc243) (fun _ => qt_move rfl) rfl rfl ?_
                refine XB_take (i := 15) rfl (by kernel_rfl) (by kernel_rfl) (by kernel_rfl) (w_take rfl hc243) (fun _ => qt_move rfl) rfl rfl ?_
                refine XB_indexH (i := 16) rfl (by kernel_rfl) (by kernel_rfl) (by kernel_rfl) H222.ctx (Has.hd) hx257 u27 i3 (w_take rfl hc243) rfl rfl rfl (fun b564 off565 cap566 hv567 => ?_)
                refine XB_take (i := 21) rfl (by kernel_rfl) (by kernel_rfl) (by kernel_rfl) (w_take rfl hc243) (fun _ => qt_move rfl) rfl rfl ?_
                refine XB_all [12, 17] (by kernel_rfl) (by simp) (allc ?_ (allc ?_ alln))
                · refine XB_do rfl ?_
                  refine WL_buildH (t := (.int .i64)) (args := []) (xs := ([] : List Int)) H222 (BltL.nil) u27 j3 rfl rfl rfl rfl (w_take rfl hc243) rfl (fun v568 w569 H570 => ?_)
                  have H571 : Holds (([] : List Res).flatMap Res.own) w w569 [.sl 3 (.int .i64) v568 ([]), .sl 3 (.int .i64) v6 x2] G := H570
                  refine WL_nil fun a ha => ⟨rfl, (?_ : XB _ _ _ _ _ _ _ _) a ha⟩
                  refine XB_all [14, 17] (by kernel_rfl) (by simp) (allc ?_ (allc ?_ alln))
                  · refine XB_do rfl ?_
                    refine WL_appendH H571 (Has.c (Has.hd)) hx251 u27 j3 rfl rfl (w_take rfl hc243) rfl rfl rfl (fun v572 w573 H574 => ?_)
                    have H575 : Holds (([] : List Res).flatMap Res.own) w w573 [.sl 3 (.int .i64) v572 x250, .sl 3 (.int .i64) v6 x2] G := H574
                    refine WL_nil fun a ha => ⟨rfl, (?_ : XB _ _ _ _ _ _ _ _) a ha⟩
                    refine XB_all [17] (by kernel_rfl) (by simp) (allc ?_ alln)
                    · refine XB_do rfl ?_
                      obtain ⟨F576, hat577, hdup578⟩ := H575.at (Has.c (Has.hd)) hx257 hv567
                      refine XL_load_int (k := .i64) u3 rfl hat577 (w_take rfl hc243) rfl rfl ?_
                      refine WL_nil fun a ha => ⟨rfl, (?_ : XB _ _ _ _ _ _ _ _) a ha⟩
                      refine XB_all [18] (by kernel_rfl) (by simp) (allc ?_ alln)
                      · refine XB_do rfl ?_
                        refine WL_buildH (t := (.int .i64)) (args := [.tmp 33]) (xs := ([x256] : List Int)) H575 (BltL.cons (Blt.int) rfl (BltL.nil)) u27 j3 rfl rfl rfl rfl (w_take rfl hc243) rfl (fun v579 w580 H581 => ?_)
                        have H582 : Holds (([] : List Res).flatMap Res.own) w w580 [.sl 3 (.int .i64) v579 ([x256]), .sl 3 (.int .i64) v572 x250, .sl 3 (.int .i64) v6 x2] G := H581
                        refine WL_nil fun a ha => ⟨rfl, (?_ : XB _ _ _ _ _ _ _ _) a ha⟩
                        refine XB_all [19] (by kernel_rfl) (by simp) (allc ?_ alln)
                        · refine XB_do rfl ?_
                          have H583 : Holds (([] : List Res).flatMap Res.own) w w580 [.sl 3 (.int .i64) v572 x250, .sl 3 (.int .i64) v579 ([x256]), .sl 3 (.int .i64) v6 x2] G := H582.pull 1
                          refine WL_appendH H583 (Has.c (Has.hd)) hx271 u27 j3 rfl rfl (w_take rfl hc243) rfl rfl rfl (fun v584 w585 H586 => ?_)
                          have H587 : Holds (([] : List Res).flatMap Res.own) w w585 [.sl 3 (.int .i64) v584 x270, .sl 3 (.int .i64) v579 ([x256]), .sl 3 (.int .i64) v6 x2] G := H586
                          refine WL_nil fun a ha => ⟨rfl, (?_ : XB _ _ _ _ _ _ _ _) a ha⟩
                          refine XB_all [20] (by kernel_rfl) (by simp) (allc ?_ alln)
                          · refine XB_do rfl ?_
                            refine WL_call (w_take rfl hc243) rfl c54 (w_impl_SeatsMany w585 ([.sl 3 (.int .i64) v584 x270, .sl 3 (.int .i64) v579 ([x256]), .sl 3 (.int .i64) v6 x2] ++ G) v584 x270 (Has.hd) x276 hx277 H587.ctx) (by rfl) ?_
                            rintro _ w588 ⟨rfl, H589⟩; refine ⟨_, rfl, ?_⟩
                            have H590 : Holds (([] : List Res).flatMap Res.own) w w588 [.sl 3 (.int .i64) v584 x270, .sl 3 (.int .i64) v579 ([x256]), .sl 3 (.int .i64) v6 x2] G := H587.calledN (Rs := []) H589
                            refine WL_nil fun a ha => ⟨rfl, (?_ : XB _ _ _ _ _ _ _ _) a ha⟩
                            refine XB_take (i := 22) rfl (by kernel_rfl) (by kernel_rfl) (by kernel_rfl) (w_take rfl hc243) (fun _ => qt_eql rfl rfl) rfl rfl ?_
                            refine XB_take (i := 23) rfl (by kernel_rfl) (by kernel_rfl) (by kernel_rfl) (w_take rfl hc225) (fun _ => qt_pickT rfl hc243 rfl) rfl rfl ?_
                            refine XB_take (i := 24) rfl (by kernel_rfl) (by kernel_rfl) (by kernel_rfl) rfl (fun _ => qt_pickF rfl hc225 rfl) rfl rfl ?_
                            refine XB_take (i := 25) rfl (by kernel_rfl) (by kernel_rfl) (by kernel_rfl) rfl (fun _ => qt_move rfl) rfl rfl ?_
                            refine XB_skip (i := 26) rfl (by kernel_rfl) (by kernel_rfl) (by kernel_rfl) (w_skip rfl hc281) rfl rfl ?_
                            refine XB_skip (i := 27) rfl (by kernel_rfl) (by kernel_rfl) (by kernel_rfl) (w_skip rfl hc281) rfl rfl ?_
                            refine XB_skip (i := 28) rfl (by kernel_rfl) (by kernel_rfl) (by kernel_rfl) (w_skip rfl hc281) rfl rfl ?_
                            refine XB_skip (i := 29) rfl (by kernel_rfl) (by kernel_rfl) (by kernel_rfl) (w_skip rfl hc281) rfl rfl ?_
                            refine XB_take (i := 30) rfl (by kernel_rfl) (by kernel_rfl) (by kernel_rfl) rfl (fun _ => qt_pickF rfl hc281 rfl) rfl rfl ?_
                            refine XB_take (i := 31) rfl (by kernel_rfl) (by kernel_rfl) (by kernel_rfl) rfl (fun _ => qt_move rfl) rfl rfl ?_
                            refine XB_skip (i := 32) rfl (by kernel_rfl) (by kernel_rfl) (by kernel_rfl) (w_skip rfl hc562) rfl rfl ?_
                            refine XB_take (i := 33) rfl (by kernel_rfl) (by kernel_rfl) (by kernel_rfl) rfl (fun _ => qt_pickF rfl hc562 rfl) rfl rfl ?_
                            refine XB_take (i := 34) rfl (by kernel_rfl) (by kernel_rfl) (by kernel_rfl) rfl (fun _ => qt_assign rfl) rfl rfl ?_
                            refine XB_done (by kernel_rfl) (fun a ha => ?_)
                            have H591 : Holds (([] : List Res).flatMap Res.own) w w588 [] G := (((H590.cut 0).cut 0).cut 0)
                            exact ⟨ha.sub ⟨rfl, trivial⟩, H591⟩
                  · refine XB_do rfl ?_
                    obtain ⟨F592, hat593, hdup594⟩ := H571.at (Has.c (Has.hd)) hx257 hv567
                    refine XL_load_int (k := .i64) u3 rfl hat593 (w_take rfl hc243) rfl rfl ?_
                    refine WL_nil fun a ha => ⟨rfl, (?_ : XB _ _ _ _ _ _ _ _) a ha⟩
                    refine XB_all [14, 18] (by kernel_rfl) (by simp) (allc ?_ (allc ?_ alln))
                    · refine XB_do rfl ?_
                      refine WL_appendH H571 (Has.c (Has.hd)) hx251 u27 j3 rfl rfl (w_take rfl hc243) rfl rfl rfl (fun v595 w596 H597 => ?_)
                      have H598 : Holds (([] : List Res).flatMap Res.own) w w596 [.sl 3 (.int .i64) v595 x250, .sl 3 (.int .i64) v6 x2] G := H597
                      refine WL_nil fun a ha => ⟨rfl, (?_ : XB _ _ _ _ _ _ _ _) a ha⟩
                      refine XB_all [18] (by kernel_rfl) (by simp) (allc ?_ alln)
                      · refine XB_do rfl ?_
                        refine WL_buildH (t := (.int .i64)) (args := [.tmp 33]) (xs := ([x256] : List Int)) H598 (BltL.cons (Blt.int) rfl (BltL.nil)) u27 j3 rfl rfl rfl rfl (w_take rfl hc243) rfl (fun v599 w600 H601 => ?_)
                        have H602 : Holds (([] : List Res).flatMap Res.own) w w600 [.sl 3 (.int .i64) v599 ([x256]), .sl 3 (.int .i64) v595 x250, .sl 3 (.int .i64) v6 x2] G := H601
                        refine WL_nil fun a ha => ⟨rfl, (?_ : XB _ _ _ _ _ _ _ _) a ha⟩
                        refine XB_all [19] (by kernel_rfl) (by simp) (allc ?_ alln)
                        · refine XB_do rfl ?_
                          have H603 : Holds (([] : List Res).flatMap Res.own) w w600 [.sl 3 (.int .i64) v595 x250, .sl 3 (.int .i64) v599 ([x256]), .sl 3 (.int .i64) v6 x2] G := H602.pull 1
                          refine WL_appendH H603 (Has.c (Has.hd)) hx271 u27 j3 rfl rfl (w_take rfl hc243) rfl rfl rfl (fun v604 w605 H606 => ?_)
                          have H607 : Holds (([] : List Res).flatMap Res.own) w w605 [.sl 3 (.int .i64) v604 x270, .sl 3 (.int .i64) v599 ([x256]), .sl 3 (.int .i64) v6 x2] G := H606
                          refine WL_nil fun a ha => ⟨rfl, (?_ : XB _ _ _ _ _ _ _ _) a ha⟩
                          refine XB_all [20] (by kernel_rfl) (by simp) (allc ?_ alln)
                          · refine XB_do rfl ?_
                            refine WL_call (w_take rfl hc243) rfl c54 (w_impl_SeatsMany w605 ([.sl 3 (.int .i64) v604 x270, .sl 3 (.int .i64) v599 ([x256]), .sl 3 (.int .i64) v6 x2] ++ G) v604 x270 (Has.hd) x276 hx277 H607.ctx) (by rfl) ?_
                            rintro _ w608 ⟨rfl, H609⟩; refine ⟨_, rfl, ?_⟩
                            have H610 : Holds (([] : List Res).flatMap Res.own) w w608 [.sl 3 (.int .i64) v604 x270, .sl 3 (.int .i64) v599 ([x256]), .sl 3 (.int .i64) v6 x2] G := H607.calledN (Rs := []) H609
                            refine WL_nil fun a ha => ⟨rfl, (?_ : XB _ _ _ _ _ _ _ _) a ha⟩
                            refine XB_take (i := 22) rfl (by kernel_rfl) (by kernel_rfl) (by kernel_rfl) (w_take rfl hc243) (fun _ => qt_eql rfl rfl) rfl rfl ?_
                            refine XB_take (i := 23) rfl (by kernel_rfl) (by kernel_rfl) (by kernel_rfl) (w_take rfl hc225) (fun _ => qt_pickT rfl hc243 rfl) rfl rfl ?_
                            refine XB_take (i := 24) rfl (by kernel_rfl) (by kernel_rfl) (by kernel_rfl) rfl (fun _ => qt_pickF rfl hc225 rfl) rfl rfl ?_
                            refine XB_take (i := 25) rfl (by kernel_rfl) (by kernel_rfl) (by kernel_rfl) rfl (fun _ => qt_move rfl) rfl rfl ?_
                            refine XB_skip (i := 26) rfl (by kernel_rfl) (by kernel_rfl) (by kernel_rfl) (w_skip rfl hc281) rfl rfl ?_
                            refine XB_skip (i := 27) rfl (by kernel_rfl) (by kernel_rfl) (by kernel_rfl) (w_skip rfl hc281) rfl rfl ?_
                            refine XB_skip (i := 28) rfl (by kernel_rfl) (by kernel_rfl) (by kernel_rfl) (w_skip rfl hc281) rfl rfl ?_
                            refine XB_skip (i := 29) rfl (by kernel_rfl) (by kernel_rfl) (by kernel_rfl) (w_skip rfl hc281) rfl rfl ?_
                            refine XB_take (i := 30) rfl (by kernel_rfl) (by kernel_rfl) (by kernel_rfl) rfl (fun _ => qt_pickF rfl hc281 rfl) rfl rfl ?_
                            refine XB_take (i := 31) rfl (by kernel_rfl) (by kernel_rfl) (by kernel_rfl) rfl (fun _ => qt_move rfl) rfl rfl ?_
                            refine XB_skip (i := 32) rfl (by kernel_rfl) (by kernel_rfl) (by kernel_rfl) (w_skip rfl hc562) rfl rfl ?_
                            refine XB_take (i := 33) rfl (by kernel_rfl) (by kernel_rfl) (by kernel_rfl) rfl (fun _ => qt_pickF rfl hc562 rfl) rfl rfl ?_
                            refine XB_take (i := 34) rfl (by kernel_rfl) (by kernel_rfl) (by kernel_rfl) rfl (fun _ => qt_assign rfl) rfl rfl ?_
                            refine XB_done (by kernel_rfl) (fun a ha => ?_)
                            have H611 : Holds (([] : List Res).flatMap Res.own) w w608 [] G := (((H610.cut 0).cut 0).cut 0)
                            exact ⟨ha.sub ⟨rfl, trivial⟩, H611⟩
                    · refine XB_do rfl ?_
                      refine WL_buildH (t := (.int .i64)) (args := [.tmp 33]) (xs := ([x256] : List Int)) H571 (BltL.cons (Blt.int) rfl (BltL.nil)) u27 j3 rfl rfl rfl rfl (w_take rfl hc243) rfl (fun v612 w613 H614 => ?_)
                      have H615 : Holds (([] : List Res).flatMap Res.own) w w613 [.sl 3 (.int .i64) v612 ([x256]), .sl 3 (.int .i64) v568 ([]), .sl 3 (.int .i64) v6 x2] G := H614
                      refine WL_nil fun a ha => ⟨rfl, (?_ : XB _ _ _ _ _ _ _ _) a ha⟩
                      refine XB_all [14] (by kernel_rfl) (by simp) (allc ?_ alln)
                      · refine XB_do rfl ?_
                        have H616 : Holds (([] : List Res).flatMap Res.own) w w613 [.sl 3 (.int .i64) v568 ([]), .sl 3 (.int .i64) v612 ([x256]), .sl 3 (.int .i64) v6 x2] G := H615.pull 1
                        refine WL_appendH H616 (Has.c (Has.c (Has.hd))) hx251 u27 j3 rfl rfl (w_take rfl hc243) rfl rfl rfl (fun v617 w618 H619 => ?_)
                        have H620 : Holds (([] : List Res).flatMap Res.own) w w618 [.sl 3 (.int .i64) v617 x250, .sl 3 (.int .i64) v612 ([x256]), .sl 3 (.int .i64) v6 x2] G := H619
                        refine WL_nil fun a ha => ⟨rfl, (?_ : XB _ _ _ _ _ _ _ _) a ha⟩
                        refine XB_all [19] (by kernel_rfl) (by simp) (allc ?_ alln)
                        · refine XB_do rfl ?_
                          refine WL_appendH H620 (Has.c (Has.hd)) hx271 u27 j3 rfl rfl (w_take rfl hc243) rfl rfl rfl (fun v621 w622 H623 => ?_)
                          have H624 : Holds (([] : List Res).flatMap Res.own) w w622 [.sl 3 (.int .i64) v621 x270, .sl 3 (.int .i64) v612 ([x256]), .sl 3 (.int .i64) v6 x2] G := H623
                          refine WL_nil fun a ha => ⟨rfl, (?_ : XB _ _ _ _ _ _ _ _) a ha⟩
                          refine XB_all [20] (by kernel_rfl) (by simp) (allc ?_ alln)
                          · refine XB_do rfl ?_
                            refine WL_call (w_take rfl hc243) rfl c54 (w_impl_SeatsMany w622 ([.sl 3 (.int .i64) v621 x270, .sl 3 (.int .i64) v612 ([x256]), .sl 3 (.int .i64) v6 x2] ++ G) v621 x270 (Has.hd) x276 hx277 H624.ctx) (by rfl) ?_
                            rintro _ w625 ⟨rfl, H626⟩; refine ⟨_, rfl, ?_⟩
                            have H627 : Holds (([] : List Res).flatMap Res.own) w w625 [.sl 3 (.int .i64) v621 x270, .sl 3 (.int .i64) v612 ([x256]), .sl 3 (.int .i64) v6 x2] G := H624.calledN (Rs := []) H626
                            refine WL_nil fun a ha => ⟨rfl, (?_ : XB _ _ _ _ _ _ _ _) a ha⟩
                            refine XB_take (i := 22) rfl (by kernel_rfl) (by kernel_rfl) (by kernel_rfl) (w_take rfl hc243) (fun _ => qt_eql rfl rfl) rfl rfl ?_
                            refine XB_take (i := 23) rfl (by kernel_rfl) (by kernel_rfl) (by kernel_rfl) (w_take rfl hc225) (fun _ => qt_pickT rfl hc243 rfl) rfl rfl ?_
                            refine XB_take (i := 24) rfl (by kernel_rfl) (by kernel_rfl) (by kernel_rfl) rfl (fun _ => qt_pickF rfl hc225 rfl) rfl rfl ?_
                            refine XB_take (i := 25) rfl (by kernel_rfl) (by kernel_rfl) (by kernel_rfl) rfl (fun _ => qt_move rfl) rfl rfl ?_
                            refine XB_skip (i := 26) rfl (by kernel_rfl) (by kernel_rfl) (by kernel_rfl) (w_skip rfl hc281) rfl rfl ?_
                            refine XB_skip (i := 27) rfl (by kernel_rfl) (by kernel_rfl) (by kernel_rfl) (w_skip rfl hc281) rfl rfl ?_
                            refine XB_skip (i := 28) rfl (by kernel_rfl) (by kernel_rfl) (by kernel_rfl) (w_skip rfl hc281) rfl rfl ?_
                            refine XB_skip (i := 29) rfl (by kernel_rfl) (by kernel_rfl) (by kernel_rfl) (w_skip rfl hc281) rfl rfl ?_
                            refine XB_take (i := 30) rfl (by kernel_rfl) (by kernel_rfl) (by kernel_rfl) rfl (fun _ => qt_pickF rfl hc281 rfl) rfl rfl ?_
                            refine XB_take (i := 31) rfl (by kernel_rfl) (by kernel_rfl) (by kernel_rfl) rfl (fun _ => qt_move rfl) rfl rfl ?_
                            refine XB_skip (i := 32) rfl (by kernel_rfl) (by kernel_rfl) (by kernel_rfl) (w_skip rfl hc562) rfl rfl ?_
                            refine XB_take (i := 33) rfl (by kernel_rfl) (by kernel_rfl) (by kernel_rfl) rfl (fun _ => qt_pickF rfl hc562 rfl) rfl rfl ?_
                            refine XB_take (i := 34) rfl (by kernel_rfl) (by kernel_rfl) (by kernel_rfl) rfl (fun _ => qt_assign rfl) rfl rfl ?_
                            refine XB_done (by kernel_rfl) (fun a ha => ?_)
                            have H628 : Holds (([] : List Res).flatMap Res.own) w w625 [] G := (((H627.cut 0).cut 0).cut 0)
                            exact ⟨ha.sub ⟨rfl, trivial⟩, H628⟩
                · refine XB_do rfl ?_
                  obtain ⟨F629, hat630, hdup631⟩ := H222.at (Has.hd) hx257 hv567
                  refine XL_load_int (k := .i64) u3 rfl hat630 (w_take rfl hc243) rfl rfl ?_
                  refine WL_nil fun a ha => ⟨rfl, (?_ : XB _ _ _ _ _ _ _ _) a ha⟩
                  refine XB_all [12, 18] (by kernel_rfl) (by simp) (allc ?_ (allc ?_ alln))
                  · refine XB_do rfl ?_
                    refine WL_buildH (t := (.int .i64)) (args := []) (xs := ([] : List Int)) H222 (BltL.nil) u27 j3 rfl rfl rfl rfl (w_take rfl hc243) rfl (fun v632 w633 H634 => ?_)
                    have H635 : Holds (([] : List Res).flatMap Res.own) w w633 [.sl 3 (.int .i64) v632 ([]), .sl 3 (.int .i64) v6 x2] G := H634
                    refine WL_nil fun a ha => ⟨rfl, (?_ : XB _ _ _ _ _ _ _ _) a ha⟩
                    refine XB_all [14, 18] (by kernel_rfl) (by simp) (allc ?_ (allc ?_ alln))
                    · refine XB_do rfl ?_
                      refine WL_appendH H635 (Has.c (Has.hd)) hx251 u27 j3 rfl rfl (w_take rfl hc243) rfl rfl rfl (fun v636 w637 H638 => ?_)
                      have H639 : Holds (([] : List Res).flatMap Res.own) w w637 [.sl 3 (.int .i64) v636 x250, .sl 3 (.int .i64) v6 x2] G := H638
                      refine WL_nil fun a ha => ⟨rfl, (?_ : XB _ _ _ _ _ _ _ _) a ha⟩
                      refine XB_all [18] (by kernel_rfl) (by simp) (allc ?_ alln)
                      · refine XB_do rfl ?_
                        refine WL_buildH (t := (.int .i64)) (args := [.tmp 33]) (xs := ([x256] : List Int)) H639 (BltL.cons (Blt.int) rfl (BltL.nil)) u27 j3 rfl rfl rfl rfl (w_take rfl hc243) rfl (fun v640 w641 H642 => ?_)
                        have H643 : Holds (([] : List Res).flatMap Res.own) w w641 [.sl 3 (.int .i64) v640 ([x256]), .sl 3 (.int .i64) v636 x250, .sl 3 (.int .i64) v6 x2] G := H642
                        refine WL_nil fun a ha => ⟨rfl, (?_ : XB _ _ _ _ _ _ _ _) a ha⟩
                        refine XB_all [19] (by kernel_rfl) (by simp) (allc ?_ alln)
                        · refine XB_do rfl ?_
                          have H644 : Holds (([] : List Res).flatMap Res.own) w w641 [.sl 3 (.int .i64) v636 x250, .sl 3 (.int .i64) v640 ([x256]), .sl 3 (.int .i64) v6 x2] G := H643.pull 1
                          refine WL_appendH H644 (Has.c (Has.hd)) hx271 u27 j3 rfl rfl (w_take rfl hc243) rfl rfl rfl (fun v645 w646 H647 => ?_)
                          have H648 : Holds (([] : List Res).flatMap Res.own) w w646 [.sl 3 (.int .i64) v645 x270, .sl 3 (.int .i64) v640 ([x256]), .sl 3 (.int .i64) v6 x2] G := H647
                          refine WL_nil fun a ha => ⟨rfl, (?_ : XB _ _ _ _ _ _ _ _) a ha⟩
                          refine XB_all [20] (by kernel_rfl) (by simp) (allc ?_ alln)
                          · refine XB_do rfl ?_
                            refine WL_call (w_take rfl hc243) rfl c54 (w_impl_SeatsMany w646 ([.sl 3 (.int .i64) v645 x270, .sl 3 (.int .i64) v640 ([x256]), .sl 3 (.int .i64) v6 x2] ++ G) v645 x270 (Has.hd) x276 hx277 H648.ctx) (by rfl) ?_
                            rintro _ w649 ⟨rfl, H650⟩; refine ⟨_, rfl, ?_⟩
                            have H651 : Holds (([] : List Res).flatMap Res.own) w w649 [.sl 3 (.int .i64) v645 x270, .sl 3 (.int .i64) v640 ([x256]), .sl 3 (.int .i64) v6 x2] G := H648.calledN (Rs := []) H650
                            refine WL_nil fun a ha => ⟨rfl, (?_ : XB _ _ _ _ _ _ _ _) a ha⟩
                            refine XB_take (i := 22) rfl (by kernel_rfl) (by kernel_rfl) (by kernel_rfl) (w_take rfl hc243) (fun _ => qt_eql rfl rfl) rfl rfl ?_
                            refine XB_take (i := 23) rfl (by kernel_rfl) (by kernel_rfl) (by kernel_rfl) (w_take rfl hc225) (fun _ => qt_pickT rfl hc243 rfl) rfl rfl ?_
                            refine XB_take (i := 24) rfl (by kernel_rfl) (by kernel_rfl) (by kernel_rfl) rfl (fun _ => qt_pickF rfl hc225 rfl) rfl rfl ?_
                            refine XB_take (i := 25) rfl (by kernel_rfl) (by kernel_rfl) (by kernel_rfl) rfl (fun _ => qt_move rfl) rfl rfl ?_
                            refine XB_skip (i := 26) rfl (by kernel_rfl) (by kernel_rfl) (by kernel_rfl) (w_skip rfl hc281) rfl rfl ?_
                            refine XB_skip (i := 27) rfl (by kernel_rfl) (by kernel_rfl) (by kernel_rfl) (w_skip rfl hc281) rfl rfl ?_
                            refine XB_skip (i := 28) rfl (by kernel_rfl) (by kernel_rfl) (by kernel_rfl) (w_skip rfl hc281) rfl rfl ?_
                            refine XB_skip (i := 29) rfl (by kernel_rfl) (by kernel_rfl) (by kernel_rfl) (w_skip rfl hc281) rfl rfl ?_
                            refine XB_take (i := 30) rfl (by kernel_rfl) (by kernel_rfl) (by kernel_rfl) rfl (fun _ => qt_pickF rfl hc281 rfl) rfl rfl ?_
                            refine XB_take (i := 31) rfl (by kernel_rfl) (by kernel_rfl) (by kernel_rfl) rfl (fun _ => qt_move rfl) rfl rfl ?_
                            refine XB_skip (i := 32) rfl (by kernel_rfl) (by kernel_rfl) (by kernel_rfl) (w_skip rfl hc562) rfl rfl ?_
                            refine XB_take (i := 33) rfl (by kernel_rfl) (by kernel_rfl) (by kernel_rfl) rfl (fun _ => qt_pickF rfl hc562 rfl) rfl rfl ?_
                            refine XB_take (i := 34) rfl (by kernel_rfl) (by kernel_rfl) (by kernel_rfl) rfl (fun _ => qt_assign rfl) rfl rfl ?_
                            refine XB_done (by kernel_rfl) (fun a ha => ?_)
                            have H652 : Holds (([] : List Res).flatMap Res.own) w w649 [] G := (((H651.cut 0).cut 0).cut 0)
                            exact ⟨ha.sub ⟨rfl, trivial⟩, H652⟩
                    · refine XB_do rfl ?_
                      refine WL_buildH (t := (.int .i64)) (args := [.tmp 33]) (xs := ([x256] : List Int)) H635 (BltL.cons (Blt.int) rfl (BltL.nil)) u27 j3 rfl rfl rfl rfl (w_take rfl hc243) rfl (fun v653 w654 H655 => ?_)
                      have H656 : Holds (([] : List Res).flatMap Res.own) w w654 [.sl 3 (.int .i64) v653 ([x256]), .sl 3 (.int .i64) v632 ([]), .sl 3 (.int .i64) v6 x2] G := H655
                      refine WL_nil fun a ha => ⟨rfl, (?_ : XB _ _ _ _ _ _ _ _) a ha⟩
                      refine XB_all [14] (by kernel_rfl) (by simp) (allc ?_ alln)
                      · refine XB_do rfl ?_
                        have H657 : Holds (([] : List Res).flatMap Res.own) w w654 [.sl 3 (.int .i64) v632 ([]), .sl 3 (.int .i64) v653 ([x256]), .sl 3 (.int .i64) v6 x2] G := H656.pull 1
                        refine WL_appendH H657 (Has.c (Has.c (Has.hd))) hx251 u27 j3 rfl rfl (w_take rfl hc243) rfl rfl rfl (fun v658 w659 H660 => ?_)
                        have H661 : Holds (([] : List Res).flatMap Res.own) w w659 [.sl 3 (.int .i64) v658 x250, .sl 3 (.int .i64) v653 ([x256]), .sl 3 (.int .i64) v6 x2] G := H660
                        refine WL_nil fun a ha => ⟨rfl, (?_ : XB _ _ _ _ _ _ _ _) a ha⟩
                        refine XB_all [19] (by kernel_rfl) (by simp) (allc ?_ alln)
                        · refine XB_do rfl ?_
                          refine WL_appendH H661 (Has.c (Has.hd)) hx271 u27 j3 rfl rfl (w_take rfl hc243) rfl rfl rfl (fun v662 w663 H664 => ?_)
                          have H665 : Holds (([] : List Res).flatMap Res.own) w w663 [.sl 3 (.int .i64) v662 x270, .sl 3 (.int .i64) v653 ([x256]), .sl 3 (.int .i64) v6 x2] G := H664
                          refine WL_nil fun a ha => ⟨rfl, (?_ : XB _ _ _ _ _ _ _ _) a ha⟩
                          refine XB_all [20] (by kernel_rfl) (by simp) (allc ?_ alln)
                          · refine XB_do rfl ?_
                            refine WL_call (w_take rfl hc243) rfl c54 (w_impl_SeatsMany w663 ([.sl 3 (.int .i64) v662 x270, .sl 3 (.int .i64) v653 ([x256]), .sl 3 (.int .i64) v6 x2] ++ G) v662 x270 (Has.hd) x276 hx277 H665.ctx) (by rfl) ?_
                            rintro _ w666 ⟨rfl, H667⟩; refine ⟨_, rfl, ?_⟩
                            have H668 : Holds (([] : List Res).flatMap Res.own) w w666 [.sl 3 (.int .i64) v662 x270, .sl 3 (.int .i64) v653 ([x256]), .sl 3 (.int .i64) v6 x2] G := H665.calledN (Rs := []) H667
                            refine WL_nil fun a ha => ⟨rfl, (?_ : XB _ _ _ _ _ _ _ _) a ha⟩
                            refine XB_take (i := 22) rfl (by kernel_rfl) (by kernel_rfl) (by kernel_rfl) (w_take rfl hc243) (fun _ => qt_eql rfl rfl) rfl rfl ?_
                            refine XB_take (i := 23) rfl (by kernel_rfl) (by kernel_rfl) (by kernel_rfl) (w_take rfl hc225) (fun _ => qt_pickT rfl hc243 rfl) rfl rfl ?_
                            refine XB_take (i := 24) rfl (by kernel_rfl) (by kernel_rfl) (by kernel_rfl) rfl (fun _ => qt_pickF rfl hc225 rfl) rfl rfl ?_
                            refine XB_take (i := 25) rfl (by kernel_rfl) (by kernel_rfl) (by kernel_rfl) rfl (fun _ => qt_move rfl) rfl rfl ?_
                            refine XB_skip (i := 26) rfl (by kernel_rfl) (by kernel_rfl) (by kernel_rfl) (w_skip rfl hc281) rfl rfl ?_
                            refine XB_skip (i := 27) rfl (by kernel_rfl) (by kernel_rfl) (by kernel_rfl) (w_skip rfl hc281) rfl rfl ?_
                            refine XB_skip (i := 28) rfl (by kernel_rfl) (by kernel_rfl) (by kernel_rfl) (w_skip rfl hc281) rfl rfl ?_
                            refine XB_skip (i := 29) rfl (by kernel_rfl) (by kernel_rfl) (by kernel_rfl) (w_skip rfl hc281) rfl rfl ?_
                            refine XB_take (i := 30) rfl (by kernel_rfl) (by kernel_rfl) (by kernel_rfl) rfl (fun _ => qt_pickF rfl hc281 rfl) rfl rfl ?_
                            refine XB_take (i := 31) rfl (by kernel_rfl) (by kernel_rfl) (by kernel_rfl) rfl (fun _ => qt_move rfl) rfl rfl ?_
                            refine XB_skip (i := 32) rfl (by kernel_rfl) (by kernel_rfl) (by kernel_rfl) (w_skip rfl hc562) rfl rfl ?_
                            refine XB_take (i := 33) rfl (by kernel_rfl) (by kernel_rfl) (by kernel_rfl) rfl (fun _ => qt_pickF rfl hc562 rfl) rfl rfl ?_
                            refine XB_take (i := 34) rfl (by kernel_rfl) (by kernel_rfl) (by kernel_rfl) rfl (fun _ => qt_assign rfl) rfl rfl ?_
                            refine XB_done (by kernel_rfl) (fun a ha => ?_)
                            have H669 : Holds (([] : List Res).flatMap Res.own) w w666 [] G := (((H668.cut 0).cut 0).cut 0)
                            exact ⟨ha.sub ⟨rfl, trivial⟩, H669⟩
                  · refine XB_do rfl ?_
                    refine WL_buildH (t := (.int .i64)) (args := [.tmp 33]) (xs := ([x256] : List Int)) H222 (BltL.cons (Blt.int) rfl (BltL.nil)) u27 j3 rfl rfl rfl rfl (w_take rfl hc243) rfl (fun v670 w671 H672 => ?_)
                    have H673 : Holds (([] : List Res).flatMap Res.own) w w671 [.sl 3 (.int .i64) v670 ([x256]), .sl 3 (.int .i64) v6 x2] G := H672
                    refine WL_nil fun a ha => ⟨rfl, (?_ : XB _ _ _ _ _ _ _ _) a ha⟩
                    refine XB_all [12] (by kernel_rfl) (by simp) (allc ?_ alln)
                    · refine XB_do rfl ?_
                      refine WL_buildH (t := (.int .i64)) (args := []) (xs := ([] : List Int)) H673 (BltL.nil) u27 j3 rfl rfl rfl rfl (w_take rfl hc243) rfl (fun v674 w675 H676 => ?_)
                      have H677 : Holds (([] : List Res).flatMap Res.own) w w675 [.sl 3 (.int .i64) v674 ([]), .sl 3 (.int .i64) v670 ([x256]), .sl 3 (.int .i64) v6 x2] G := H676
                      refine WL_nil fun a ha => ⟨rfl, (?_ : XB _ _ _ _ _ _ _ _) a ha⟩
                      refine XB_all [14] (by kernel_rfl) (by simp) (allc ?_ alln)
                      · refine XB_do rfl ?_
                        refine WL_appendH H677 (Has.c (Has.c (Has.hd))) hx251 u27 j3 rfl rfl (w_take rfl hc243) rfl rfl rfl (fun v678 w679 H680 => ?_)
                        have H681 : Holds (([] : List Res).flatMap Res.own) w w679 [.sl 3 (.int .i64) v678 x250, .sl 3 (.int .i64) v670 ([x256]), .sl 3 (.int .i64) v6 x2] G := H680
                        refine WL_nil fun a ha => ⟨rfl, (?_ : XB _ _ _ _ _ _ _ _) a ha⟩
                        refine XB_all [19] (by kernel_rfl) (by simp) (allc ?_ alln)
                        · refine XB_do rfl ?_
                          refine WL_appendH H681 (Has.c (Has.hd)) hx271 u27 j3 rfl rfl (w_take rfl hc243) rfl rfl rfl (fun v682 w683 H684 => ?_)
                          have H685 : Holds (([] : List Res).flatMap Res.own) w w683 [.sl 3 (.int .i64) v682 x270, .sl 3 (.int .i64) v670 ([x256]), .sl 3 (.int .i64) v6 x2] G := H684
                          refine WL_nil fun a ha => ⟨rfl, (?_ : XB _ _ _ _ _ _ _ _) a ha⟩
                          refine XB_all [20] (by kernel_rfl) (by simp) (allc ?_ alln)
                          · refine XB_do rfl ?_
                            refine WL_call (w_take rfl hc243) rfl c54 (w_impl_SeatsMany w683 ([.sl 3 (.int .i64) v682 x270, .sl 3 (.int .i64) v670 ([x256]), .sl 3 (.int .i64) v6 x2] ++ G) v682 x270 (Has.hd) x276 hx277 H685.ctx) (by rfl) ?_
                            rintro _ w686 ⟨rfl, H687⟩; refine ⟨_, rfl, ?_⟩
                            have H688 : Holds (([] : List Res).flatMap Res.own) w w686 [.sl 3 (.int .i64) v682 x270, .sl 3 (.int .i64) v670 ([x256]), .sl 3 (.int .i64) v6 x2] G := H685.calledN (Rs := []) H687
                            refine WL_nil fun a ha => ⟨rfl, (?_ : XB _ _ _ _ _ _ _ _) a ha⟩
                            refine XB_take (i := 22) rfl (by kernel_rfl) (by kernel_rfl) (by kernel_rfl) (w_take rfl hc243) (fun _ => qt_eql rfl rfl) rfl rfl ?_
                            refine XB_take (i := 23) rfl (by kernel_rfl) (by kernel_rfl) (by kernel_rfl) (w_take rfl hc225) (fun _ => qt_pickT rfl hc243 rfl) rfl rfl ?_
                            refine XB_take (i := 24) rfl (by kernel_rfl) (by kernel_rfl) (by kernel_rfl) rfl (fun _ => qt_pickF rfl hc225 rfl) rfl rfl ?_
                            refine XB_take (i := 25) rfl (by kernel_rfl) (by kernel_rfl) (by kernel_rfl) rfl (fun _ => qt_move rfl) rfl rfl ?_
                            refine XB_skip (i := 26) rfl (by kernel_rfl) (by kernel_rfl) (by kernel_rfl) (w_skip rfl hc281) rfl rfl ?_
                            refine XB_skip (i := 27) rfl (by kernel_rfl) (by kernel_rfl) (by kernel_rfl) (w_skip rfl hc281) rfl rfl ?_
                            refine XB_skip (i := 28) rfl (by kernel_rfl) (by kernel_rfl) (by kernel_rfl) (w_skip rfl hc281) rfl rfl ?_
                            refine XB_skip (i := 29) rfl (by kernel_rfl) (by kernel_rfl) (by kernel_rfl) (w_skip rfl hc281) rfl rfl ?_
                            refine XB_take (i := 30) rfl (by kernel_rfl) (by kernel_rfl) (by kernel_rfl) rfl (fun _ => qt_pickF rfl hc281 rfl) rfl rfl ?_
                            refine XB_take (i := 31) rfl (by kernel_rfl) (by kernel_rfl) (by kernel_rfl) rfl (fun _ => qt_move rfl) rfl rfl ?_
                            refine XB_skip (i := 32) rfl (by kernel_rfl) (by kernel_rfl) (by kernel_rfl) (w_skip rfl hc562) rfl rfl ?_
                            refine XB_take (i := 33) rfl (by kernel_rfl) (by kernel_rfl) (by kernel_rfl) rfl (fun _ => qt_pickF rfl hc562 rfl) rfl rfl ?_
                            refine XB_take (i := 34) rfl (by kernel_rfl) (by kernel_rfl) (by kernel_rfl) rfl (fun _ => qt_assign rfl) rfl rfl ?_
                            refine XB_done (by kernel_rfl) (fun a ha => ?_)
                            have H689 : Holds (([] : List Res).flatMap Res.own) w w686 [] G := (((H688.cut 0).cut 0).cut 0)
                            exact ⟨ha.sub ⟨rfl, trivial⟩, H689⟩
            · skip
              have ho690 := if_f hc243 hob244
              obtain rfl := Option.some.inj ho690
              obtain rfl := Option.some.inj ho242
              have hc691 : false = false := rfl
              have ho692 := if_f hc691 hob58
              obtain rfl := Option.some.inj ho692
              have hc693 : false = false := rfl
              have ho694 := if_f hc693 hob64
              obtain rfl := Option.some.inj ho694
              refine XB_take (i := 0) rfl (by kernel_rfl) (by kernel_rfl) (by kernel_rfl) rfl (fun _ => qt_move rfl) rfl rfl ?_
              refine XB_lenH (i := 1) rfl (by kernel_rfl) (by kernel_rfl) (by kernel_rfl) H222.ctx (t := (.int .i64)) (Has.hd) u27 rfl rfl rfl ?_
              refine XB_take (i := 2) rfl (by kernel_rfl) (by kernel_rfl) (by kernel_rfl) rfl (fun _ => qt_eql rfl rfl) rfl rfl ?_
              refine XB_take (i := 3) rfl (by kernel_rfl) (by kernel_rfl) (by kernel_rfl) rfl (fun _ => qt_move rfl) rfl rfl ?_
              refine XB_take (i := 4) rfl (by kernel_rfl) (by kernel_rfl) (by kernel_rfl) (w_take rfl hc223) (fun _ => qt_move rfl) rfl rfl ?_
              refine XB_take (i := 5) rfl (by kernel_rfl) (by kernel_rfl) (by kernel_rfl) (w_take rfl hc223) (fun _ => qt_eql rfl rfl) rfl rfl ?_
              refine XB_take (i := 6) rfl (by kernel_rfl) (by kernel_rfl) (by kernel_rfl) rfl (fun _ => qt_pickT rfl hc223 rfl) rfl rfl ?_
              refine XB_take (i := 7) rfl (by kernel_rfl) (by kernel_rfl) (by kernel_rfl) rfl (fun _ => qt_move rfl) rfl rfl ?_
              refine XB_take (i := 8) rfl (by kernel_rfl) (by kernel_rfl) (by kernel_rfl) (w_take rfl hc225) (fun _ => qt_move rfl) rfl rfl ?_
              refine XB_lenH (i := 9) rfl (by kernel_rfl) (by kernel_rfl) (by kernel_rfl) H222.ctx (t := (.int .i64)) (Has.hd) u27 (w_take rfl hc225) rfl rfl ?_
              refine XB_take (i := 10) rfl (by kernel_rfl) (by kernel_rfl) (by kernel_rfl) (w_take rfl hc225) (fun _ => qt_gtr rfl rfl) rfl rfl ?_
              refine XB_take (i := 11) rfl (by kernel_rfl) (by kernel_rfl) (by kernel_rfl) (w_take rfl hc225) (fun _ => qt_move rfl) rfl rfl ?_
              refine XB_skip (i := 12) rfl (by kernel_rfl) (by kernel_rfl) (by kernel_rfl) (w_skip rfl hc243) rfl rfl ?_
              refine XB_skip (i := 13) rfl (by kernel_rfl) (by kernel_rfl) (by kernel_rfl) (w_skip rfl hc243) rfl rfl ?_
              refine XB_skip (i := 14) rfl (by kernel_rfl) (by kernel_rfl) (by kernel_rfl) (w_skip rfl hc243) rfl rfl ?_
              refine XB_skip (i := 15) rfl (by kernel_rfl) (by kernel_rfl) (by kernel_rfl) (w_skip rfl hc243) rfl rfl ?_
              refine XB_skip (i := 16) rfl (by kernel_rfl) (by kernel_rfl) (by kernel_rfl) (w_skip rfl hc243) rfl rfl ?_
              refine XB_skip (i := 17) rfl (by kernel_rfl) (by kernel_rfl) (by kernel_rfl) (w_skip rfl hc243) rfl rfl ?_
              refine XB_skip (i := 18) rfl (by kernel_rfl) (by kernel_rfl) (by kernel_rfl) (w_skip rfl hc243) rfl rfl ?_
              refine XB_skip (i := 19) rfl (by kernel_rfl) (by kernel_rfl) (by kernel_rfl) (w_skip rfl hc243) rfl rfl ?_
              refine XB_skip (i := 20) rfl (by kernel_rfl) (by kernel_rfl) (by kernel_rfl) (w_skip rfl hc243) rfl rfl ?_
              refine XB_skip (i := 21) rfl (by kernel_rfl) (by kernel_rfl) (by kernel_rfl) (w_skip rfl hc243) rfl rfl ?_
              refine XB_skip (i := 22) rfl (by kernel_rfl) (by kernel_rfl) (by kernel_rfl) (w_skip rfl hc243) rfl rfl ?_
              refine XB_take (i := 23) rfl (by kernel_rfl) (by kernel_rfl) (by kernel_rfl) (w_take rfl hc225) (fun _ => qt_pickF rfl hc243 rfl) rfl rfl ?_
              refine XB_take (i := 24) rfl (by kernel_rfl) (by kernel_rfl) (by kernel_rfl) rfl (fun _ => qt_pickF rfl hc225 rfl) rfl rfl ?_
              refine XB_take (i := 25) rfl (by kernel_rfl) (by kernel_rfl) (by kernel_rfl) rfl (fun _ => qt_move rfl) rfl rfl ?_
              refine XB_skip (i := 26) rfl (by kernel_rfl) (by kernel_rfl) (by kernel_rfl) (w_skip rfl hc691) rfl rfl ?_
              refine XB_skip (i := 27) rfl (by kernel_rfl) (by kernel_rfl) (by kernel_rfl) (w_skip rfl hc691) rfl rfl ?_
              refine XB_skip (i := 28) rfl (by kernel_rfl) (by kernel_rfl) (by kernel_rfl) (w_skip rfl hc691) rfl rfl ?_
              refine XB_skip (i := 29) rfl (by kernel_rfl) (by kernel_rfl) (by kernel_rfl) (w_skip rfl hc691) rfl rfl ?_
              refine XB_take (i := 30) rfl (by kernel_rfl) (by kernel_rfl) (by kernel_rfl) rfl (fun _ => qt_pickF rfl hc691 rfl) rfl rfl ?_
              refine XB_take (i := 31) rfl (by kernel_rfl) (by kernel_rfl) (by kernel_rfl) rfl (fun _ => qt_move rfl) rfl rfl ?_
              refine XB_skip (i := 32) rfl (by kernel_rfl) (by kernel_rfl) (by kernel_rfl) (w_skip rfl hc693) rfl rfl ?_
              refine XB_take (i := 33) rfl (by kernel_rfl) (by kernel_rfl) (by kernel_rfl) rfl (fun _ => qt_pickF rfl hc693 rfl) rfl rfl ?_
              refine XB_take (i := 34) rfl (by kernel_rfl) (by kernel_rfl) (by kernel_rfl) rfl (fun _ => qt_assign rfl) rfl rfl ?_
              refine XB_done (by kernel_rfl) (fun a ha => ?_)
              have H695 : Holds (([] : List Res).flatMap Res.own) w w220 [] G := (H222.cut 0)
              exact ⟨ha.sub ⟨rfl, trivial⟩, H695⟩
        · skip
          have ho696 := if_f hc223 hob20
          obtain rfl := Option.some.inj ho696
          have hc697 : false = false := rfl
          have ho698 := if_f hc697 hob57
          obtain ⟨b700, hob700, ho698⟩ := bind_some ho698
          rcases btf (decide ((List.length x2 : Int) > 0)) with hc699 | hc699
          · skip
            have ho701 := if_t hc699 hob700
            obtain ⟨x706, hx707, ho701⟩ := bind_some ho701
            obtain ⟨x712, hx713, ho701⟩ := bind_some ho701
            obtain ⟨x726, hx727, ho701⟩ := bind_some ho701
            obtain ⟨x732, hx733, ho701⟩ := bind_some ho701
            obtain rfl := Option.some.inj ho701
            obtain rfl := Option.some.inj ho698
            rcases btf (x732 == x8) with hc737 | hc737
            · skip
              have ho738 := if_t hc737 hob58
              obtain rfl := Option.some.inj ho738
              rcases btf (decide (x8 ≤ (List.length x2 : Int))) with hc739 | hc739
              · skip
                have ho740 := if_t hc739 hob64
                obtain ⟨x741, hx742, ho740⟩ := bind_some ho740
                obtain rfl := Option.some.inj ho740
                refine XB_take (i := 0) rfl (by kernel_rfl) (by kernel_rfl) (by kernel_rfl) rfl (fun _ => qt_move rfl) rfl rfl ?_
                refine XB_lenH (i := 1) rfl (by kernel_rfl) (by kernel_rfl) (by kernel_rfl) H222.ctx (t := (.int .i64)) (Has.hd) u27 rfl rfl rfl ?_
                refine XB_take (i := 2) rfl (by kernel_rfl) (by kernel_rfl) (by kernel_rfl) rfl (fun _ => qt_eql rfl rfl) rfl rfl ?_
                refine XB_take (i := 3) rfl (by kernel_rfl) (by kernel_rfl) (by kernel_rfl) rfl (fun _ => qt_move rfl) rfl rfl ?_
                refine XB_skip (i := 4) rfl (by kernel_rfl) (by kernel_rfl) (by kernel_rfl) (w_skip rfl hc223) rfl rfl ?_
                refine XB_skip (i := 5) rfl (by kernel_rfl) (by kernel_rfl) (by kernel_rfl) (w_skip rfl hc223) rfl rfl ?_
                refine XB_take (i := 6) rfl (by kernel_rfl) (by kernel_rfl) (by kernel_rfl) rfl (fun _ => qt_pickF rfl hc223 rfl) rfl rfl ?_
                refine XB_take (i := 7) rfl (by kernel_rfl) (by kernel_rfl) (by kernel_rfl) rfl (fun _ => qt_move rfl) rfl rfl ?_
                refine XB_take (i := 8) rfl (by kernel_rfl) (by kernel_rfl) (by kernel_rfl) (w_take rfl hc697) (fun _ => qt_move rfl) rfl rfl ?_
                refine XB_lenH (i := 9) rfl (by kernel_rfl) (by kernel_rfl) (by kernel_rfl) H222.ctx (t := (.int .i64)) (Has.hd) u27 (w_take rfl hc697) rfl rfl ?_
                refine XB_take (i := 10) rfl (by kernel_rfl) (by kernel_rfl) (by kernel_rfl) (w_take rfl hc697) (fun _ => qt_gtr rfl rfl) rfl rfl ?_
                refine XB_take (i := 11) rfl (by kernel_rfl) (by kernel_rfl) (by kernel_rfl) (w_take rfl hc697) (fun _ => qt_move rfl) rfl rfl ?_
                refine XB_take (i := 13) rfl (by kernel_rfl) (by kernel_rfl) (by kernel_rfl) (w_take rfl hc699) (fun _ => qt_move rfl) rfl rfl ?_
                refine XB_take (i := 15) rfl (by kernel_rfl) (by kernel_rfl) (by kernel_rfl) (w_take rfl hc699) (fun _ => qt_move rfl) rfl rfl ?_
                refine XB_indexH (i := 16) rfl (by kernel_rfl) (by kernel_rfl) (by kernel_rfl) H222.ctx (Has.hd) hx713 u27 i3 (w_take rfl hc699) rfl rfl rfl (fun b746 off747 cap748 hv749 => ?_)
                refine XB_take (i := 21) rfl (by kernel_rfl) (by kernel_rfl) (by kernel_rfl) (w_take rfl hc699) (fun _ => qt_move rfl) rfl rfl ?_
                refine XB_all [12, 17] (by kernel_rfl) (by simp) (allc ?_ (allc ?_ alln))
                · refine XB_do rfl ?_
                  refine WL_buildH (t := (.int .i64)) (args := []) (xs := ([] : List Int)) H222 (BltL.nil) u27 j3 rfl rfl rfl rfl (w_take rfl hc699) rfl (fun v750 w751 H752 => ?_)
                  have H753 : Holds (([] : List Res).flatMap Res.own) w w751 [.sl 3 (.int .i64) v750 ([]), .sl 3 (.int .i64) v6 x2] G := H752
                  refine WL_nil fun a ha => ⟨rfl, (?_ : XB _ _ _ _ _ _ _ _) a ha⟩
                  refine XB_all [14, 17] (by kernel_rfl) (by simp) (allc ?_ (allc ?_ alln))
                  · refine XB_do rfl ?_
                    refine WL_appendH H753 (Has.c (Has.hd)) hx707 u27 j3 rfl rfl (w_take rfl hc699) rfl rfl rfl (fun v754 w755 H756 => ?_)
                    have H757 : Holds (([] : List Res).flatMap Res.own) w w755 [.sl 3 (.int .i64) v754 x706, .sl 3 (.int .i64) v6 x2] G := H756
                    refine WL_nil fun a ha => ⟨rfl, (?_ : XB _ _ _ _ _ _ _ _) a ha⟩
                    refine XB_all [17] (by kernel_rfl) (by simp) (allc ?_ alln)
                    · refine XB_do rfl ?_
                      obtain ⟨F758, hat759, hdup760⟩ := H757.at (Has.c (Has.hd)) hx713 hv749
                      refine XL_load_int (k := .i64) u3 rfl hat759 (w_take rfl hc699) rfl rfl ?_
                      refine WL_nil fun a ha => ⟨rfl, (?_ : XB _ _ _ _ _ _ _ _) a ha⟩
                      refine XB_all [18] (by kernel_rfl) (by simp) (allc ?_ alln)
                      · refine XB_do rfl ?_
                        refine WL_buildH (t := (.int .i64)) (args := [.tmp 33]) (xs := ([x712] : List Int)) H757 (BltL.cons (Blt.int) rfl (BltL.nil)) u27 j3 rfl rfl rfl rfl (w_take rfl hc699) rfl (fun v761 w762 H763 => ?_)
                        have H764 : Holds (([] : List Res).flatMap Res.own) w w762 [.sl 3 (.int .i64) v761 ([x712]), .sl 3 (.int .i64) v754 x706, .sl 3 (.int .i64) v6 x2] G := H763
                        refine WL_nil fun a ha => ⟨rfl, (?_ : XB _ _ _ _ _ _ _ _) a ha⟩
                        refine XB_all [19] (by kernel_rfl) (by simp) (allc ?_ alln)
                        · refine XB_do rfl ?_
                          have H765 : Holds (([] : List Res).flatMap Res.own) w w762 [.sl 3 (.int .i64) v754 x706, .sl 3 (.int .i64) v761 ([x712]), .sl 3 (.int .i64) v6 x2] G := H764.pull 1
                          refine WL_appendH H765 (Has.c (Has.hd)) hx727 u27 j3 rfl rfl (w_take rfl hc699) rfl rfl rfl (fun v766 w767 H768 => ?_)
                          have H769 : Holds (([] : List Res).flatMap Res.own) w w767 [.sl 3 (.int .i64) v766 x726, .sl 3 (.int .i64) v761 ([x712]), .sl 3 (.int .i64) v6 x2] G := H768
                          refine WL_nil fun a ha => ⟨rfl, (?_ : XB _ _ _ _ _ _ _ _) a ha⟩
                          refine XB_all [20] (by kernel_rfl) (by simp) (allc ?_ alln)
                          · refine XB_do rfl ?_
                            refine WL_call (w_take rfl hc699) rfl c54 (w_impl_SeatsMany w767 ([.sl 3 (.int .i64) v766 x726, .sl 3 (.int .i64) v761 ([x712]), .sl 3 (.int .i64) v6 x2] ++ G) v766 x726 (Has.hd) x732 hx733 H769.ctx) (by rfl) ?_
                            rintro _ w770 ⟨rfl, H771⟩; refine ⟨_, rfl, ?_⟩
                            have H772 : Holds (([] : List Res).flatMap Res.own) w w770 [.sl 3 (.int .i64) v766 x726, .sl 3 (.int .i64) v761 ([x712]), .sl 3 (.int .i64) v6 x2] G := H769.calledN (Rs := []) H771
                            refine WL_nil fun a ha => ⟨rfl, (?_ : XB _ _ _ _ _ _ _ _) a ha⟩
                            refine XB_take (i := 22) rfl (by kernel_rfl) (by kernel_rfl) (by kernel_rfl) (w_take rfl hc699) (fun _ => qt_eql rfl rfl) rfl rfl ?_
                            refine XB_take (i := 23) rfl (by kernel_rfl) (by kernel_rfl) (by kernel_rfl) (w_take rfl hc697) (fun _ => qt_pickT rfl hc699 rfl) rfl rfl ?_
                            refine XB_take (i := 24) rfl (by kernel_rfl) (by kernel_rfl) (by kernel_rfl) rfl (fun _ => qt_pickF rfl hc697 rfl) rfl rfl ?_
                            refine XB_take (i := 25) rfl (by kernel_rfl) (by kernel_rfl) (by kernel_rfl) rfl (fun _ => qt_move rfl) rfl rfl ?_
                            refine XB_take (i := 26) rfl (by kernel_rfl) (by kernel_rfl) (by kernel_rfl) (w_take rfl hc737) (fun _ => qt_move rfl) rfl rfl ?_
                            refine XB_take (i := 27) rfl (by kernel_rfl) (by kernel_rfl) (by kernel_rfl) (w_take rfl hc737) (fun _ => qt_move rfl) rfl rfl ?_
                            refine XB_lenH (i := 28) rfl (by kernel_rfl) (by kernel_rfl) (by kernel_rfl) H772.ctx (t := (.int .i64)) (Has.c (Has.c (Has.hd))) u27 (w_take rfl hc737) rfl rfl ?_
                            refine XB_take (i := 29) rfl (by kernel_rfl) (by kernel_rfl) (by kernel_rfl) (w_take rfl hc737) (fun _ => qt_leq rfl rfl) rfl rfl ?_
                            refine XB_take (i := 30) rfl (by kernel_rfl) (by kernel_rfl) (by kernel_rfl) rfl (fun _ => qt_pickT rfl hc737 rfl) rfl rfl ?_
                            refine XB_take (i := 31) rfl (by kernel_rfl) (by kernel_rfl) (by kernel_rfl) rfl (fun _ => qt_move rfl) rfl rfl ?_
                            refine XB_all [32] (by kernel_rfl) (by simp) (allc ?_ alln)
                            · refine XB_do rfl ?_
                              refine WL_call (w_take rfl hc739) rfl c20 (w_laws_alive w770 ([.sl 3 (.int .i64) v766 x726, .sl 3 (.int .i64) v761 ([x712]), .sl 3 (.int .i64) v6 x2] ++ G)  x741 hx742 H772.ctx) (by rfl) ?_
                              rintro _ w773 ⟨rfl, H774⟩; refine ⟨_, rfl, ?_⟩
                              have H775 : Holds (([] : List Res).flatMap Res.own) w w773 [.sl 3 (.int .i64) v766 x726, .sl 3 (.int .i64) v761 ([x712]), .sl 3 (.int .i64) v6 x2] G := H772.calledN (Rs := []) H774
                              refine WL_nil fun a ha => ⟨rfl, (?_ : XB _ _ _ _ _ _ _ _) a ha⟩
                              refine XB_take (i := 33) rfl (by kernel_rfl) (by kernel_rfl) (by kernel_rfl) rfl (fun _ => qt_pickT rfl hc739 rfl) rfl rfl ?_
                              refine XB_take (i := 34) rfl (by kernel_rfl) (by kernel_rfl) (by kernel_rfl) rfl (fun _ => qt_assign rfl) rfl rfl ?_
                              refine XB_done (by kernel_rfl) (fun a ha => ?_)
                              have H776 : Holds (([] : List Res).flatMap Res.own) w w773 [] G := (((H775.cut 0).cut 0).cut 0)
                              exact ⟨ha.sub ⟨rfl, trivial⟩, H776⟩
                  · refine XB_do rfl ?_
                    obtain ⟨F777, hat778, hdup779⟩ := H753.at (Has.c (Has.hd)) hx713 hv749
                    refine XL_load_int (k := .i64) u3 rfl hat778 (w_take rfl hc699) rfl rfl ?_
                    refine WL_nil fun a ha => ⟨rfl, (?_ : XB _ _ _ _ _ _ _ _) a ha⟩
                    refine XB_all [14, 18] (by kernel_rfl) (by simp) (allc ?_ (allc ?_ alln))
                    · refine XB_do rfl ?_
                      refine WL_appendH H753 (Has.c (Has.hd)) hx707 u27 j3 rfl rfl (w_take rfl hc699) rfl rfl rfl (fun v780 w781 H782 => ?_)
                      have H783 : Holds (([] : List Res).flatMap Res.own) w w781 [.sl 3 (.int .i64) v780 x706, .sl 3 (.int .i64) v6 x2] G := H782
                      refine WL_nil fun a ha => ⟨rfl, (?_ : XB _ _ _ _ _ _ _ _) a ha⟩
                      refine XB_all [18] (by kernel_rfl) (by simp) (allc ?_ alln)
                      · refine XB_do rfl ?_
                        refine WL_buildH (t := (.int .i64)) (args := [.tmp 33]) (xs := ([x712] : List Int)) H783 (BltL.cons (Blt.int) rfl (BltL.nil)) u27 j3 rfl rfl rfl rfl (w_take rfl hc699) rfl (fun v784 w785 H786 => ?_)
                        have H787 : Holds (([] : List Res).flatMap Res.own) w w785 [.sl 3 (.int .i64) v784 ([x712]), .sl 3 (.int .i64) v780 x706, .sl 3 (.int .i64) v6 x2] G := H786
                        refine WL_nil fun a ha => ⟨rfl, (?_ : XB _ _ _ _ _ _ _ _) a ha⟩
                        refine XB_all [19] (by kernel_rfl) (by simp) (allc ?_ alln)
                        · refine XB_do rfl ?_
                          have H788 : Holds (([] : List Res).flatMap Res.own) w w785 [.sl 3 (.int .i64) v780 x706, .sl 3 (.int .i64) v784 ([x712]), .sl 3 (.int .i64) v6 x2] G := H787.pull 1
                          refine WL_appendH H788 (Has.c (Has.hd)) hx727 u27 j3 rfl rfl (w_take rfl hc699) rfl rfl rfl (fun v789 w790 H791 => ?_)
                          have H792 : Holds (([] : List Res).flatMap Res.own) w w790 [.sl 3 (.int .i64) v789 x726, .sl 3 (.int .i64) v784 ([x712]), .sl 3 (.int .i64) v6 x2] G := H791
                          refine WL_nil fun a ha => ⟨rfl, (?_ : XB _ _ _ _ _ _ _ _) a ha⟩
                          refine XB_all [20] (by kernel_rfl) (by simp) (allc ?_ alln)
                          · refine XB_do rfl ?_
                            refine WL_call (w_take rfl hc699) rfl c54 (w_impl_SeatsMany w790 ([.sl 3 (.int .i64) v789 x726, .sl 3 (.int .i64) v784 ([x712]), .sl 3 (.int .i64) v6 x2] ++ G) v789 x726 (Has.hd) x732 hx733 H792.ctx) (by rfl) ?_
                            rintro _ w793 ⟨rfl, H794⟩; refine ⟨_, rfl, ?_⟩
                            have H795 : Holds (([] : List Res).flatMap Res.own) w w793 [.sl 3 (.int .i64) v789 x726, .sl 3 (.int .i64) v784 ([x712]), .sl 3 (.int .i64) v6 x2] G := H792.calledN (Rs := []) H794
                            refine WL_nil fun a ha => ⟨rfl, (?_ : XB _ _ _ _ _ _ _ _) a ha⟩
                            refine XB_take (i := 22) rfl (by kernel_rfl) (by kernel_rfl) (by kernel_rfl) (w_take rfl hc699) (fun _ => qt_eql rfl rfl) rfl rfl ?_
                            refine XB_take (i := 23) rfl (by kernel_rfl) (by kernel_rfl) (by kernel_rfl) (w_take rfl hc697) (fun _ => qt_pickT rfl hc699 rfl) rfl rfl ?_
                            refine XB_take (i := 24) rfl (by kernel_rfl) (by kernel_rfl) (by kernel_rfl) rfl (fun _ => qt_pickF rfl hc697 rfl) rfl rfl ?_
                            refine XB_take (i := 25) rfl (by kernel_rfl) (by kernel_rfl) (by kernel_rfl) rfl (fun _ => qt_move rfl) rfl rfl ?_
                            refine XB_take (i := 26) rfl (by kernel_rfl) (by kernel_rfl) (by kernel_rfl) (w_take rfl hc737) (fun _ => qt_move rfl) rfl rfl ?_
                            refine XB_take (i := 27) rfl (by kernel_rfl) (by kernel_rfl) (by kernel_rfl) (w_take rfl hc737) (fun _ => qt_move rfl) rfl rfl ?_
                            refine XB_lenH (i := 28) rfl (by kernel_rfl) (by kernel_rfl) (by kernel_rfl) H795.ctx (t := (.int .i64)) (Has.c (Has.c (Has.hd))) u27 (w_take rfl hc737) rfl rfl ?_
                            refine XB_take (i := 29) rfl (by kernel_rfl) (by kernel_rfl) (by kernel_rfl) (w_take rfl hc737) (fun _ => qt_leq rfl rfl) rfl rfl ?_
                            refine XB_take (i := 30) rfl (by kernel_rfl) (by kernel_rfl) (by kernel_rfl) rfl (fun _ => qt_pickT rfl hc737 rfl) rfl rfl ?_
                            refine XB_take (i := 31) rfl (by kernel_rfl) (by kernel_rfl) (by kernel_rfl) rfl (fun _ => qt_move rfl) rfl rfl ?_
                            refine XB_all [32] (by kernel_rfl) (by simp) (allc ?_ alln)
                            · refine XB_do rfl ?_
                              refine WL_call (w_take rfl hc739) rfl c20 (w_laws_alive w793 ([.sl 3 (.int .i64) v789 x726, .sl 3 (.int .i64) v784 ([x712]), .sl 3 (.int .i64) v6 x2] ++ G)  x741 hx742 H795.ctx) (by rfl) ?_
                              rintro _ w796 ⟨rfl, H797⟩; refine ⟨_, rfl, ?_⟩
                              have H798 : Holds (([] : List Res).flatMap Res.own) w w796 [.sl 3 (.int .i64) v789 x726, .sl 3 (.int .i64) v784 ([x712]), .sl 3 (.int .i64) v6 x2] G := H795.calledN (Rs := []) H797
                              refine WL_nil fun a ha => ⟨rfl, (?_ : XB _ _ _ _ _ _ _ _) a ha⟩
                              refine XB_take (i := 33) rfl (by kernel_rfl) (by kernel_rfl) (by kernel_rfl) rfl (fun _ => qt_pickT rfl hc739 rfl) rfl rfl ?_
                              refine XB_take (i := 34) rfl (by kernel_rfl) (by kernel_rfl) (by kernel_rfl) rfl (fun _ => qt_assign rfl) rfl rfl ?_
                              refine XB_done (by kernel_rfl) (fun a ha => ?_)
                              have H799 : Holds (([] : List Res).flatMap Res.own) w w796 [] G := (((H798.cut 0).cut 0).cut 0)
                              exact ⟨ha.sub ⟨rfl, trivial⟩, H799⟩
                    · refine XB_do rfl ?_
                      refine WL_buildH (t := (.int .i64)) (args := [.tmp 33]) (xs := ([x712] : List Int)) H753 (BltL.cons (Blt.int) rfl (BltL.nil)) u27 j3 rfl rfl rfl rfl (w_take rfl hc699) rfl (fun v800 w801 H802 => ?_)
                      have H803 : Holds (([] : List Res).flatMap Res.own) w w801 [.sl 3 (.int .i64) v800 ([x712]), .sl 3 (.int .i64) v750 ([]), .sl 3 (.int .i64) v6 x2] G := H802
                      refine WL_nil fun a ha => ⟨rfl, (?_ : XB _ _ _ _ _ _ _ _) a ha⟩
                      refine XB_all [14] (by kernel_rfl) (by simp) (allc ?_ alln)
                      · refine XB_do rfl ?_
                        have H804 : Holds (([] : List Res).flatMap Res.own) w w801 [.sl 3 (.int .i64) v750 ([]), .sl 3 (.int .i64) v800 ([x712]), .sl 3 (.int .i64) v6 x2] G := H803.pull 1
                        refine WL_appendH H804 (Has.c (Has.c (Has.hd))) hx707 u27 j3 rfl rfl (w_take rfl hc699) rfl rfl rfl (fun v805 w806 H807 => ?_)
                        have H808 : Holds (([] : List Res).flatMap Res.own) w w806 [.sl 3 (.int .i64) v805 x706, .sl 3 (.int .i64) v800 ([x712]), .sl 3 (.int .i64) v6 x2] G := H807
                        refine WL_nil fun a ha => ⟨rfl, (?_ : XB _ _ _ _ _ _ _ _) a ha⟩
                        refine XB_all [19] (by kernel_rfl) (by simp) (allc ?_ alln)
                        · refine XB_do rfl ?_
                          refine WL_appendH H808 (Has.c (Has.hd)) hx727 u27 j3 rfl rfl (w_take rfl hc699) rfl rfl rfl (fun v809 w810 H811 => ?_)
                          have H812 : Holds (([] : List Res).flatMap Res.own) w w810 [.sl 3 (.int .i64) v809 x726, .sl 3 (.int .i64) v800 ([x712]), .sl 3 (.int .i64) v6 x2] G := H811
                          refine WL_nil fun a ha => ⟨rfl, (?_ : XB _ _ _ _ _ _ _ _) a ha⟩
                          refine XB_all [20] (by kernel_rfl) (by simp) (allc ?_ alln)
                          · refine XB_do rfl ?_
                            refine WL_call (w_take rfl hc699) rfl c54 (w_impl_SeatsMany w810 ([.sl 3 (.int .i64) v809 x726, .sl 3 (.int .i64) v800 ([x712]), .sl 3 (.int .i64) v6 x2] ++ G) v809 x726 (Has.hd) x732 hx733 H812.ctx) (by rfl) ?_
                            rintro _ w813 ⟨rfl, H814⟩; refine ⟨_, rfl, ?_⟩
                            have H815 : Holds (([] : List Res).flatMap Res.own) w w813 [.sl 3 (.int .i64) v809 x726, .sl 3 (.int .i64) v800 ([x712]), .sl 3 (.int .i64) v6 x2] G := H812.calledN (Rs := []) H814
                            refine WL_nil fun a ha => ⟨rfl, (?_ : XB _ _ _ _ _ _ _ _) a ha⟩
                            refine XB_take (i := 22) rfl (by kernel_rfl) (by kernel_rfl) (by kernel_rfl) (w_take rfl hc699) (fun _ => qt_eql rfl rfl) rfl rfl ?_
                            refine XB_take (i := 23) rfl (by kernel_rfl) (by kernel_rfl) (by kernel_rfl) (w_take rfl hc697) (fun _ => qt_pickT rfl hc699 rfl) rfl rfl ?_
                            refine XB_take (i := 24) rfl (by kernel_rfl) (by kernel_rfl) (by kernel_rfl) rfl (fun _ => qt_pickF rfl hc697 rfl) rfl rfl ?_
                            refine XB_take (i := 25) rfl (by kernel_rfl) (by kernel_rfl) (by kernel_rfl) rfl (fun _ => qt_move rfl) rfl rfl ?_
                            refine XB_take (i := 26) rfl (by kernel_rfl) (by kernel_rfl) (by kernel_rfl) (w_take rfl hc737) (fun _ => qt_move rfl) rfl rfl ?_
                            refine XB_take (i := 27) rfl (by kernel_rfl) (by kernel_rfl) (by kernel_rfl) (w_take rfl hc737) (fun _ => qt_move rfl) rfl rfl ?_
                            refine XB_lenH (i := 28) rfl (by kernel_rfl) (by kernel_rfl) (by kernel_rfl) H815.ctx (t := (.int .i64)) (Has.c (Has.c (Has.hd))) u27 (w_take rfl hc737) rfl rfl ?_
                            refine XB_take (i := 29) rfl (by kernel_rfl) (by kernel_rfl) (by kernel_rfl) (w_take rfl hc737) (fun _ => qt_leq rfl rfl) rfl rfl ?_
                            refine XB_take (i := 30) rfl (by kernel_rfl) (by kernel_rfl) (by kernel_rfl) rfl (fun _ => qt_pickT rfl hc737 rfl) rfl rfl ?_
                            refine XB_take (i := 31) rfl (by kernel_rfl) (by kernel_rfl) (by kernel_rfl) rfl (fun _ => qt_move rfl) rfl rfl ?_
                            refine XB_all [32] (by kernel_rfl) (by simp) (allc ?_ alln)
                            · refine XB_do rfl ?_
                              refine WL_call (w_take rfl hc739) rfl c20 (w_laws_alive w813 ([.sl 3 (.int .i64) v809 x726, .sl 3 (.int .i64) v800 ([x712]), .sl 3 (.int .i64) v6 x2] ++ G)  x741 hx742 H815.ctx) (by rfl) ?_
                              rintro _ w816 ⟨rfl, H817⟩; refine ⟨_, rfl, ?_⟩
                              have H818 : Holds (([] : List Res).flatMap Res.own) w w816 [.sl 3 (.int .i64) v809 x726, .sl 3 (.int .i64) v800 ([x712]), .sl 3 (.int .i64) v6 x2] G := H815.calledN (Rs := []) H817
                              refine WL_nil fun a ha => ⟨rfl, (?_ : XB _ _ _ _ _ _ _ _) a ha⟩
                              refine XB_take (i := 33) rfl (by kernel_rfl) (by kernel_rfl) (by kernel_rfl) rfl (fun _ => qt_pickT rfl hc739 rfl) rfl rfl ?_
                              refine XB_take (i := 34) rfl (by kernel_rfl) (by kernel_rfl) (by kernel_rfl) rfl (fun _ => qt_assign rfl) rfl rfl ?_
                              refine XB_done (by kernel_rfl) (fun a ha => ?_)
                              have H819 : Holds (([] : List Res).flatMap Res.own) w w816 [] G := (((H818.cut 0).cut 0).cut 0)
                              exact ⟨ha.sub ⟨rfl, trivial⟩, H819⟩
                · refine XB_do rfl ?_
                  obtain ⟨F820, hat821, hdup822⟩ := H222.at (Has.hd) hx713 hv749
                  refine XL_load_int (k := .i64) u3 rfl hat821 (w_take rfl hc699) rfl rfl ?_
                  refine WL_nil fun a ha => ⟨rfl, (?_ : XB _ _ _ _ _ _ _ _) a ha⟩
                  refine XB_all [12, 18] (by kernel_rfl) (by simp) (allc ?_ (allc ?_ alln))
                  · refine XB_do rfl ?_
                    refine WL_buildH (t := (.int .i64)) (args := []) (xs := ([] : List Int)) H222 (BltL.nil) u27 j3 rfl rfl rfl rfl (w_take rfl hc699) rfl (fun v823 w824 H825 => ?_)
                    have H826 : Holds (([] : List Res).flatMap Res.own) w w824 [.sl 3 (.int .i64) v823 ([]), .sl 3 (.int .i64) v6 x2] G := H825
                    refine WL_nil fun a ha => ⟨rfl, (?_ : XB _ _ _ _ _ _ _ _) a ha⟩
                    refine XB_all [14, 18] (by kernel_rfl) (by simp) (allc ?_ (allc ?_ alln))
                    · refine XB_do rfl ?_
                      refine WL_appendH H826 (Has.c (Has.hd)) hx707 u27 j3 rfl rfl (w_take rfl hc699) rfl rfl rfl (fun v827 w828 H829 => ?_)
                      have H830 : Holds (([] : List Res).flatMap Res.own) w w828 [.sl 3 (.int .i64) v827 x706, .sl 3 (.int .i64) v6 x2] G := H829
                      refine WL_nil fun a ha => ⟨rfl, (?_ : XB _ _ _ _ _ _ _ _) a ha⟩
                      refine XB_all [18] (by kernel_rfl) (by simp) (allc ?_ alln)
                      · refine XB_do rfl ?_
                        refine WL_buildH (t := (.int .i64)) (args := [.tmp 33]) (xs := ([x712] : List Int)) H830 (BltL.cons (Blt.int) rfl (BltL.nil)) u27 j3 rfl rfl rfl rfl (w_take rfl hc699) rfl (fun v831 w832 H833 => ?_)
                        have H834 : Holds (([] : List Res).flatMap Res.own) w w832 [.sl 3 (.int .i64) v831 ([x712]), .sl 3 (.int .i64) v827 x706, .sl 3 (.int .i64) v6 x2] G := H833
                        refine WL_nil fun a ha => ⟨rfl, (?_ : XB _ _ _ _ _ _ _ _) a ha⟩
                        refine XB_all [19] (by kernel_rfl) (by simp) (allc ?_ alln)
                        · refine XB_do rfl ?_
                          have H835 : Holds (([] : List Res).flatMap Res.own) w w832 [.sl 3 (.int .i64) v827 x706, .sl 3 (.int .i64) v831 ([x712]), .sl 3 (.int .i64) v6 x2] G := H834.pull 1
                          refine WL_appendH H835 (Has.c (Has.hd)) hx727 u27 j3 rfl rfl (w_take rfl hc699) rfl rfl rfl (fun v836 w837 H838 => ?_)
                          have H839 : Holds (([] : List Res).flatMap Res.own) w w837 [.sl 3 (.int .i64) v836 x726, .sl 3 (.int .i64) v831 ([x712]), .sl 3 (.int .i64) v6 x2] G := H838
                          refine WL_nil fun a ha => ⟨rfl, (?_ : XB _ _ _ _ _ _ _ _) a ha⟩
                          refine XB_all [20] (by kernel_rfl) (by simp) (allc ?_ alln)
                          · refine XB_do rfl ?_
                            refine WL_call (w_take rfl hc699) rfl c54 (w_impl_SeatsMany w837 ([.sl 3 (.int .i64) v836 x726, .sl 3 (.int .i64) v831 ([x712]), .sl 3 (.int .i64) v6 x2] ++ G) v836 x726 (Has.hd) x732 hx733 H839.ctx) (by rfl) ?_
                            rintro _ w840 ⟨rfl, H841⟩; refine ⟨_, rfl, ?_⟩
                            have H842 : Holds (([] : List Res).flatMap Res.own) w w840 [.sl 3 (.int .i64) v836 x726, .sl 3 (.int .i64) v831 ([x712]), .sl 3 (.int .i64) v6 x2] G := H839.calledN (Rs := []) H841
                            refine WL_nil fun a ha => ⟨rfl, (?_ : XB _ _ _ _ _ _ _ _) a ha⟩
                            refine XB_take (i := 22) rfl (by kernel_rfl) (by kernel_rfl) (by kernel_rfl) (w_take rfl hc699) (fun _ => qt_eql rfl rfl) rfl rfl ?_
                            refine XB_take (i := 23) rfl (by kernel_rfl) (by kernel_rfl) (by kernel_rfl) (w_take rfl hc697) (fun _ => qt_pickT rfl hc699 rfl) rfl rfl ?_
                            refine XB_take (i := 24) rfl (by kernel_rfl) (by kernel_rfl) (by kernel_rfl) rfl (fun _ => qt_pickF rfl hc697 rfl) rfl rfl ?_
                            refine XB_take (i := 25) rfl (by kernel_rfl) (by kernel_rfl) (by kernel_rfl) rfl (fun _ => qt_move rfl) rfl rfl ?_
                            refine XB_take (i := 26) rfl (by kernel_rfl) (by kernel_rfl) (by kernel_rfl) (w_take rfl hc737) (fun _ => qt_move rfl) rfl rfl ?_
                            refine XB_take (i := 27) rfl (by kernel_rfl) (by kernel_rfl) (by kernel_rfl) (w_take rfl hc737) (fun _ => qt_move rfl) rfl rfl ?_
                            refine XB_lenH (i := 28) rfl (by kernel_rfl) (by kernel_rfl) (by kernel_rfl) H842.ctx (t := (.int .i64)) (Has.c (Has.c (Has.hd))) u27 (w_take rfl hc737) rfl rfl ?_
                            refine XB_take (i := 29) rfl (by kernel_rfl) (by kernel_rfl) (by kernel_rfl) (w_take rfl hc737) (fun _ => qt_leq rfl rfl) rfl rfl ?_
                            refine XB_take (i := 30) rfl (by kernel_rfl) (by kernel_rfl) (by kernel_rfl) rfl (fun _ => qt_pickT rfl hc737 rfl) rfl rfl ?_
                            refine XB_take (i := 31) rfl (by kernel_rfl) (by kernel_rfl) (by kernel_rfl) rfl (fun _ => qt_move rfl) rfl rfl ?_
                            refine XB_all [32] (by kernel_rfl) (by simp) (allc ?_ alln)
                            · refine XB_do rfl ?_
                              refine WL_call (w_take rfl hc739) rfl c20 (w_laws_alive w840 ([.sl 3 (.int .i64) v836 x726, .sl 3 (.int .i64) v831 ([x712]), .sl 3 (.int .i64) v6 x2] ++ G)  x741 hx742 H842.ctx) (by rfl) ?_
                              rintro _ w843 ⟨rfl, H844⟩; refine ⟨_, rfl, ?_⟩
                              have H845 : Holds (([] : List Res).flatMap Res.own) w w843 [.sl 3 (.int .i64) v836 x726, .sl 3 (.int .i64) v831 ([x712]), .sl 3 (.int .i64) v6 x2] G := H842.calledN (Rs := []) H844
                              refine WL_nil fun a ha => ⟨rfl, (?_ : XB _ _ _ _ _ _ _ _) a ha⟩
                              refine XB_take (i := 33) rfl (by kernel_rfl) (by kernel_rfl) (by kernel_rfl) rfl (fun _ => qt_pickT rfl hc739 rfl) rfl rfl ?_
                              refine XB_take (i := 34) rfl (by kernel_rfl) (by kernel_rfl) (by kernel_rfl) rfl (fun _ => qt_assign rfl) rfl rfl ?_
                              refine XB_done (by kernel_rfl) (fun a ha => ?_)
                              have H846 : Holds (([] : List Res).flatMap Res.own) w w843 [] G := (((H845.cut 0).cut 0).cut 0)
                              exact ⟨ha.sub ⟨rfl, trivial⟩, H846⟩
                    · refine XB_do rfl ?_
                      refine WL_buildH (t := (.int .i64)) (args := [.tmp 33]) (xs := ([x712] : List Int)) H826 (BltL.cons (Blt.int) rfl (BltL.nil)) u27 j3 rfl rfl rfl rfl (w_take rfl hc699) rfl (fun v847 w848 H849 => ?_)
                      have H850 : Holds (([] : List Res).flatMap Res.own) w w848 [.sl 3 (.int .i64) v847 ([x712]), .sl 3 (.int .i64) v823 ([]), .sl 3 (.int .i64) v6 x2] G := H849
                      refine WL_nil fun a ha => ⟨rfl, (?_ : XB _ _ _ _ _ _ _ _) a ha⟩
                      refine XB_all [14] (by kernel_rfl) (by simp) (allc ?_ alln)
                      · refine XB_do rfl ?_
                        have H851 : Holds (([] : List Res).flatMap Res.own) w w848 [.sl 3 (.int .i64) v823 ([]), .sl 3 (.int .i64) v847 ([x712]), .sl 3 (.int .i64) v6 x2] G := H850.pull 1
                        refine WL_appendH H851 (Has.c (Has.c (Has.hd))) hx707 u27 j3 rfl rfl (w_take rfl hc699) rfl rfl rfl (fun v852 w853 H854 => ?_)
                        have H855 : Holds (([] : List Res).flatMap Res.own) w w853 [.sl 3 (.int .i64) v852 x706, .sl 3 (.int .i64) v847 ([x712]), .sl 3 (.int .i64) v6 x2] G := H854
                        refine WL_nil fun a ha => ⟨rfl, (?_ : XB _ _ _ _ _ _ _ _) a ha⟩
                        refine XB_all [19] (by kernel_rfl) (by simp) (allc ?_ alln)
                        · refine XB_do rfl ?_
                          refine WL_appendH H855 (Has.c (Has.hd)) hx727 u27 j3 rfl rfl (w_take rfl hc699) rfl rfl rfl (fun v856 w857 H858 => ?_)
                          have H859 : Holds (([] : List Res).flatMap Res.own) w w857 [.sl 3 (.int .i64) v856 x726, .sl 3 (.int .i64) v847 ([x712]), .sl 3 (.int .i64) v6 x2] G := H858
                          refine WL_nil fun a ha => ⟨rfl, (?_ : XB _ _ _ _ _ _ _ _) a ha⟩
                          refine XB_all [20] (by kernel_rfl) (by simp) (allc ?_ alln)
                          · refine XB_do rfl ?_
                            refine WL_call (w_take rfl hc699) rfl c54 (w_impl_SeatsMany w857 ([.sl 3 (.int .i64) v856 x726, .sl 3 (.int .i64) v847 ([x712]), .sl 3 (.int .i64) v6 x2] ++ G) v856 x726 (Has.hd) x732 hx733 H859.ctx) (by rfl) ?_
                            rintro _ w860 ⟨rfl, H861⟩; refine ⟨_, rfl, ?_⟩
                            have H862 : Holds (([] : List Res).flatMap Res.own) w w860 [.sl 3 (.int .i64) v856 x726, .sl 3 (.int .i64) v847 ([x712]), .sl 3 (.int .i64) v6 x2] G := H859.calledN (Rs := []) H861
                            refine WL_nil fun a ha => ⟨rfl, (?_ : XB _ _ _ _ _ _ _ _) a ha⟩
                            refine XB_take (i := 22) rfl (by kernel_rfl) (by kernel_rfl) (by kernel_rfl) (w_take rfl hc699) (fun _ => qt_eql rfl rfl) rfl rfl ?_
                            refine XB_take (i := 23) rfl (by kernel_rfl) (by kernel_rfl) (by kernel_rfl) (w_take rfl hc697) (fun _ => qt_pickT rfl hc699 rfl) rfl rfl ?_
                            refine XB_take (i := 24) rfl (by kernel_rfl) (by kernel_rfl) (by kernel_rfl) rfl (fun _ => qt_pickF rfl hc697 rfl) rfl rfl ?_
                            refine XB_take (i := 25) rfl (by kernel_rfl) (by kernel_rfl) (by kernel_rfl) rfl (fun _ => qt_move rfl) rfl rfl ?_
                            refine XB_take (i := 26) rfl (by kernel_rfl) (by kernel_rfl) (by kernel_rfl) (w_take rfl hc737) (fun _ => qt_move rfl) rfl rfl ?_
                            refine XB_take (i := 27) rfl (by kernel_rfl) (by kernel_rfl) (by kernel_rfl) (w_take rfl hc737) (fun _ => qt_move rfl) rfl rfl ?_
                            refine XB_lenH (i := 28) rfl (by kernel_rfl) (by kernel_rfl) (by kernel_rfl) H862.ctx (t := (.int .i64)) (Has.c (Has.c (Has.hd))) u27 (w_take rfl hc737) rfl rfl ?_
                            refine XB_take (i := 29) rfl (by kernel_rfl) (by kernel_rfl) (by kernel_rfl) (w_take rfl hc737) (fun _ => qt_leq rfl rfl) rfl rfl ?_
                            refine XB_take (i := 30) rfl (by kernel_rfl) (by kernel_rfl) (by kernel_rfl) rfl (fun _ => qt_pickT rfl hc737 rfl) rfl rfl ?_
                            refine XB_take (i := 31) rfl (by kernel_rfl) (by kernel_rfl) (by kernel_rfl) rfl (fun _ => qt_move rfl) rfl rfl ?_
                            refine XB_all [32] (by kernel_rfl) (by simp) (allc ?_ alln)
                            · refine XB_do rfl ?_
                              refine WL_call (w_take rfl hc739) rfl c20 (w_laws_alive w860 ([.sl 3 (.int .i64) v856 x726, .sl 3 (.int .i64) v847 ([x712]), .sl 3 (.int .i64) v6 x2] ++ G)  x741 hx742 H862.ctx) (by rfl) ?_
                              rintro _ w863 ⟨rfl, H864⟩; refine ⟨_, rfl, ?_⟩
                              have H865 : Holds (([] : List Res).flatMap Res.own) w w863 [.sl 3 (.int .i64) v856 x726, .sl 3 (.int .i64) v847 ([x712]), .sl 3 (.int .i64) v6 x2] G := H862.calledN (Rs := []) H864
                              refine WL_nil fun a ha => ⟨rfl, (?_ : XB _ _ _ _ _ _ _ _) a ha⟩
                              refine XB_take (i := 33) rfl (by kernel_rfl) (by kernel_rfl) (by kernel_rfl) rfl (fun _ => qt_pickT rfl hc739 rfl) rfl rfl ?_
                              refine XB_take (i := 34) rfl (by kernel_rfl) (by kernel_rfl) (by kernel_rfl) rfl (fun _ => qt_assign rfl) rfl rfl ?_
                              refine XB_done (by kernel_rfl) (fun a ha => ?_)
                              have H866 : Holds (([] : List Res).flatMap Res.own) w w863 [] G := (((H865.cut 0).cut 0).cut 0)
                              exact ⟨ha.sub ⟨rfl, trivial⟩, H866⟩
                  · refine XB_do rfl ?_
                    refine WL_buildH (t := (.int .i64)) (args := [.tmp 33]) (xs := ([x712] : List Int)) H222 (BltL.cons (Blt.int) rfl (BltL.nil)) u27 j3 rfl rfl rfl rfl (w_take rfl hc699) rfl (fun v867 w868 H869 => ?_)
                    have H870 : Holds (([] : List Res).flatMap Res.own) w w868 [.sl 3 (.int .i64) v867 ([x712]), .sl 3 (.int .i64) v6 x2] G := H869
                    refine WL_nil fun a ha => ⟨rfl, (?_ : XB _ _ _ _ _ _ _ _) a ha⟩
                    refine XB_all [12] (by kernel_rfl) (by simp) (allc ?_ alln)
                    · refine XB_do rfl ?_
                      refine WL_buildH (t := (.int .i64)) (args := []) (xs := ([] : List Int)) H870 (BltL.nil) u27 j3 rfl rfl rfl rfl (w_take rfl hc699) rfl (fun v871 w872 H873 => ?_)
                      have H874 : Holds (([] : List Res).flatMap Res.own) w w872 [.sl 3 (.int .i64) v871 ([]), .sl 3 (.int .i64) v867 ([x712]), .sl 3 (.int .i64) v6 x2] G := H873
                      refine WL_nil fun a ha => ⟨rfl, (?_ : XB _ _ _ _ _ _ _ _) a ha⟩
                      refine XB_all [14] (by kernel_rfl) (by simp) (allc ?_ alln)
                      · refine XB_do rfl ?_
                        refine WL_appendH H874 (Has.c (Has.c (Has.hd))) hx707 u27 j3 rfl rfl (w_take rfl hc699) rfl rfl rfl (fun v875 w876 H877 => ?_)
                        have H878 : Holds (([] : List Res).flatMap Res.own) w w876 [.sl 3 (.int .i64) v875 x706, .sl 3 (.int .i64) v867 ([x712]), .sl 3 (.int .i64) v6 x2] G := H877
                        refine WL_nil fun a ha => ⟨rfl, (?_ : XB _ _ _ _ _ _ _ _) a ha⟩
                        refine XB_all [19] (by kernel_rfl) (by simp) (allc ?_ alln)
                        · refine XB_do rfl ?_
                          refine WL_appendH H878 (Has.c (Has.hd)) hx727 u27 j3 rfl rfl (w_take rfl hc699) rfl rfl rfl (fun v879 w880 H881 => ?_)
                          have H882 : Holds (([] : List Res).flatMap Res.own) w w880 [.sl 3 (.int .i64) v879 x726, .sl 3 (.int .i64) v867 ([x712]), .sl 3 (.int .i64) v6 x2] G := H881
                          refine WL_nil fun a ha => ⟨rfl, (?_ : XB _ _ _ _ _ _ _ _) a ha⟩
                          refine XB_all [20] (by kernel_rfl) (by simp) (allc ?_ alln)
                          · refine XB_do rfl ?_
                            refine WL_call (w_take rfl hc699) rfl c54 (w_impl_SeatsMany w880 ([.sl 3 (.int .i64) v879 x726, .sl 3 (.int .i64) v867 ([x712]), .sl 3 (.int .i64) v6 x2] ++ G) v879 x726 (Has.hd) x732 hx733 H882.ctx) (by rfl) ?_
                            rintro _ w883 ⟨rfl, H884⟩; refine ⟨_, rfl, ?_⟩
                            have H885 : Holds (([] : List Res).flatMap Res.own) w w883 [.sl 3 (.int .i64) v879 x726, .sl 3 (.int .i64) v867 ([x712]), .sl 3 (.int .i64) v6 x2] G := H882.calledN (Rs := []) H884
                            refine WL_nil fun a ha => ⟨rfl, (?_ : XB _ _ _ _ _ _ _ _) a ha⟩
                            refine XB_take (i := 22) rfl (by kernel_rfl) (by kernel_rfl) (by kernel_rfl) (w_take rfl hc699) (fun _ => qt_eql rfl rfl) rfl rfl ?_
                            refine XB_take (i := 23) rfl (by kernel_rfl) (by kernel_rfl) (by kernel_rfl) (w_take rfl hc697) (fun _ => qt_pickT rfl hc699 rfl) rfl rfl ?_
                            refine XB_take (i := 24) rfl (by kernel_rfl) (by kernel_rfl) (by kernel_rfl) rfl (fun _ => qt_pickF rfl hc697 rfl) rfl rfl ?_
                            refine XB_take (i := 25) rfl (by kernel_rfl) (by kernel_rfl) (by kernel_rfl) rfl (fun _ => qt_move rfl) rfl rfl ?_
                            refine XB_take (i := 26) rfl (by kernel_rfl) (by kernel_rfl) (by kernel_rfl) (w_take rfl hc737) (fun _ => qt_move rfl) rfl rfl ?_
                            refine XB_take (i := 27) rfl (by kernel_rfl) (by kernel_rfl) (by kernel_rfl) (w_take rfl hc737) (fun _ => qt_move rfl) rfl rfl ?_
                            refine XB_lenH (i := 28) rfl (by kernel_rfl) (by kernel_rfl) (by kernel_rfl) H885.ctx (t := (.int .i64)) (Has.c (Has.c (Has.hd))) u27 (w_take rfl hc737) rfl rfl ?_
                            refine XB_take (i := 29) rfl (by kernel_rfl) (by kernel_rfl) (by kernel_rfl) (w_take rfl hc737) (fun _ => qt_leq rfl rfl) rfl rfl ?_
                            refine XB_take (i := 30) rfl (by kernel_rfl) (by kernel_rfl) (by kernel_rfl) rfl (fun _ => qt_pickT rfl hc737 rfl) rfl rfl ?_
                            refine XB_take (i := 31) rfl (by kernel_rfl) (by kernel_rfl) (by kernel_rfl) rfl (fun _ => qt_move rfl) rfl rfl ?_
                            refine XB_all [32] (by kernel_rfl) (by simp) (allc ?_ alln)
                            · refine XB_do rfl ?_
                              refine WL_call (w_take rfl hc739) rfl c20 (w_laws_alive w883 ([.sl 3 (.int .i64) v879 x726, .sl 3 (.int .i64) v867 ([x712]), .sl 3 (.int .i64) v6 x2] ++ G)  x741 hx742 H885.ctx) (by rfl) ?_
                              rintro _ w886 ⟨rfl, H887⟩; refine ⟨_, rfl, ?_⟩
                              have H888 : Holds (([] : List Res).flatMap Res.own) w w886 [.sl 3 (.int .i64) v879 x726, .sl 3 (.int .i64) v867 ([x712]), .sl 3 (.int .i64) v6 x2] G := H885.calledN (Rs := []) H887
                              refine WL_nil fun a ha => ⟨rfl, (?_ : XB _ _ _ _ _ _ _ _) a ha⟩
                              refine XB_take (i := 33) rfl (by kernel_rfl) (by kernel_rfl) (by kernel_rfl) rfl (fun _ => qt_pickT rfl hc739 rfl) rfl rfl ?_
                              refine XB_take (i := 34) rfl (by kernel_rfl) (by kernel_rfl) (by kernel_rfl) rfl (fun _ => qt_assign rfl) rfl rfl ?_
                              refine XB_done (by kernel_rfl) (fun a ha => ?_)
                              have H889 : Holds (([] : List Res).flatMap Res.own) w w886 [] G := (((H888.cut 0).cut 0).cut 0)
                              exact ⟨ha.sub ⟨rfl, trivial⟩, H889⟩
              · skip
                have ho890 := if_f hc739 hob64
                obtain rfl := Option.some.inj ho890
                refine XB_take (i := 0) rfl (by kernel_rfl) (by kernel_rfl) (by kernel_rfl) rfl (fun _ => qt_move rfl) rfl rfl ?_
                refine XB_lenH (i := 1) rfl (by kernel_rfl) (by kernel_rfl) (by kernel_rfl) H222.ctx (t := (.int .i64)) (Has.hd) u27 rfl rfl rfl ?_
                refine XB_take (i := 2) rfl (by kernel_rfl) (by kernel_rfl) (by kernel_rfl) rfl (fun _ => qt_eql rfl rfl) rfl rfl ?_
                refine XB_take (i := 3) rfl (by kernel_rfl) (by kernel_rfl) (by kernel_rfl) rfl (fun _ => qt_move rfl) rfl rfl ?_
                refine XB_skip (i := 4) rfl (by kernel_rfl) (by kernel_rfl) (by kernel_rfl) (w_skip rfl hc223) rfl rfl ?_
                refine XB_skip (i := 5) rfl (by kernel_rfl) (by kernel_rfl) (by kernel_rfl) (w_skip rfl hc223) rfl rfl ?_
                refine XB_take (i := 6) rfl (by kernel_rfl) (by kernel_rfl) (by kernel_rfl) rfl (fun _ => qt_pickF rfl hc223 rfl) rfl rfl ?_
                refine XB_take (i := 7) rfl (by kernel_rfl) (by kernel_rfl) (by kernel_rfl) rfl (fun _ => qt_move rfl) rfl rfl ?_
                refine XB_take (i := 8) rfl (by kernel_rfl) (by kernel_rfl) (by kernel_rfl) (w_take rfl hc697) (fun _ => qt_move rfl) rfl rfl ?_
                refine XB_lenH (i := 9) rfl (by kernel_rfl) (by kernel_rfl) (by kernel_rfl) H222.ctx (t := (.int .i64)) (Has.hd) u27 (w_take rfl hc697) rfl rfl ?_
                refine XB_take (i := 10) rfl (by kernel_rfl) (by kernel_rfl) (by kernel_rfl) (w_take rfl hc697) (fun _ => qt_gtr rfl rfl) rfl rfl ?_
                refine XB_take (i := 11) rfl (by kernel_rfl) (by kernel_rfl) (by kernel_rfl) (w_take rfl hc697) (fun _ => qt_move rfl) rfl rfl ?_
                refine XB_take (i := 13) rfl (by kernel_rfl) (by kernel_rfl) (by kernel_rfl) (w_take rfl hc699) (fun _ => qt_move rfl) rfl rfl ?_
                refine XB_take (i := 15) rfl (by kernel_rfl) (by kernel_rfl) (by kernel_rfl) (w_take rfl hc699) (fun _ => qt_move rfl) rfl rfl ?_
                refine XB_indexH (i := 16) rfl (by kernel_rfl) (by kernel_rfl) (by kernel_rfl) H222.ctx (Has.hd) hx713 u27 i3 (w_take rfl hc699) rfl rfl rfl (fun b891 off892 cap893 hv894 => ?_)
                refine XB_take (i := 21) rfl (by kernel_rfl) (by kernel_rfl) (by kernel_rfl) (w_take rfl hc699) (fun _ => qt_move rfl) rfl rfl ?_
                refine XB_all [12, 17] (by kernel_rfl) (by simp) (allc ?_ (allc ?_ alln))
                · refine XB_do rfl ?_
                  refine WL_buildH (t := (.int .i64)) (args := []) (xs := ([] : List Int)) H222 (BltL.nil) u27 j3 rfl rfl rfl rfl (w_take rfl hc699) rfl (fun v895 w896 H897 => ?_)
                  have H898 : Holds (([] : List Res).flatMap Res.own) w w896 [.sl 3 (.int .i64) v895 ([]), .sl 3 (.int .i64) v6 x2] G := H897
                  refine WL_nil fun a ha => ⟨rfl, (?_ : XB _ _ _ _ _ _ _ _) a ha⟩
                  refine XB_all [14, 17] (by kernel_rfl) (by simp) (allc ?_ (allc ?_ alln))
                  · refine XB_do rfl ?_
                    refine WL_appendH H898 (Has.c (Has.hd)) hx707 u27 j3 rfl rfl (w_take rfl hc699) rfl rfl rfl (fun v899 w900 H901 => ?_)
                    have H902 : Holds (([] : List Res).flatMap Res.own) w w900 [.sl 3 (.int .i64) v899 x706, .sl 3 (.int .i64) v6 x2] G := H901
                    refine WL_nil fun a ha => ⟨rfl, (?_ : XB _ _ _ _ _ _ _ _) a ha⟩
                    refine XB_all [17] (by kernel_rfl) (by simp) (allc ?_ alln)
                    · refine XB_do rfl ?_
                      obtain ⟨F903, hat904, hdup905⟩ := H902.at (Has.c (Has.hd)) hx713 hv894
                      refine XL_load_int (k := .i64) u3 rfl hat904 (w_take rfl hc699) rfl rfl ?_
                      refine WL_nil fun a ha => ⟨rfl, (?_ : XB _ _ _ _ _ _ _ _) a ha⟩
                      refine XB_all [18] (by kernel_rfl) (by simp) (allc ?_ alln)
                      · refine XB_do rfl ?_
                        refine WL_buildH (t := (.int .i64)) (args := [.tmp 33]) (xs := ([x712] : List Int)) H902 (BltL.cons (Blt.int) rfl (BltL.nil)) u27 j3 rfl rfl rfl rfl (w_take rfl hc699) rfl (fun v906 w907 H908 => ?_)
                        have H909 : Holds (([] : List Res).flatMap Res.own) w w907 [.sl 3 (.int .i64) v906 ([x712]), .sl 3 (.int .i64) v899 x706, .sl 3 (.int .i64) v6 x2] G := H908
                        refine WL_nil fun a ha => ⟨rfl, (?_ : XB _ _ _ _ _ _ _ _) a ha⟩
                        refine XB_all [19] (by kernel_rfl) (by simp) (allc ?_ alln)
                        · refine XB_do rfl ?_
                          have H910 : Holds (([] : List Res).flatMap Res.own) w w907 [.sl 3 (.int .i64) v899 x706, .sl 3 (.int .i64) v906 ([x712]), .sl 3 (.int .i64) v6 x2] G := H909.pull 1
                          refine WL_appendH H910 (Has.c (Has.hd)) hx727 u27 j3 rfl rfl (w_take rfl hc699) rfl rfl rfl (fun v911 w912 H913 => ?_)
                          have H914 : Holds (([] : List Res).flatMap Res.own) w w912 [.sl 3 (.int .i64) v911 x726, .sl 3 (.int .i64) v906 ([x712]), .sl 3 (.int .i64) v6 x2] G := H913
                          refine WL_nil fun a ha => ⟨rfl, (?_ : XB _ _ _ _ _ _ _ _) a ha⟩
                          refine XB_all [20] (by kernel_rfl) (by simp) (allc ?_ alln)
                          · refine XB_do rfl ?_
                            refine WL_call (w_take rfl hc699) rfl c54 (w_impl_SeatsMany w912 ([.sl 3 (.int .i64) v911 x726, .sl 3 (.int .i64) v906 ([x712]), .sl 3 (.int .i64) v6 x2] ++ G) v911 x726 (Has.hd) x732 hx733 H914.ctx) (by rfl) ?_
                            rintro _ w915 ⟨rfl, H916⟩; refine ⟨_, rfl, ?_⟩
                            have H917 : Holds (([] : List Res).flatMap Res.own) w w915 [.sl 3 (.int .i64) v911 x726, .sl 3 (.int .i64) v906 ([x712]), .sl 3 (.int .i64) v6 x2] G := H914.calledN (Rs := []) H916
                            refine WL_nil fun a ha => ⟨rfl, (?_ : XB _ _ _ _ _ _ _ _) a ha⟩
                            refine XB_take (i := 22) rfl (by kernel_rfl) (by kernel_rfl) (by kernel_rfl) (w_take rfl hc699) (fun _ => qt_eql rfl rfl) rfl rfl ?_
                            refine XB_take (i := 23) rfl (by kernel_rfl) (by kernel_rfl) (by kernel_rfl) (w_take rfl hc697) (fun _ => qt_pickT rfl hc699 rfl) rfl rfl ?_
                            refine XB_take (i := 24) rfl (by kernel_rfl) (by kernel_rfl) (by kernel_rfl) rfl (fun _ => qt_pickF rfl hc697 rfl) rfl rfl ?_
                            refine XB_take (i := 25) rfl (by kernel_rfl) (by kernel_rfl) (by kernel_rfl) rfl (fun _ => qt_move rfl) rfl rfl ?_
                            refine XB_take (i := 26) rfl (by kernel_rfl) (by kernel_rfl) (by kernel_rfl) (w_take rfl hc737) (fun _ => qt_move rfl) rfl rfl ?_
                            refine XB_take (i := 27) rfl (by kernel_rfl) (by kernel_rfl) (by kernel_rfl) (w_take rfl hc737) (fun _ => qt_move rfl) rfl rfl ?_
                            refine XB_lenH (i := 28) rfl (by kernel_rfl) (by kernel_rfl) (by kernel_rfl) H917.ctx (t := (.int .i64)) (Has.c (Has.c (Has.hd))) u27 (w_take rfl hc737) rfl rfl ?_
                            refine XB_take (i := 29) rfl (by kernel_rfl) (by kernel_rfl) (by kernel_rfl) (w_take rfl hc737) (fun _ => qt_leq rfl rfl) rfl rfl ?_
                            refine XB_take (i := 30) rfl (by kernel_rfl) (by kernel_rfl) (by kernel_rfl) rfl (fun _ => qt_pickT rfl hc737 rfl) rfl rfl ?_
                            refine XB_take (i := 31) rfl (by kernel_rfl) (by kernel_rfl) (by kernel_rfl) rfl (fun _ => qt_move rfl) rfl rfl ?_
                            refine XB_skip (i := 32) rfl (by kernel_rfl) (by kernel_rfl) (by kernel_rfl) (w_skip rfl hc739) rfl rfl ?_
                            refine XB_take (i := 33) rfl (by kernel_rfl) (by kernel_rfl) (by kernel_rfl) rfl (fun _ => qt_pickF rfl hc739 rfl) rfl rfl ?_
                            refine XB_take (i := 34) rfl (by kernel_rfl) (by kernel_rfl) (by kernel_rfl) rfl (fun _ => qt_assign rfl) rfl rfl ?_
                            refine XB_done (by kernel_rfl) (fun a ha => ?_)
                            have H918 : Holds (([] : List Res).flatMap Res.own) w w915 [] G := (((H917.cut 0).cut 0).cut 0)
                            exact ⟨ha.sub ⟨rfl, trivial⟩, H918⟩
                  · refine XB_do rfl ?_
                    obtain ⟨F919, hat920, hdup921⟩ := H898.at (Has.c (Has.hd)) hx713 hv894
                    refine XL_load_int (k := .i64) u3 rfl hat920 (w_take rfl hc699) rfl rfl ?_
                    refine WL_nil fun a ha => ⟨rfl, (?_ : XB _ _ _ _ _ _ _ _) a ha⟩
                    refine XB_all [14, 18] (by kernel_rfl) (by simp) (allc ?_ (allc ?_ alln))
                    · refine XB_do rfl ?_
                      refine WL_appendH H898 (Has.c (Has.hd)) hx707 u27 j3 rfl rfl (w_take rfl hc699) rfl rfl rfl (fun v922 w923 H924 => ?_)
                      have H925 : Holds (([] : List Res).flatMap Res.own) w w923 [.sl 3 (.int .i64) v922 x706, .sl 3 (.int .i64) v6 x2] G := H924
                      refine WL_nil fun a ha => ⟨rfl, (?_ : XB _ _ _ _ _ _ _ _) a ha⟩
                      refine XB_all [18] (by kernel_rfl) (by simp) (allc ?_ alln)
                      · refine XB_do rfl ?_
                        refine WL_buildH (t := (.int .i64)) (args := [.tmp 33]) (xs := ([x712] : List Int)) H925 (BltL.cons (Blt.int) rfl (BltL.nil)) u27 j3 rfl rfl rfl rfl (w_take rfl hc699) rfl (fun v926 w927 H928 => ?_)
                        have H929 : Holds (([] : List Res).flatMap Res.own) w w927 [.sl 3 (.int .i64) v926 ([x712]), .sl 3 (.int .i64) v922 x706, .sl 3 (.int .i64) v6 x2] G := H928
                        refine WL_nil fun a ha => ⟨rfl, (?_ : XB _ _ _ _ _ _ _ _) a ha⟩
                        refine XB_all [19] (by kernel_rfl) (by simp) (allc ?_ alln)
                        · refine XB_do rfl ?_
                          have H930 : Holds (([] : List Res).flatMap Res.own) w w927 [.sl 3 (.int .i64) v922 x706, .sl 3 (.int .i64) v926 ([x712]), .sl 3 (.int .i64) v6 x2] G := H929.pull 1
                          refine WL_appendH H930 (Has.c (Has.hd)) hx727 u27 j3 rfl rfl (w_take rfl hc699) rfl rfl rfl (fun v931 w932 H933 => ?_)
                          have H934 : Holds (([] : List Res).flatMap Res.own) w w932 [.sl 3 (.int .i64) v931 x726, .sl 3 (.int .i64) v926 ([x712]), .sl 3 (.int .i64) v6 x2] G := H933
                          refine WL_nil fun a ha => ⟨rfl, (?_ : XB _ _ _ _ _ _ _ _) a ha⟩
                          refine XB_all [20] (by kernel_rfl) (by simp) (allc ?_ alln)
                          · refine XB_do rfl ?_
                            refine WL_call (w_take rfl hc699) rfl c54 (w_impl_SeatsMany w932 ([.sl 3 (.int .i64) v931 x726, .sl 3 (.int .i64) v926 ([x712]), .sl 3 (.int .i64) v6 x2] ++ G) v931 x726 (Has.hd) x732 hx733 H934.ctx) (by rfl) ?_
                            rintro _ w935 ⟨rfl, H936⟩; refine ⟨_, rfl, ?_⟩
                            have H937 : Holds (([] : List Res).flatMap Res.own) w w935 [.sl 3 (.int .i64) v931 x726, .sl 3 (.int .i64) v926 ([x712]), .sl 3 (.int .i64) v6 x2] G := H934.calledN (Rs := []) H936
                            refine WL_nil fun a ha => ⟨rfl, (?_ : XB _ _ _ _ _ _ _ _) a ha⟩
                            refine XB_take (i := 22) rfl (by kernel_rfl) (by kernel_rfl) (by kernel_rfl) (w_take rfl hc699) (fun _ => qt_eql rfl rfl) rfl rfl ?_
                            refine XB_take (i := 23) rfl (by kernel_rfl) (by kernel_rfl) (by kernel_rfl) (w_take rfl hc697) (fun _ => qt_pickT rfl hc699 rfl) rfl rfl ?_
                            refine XB_take (i := 24) rfl (by kernel_rfl) (by kernel_rfl) (by kernel_rfl) rfl (fun _ => qt_pickF rfl hc697 rfl) rfl rfl ?_
                            refine XB_take (i := 25) rfl (by kernel_rfl) (by kernel_rfl) (by kernel_rfl) rfl (fun _ => qt_move rfl) rfl rfl ?_
                            refine XB_take (i := 26) rfl (by kernel_rfl) (by kernel_rfl) (by kernel_rfl) (w_take rfl hc737) (fun _ => qt_move rfl) rfl rfl ?_
                            refine XB_take (i := 27) rfl (by kernel_rfl) (by kernel_rfl) (by kernel_rfl) (w_take rfl hc737) (fun _ => qt_move rfl) rfl rfl ?_
                            refine XB_lenH (i := 28) rfl (by kernel_rfl) (by kernel_rfl) (by kernel_rfl) H937.ctx (t := (.int .i64)) (Has.c (Has.c (Has.hd))) u27 (w_take rfl hc737) rfl rfl ?_
                            refine XB_take (i := 29) rfl (by kernel_rfl) (by kernel_rfl) (by kernel_rfl) (w_take rfl hc737) (fun _ => qt_leq rfl rfl) rfl rfl ?_
                            refine XB_take (i := 30) rfl (by kernel_rfl) (by kernel_rfl) (by kernel_rfl) rfl (fun _ => qt_pickT rfl hc737 rfl) rfl rfl ?_
                            refine XB_take (i := 31) rfl (by kernel_rfl) (by kernel_rfl) (by kernel_rfl) rfl (fun _ => qt_move rfl) rfl rfl ?_
                            refine XB_skip (i := 32) rfl (by kernel_rfl) (by kernel_rfl) (by kernel_rfl) (w_skip rfl hc739) rfl rfl ?_
                            refine XB_take (i := 33) rfl (by kernel_rfl) (by kernel_rfl) (by kernel_rfl) rfl (fun _ => qt_pickF rfl hc739 rfl) rfl rfl ?_
                            refine XB_take (i := 34) rfl (by kernel_rfl) (by kernel_rfl) (by kernel_rfl) rfl (fun _ => qt_assign rfl) rfl rfl ?_
                            refine XB_done (by kernel_rfl) (fun a ha => ?_)
                            have H938 : Holds (([] : List Res).flatMap Res.own) w w935 [] G := (((H937.cut 0).cut 0).cut 0)
                            exact ⟨ha.sub ⟨rfl, trivial⟩, H938⟩
                    · refine XB_do rfl ?_
                      refine WL_buildH (t := (.int .i64)) (args := [.tmp 33]) (xs := ([x712] : List Int)) H898 (BltL.cons (Blt.int) rfl (BltL.nil)) u27 j3 rfl rfl rfl rfl (w_take rfl hc699) rfl (fun v939 w940 H941 => ?_)
                      have H942 : Holds (([] : List Res).flatMap Res.own) w w940 [.sl 3 (.int .i64) v939 ([x712]), .sl 3 (.int .i64) v895 ([]), .sl 3 (.int .i64) v6 x2] G := H941
                      refine WL_nil fun a ha => ⟨rfl, (?_ : XB _ _ _ _ _ _ _ _) a ha⟩
                      refine XB_all [14] (by kernel_rfl) (by simp) (allc ?_ alln)
                      · refine XB_do rfl ?_
                        have H943 : Holds (([] : List Res).flatMap Res.own) w w940 [.sl 3 (.int .i64) v895 ([]), .sl 3 (.int .i64) v939 ([x712]), .sl 3 (.int .i64) v6 x2] G := H942.pull 1
                        refine WL_appendH H943 (Has.c (Has.c (Has.hd))) hx707 u27 j3 rfl rfl (w_take rfl hc699) rfl rfl rfl (fun v944 w945 H946 => ?_)
                        have H947 : Holds (([] : List Res).flatMap Res.own) w w945 [.sl 3 (.int .i64) v944 x706, .sl 3 (.int .i64) v939 ([x712]), .sl 3 (.int .i64) v6 x2] G := H946
                        refine WL_nil fun a ha => ⟨rfl, (?_ : XB _ _ _ _ _ _ _ _) a ha⟩
                        refine XB_all [19] (by kernel_rfl) (by simp) (allc ?_ alln)
                        · refine XB_do rfl ?_
                          refine WL_appendH H947 (Has.c (Has.hd)) hx727 u27 j3 rfl rfl (w_take rfl hc699) rfl rfl rfl (fun v948 w949 H950 => ?_)
                          have H951 : Holds (([] : List Res).flatMap Res.own) w w949 [.sl 3 (.int .i64) v948 x726, .sl 3 (.int .i64) v939 ([x712]), .sl 3 (.int .i64) v6 x2] G := H950
                          refine WL_nil fun a ha => ⟨rfl, (?_ : XB _ _ _ _ _ _ _ _) a ha⟩
                          refine XB_all [20] (by kernel_rfl) (by simp) (allc ?_ alln)
                          · refine XB_do rfl ?_
                            refine WL_call (w_take rfl hc699) rfl c54 (w_impl_SeatsMany w949 ([.sl 3 (.int .i64) v948 x726, .sl 3 (.int .i64) v939 ([x712]), .sl 3 (.int .i64) v6 x2] ++ G) v948 x726 (Has.hd) x732 hx733 H951.ctx) (by rfl) ?_
                            rintro _ w952 ⟨rfl, H953⟩; refine ⟨_, rfl, ?_⟩
                            have H954 : Holds (([] : List Res).flatMap Res.own) w w952 [.sl 3 (.int .i64) v948 x726, .sl 3 (.int .i64) v939 ([x712]), .sl 3 (.int .i64) v6 x2] G := H951.calledN (Rs := []) H953
                            refine WL_nil fun a ha => ⟨rfl, (?_ : XB _ _ _ _ _ _ _ _) a ha⟩
                            refine XB_take (i := 22) rfl (by kernel_rfl) (by kernel_rfl) (by kernel_rfl) (w_take rfl hc699) (fun _ => qt_eql rfl rfl) rfl rfl ?_
                            refine XB_take (i := 23) rfl (by kernel_rfl) (by kernel_rfl) (by kernel_rfl) (w_take rfl hc697) (fun _ => qt_pickT rfl hc699 rfl) rfl rfl ?_
                            refine XB_take (i := 24) rfl (by kernel_rfl) (by kernel_rfl) (by kernel_rfl) rfl (fun _ => qt_pickF rfl hc697 rfl) rfl rfl ?_
                            refine XB_take (i := 25) rfl (by kernel_rfl) (by kernel_rfl) (by kernel_rfl) rfl (fun _ => qt_move rfl) rfl rfl ?_
                            refine XB_take (i := 26) rfl (by kernel_rfl) (by kernel_rfl) (by kernel_rfl) (w_take rfl hc737) (fun _ => qt_move rfl) rfl rfl ?_
                            refine XB_take (i := 27) rfl (by kernel_rfl) (by kernel_rfl) (by kernel_rfl) (w_take rfl hc737) (fun _ => qt_move rfl) rfl rfl ?_
                            refine XB_lenH (i := 28) rfl (by kernel_rfl) (by kernel_rfl) (by kernel_rfl) H954.ctx (t := (.int .i64)) (Has.c (Has.c (Has.hd))) u27 (w_take rfl hc737) rfl rfl ?_
                            refine XB_take (i := 29) rfl (by kernel_rfl) (by kernel_rfl) (by kernel_rfl) (w_take rfl hc737) (fun _ => qt_leq rfl rfl) rfl rfl ?_
                            refine XB_take (i := 30) rfl (by kernel_rfl) (by kernel_rfl) (by kernel_rfl) rfl (fun _ => qt_pickT rfl hc737 rfl) rfl rfl ?_
                            refine XB_take (i := 31) rfl (by kernel_rfl) (by kernel_rfl) (by kernel_rfl) rfl (fun _ => qt_move rfl) rfl rfl ?_
                            refine XB_skip (i := 32) rfl (by kernel_rfl) (by kernel_rfl) (by kernel_rfl) (w_skip rfl hc739) rfl rfl ?_
                            refine XB_take (i := 33) rfl (by kernel_rfl) (by kernel_rfl) (by kernel_rfl) rfl (fun _ => qt_pickF rfl hc739 rfl) rfl rfl ?_
                            refine XB_take (i := 34) rfl (by kernel_rfl) (by kernel_rfl) (by kernel_rfl) rfl (fun _ => qt_assign rfl) rfl rfl ?_
                            refine XB_done (by kernel_rfl) (fun a ha => ?_)
                            have H955 : Holds (([] : List Res).flatMap Res.own) w w952 [] G := (((H954.cut 0).cut 0).cut 0)
                            exact ⟨ha.sub ⟨rfl, trivial⟩, H955⟩
                · refine XB_do rfl ?_
                  obtain ⟨F956, hat957, hdup958⟩ := H222.at (Has.hd) hx713 hv894
                  refine XL_load_int (k := .i64) u3 rfl hat957 (w_take rfl hc699) rfl rfl ?_
                  refine WL_nil fun a ha => ⟨rfl, (?_ : XB _ _ _ _ _ _ _ _) a ha⟩
                  refine XB_all [12, 18] (by kernel_rfl) (by simp) (allc ?_ (allc ?_ alln))
                  · refine XB_do rfl ?_
                    refine WL_buildH (t := (.int .i64)) (args := []) (xs := ([] : List Int)) H222 (BltL.nil) u27 j3 rfl rfl rfl rfl (w_take rfl hc699) rfl (fun v959 w960 H961 => ?_)
                    have H962 : Holds (([] : List Res).flatMap Res.own) w w960 [.sl 3 (.int .i64) v959 ([]), .sl 3 (.int .i64) v6 x2] G := H961
                    refine WL_nil fun a ha => ⟨rfl, (?_ : XB _ _ _ _ _ _ _ _) a ha⟩
                    refine XB_all [14, 18] (by kernel_rfl) (by simp) (allc ?_ (allc ?_ alln))
                    · refine XB_do rfl ?_
                      refine WL_appendH H962 (Has.c (Has.hd)) hx707 u27 j3 rfl rfl (w_take rfl hc699) rfl rfl rfl (fun v963 w964 H965 => ?_)
                      have H966 : Holds (([] : List Res).flatMap Res.own) w w964 [.sl 3 (.int .i64) v963 x706, .sl 3 (.int .i64) v6 x2] G := H965
                      refine WL_nil fun a ha => ⟨rfl, (?_ : XB _ _ _ _ _ _ _ _) a ha⟩
                      refine XB_all [18] (by kernel_rfl) (by simp) (allc ?_ alln)
                      · refine XB_do rfl ?_
                        refine WL_buildH (t := (.int .i64)) (args := [.tmp 33]) (xs := ([x712] : List Int)) H966 (BltL.cons (Blt.int) rfl (BltL.nil)) u27 j3 rfl rfl rfl rfl (w_take rfl hc699) rfl (fun v967 w968 H969 => ?_)
                        have H970 : Holds (([] : List Res).flatMap Res.own) w w968 [.sl 3 (.int .i64) v967 ([x712]), .sl 3 (.int .i64) v963 x706, .sl 3 (.int .i64) v6 x2] G := H969
                        refine WL_nil fun a ha => ⟨rfl, (?_ : XB _ _ _ _ _ _ _ _) a ha⟩
                        refine XB_all [19] (by kernel_rfl) (by simp) (allc ?_ alln)
                        · refine XB_do rfl ?_
                          have H971 : Holds (([] : List Res).flatMap Res.own) w w968 [.sl 3 (.int .i64) v963 x706, .sl 3 (.int .i64) v967 ([x712]), .sl 3 (.int .i64) v6 x2] G := H970.pull 1
                          refine WL_appendH H971 (Has.c (Has.hd)) hx727 u27 j3 rfl rfl (w_take rfl hc699) rfl rfl rfl (fun v972 w973 H974 => ?_)
                          have H975 : Holds (([] : List Res).flatMap Res.own) w w973 [.sl 3 (.int .i64) v972 x726, .sl 3 (.int .i64) v967 ([x712]), .sl 3 (.int .i64) v6 x2] G := H974
                          refine WL_nil fun a ha => ⟨rfl, (?_ : XB _ _ _ _ _ _ _ _) a ha⟩
                          refine XB_all [20] (by kernel_rfl) (by simp) (allc ?_ alln)
                          · refine XB_do rfl ?_
                            refine WL_call (w_take rfl hc699) rfl c54 (w_impl_SeatsMany w973 ([.sl 3 (.int .i64) v972 x726, .sl 3 (.int .i64) v967 ([x712]), .sl 3 (.int .i64) v6 x2] ++ G) v972 x726 (Has.hd) x732 hx733 H975.ctx) (by rfl) ?_
                            rintro _ w976 ⟨rfl, H977⟩; refine ⟨_, rfl, ?_⟩
                            have H978 : Holds (([] : List Res).flatMap Res.own) w w976 [.sl 3 (.int .i64) v972 x726, .sl 3 (.int .i64) v967 ([x712]), .sl 3 (.int .i64) v6 x2] G := H975.calledN (Rs := []) H977
                            refine WL_nil fun a ha => ⟨rfl, (?_ : XB _ _ _ _ _ _ _ _) a ha⟩
                            refine XB_take (i := 22) rfl (by kernel_rfl) (by kernel_rfl) (by kernel_rfl) (w_take rfl hc699) (fun _ => qt_eql rfl rfl) rfl rfl ?_
                            refine XB_take (i := 23) rfl (by kernel_rfl) (by kernel_rfl) (by kernel_rfl) (w_take rfl hc697) (fun _ => qt_pickT rfl hc699 rfl) rfl rfl ?_
                            refine XB_take (i := 24) rfl (by kernel_rfl) (by kernel_rfl) (by kernel_rfl) rfl (fun _ => qt_pickF rfl hc697 rfl) rfl rfl ?_
                            refine XB_take (i := 25) rfl (by kernel_rfl) (by kernel_rfl) (by kernel_rfl) rfl (fun _ => qt_move rfl) rfl rfl ?_
                            refine XB_take (i := 26) rfl (by kernel_rfl) (by kernel_rfl) (by kernel_rfl) (w_take rfl hc737) (fun _ => qt_move rfl) rfl rfl ?_
                            refine XB_take (i := 27) rfl (by kernel_rfl) (by kernel_rfl) (by kernel_rfl) (w_take rfl hc737) (fun _ => qt_move rfl) rfl rfl ?_
                            refine XB_lenH (i := 28) rfl (by kernel_rfl) (by kernel_rfl) (by kernel_rfl) H978.ctx (t := (.int .i64)) (Has.c (Has.c (Has.hd))) u27 (w_take rfl hc737) rfl rfl ?_
                            refine XB_take (i := 29) rfl (by kernel_rfl) (by kernel_rfl) (by kernel_rfl) (w_take rfl hc737) (fun _ => qt_leq rfl rfl) rfl rfl ?_
                            refine XB_take (i := 30) rfl (by kernel_rfl) (by kernel_rfl) (by kernel_rfl) rfl (fun _ => qt_pickT rfl hc737 rfl) rfl rfl ?_
                            refine XB_take (i := 31) rfl (by kernel_rfl) (by kernel_rfl) (by kernel_rfl) rfl (fun _ => qt_move rfl) rfl rfl ?_
                            refine XB_skip (i := 32) rfl (by kernel_rfl) (by kernel_rfl) (by kernel_rfl) (w_skip rfl hc739) rfl rfl ?_
                            refine XB_take (i := 33) rfl (by kernel_rfl) (by kernel_rfl) (by kernel_rfl) rfl (fun _ => qt_pickF rfl hc739 rfl) rfl rfl ?_
                            refine XB_take (i := 34) rfl (by kernel_rfl) (by kernel_rfl) (by kernel_rfl) rfl (fun _ => qt_assign rfl) rfl rfl ?_
                            refine XB_done (by kernel_rfl) (fun a ha => ?_)
                            have H979 : Holds (([] : List Res).flatMap Res.own) w w976 [] G := (((H978.cut 0).cut 0).cut 0)
                            exact ⟨ha.sub ⟨rfl, trivial⟩, H979⟩
                    · refine XB_do rfl ?_
                      refine WL_buildH (t := (.int .i64)) (args := [.tmp 33]) (xs := ([x712] : List Int)) H962 (BltL.cons (Blt.int) rfl (BltL.nil)) u27 j3 rfl rfl rfl rfl (w_take rfl hc699) rfl (fun v980 w981 H982 => ?_)
                      have H983 : Holds (([] : List Res).flatMap Res.own) w w981 [.sl 3 (.int .i64) v980 ([x712]), .sl 3 (.int .i64) v959 ([]), .sl 3 (.int .i64) v6 x2] G := H982
                      refine WL_nil fun a ha => ⟨rfl, (?_ : XB _ _ _ _ _ _ _ _) a ha⟩
                      refine XB_all [14] (by kernel_rfl) (by simp) (allc ?_ alln)
                      · refine XB_do rfl ?_
                        have H984 : Holds (([] : List Res).flatMap Res.own) w w981 [.sl 3 (.int .i64) v959 ([]), .sl 3 (.int .i64) v980 ([x712]), .sl 3 (.int .i64) v6 x2] G := H983.pull 1
                        refine WL_appendH H984 (Has.c (Has.c (Has.hd))) hx707 u27 j3 rfl rfl (w_take rfl hc699) rfl rfl rfl (fun v985 w986 H987 => ?_)
                        have H988 : Holds (([] : List Res).flatMap Res.own) w w986 [.sl 3 (.int .i64) v985 x706, .sl 3 (.int .i64) v980 ([x712]), .sl 3 (.int .i64) v6 x2] G := H987
                        refine WL_nil fun a ha => ⟨rfl, (?_ : XB _ _ _ _ _ _ _ _) a ha⟩
                        refine XB_all [19] (by kernel_rfl) (by simp) (allc ?_ alln)
                        · refine XB_do rfl ?_
                          refine WL_appendH H988 (Has.c (Has.hd)) hx727 u27 j3 rfl rfl (w_take rfl hc699) rfl rfl rfl (fun v989 w990 H991 => ?_)
                          have H992 : Holds (([] : List Res).flatMap Res.own) w w990 [.sl 3 (.int .i64) v989 x726, .sl 3 (.int .i64) v980 ([x712]), .sl 3 (.int .i64) v6 x2] G := H991
                          refine WL_nil fun a ha => ⟨rfl, (?_ : XB _ _ _ _ _ _ _ _) a ha⟩
                          refine XB_all [20] (by kernel_rfl) (by simp) (allc ?_ alln)
                          · refine XB_do rfl ?_
                            refine WL_call (w_take rfl hc699) rfl c54 (w_impl_SeatsMany w990 ([.sl 3 (.int .i64) v989 x726, .sl 3 (.int .i64) v980 ([x712]), .sl 3 (.int .i64) v6 x2] ++ G) v989 x726 (Has.hd) x732 hx733 H992.ctx) (by rfl) ?_
                            rintro _ w993 ⟨rfl, H994⟩; refine ⟨_, rfl, ?_⟩
                            have H995 : Holds (([] : List Res).flatMap Res.own) w w993 [.sl 3 (.int .i64) v989 x726, .sl 3 (.int .i64) v980 ([x712]), .sl 3 (.int .i64) v6 x2] G := H992.calledN (Rs := []) H994
                            refine WL_nil fun a ha => ⟨rfl, (?_ : XB _ _ _ _ _ _ _ _) a ha⟩
                            refine XB_take (i := 22) rfl (by kernel_rfl) (by kernel_rfl) (by kernel_rfl) (w_take rfl hc699) (fun _ => qt_eql rfl rfl) rfl rfl ?_
                            refine XB_take (i := 23) rfl (by kernel_rfl) (by kernel_rfl) (by kernel_rfl) (w_take rfl hc697) (fun _ => qt_pickT rfl hc699 rfl) rfl rfl ?_
                            refine XB_take (i := 24) rfl (by kernel_rfl) (by kernel_rfl) (by kernel_rfl) rfl (fun _ => qt_pickF rfl hc697 rfl) rfl rfl ?_
                            refine XB_take (i := 25) rfl (by kernel_rfl) (by kernel_rfl) (by kernel_rfl) rfl (fun _ => qt_move rfl) rfl rfl ?_
                            refine XB_take (i := 26) rfl (by kernel_rfl) (by kernel_rfl) (by kernel_rfl) (w_take rfl hc737) (fun _ => qt_move rfl) rfl rfl ?_
                            refine XB_take (i := 27) rfl (by kernel_rfl) (by kernel_rfl) (by kernel_rfl) (w_take rfl hc737) (fun _ => qt_move rfl) rfl rfl ?_
                            refine XB_lenH (i := 28) rfl (by kernel_rfl) (by kernel_rfl) (by kernel_rfl) H995.ctx (t := (.int .i64)) (Has.c (Has.c (Has.hd))) u27 (w_take rfl hc737) rfl rfl ?_
                            refine XB_take (i := 29) rfl (by kernel_rfl) (by kernel_rfl) (by kernel_rfl) (w_take rfl hc737) (fun _ => qt_leq rfl rfl) rfl rfl ?_
                            refine XB_take (i := 30) rfl (by kernel_rfl) (by kernel_rfl) (by kernel_rfl) rfl (fun _ => qt_pickT rfl hc737 rfl) rfl rfl ?_
                            refine XB_take (i := 31) rfl (by kernel_rfl) (by kernel_rfl) (by kernel_rfl) rfl (fun _ => qt_move rfl) rfl rfl ?_
                            refine XB_skip (i := 32) rfl (by kernel_rfl) (by kernel_rfl) (by kernel_rfl) (w_skip rfl hc739) rfl rfl ?_
                            refine XB_take (i := 33) rfl (by kernel_rfl) (by kernel_rfl) (by kernel_rfl) rfl (fun _ => qt_pickF rfl hc739 rfl) rfl rfl ?_
                            refine XB_take (i := 34) rfl (by kernel_rfl) (by kernel_rfl) (by kernel_rfl) rfl (fun _ => qt_assign rfl) rfl rfl ?_
                            refine XB_done (by kernel_rfl) (fun a ha => ?_)
                            have H996 : Holds (([] : List Res).flatMap Res.own) w w993 [] G := (((H995.cut 0).cut 0).cut 0)
                            exact ⟨ha.sub ⟨rfl, trivial⟩, H996⟩
                  · refine XB_do rfl ?_
                    refine WL_buildH (t := (.int .i64)) (args := [.tmp 33]) (xs := ([x712] : List Int)) H222 (BltL.cons (Blt.int) rfl (BltL.nil)) u27 j3 rfl rfl rfl rfl (w_take rfl hc699) rfl (fun v997 w998 H999 => ?_)
                    have H1000 : Holds (([] : List Res).flatMap Res.own) w w998 [.sl 3 (.int .i64) v997 ([x712]), .sl 3 (.int .i64) v6 x2] G := H999
                    refine WL_nil fun a ha => ⟨rfl, (?_ : XB _ _ _ _ _ _ _ _) a ha⟩
                    refine XB_all [12] (by kernel_rfl) (by simp) (allc ?_ alln)
                    · refine XB_do rfl ?_
                      refine WL_buildH (t := (.int .i64)) (args := []) (xs := ([] : List Int)) H1000 (BltL.nil) u27 j3 rfl rfl rfl rfl (w_take rfl hc699) rfl (fun v1001 w1002 H1003 => ?_)
                      have H1004 : Holds (([] : List Res).flatMap Res.own) w w1002 [.sl 3 (.int .i64) v1001 ([]), .sl 3 (.int .i64) v997 ([x712]), .sl 3 (.int .i64) v6 x2] G := H1003
                      refine WL_nil fun a ha => ⟨rfl, (?_ : XB _ _ _ _ _ _ _ _) a ha⟩
                      refine XB_all [14] (by kernel_rfl) (by simp) (allc ?_ alln)
                      · refine XB_do rfl ?_
                        refine WL_appendH H1004 (Has.c (Has.c (Has.hd))) hx707 u27 j3 rfl rfl (w_take rfl hc699) rfl rfl rfl (fun v1005 w1006 H1007 => ?_)
                        have H1008 : Holds (([] : List Res).flatMap Res.own) w w1006 [.sl 3 (.int .i64) v1005 x706, .sl 3 (.int .i64) v997 ([x712]), .sl 3 (.int .i64) v6 x2] G := H1007
                        refine WL_nil fun a ha => ⟨rfl, (?_ : XB _ _ _ _ _ _ _ _) a ha⟩
                        refine XB_all [19] (by kernel_rfl) (by simp) (allc ?_ alln)
                        · refine XB_do rfl ?_
                          refine WL_appendH H1008 (Has.c (Has.hd)) hx727 u27 j3 rfl rfl (w_take rfl hc699) rfl rfl rfl (fun v1009 w1010 H1011 => ?_)
                          have H1012 : Holds (([] : List Res).flatMap Res.own) w w1010 [.sl 3 (.int .i64) v1009 x726, .sl 3 (.int .i64) v997 ([x712]), .sl 3 (.int .i64) v6 x2] G := H1011
                          refine WL_nil fun a ha => ⟨rfl, (?_ : XB _ _ _ _ _ _ _ _) a ha⟩
                          refine XB_all [20] (by kernel_rfl) (by simp) (allc ?_ alln)
                          · refine XB_do rfl ?_
                            refine WL_call (w_take rfl hc699) rfl c54 (w_impl_SeatsMany w1010 ([.sl 3 (.int .i64) v1009 x726, .sl 3 (.int .i64) v997 ([x712]), .sl 3 (.int .i64) v6 x2] ++ G) v1009 x726 (Has.hd) x732 hx733 H1012.ctx) (by rfl) ?_
                            rintro _ w1013 ⟨rfl, H1014⟩; refine ⟨_, rfl, ?_⟩
                            have H1015 : Holds (([] : List Res).flatMap Res.own) w w1013 [.sl 3 (.int .i64) v1009 x726, .sl 3 (.int .i64) v997 ([x712]), .sl 3 (.int .i64) v6 x2] G := H1012.calledN (Rs := []) H1014
                            refine WL_nil fun a ha => ⟨rfl, (?_ : XB _ _ _ _ _ _ _ _) a ha⟩
                            refine XB_take (i := 22) rfl (by kernel_rfl) (by kernel_rfl) (by kernel_rfl) (w_take rfl hc699) (fun _ => qt_eql rfl rfl) rfl rfl ?_
                            refine XB_take (i := 23) rfl (by kernel_rfl) (by kernel_rfl) (by kernel_rfl) (w_take rfl hc697) (fun _ => qt_pickT rfl hc699 rfl) rfl rfl ?_
                            refine XB_take (i := 24) rfl (by kernel_rfl) (by kernel_rfl) (by kernel_rfl) rfl (fun _ => qt_pickF rfl hc697 rfl) rfl rfl ?_
                            refine XB_take (i := 25) rfl (by kernel_rfl) (by kernel_rfl) (by kernel_rfl) rfl (fun _ => qt_move rfl) rfl rfl ?_
                            refine XB_take (i := 26) rfl (by kernel_rfl) (by kernel_rfl) (by kernel_rfl) (w_take rfl hc737) (fun _ => qt_move rfl) rfl rfl ?_
                            refine XB_take (i := 27) rfl (by kernel_rfl) (by kernel_rfl) (by kernel_rfl) (w_take rfl hc737) (fun _ => qt_move rfl) rfl rfl ?_
                            refine XB_lenH (i := 28) rfl (by kernel_rfl) (by kernel_rfl) (by kernel_rfl) H1015.ctx (t := (.int .i64)) (Has.c (Has.c (Has.hd))) u27 (w_take rfl hc737) rfl rfl ?_
                            refine XB_take (i := 29) rfl (by kernel_rfl) (by kernel_rfl) (by kernel_rfl) (w_take rfl hc737) (fun _ => qt_leq rfl rfl) rfl rfl ?_
                            refine XB_take (i := 30) rfl (by kernel_rfl) (by kernel_rfl) (by kernel_rfl) rfl (fun _ => qt_pickT rfl hc737 rfl) rfl rfl ?_
                            refine XB_take (i := 31) rfl (by kernel_rfl) (by kernel_rfl) (by kernel_rfl) rfl (fun _ => qt_move rfl) rfl rfl ?_
                            refine XB_skip (i := 32) rfl (by kernel_rfl) (by kernel_rfl) (by kernel_rfl) (w_skip rfl hc739) rfl rfl ?_
                            refine XB_take (i := 33) rfl (by kernel_rfl) (by kernel_rfl) (by kernel_rfl) rfl (fun _ => qt_pickF rfl hc739 rfl) rfl rfl ?_
                            refine XB_take (i := 34) rfl (by kernel_rfl) (by kernel_rfl) (by kernel_rfl) rfl (fun _ => qt_assign rfl) rfl rfl ?_
                            refine XB_done (by kernel_rfl) (fun a ha => ?_)
                            have H1016 : Holds (([] : List Res).flatMap Res.own) w w1013 [] G := (((H1015.cut 0).cut 0).cut 0)
                            exact ⟨ha.sub ⟨rfl, trivial⟩, H1016⟩
            · skip
              have ho1017 := if_f hc737 hob58
              obtain rfl := Option.some.inj ho1017
              have hc1018 : false = false := rfl
              have ho1019 := if_f hc1018 hob64
              obtain rfl := Option.some.inj ho1019
              refine XB_take (i := 0) rfl (by kernel_rfl) (by kernel_rfl) (by kernel_rfl) rfl (fun _ => qt_move rfl) rfl rfl ?_
              refine XB_lenH (i := 1) rfl (by kernel_rfl) (by kernel_rfl) (by kernel_rfl) H222.ctx (t := (.int .i64)) (Has.hd) u27 rfl rfl rfl ?_
              refine XB_take (i := 2) rfl (by kernel_rfl) (by kernel_rfl) (by kernel_rfl) rfl (fun _ => qt_eql rfl rfl) rfl rfl ?_
              refine XB_take (i := 3) rfl (by kernel_rfl) (by kernel_rfl) (by kernel_rfl) rfl (fun _ => qt_move rfl) rfl rfl ?_
              refine XB_skip (i := 4) rfl (by kernel_rfl) (by kernel_rfl) (by kernel_rfl) (w_skip rfl hc223) rfl rfl ?_
              refine XB_skip (i := 5) rfl (by kernel_rfl) (by kernel_rfl) (by kernel_rfl) (w_skip rfl hc223) rfl rfl ?_
              refine XB_take (i := 6) rfl (by kernel_rfl) (by kernel_rfl) (by kernel_rfl) rfl (fun _ => qt_pickF rfl hc223 rfl) rfl rfl ?_
              refine XB_take (i := 7) rfl (by kernel_rfl) (by kernel_rfl) (by kernel_rfl) rfl (fun _ => qt_move rfl) rfl rfl ?_
              refine XB_take (i := 8) rfl (by kernel_rfl) (by kernel_rfl) (by kernel_rfl) (w_take rfl hc697) (fun _ => qt_move rfl) rfl rfl ?_
              refine XB_lenH (i := 9) rfl (by kernel_rfl) (by kernel_rfl) (by kernel_rfl) H222.ctx (t := (.int .i64)) (Has.hd) u27 (w_take rfl hc697) rfl rfl ?_
              refine XB_take (i := 10) rfl (by kernel_rfl) (by kernel_rfl) (by kernel_rfl) (w_take rfl hc697) (fun _ => qt_gtr rfl rfl) rfl rfl ?_
              refine XB_take (i := 11) rfl (by kernel_rfl) (by kernel_rfl) (by kernel_rfl) (w_take rfl hc697) (fun _ => qt_move rfl) rfl rfl ?_
              refine XB_take (i := 13) rfl (by kernel_rfl) (by kernel_rfl) (by kernel_rfl) (w_take rfl hc699) (fun _ => qt_move rfl) rfl rfl ?_
              refine XB_take (i := 15) rfl (by kernel_rfl) (by kernel_rfl) (by kernel_rfl) (w_take rfl hc699) (fun _ => qt_move rfl) rfl rfl ?_
              refine XB_indexH (i := 16) rfl (by kernel_rfl) (by kernel_rfl) (by kernel_rfl) H222.ctx (Has.hd) hx713 u27 i3 (w_take rfl hc699) rfl rfl rfl (fun b1020 off1021 cap1022 hv1023 => ?_)
              refine XB_take (i := 21) rfl (by kernel_rfl) (by kernel_rfl) (by kernel_rfl) (w_take rfl hc699) (fun _ => qt_move rfl) rfl rfl ?_
              refine XB_all [12, 17] (by kernel_rfl) (by simp) (allc ?_ (allc ?_ alln))
              · refine XB_do rfl ?_
                refine WL_buildH (t := (.int .i64)) (args := []) (xs := ([] : List Int)) H222 (BltL.nil) u27 j3 rfl rfl rfl rfl (w_take rfl hc699) rfl (fun v1024 w1025 H1026 => ?_)
                have H1027 : Holds (([] : List Res).flatMap Res.own) w w1025 [.sl 3 (.int .i64) v1024 ([]), .sl 3 (.int .i64) v6 x2] G := H1026
                refine WL_nil fun a ha => ⟨rfl, (?_ : XB _ _ _ _ _ _ _ _) a ha⟩
                refine XB_all [14, 17] (by kernel_rfl) (by simp) (allc ?_ (allc ?_ alln))
                · refine XB_do rfl ?_
                  refine WL_appendH H1027 (Has.c (Has.hd)) hx707 u27 j3 rfl rfl (w_take rfl hc699) rfl rfl rfl (fun v1028 w1029 H1030 => ?_)
                  have H1031 : Holds (([] : List Res).flatMap Res.own) w w1029 [.sl 3 (.int .i64) v1028 x706, .sl 3 (.int .i64) v6 x2] G := H1030
                  refine WL_nil fun a ha => ⟨rfl, (?_ : XB _ _ _ _ _ _ _ _) a ha⟩
                  refine XB_all [17] (by kernel_rfl) (by simp) (allc ?_ alln)
                  · refine XB_do rfl ?_
                    obtain ⟨F1032, hat1033, hdup1034⟩ := H1031.at (Has.c (Has.hd)) hx713 hv1023
                    refine XL_load_int (k := .i64) u3 rfl hat1033 (w_take rfl hc699) rfl rfl ?_
                    refine WL_nil fun a ha => ⟨rfl, (?_ : XB _ _ _ _ _ _ _ _) a ha⟩
                    refine XB_all [18] (by kernel_rfl) (by simp) (allc ?_ alln)
                    · refine XB_do rfl ?_
                      refine WL_buildH (t := (.int .i64)) (args := [.tmp 33]) (xs := ([x712] : List Int)) H1031 (BltL.cons (Blt.int) rfl (BltL.nil)) u27 j3 rfl rfl rfl rfl (w_take rfl hc699) rfl (fun v1035 w1036 H1037 => ?_)
                      have H1038 : Holds (([] : List Res).flatMap Res.own) w w1036 [.sl 3 (.int .i64) v1035 ([x712]), .sl 3 (.int .i64) v1028 x706, .sl 3 (.int .i64) v6 x2] G := H1037
                      refine WL_nil fun a ha => ⟨rfl, (?_ : XB _ _ _ _ _ _ _ _) a ha⟩
                      refine XB_all [19] (by kernel_rfl) (by simp) (allc ?_ alln)
                      · refine XB_do rfl ?_
                        have H1039 : Holds (([] : List Res).flatMap Res.own) w w1036 [.sl 3 (.int .i64) v1028 x706, .sl 3 (.int .i64) v1035 ([x712]), .sl 3 (.int .i64) v6 x2] G := H1038.pull 1
                        refine WL_appendH H1039 (Has.c (Has.hd)) hx727 u27 j3 rfl rfl (w_take rfl hc699) rfl rfl rfl (fun v1040 w1041 H1042 => ?_)
                        have H1043 : Holds (([] : List Res).flatMap Res.own) w w1041 [.sl 3 (.int .i64) v1040 x726, .sl 3 (.int .i64) v1035 ([x712]), .sl 3 (.int .i64) v6 x2] G := H1042
                        refine WL_nil fun a ha => ⟨rfl, (?_ : XB _ _ _ _ _ _ _ _) a ha⟩
                        refine XB_all [20] (by kernel_rfl) (by simp) (allc ?_ alln)
                        · refine XB_do rfl ?_
                          refine WL_call (w_take rfl hc699) rfl c54 (w_impl_SeatsMany w1041 ([.sl 3 (.int .i64) v1040 x726, .sl 3 (.int .i64) v1035 ([x712]), .sl 3 (.int .i64) v6 x2] ++ G) v1040 x726 (Has.hd) x732 hx733 H1043.ctx) (by rfl) ?_
                          rintro _ w1044 ⟨rfl, H1045⟩; refine ⟨_, rfl, ?_⟩
                          have H1046 : Holds (([] : List Res).flatMap Res.own) w w1044 [.sl 3 (.int .i64) v1040 x726, .sl 3 (.int .i64) v1035 ([x712]), .sl 3 (.int .i64) v6 x2] G := H1043.calledN (Rs := []) H1045
                          refine WL_nil fun a ha => ⟨rfl, (?_ : XB _ _ _ _ _ _ _ _) a ha⟩
                          refine XB_take (i := 22) rfl (by kernel_rfl) (by kernel_rfl) (by kernel_rfl) (w_take rfl hc699) (fun _ => qt_eql rfl rfl) rfl rfl ?_
                          refine XB_take (i := 23) rfl (by kernel_rfl) (by kernel_rfl) (by kernel_rfl) (w_take rfl hc697) (fun _ => qt_pickT rfl hc699 rfl) rfl rfl ?_
                          refine XB_take (i := 24) rfl (by kernel_rfl) (by kernel_rfl) (by kernel_rfl) rfl (fun _ => qt_pickF rfl hc697 rfl) rfl rfl ?_
                          refine XB_take (i := 25) rfl (by kernel_rfl) (by kernel_rfl) (by kernel_rfl) rfl (fun _ => qt_move rfl) rfl rfl ?_
                          refine XB_skip (i := 26) rfl (by kernel_rfl) (by kernel_rfl) (by kernel_rfl) (w_skip rfl hc737) rfl rfl ?_
                          refine XB_skip (i := 27) rfl (by kernel_rfl) (by kernel_rfl) (by kernel_rfl) (w_skip rfl hc737) rfl rfl ?_
                          refine XB_skip (i := 28) rfl (by kernel_rfl) (by kernel_rfl) (by kernel_rfl) (w_skip rfl hc737) rfl rfl ?_
                          refine XB_skip (i := 29) rfl (by kernel_rfl) (by kernel_rfl) (by kernel_rfl) (w_skip rfl hc737) rfl rfl ?_
                          refine XB_take (i := 30) rfl (by kernel_rfl) (by kernel_rfl) (by kernel_rfl) rfl (fun _ => qt_pickF rfl hc737 rfl) rfl rfl ?_
                          refine XB_take (i := 31) rfl (by kernel_rfl) (by kernel_rfl) (by kernel_rfl) rfl (fun _ => qt_move rfl) rfl rfl ?_
                          refine XB_skip (i := 32) rfl (by kernel_rfl) (by kernel_rfl) (by kernel_rfl) (w_skip rfl hc1018) rfl rfl ?_
                          refine XB_take (i := 33) rfl (by kernel_rfl) (by kernel_rfl) (by kernel_rfl) rfl (fun _ => qt_pickF rfl hc1018 rfl) rfl rfl ?_
                          refine XB_take (i := 34) rfl (by kernel_rfl) (by kernel_rfl) (by kernel_rfl) rfl (fun _ => qt_assign rfl) rfl rfl ?_
                          refine XB_done (by kernel_rfl) (fun a ha => ?_)
                          have H1047 : Holds (([] : List Res).flatMap Res.own) w w1044 [] G := (((H1046.cut 0).cut 0).cut 0)
                          exact ⟨ha.sub ⟨rfl, trivial⟩, H1047⟩
                · refine XB_do rfl ?_
                  obtain ⟨F1048, hat1049, hdup1050⟩ := H1027.at (Has.c (Has.hd)) hx713 hv1023
                  refine XL_load_int (k := .i64) u3 rfl hat1049 (w_take rfl hc699) rfl rfl ?_
                  refine WL_nil fun a ha => ⟨rfl, (?_ : XB _ _ _ _ _ _ _ _) a ha⟩
                  refine XB_all [14, 18] (by kernel_rfl) (by simp) (allc ?_ (allc ?_ alln))
                  · refine XB_do rfl ?_
                    refine WL_appendH H1027 (Has.c (Has.hd)) hx707 u27 j3 rfl rfl (w_take rfl hc699) rfl rfl rfl (fun v1051 w1052 H1053 => ?_)
                    have H1054 : Holds (([] : List Res).flatMap Res.own) w w1052 [.sl 3 (.int .i64) v1051 x706, .sl 3 (.int .i64) v6 x2] G := H1053
                    refine WL_nil fun a ha => ⟨rfl, (?_ : XB _ _ _ _ _ _ _ _) a ha⟩
                    refine XB_all [18] (by kernel_rfl) (by simp) (allc ?_ alln)
                    · refine XB_do rfl ?_
                      refine WL_buildH (t := (.int .i64)) (args := [.tmp 33]) (xs := ([x712] : List Int)) H1054 (BltL.cons (Blt.int) rfl (BltL.nil)) u27 j3 rfl rfl rfl rfl (w_take rfl hc699) rfl (fun v1055 w1056 H1057 => ?_)
                      have H1058 : Holds (([] : List Res).flatMap Res.own) w w1056 [.sl 3 (.int .i64) v1055 ([x712]), .sl 3 (.int .i64) v1051 x706, .sl 3 (.int .i64) v6 x2] G := H1057
                      refine WL_nil fun a ha => ⟨rfl, (?_ : XB _ _ _ _ _ _ _ _) a ha⟩
                      refine XB_all [19] (by kernel_rfl) (by simp) (allc ?_ alln)
                      · refine XB_do rfl ?_
                        have H1059 : Holds (([] : List Res).flatMap Res.own) w w1056 [.sl 3 (.int .i64) v1051 x706, .sl 3 (.int .i64) v1055 ([x712]), .sl 3 (.int .i64) v6 x2] G := H1058.pull 1
                        refine WL_appendH H1059 (Has.c (Has.hd)) hx727 u27 j3 rfl rfl (w_take rfl hc699) rfl rfl rfl (fun v1060 w1061 H1062 => ?_)
                        have H1063 : Holds (([] : List Res).flatMap Res.own) w w1061 [.sl 3 (.int .i64) v1060 x726, .sl 3 (.int .i64) v1055 ([x712]), .sl 3 (.int .i64) v6 x2] G := H1062
                        refine WL_nil fun a ha => ⟨rfl, (?_ : XB _ _ _ _ _ _ _ _) a ha⟩
                        refine XB_all [20] (by kernel_rfl) (by simp) (allc ?_ alln)
                        · refine XB_do rfl ?_
                          refine WL_call (w_take rfl hc699) rfl c54 (w_impl_SeatsMany w1061 ([.sl 3 (.int .i64) v1060 x726, .sl 3 (.int .i64) v1055 ([x712]), .sl 3 (.int .i64) v6 x2] ++ G) v1060 x726 (Has.hd) x732 hx733 H1063.ctx) (by rfl) ?_
                          rintro _ w1064 ⟨rfl, H1065⟩; refine ⟨_, rfl, ?_⟩
                          have H1066 : Holds (([] : List Res).flatMap Res.own) w w1064 [.sl 3 (.int .i64) v1060 x726, .sl 3 (.int .i64) v1055 ([x712]), .sl 3 (.int .i64) v6 x2] G := H1063.calledN (Rs := []) H1065
                          refine WL_nil fun a ha => ⟨rfl, (?_ : XB _ _ _ _ _ _ _ _) a ha⟩
                          refine XB_take (i := 22) rfl (by kernel_rfl) (by kernel_rfl) (by kernel_rfl) (w_take rfl hc699) (fun _ => qt_eql rfl rfl) rfl rfl ?_
                          refine XB_take (i := 23) rfl (by kernel_rfl) (by kernel_rfl) (by kernel_rfl) (w_take rfl hc697) (fun _ => qt_pickT rfl hc699 rfl) rfl rfl ?_
                          refine XB_take (i := 24) rfl (by kernel_rfl) (by kernel_rfl) (by kernel_rfl) rfl (fun _ => qt_pickF rfl hc697 rfl) rfl rfl ?_
                          refine XB_take (i := 25) rfl (by kernel_rfl) (by kernel_rfl) (by kernel_rfl) rfl (fun _ => qt_move rfl) rfl rfl ?_
                          refine XB_skip (i := 26) rfl (by kernel_rfl) (by kernel_rfl) (by kernel_rfl) (w_skip rfl hc737) rfl rfl ?_
                          refine XB_skip (i := 27) rfl (by kernel_rfl) (by kernel_rfl) (by kernel_rfl) (w_skip rfl hc737) rfl rfl ?_
                          refine XB_skip (i := 28) rfl (by kernel_rfl) (by kernel_rfl) (by kernel_rfl) (w_skip rfl hc737) rfl rfl ?_
                          refine XB_skip (i := 29) rfl (by kernel_rfl) (by kernel_rfl) (by kernel_rfl) (w_skip rfl hc737) rfl rfl ?_
                          refine XB_take (i := 30) rfl (by kernel_rfl) (by kernel_rfl) (by kernel_rfl) rfl (fun _ => qt_pickF rfl hc737 rfl) rfl rfl ?_
                          refine XB_take (i := 31) rfl (by kernel_rfl) (by kernel_rfl) (by kernel_rfl) rfl (fun _ => qt_move rfl) rfl rfl ?_
                          refine XB_skip (i := 32) rfl (by kernel_rfl) (by kernel_rfl) (by kernel_rfl) (w_skip rfl hc1018) rfl rfl ?_
                          refine XB_take (i := 33) rfl (by kernel_rfl) (by kernel_rfl) (by kernel_rfl) rfl (fun _ => qt_pickF rfl hc1018 rfl) rfl rfl ?_
                          refine XB_take (i := 34) rfl (by kernel_rfl) (by kernel_rfl) (by kernel_rfl) rfl (fun _ => qt_assign rfl) rfl rfl ?_
                          refine XB_done (by kernel_rfl) (fun a ha => ?_)
                          have H1067 : Holds (([] : List Res).flatMap Res.own) w w1064 [] G := (((H1066.cut 0).cut 0).cut 0)
                          exact ⟨ha.sub ⟨rfl, trivial⟩, H1067⟩
                  · refine XB_do rfl ?_
                    refine WL_buildH (t := (.int .i64)) (args := [.tmp 33]) (xs := ([x712] : List Int)) H1027 (BltL.cons (Blt.int) rfl (BltL.nil)) u27 j3 rfl rfl rfl rfl (w_take rfl hc699) rfl (fun v1068 w1069 H1070 => ?_)
                    have H1071 : Holds (([] : List Res).flatMap Res.own) w w1069 [.sl 3 (.int .i64) v1068 ([x712]), .sl 3 (.int .i64) v1024 ([]), .sl 3 (.int .i64) v6 x2] G := H1070
                    refine WL_nil fun a ha => ⟨rfl, (?_ : XB _ _ _ _ _ _ _ _) a ha⟩
                    refine XB_all [14] (by kernel_rfl) (by simp) (allc ?_ alln)
                    · refine XB_do rfl ?_
                      have H1072 : Holds (([] : List Res).flatMap Res.own) w w1069 [.sl 3 (.int .i64) v1024 ([]), .sl 3 (.int .i64) v1068 ([x712]), .sl 3 (.int .i64) v6 x2] G := H1071.pull 1
                      refine WL_appendH H1072 (Has.c (Has.c (Has.hd))) hx707 u27 j3 rfl rfl (w_take rfl hc699) rfl rfl rfl (fun v1073 w1074 H1075 => ?_)
                      have H1076 : Holds (([] : List Res).flatMap Res.own) w w1074 [.sl 3 (.int .i64) v1073 x706, .sl 3 (.int .i64) v1068 ([x712]), .sl 3 (.int .i64) v6 x2] G := H1075
                      refine WL_nil fun a ha => ⟨rfl, (?_ : XB _ _ _ _ _ _ _ _) a ha⟩
                      refine XB_all [19] (by kernel_rfl) (by simp) (allc ?_ alln)
                      · refine XB_do rfl ?_
                        refine WL_appendH H1076 (Has.c (Has.hd)) hx727 u27 j3 rfl rfl (w_take rfl hc699) rfl rfl rfl (fun v1077 w1078 H1079 => ?_)
                        have H1080 : Holds (([] : List Res).flatMap Res.own) w w1078 [.sl 3 (.int .i64) v1077 x726, .sl 3 (.int .i64) v1068 ([x712]), .sl 3 (.int .i64) v6 x2] G := H1079
                        refine WL_nil fun a ha => ⟨rfl, (?_ : XB _ _ _ _ _ _ _ _) a ha⟩
                        refine XB_all [20] (by kernel_rfl) (by simp) (allc ?_ alln)
                        · refine XB_do rfl ?_
                          refine WL_call (w_take rfl hc699) rfl c54 (w_impl_SeatsMany w1078 ([.sl 3 (.int .i64) v1077 x726, .sl 3 (.int .i64) v1068 ([x712]), .sl 3 (.int .i64) v6 x2] ++ G) v1077 x726 (Has.hd) x732 hx733 H1080.ctx) (by rfl) ?_
                          rintro _ w1081 ⟨rfl, H1082⟩; refine ⟨_, rfl, ?_⟩
                          have H1083 : Holds (([] : List Res).flatMap Res.own) w w1081 [.sl 3 (.int .i64) v1077 x726, .sl 3 (.int .i64) v1068 ([x712]), .sl 3 (.int .i64) v6 x2] G := H1080.calledN (Rs := []) H1082
                          refine WL_nil fun a ha => ⟨rfl, (?_ : XB _ _ _ _ _ _ _ _) a ha⟩
                          refine XB_take (i := 22) rfl (by kernel_rfl) (by kernel_rfl) (by kernel_rfl) (w_take rfl hc699) (fun _ => qt_eql rfl rfl) rfl rfl ?_
                          refine XB_take (i := 23) rfl (by kernel_rfl) (by kernel_rfl) (by kernel_rfl) (w_take rfl hc697) (fun _ => qt_pickT rfl hc699 rfl) rfl rfl ?_
                          refine XB_take (i := 24) rfl (by kernel_rfl) (by kernel_rfl) (by kernel_rfl) rfl (fun _ => qt_pickF rfl hc697 rfl) rfl rfl ?_
                          refine XB_take (i := 25) rfl (by kernel_rfl) (by kernel_rfl) (by kernel_rfl) rfl (fun _ => qt_move rfl) rfl rfl ?_
                          refine XB_skip (i := 26) rfl (by kernel_rfl) (by kernel_rfl) (by kernel_rfl) (w_skip rfl hc737) rfl rfl ?_
                          refine XB_skip (i := 27) rfl (by kernel_rfl) (by kernel_rfl) (by kernel_rfl) (w_skip rfl hc737) rfl rfl ?_
                          refine XB_skip (i := 28) rfl (by kernel_rfl) (by kernel_rfl) (by kernel_rfl) (w_skip rfl hc737) rfl rfl ?_
                          refine XB_skip (i := 29) rfl (by kernel_rfl) (by kernel_rfl) (by kernel_rfl) (w_skip rfl hc737) rfl rfl ?_
                          refine XB_take (i := 30) rfl (by kernel_rfl) (by kernel_rfl) (by kernel_rfl) rfl (fun _ => qt_pickF rfl hc737 rfl) rfl rfl ?_
                          refine XB_take (i := 31) rfl (by kernel_rfl) (by kernel_rfl) (by kernel_rfl) rfl (fun _ => qt_move rfl) rfl rfl ?_
                          refine XB_skip (i := 32) rfl (by kernel_rfl) (by kernel_rfl) (by kernel_rfl) (w_skip rfl hc1018) rfl rfl ?_
                          refine XB_take (i := 33) rfl (by kernel_rfl) (by kernel_rfl) (by kernel_rfl) rfl (fun _ => qt_pickF rfl hc1018 rfl) rfl rfl ?_
                          refine XB_take (i := 34) rfl (by kernel_rfl) (by kernel_rfl) (by kernel_rfl) rfl (fun _ => qt_assign rfl) rfl rfl ?_
                          refine XB_done (by kernel_rfl) (fun a ha => ?_)
                          have H1084 : Holds (([] : List Res).flatMap Res.own) w w1081 [] G := (((H1083.cut 0).cut 0).cut 0)
                          exact ⟨ha.sub ⟨rfl, trivial⟩, H1084⟩
              · refine XB_do rfl ?_
                obtain ⟨F1085, hat1086, hdup1087⟩ := H222.at (Has.hd) hx713 hv1023
                refine XL_load_int (k := .i64) u3 rfl hat1086 (w_take rfl hc699) rfl rfl ?_
                refine WL_nil fun a ha => ⟨rfl, (?_ : XB _ _ _ _ _ _ _ _) a ha⟩
                refine XB_all [12, 18] (by kernel_rfl) (by simp) (allc ?_ (allc ?_ alln))
                · refine XB_do rfl ?_
                  refine WL_buildH (t := (.int .i64)) (args := []) (xs := ([] : List Int)) H222 (BltL.nil) u27 j3 rfl rfl rfl rfl (w_take rfl hc699) rfl (fun v1088 w1089 H1090 => ?_)
                  have H1091 : Holds (([] : List Res).flatMap Res.own) w w1089 [.sl 3 (.int .i64) v1088 ([]), .sl 3 (.int .i64) v6 x2] G := H1090
                  refine WL_nil fun a ha => ⟨rfl, (?_ : XB _ _ _ _ _ _ _ _) a ha⟩
                  refine XB_all [14, 18] (by kernel_rfl) (by simp) (allc ?_ (allc ?_ alln))
                  · refine XB_do rfl ?_
                    refine WL_appendH H1091 (Has.c (Has.hd)) hx707 u27 j3 rfl rfl (w_take rfl hc699) rfl rfl rfl (fun v1092 w1093 H1094 => ?_)
                    have H1095 : Holds (([] : List Res).flatMap Res.own) w w1093 [.sl 3 (.int .i64) v1092 x706, .sl 3 (.int .i64) v6 x2] G := H1094
                    refine WL_nil fun a ha => ⟨rfl, (?_ : XB _ _ _ _ _ _ _ _) a ha⟩
                    refine XB_all [18] (by kernel_rfl) (by simp) (allc ?_ alln)
                    · refine XB_do rfl ?_
                      refine WL_buildH (t := (.int .i64)) (args := [.tmp 33]) (xs := ([x712] : List Int)) H1095 (BltL.cons (Blt.int) rfl (BltL.nil)) u27 j3 rfl rfl rfl rfl (w_take rfl hc699) rfl (fun v1096 w1097 H1098 => ?_)
                      have H1099 : Holds (([] : List Res).flatMap Res.own) w w1097 [.sl 3 (.int .i64) v1096 ([x712]), .sl 3 (.int .i64) v1092 x706, .sl 3 (.int .i64) v6 x2] G := H1098
                      refine WL_nil fun a ha => ⟨rfl, (?_ : XB _ _ _ _ _ _ _ _) a ha⟩
                      refine XB_all [19] (by kernel_rfl) (by simp) (allc ?_ alln)
                      · refine XB_do rfl ?_
                        have H1100 : Holds (([] : List Res).flatMap Res.own) w w1097 [.sl 3 (.int .i64) v1092 x706, .sl 3 (.int .i64) v1096 ([x712]), .sl 3 (.int .i64) v6 x2] G := H1099.pull 1
                        refine WL_appendH H1100 (Has.c (Has.hd)) hx727 u27 j3 rfl rfl (w_take rfl hc699) rfl rfl rfl (fun v1101 w1102 H1103 => ?_)
                        have H1104 : Holds (([] : List Res).flatMap Res.own) w w1102 [.sl 3 (.int .i64) v1101 x726, .sl 3 (.int .i64) v1096 ([x712]), .sl 3 (.int .i64) v6 x2] G := H1103
                        refine WL_nil fun a ha => ⟨rfl, (?_ : XB _ _ _ _ _ _ _ _) a ha⟩
                        refine XB_all [20] (by kernel_rfl) (by simp) (allc ?_ alln)
                        · refine XB_do rfl ?_
                          refine WL_call (w_take rfl hc699) rfl c54 (w_impl_SeatsMany w1102 ([.sl 3 (.int .i64) v1101 x726, .sl 3 (.int .i64) v1096 ([x712]), .sl 3 (.int .i64) v6 x2] ++ G) v1101 x726 (Has.hd) x732 hx733 H1104.ctx) (by rfl) ?_
                          rintro _ w1105 ⟨rfl, H1106⟩; refine ⟨_, rfl, ?_⟩
                          have H1107 : Holds (([] : List Res).flatMap Res.own) w w1105 [.sl 3 (.int .i64) v1101 x726, .sl 3 (.int .i64) v1096 ([x712]), .sl 3 (.int .i64) v6 x2] G := H1104.calledN (Rs := []) H1106
                          refine WL_nil fun a ha => ⟨rfl, (?_ : XB _ _ _ _ _ _ _ _) a ha⟩
                          refine XB_take (i := 22) rfl (by kernel_rfl) (by kernel_rfl) (by kernel_rfl) (w_take rfl hc699) (fun _ => qt_eql rfl rfl) rfl rfl ?_
                          refine XB_take (i := 23) rfl (by kernel_rfl) (by kernel_rfl) (by kernel_rfl) (w_take rfl hc697) (fun _ => qt_pickT rfl hc699 rfl) rfl rfl ?_
                          refine XB_take (i := 24) rfl (by kernel_rfl) (by kernel_rfl) (by kernel_rfl) rfl (fun _ => qt_pickF rfl hc697 rfl) rfl rfl ?_
                          refine XB_take (i := 25) rfl (by kernel_rfl) (by kernel_rfl) (by kernel_rfl) rfl (fun _ => qt_move rfl) rfl rfl ?_
                          refine XB_skip (i := 26) rfl (by kernel_rfl) (by kernel_rfl) (by kernel_rfl) (w_skip rfl hc737) rfl rfl ?_
                          refine XB_skip (i := 27) rfl (by kernel_rfl) (by kernel_rfl) (by kernel_rfl) (w_skip rfl hc737) rfl rfl ?_
                          refine XB_skip (i := 28) rfl (by kernel_rfl) (by kernel_rfl) (by kernel_rfl) (w_skip rfl hc737) rfl rfl ?_
                          refine XB_skip (i := 29) rfl (by kernel_rfl) (by kernel_rfl) (by kernel_rfl) (w_skip rfl hc737) rfl rfl ?_
                          refine XB_take (i := 30) rfl (by kernel_rfl) (by kernel_rfl) (by kernel_rfl) rfl (fun _ => qt_pickF rfl hc737 rfl) rfl rfl ?_
                          refine XB_take (i := 31) rfl (by kernel_rfl) (by kernel_rfl) (by kernel_rfl) rfl (fun _ => qt_move rfl) rfl rfl ?_
                          refine XB_skip (i := 32) rfl (by kernel_rfl) (by kernel_rfl) (by kernel_rfl) (w_skip rfl hc1018) rfl rfl ?_
                          refine XB_take (i := 33) rfl (by kernel_rfl) (by kernel_rfl) (by kernel_rfl) rfl (fun _ => qt_pickF rfl hc1018 rfl) rfl rfl ?_
                          refine XB_take (i := 34) rfl (by kernel_rfl) (by kernel_rfl) (by kernel_rfl) rfl (fun _ => qt_assign rfl) rfl rfl ?_
                          refine XB_done (by kernel_rfl) (fun a ha => ?_)
                          have H1108 : Holds (([] : List Res).flatMap Res.own) w w1105 [] G := (((H1107.cut 0).cut 0).cut 0)
                          exact ⟨ha.sub ⟨rfl, trivial⟩, H1108⟩
                  · refine XB_do rfl ?_
                    refine WL_buildH (t := (.int .i64)) (args := [.tmp 33]) (xs := ([x712] : List Int)) H1091 (BltL.cons (Blt.int) rfl (BltL.nil)) u27 j3 rfl rfl rfl rfl (w_take rfl hc699) rfl (fun v1109 w1110 H1111 => ?_)
                    have H1112 : Holds (([] : List Res).flatMap Res.own) w w1110 [.sl 3 (.int .i64) v1109 ([x712]), .sl 3 (.int .i64) v1088 ([]), .sl 3 (.int .i64) v6 x2] G := H1111
                    refine WL_nil fun a ha => ⟨rfl, (?_ : XB _ _ _ _ _ _ _ _) a ha⟩
                    refine XB_all [14] (by kernel_rfl) (by simp) (allc ?_ alln)
                    · refine XB_do rfl ?_
                      have H1113 : Holds (([] : List Res).flatMap Res.own) w w1110 [.sl 3 (.int .i64) v1088 ([]), .sl 3 (.int .i64) v1109 ([x712]), .sl 3 (.int .i64) v6 x2] G := H1112.pull 1
                      refine WL_appendH H1113 (Has.c (Has.c (Has.hd))) hx707 u27 j3 rfl rfl (w_take rfl hc699) rfl rfl rfl (fun v1114 w1115 H1116 => ?_)
                      have H1117 : Holds (([] : List Res).flatMap Res.own) w w1115 [.sl 3 (.int .i64) v1114 x706, .sl 3 (.int .i64) v1109 ([x712]), .sl 3 (.int .i64) v6 x2] G := H1116
                      refine WL_nil fun a ha => ⟨rfl, (?_ : XB _ _ _ _ _ _ _ _) a ha⟩
                      refine XB_all [19] (by kernel_rfl) (by simp) (allc ?_ alln)
                      · refine XB_do rfl ?_
                        refine WL_appendH H1117 (Has.c (Has.hd)) hx727 u27 j3 rfl rfl (w_take rfl hc699) rfl rfl rfl (fun v1118 w1119 H1120 => ?_)
                        have H1121 : Holds (([] : List Res).flatMap Res.own) w w1119 [.sl 3 (.int .i64) v1118 x726, .sl 3 (.int .i64) v1109 ([x712]), .sl 3 (.int .i64) v6 x2] G := H1120
                        refine WL_nil fun a ha => ⟨rfl, (?_ : XB _ _ _ _ _ _ _ _) a ha⟩
                        refine XB_all [20] (by kernel_rfl) (by simp) (allc ?_ alln)
                        · refine XB_do rfl ?_
                          refine WL_call (w_take rfl hc699) rfl c54 (w_impl_SeatsMany w1119 ([.sl 3 (.int .i64) v1118 x726, .sl 3 (.int .i64) v1109 ([x712]), .sl 3 (.int .i64) v6 x2] ++ G) v1118 x726 (Has.hd) x732 hx733 H1121.ctx) (by rfl) ?_
                          rintro _ w1122 ⟨rfl, H1123⟩; refine ⟨_, rfl, ?_⟩
                          have H1124 : Holds (([] : List Res).flatMap Res.own) w w1122 [.sl 3 (.int .i64) v1118 x726, .sl 3 (.int .i64) v1109 ([x712]), .sl 3 (.int .i64) v6 x2] G := H1121.calledN (Rs := []) H1123
                          refine WL_nil fun a ha => ⟨rfl, (?_ : XB _ _ _ _ _ _ _ _) a ha⟩
                          refine XB_take (i := 22) rfl (by kernel_rfl) (by kernel_rfl) (by kernel_rfl) (w_take rfl hc699) (fun _ => qt_eql rfl rfl) rfl rfl ?_
                          refine XB_take (i := 23) rfl (by kernel_rfl) (by kernel_rfl) (by kernel_rfl) (w_take rfl hc697) (fun _ => qt_pickT rfl hc699 rfl) rfl rfl ?_
                          refine XB_take (i := 24) rfl (by kernel_rfl) (by kernel_rfl) (by kernel_rfl) rfl (fun _ => qt_pickF rfl hc697 rfl) rfl rfl ?_
                          refine XB_take (i := 25) rfl (by kernel_rfl) (by kernel_rfl) (by kernel_rfl) rfl (fun _ => qt_move rfl) rfl rfl ?_
                          refine XB_skip (i := 26) rfl (by kernel_rfl) (by kernel_rfl) (by kernel_rfl) (w_skip rfl hc737) rfl rfl ?_
                          refine XB_skip (i := 27) rfl (by kernel_rfl) (by kernel_rfl) (by kernel_rfl) (w_skip rfl hc737) rfl rfl ?_
                          refine XB_skip (i := 28) rfl (by kernel_rfl) (by kernel_rfl) (by kernel_rfl) (w_skip rfl hc737) rfl rfl ?_
                          refine XB_skip (i := 29) rfl (by kernel_rfl) (by kernel_rfl) (by kernel_rfl) (w_skip rfl hc737) rfl rfl ?_
                          refine XB_take (i := 30) rfl (by kernel_rfl) (by kernel_rfl) (by kernel_rfl) rfl (fun _ => qt_pickF rfl hc737 rfl) rfl rfl ?_
                          refine XB_take (i := 31) rfl (by kernel_rfl) (by kernel_rfl) (by kernel_rfl) rfl (fun _ => qt_move rfl) rfl rfl ?_
                          refine XB_skip (i := 32) rfl (by kernel_rfl) (by kernel_rfl) (by kernel_rfl) (w_skip rfl hc1018) rfl rfl ?_
                          refine XB_take (i := 33) rfl (by kernel_rfl) (by kernel_rfl) (by kernel_rfl) rfl (fun _ => qt_pickF rfl hc1018 rfl) rfl rfl ?_
                          refine XB_take (i := 34) rfl (by kernel_rfl) (by kernel_rfl) (by kernel_rfl) rfl (fun _ => qt_assign rfl) rfl rfl ?_
                          refine XB_done (by kernel_rfl) (fun a ha => ?_)
                          have H1125 : Holds (([] : List Res).flatMap Res.own) w w1122 [] G := (((H1124.cut 0).cut 0).cut 0)
                          exact ⟨ha.sub ⟨rfl, trivial⟩, H1125⟩
                · refine XB_do rfl ?_
                  refine WL_buildH (t := (.int .i64)) (args := [.tmp 33]) (xs := ([x712] : List Int)) H222 (BltL.cons (Blt.int) rfl (BltL.nil)) u27 j3 rfl rfl rfl rfl (w_take rfl hc699) rfl (fun v1126 w1127 H1128 => ?_)
                  have H1129 : Holds (([] : List Res).flatMap Res.own) w w1127 [.sl 3 (.int .i64) v1126 ([x712]), .sl 3 (.int .i64) v6 x2] G := H1128
                  refine WL_nil fun a ha => ⟨rfl, (?_ : XB _ _ _ _ _ _ _ _) a ha⟩
                  refine XB_all [12] (by kernel_rfl) (by simp) (allc ?_ alln)
                  · refine XB_do rfl ?_
                    refine WL_buildH (t := (.int .i64)) (args := []) (xs := ([] : List Int)) H1129 (BltL.nil) u27 j3 rfl rfl rfl rfl (w_take rfl hc699) rfl (fun v1130 w1131 H1132 => ?_)
                    have H1133 : Holds (([] : List Res).flatMap Res.own) w w1131 [.sl 3 (.int .i64) v1130 ([]), .sl 3 (.int .i64) v1126 ([x712]), .sl 3 (.int .i64) v6 x2] G := H1132
                    refine WL_nil fun a ha => ⟨rfl, (?_ : XB _ _ _ _ _ _ _ _) a ha⟩
                    refine XB_all [14] (by kernel_rfl) (by simp) (allc ?_ alln)
                    · refine XB_do rfl ?_
                      refine WL_appendH H1133 (Has.c (Has.c (Has.hd))) hx707 u27 j3 rfl rfl (w_take rfl hc699) rfl rfl rfl (fun v1134 w1135 H1136 => ?_)
                      have H1137 : Holds (([] : List Res).flatMap Res.own) w w1135 [.sl 3 (.int .i64) v1134 x706, .sl 3 (.int .i64) v1126 ([x712]), .sl 3 (.int .i64) v6 x2] G := H1136
                      refine WL_nil fun a ha => ⟨rfl, (?_ : XB _ _ _ _ _ _ _ _) a ha⟩
                      refine XB_all [19] (by kernel_rfl) (by simp) (allc ?_ alln)
                      · refine XB_do rfl ?_
                        refine WL_appendH H1137 (Has.c (Has.hd)) hx727 u27 j3 rfl rfl (w_take rfl hc699) rfl rfl rfl (fun v1138 w1139 H1140 => ?_)
                        have H1141 : Holds (([] : List Res).flatMap Res.own) w w1139 [.sl 3 (.int .i64) v1138 x726, .sl 3 (.int .i64) v1126 ([x712]), .sl 3 (.int .i64) v6 x2] G := H1140
                        refine WL_nil fun a ha => ⟨rfl, (?_ : XB _ _ _ _ _ _ _ _) a ha⟩
                        refine XB_all [20] (by kernel_rfl) (by simp) (allc ?_ alln)
                        · refine XB_do rfl ?_
                          refine WL_call (w_take rfl hc699) rfl c54 (w_impl_SeatsMany w1139 ([.sl 3 (.int .i64) v1138 x726, .sl 3 (.int .i64) v1126 ([x712]), .sl 3 (.int .i64) v6 x2] ++ G) v1138 x726 (Has.hd) x732 hx733 H1141.ctx) (by rfl) ?_
                          rintro _ w1142 ⟨rfl, H1143⟩; refine ⟨_, rfl, ?_⟩
                          have H1144 : Holds (([] : List Res).flatMap Res.own) w w1142 [.sl 3 (.int .i64) v1138 x726, .sl 3 (.int .i64) v1126 ([x712]), .sl 3 (.int .i64) v6 x2] G := H1141.calledN (Rs := []) H1143
                          refine WL_nil fun a ha => ⟨rfl, (?_ : XB _ _ _ _ _ _ _ _) a ha⟩
                          refine XB_take (i := 22) rfl (by kernel_rfl) (by kernel_rfl) (by kernel_rfl) (w_take rfl hc699) (fun _ => qt_eql rfl rfl) rfl rfl ?_
                          refine XB_take (i := 23) rfl (by kernel_rfl) (by kernel_rfl) (by kernel_rfl) (w_take rfl hc697) (fun _ => qt_pickT rfl hc699 rfl) rfl rfl ?_
                          refine XB_take (i := 24) rfl (by kernel_rfl) (by kernel_rfl) (by kernel_rfl) rfl (fun _ => qt_pickF rfl hc697 rfl) rfl rfl ?_
                          refine XB_take (i := 25) rfl (by kernel_rfl) (by kernel_rfl) (by kernel_rfl) rfl (fun _ => qt_move rfl) rfl rfl ?_
                          refine XB_skip (i := 26) rfl (by kernel_rfl) (by kernel_rfl) (by kernel_rfl) (w_skip rfl hc737) rfl rfl ?_
                          refine XB_skip (i := 27) rfl (by kernel_rfl) (by kernel_rfl) (by kernel_rfl) (w_skip rfl hc737) rfl rfl ?_
                          refine XB_skip (i := 28) rfl (by kernel_rfl) (by kernel_rfl) (by kernel_rfl) (w_skip rfl hc737) rfl rfl ?_
                          refine XB_skip (i := 29) rfl (by kernel_rfl) (by kernel_rfl) (by kernel_rfl) (w_skip rfl hc737) rfl rfl ?_
                          refine XB_take (i := 30) rfl (by kernel_rfl) (by kernel_rfl) (by kernel_rfl) rfl (fun _ => qt_pickF rfl hc737 rfl) rfl rfl ?_
                          refine XB_take (i := 31) rfl (by kernel_rfl) (by kernel_rfl) (by kernel_rfl) rfl (fun _ => qt_move rfl) rfl rfl ?_
                          refine XB_skip (i := 32) rfl (by kernel_rfl) (by kernel_rfl) (by kernel_rfl) (w_skip rfl hc1018) rfl rfl ?_
                          refine XB_take (i := 33) rfl (by kernel_rfl) (by kernel_rfl) (by kernel_rfl) rfl (fun _ => qt_pickF rfl hc1018 rfl) rfl rfl ?_
                          refine XB_take (i := 34) rfl (by kernel_rfl) (by kernel_rfl) (by kernel_rfl) rfl (fun _ => qt_assign rfl) rfl rfl ?_
                          refine XB_done (by kernel_rfl) (fun a ha => ?_)
                          have H1145 : Holds (([] : List Res).flatMap Res.own) w w1142 [] G := (((H1144.cut 0).cut 0).cut 0)
                          exact ⟨ha.sub ⟨rfl, trivial⟩, H1145⟩
          · skip
            have ho1146 := if_f hc699 hob700
            obtain rfl := Option.some.inj ho1146
            obtain rfl := Option.some.inj ho698
            have hc1147 : false = false := rfl
            have ho1148 := if_f hc1147 hob58
            obtain rfl := Option.some.inj ho1148
            have hc1149 : false = false := rfl
            have ho1150 := if_f hc1149 hob64
            obtain rfl := Option.some.inj ho1150
            refine XB_take (i := 0) rfl (by kernel_rfl) (by kernel_rfl) (by kernel_rfl) rfl (fun _ => qt_move rfl) rfl rfl ?_
            refine XB_lenH (i := 1) rfl (by kernel_rfl) (by kernel_rfl) (by kernel_rfl) H222.ctx (t := (.int .i64)) (Has.hd) u27 rfl rfl rfl ?_
            refine XB_take (i := 2) rfl (by kernel_rfl) (by kernel_rfl) (by kernel_rfl) rfl (fun _ => qt_eql rfl rfl) rfl rfl ?_
            refine XB_take (i := 3) rfl (by kernel_rfl) (by kernel_rfl) (by kernel_rfl) rfl (fun _ => qt_move rfl) rfl rfl ?_
            refine XB_skip (i := 4) rfl (by kernel_rfl) (by kernel_rfl) (by kernel_rfl) (w_skip rfl hc223) rfl rfl ?_
            refine XB_skip (i := 5) rfl (by kernel_rfl) (by kernel_rfl) (by kernel_rfl) (w_skip rfl hc223) rfl rfl ?_
            refine XB_take (i := 6) rfl (by kernel_rfl) (by kernel_rfl) (by kernel_rfl) rfl (fun _ => qt_pickF rfl hc223 rfl) rfl rfl ?_
            refine XB_take (i := 7) rfl (by kernel_rfl) (by kernel_rfl) (by kernel_rfl) rfl (fun _ => qt_move rfl) rfl rfl ?_
            refine XB_take (i := 8) rfl (by kernel_rfl) (by kernel_rfl) (by kernel_rfl) (w_take rfl hc697) (fun _ => qt_move rfl) rfl rfl ?_
            refine XB_lenH (i := 9) rfl (by kernel_rfl) (by kernel_rfl) (by kernel_rfl) H222.ctx (t := (.int .i64)) (Has.hd) u27 (w_take rfl hc697) rfl rfl ?_
            refine XB_take (i := 10) rfl (by kernel_rfl) (by kernel_rfl) (by kernel_rfl) (w_take rfl hc697) (fun _ => qt_gtr rfl rfl) rfl rfl ?_
            refine XB_take (i := 11) rfl (by kernel_rfl) (by kernel_rfl) (by kernel_rfl) (w_take rfl hc697) (fun _ => qt_move rfl) rfl rfl ?_
            refine XB_skip (i := 12) rfl (by kernel_rfl) (by kernel_rfl) (by kernel_rfl) (w_skip rfl hc699) rfl rfl ?_
            refine XB_skip (i := 13) rfl (by kernel_rfl) (by kernel_rfl) (by kernel_rfl) (w_skip rfl hc699) rfl rfl ?_
            refine XB_skip (i := 14) rfl (by kernel_rfl) (by kernel_rfl) (by kernel_rfl) (w_skip rfl hc699) rfl rfl ?_
            refine XB_skip (i := 15) rfl (by kernel_rfl) (by kernel_rfl) (by kernel_rfl) (w_skip rfl hc699) rfl rfl ?_
            refine XB_skip (i := 16) rfl (by kernel_rfl) (by kernel_rfl) (by kernel_rfl) (w_skip rfl hc699) rfl rfl ?_
            refine XB_skip (i := 17) rfl (by kernel_rfl) (by kernel_rfl) (by kernel_rfl) (w_skip rfl hc699) rfl rfl ?_
            refine XB_skip (i := 18) rfl (by kernel_rfl) (by kernel_rfl) (by kernel_rfl) (w_skip rfl hc699) rfl rfl ?_
            refine XB_skip (i := 19) rfl (by kernel_rfl) (by kernel_rfl) (by kernel_rfl) (w_skip rfl hc699) rfl rfl ?_
            refine XB_skip (i := 20) rfl (by kernel_rfl) (by kernel_rfl) (by kernel_rfl) (w_skip rfl hc699) rfl rfl ?_
            refine XB_skip (i := 21) rfl (by kernel_rfl) (by kernel_rfl) (by kernel_rfl) (w_skip rfl hc699) rfl rfl ?_
            refine XB_skip (i := 22) rfl (by kernel_rfl) (by kernel_rfl) (by kernel_rfl) (w_skip rfl hc699) rfl rfl ?_
            refine XB_take (i := 23) rfl (by kernel_rfl) (by kernel_rfl) (by kernel_rfl) (w_take rfl hc697) (fun _ => qt_pickF rfl hc699 rfl) rfl rfl ?_
            refine XB_take (i := 24) rfl (by kernel_rfl) (by kernel_rfl) (by kernel_rfl) rfl (fun _ => qt_pickF rfl hc697 rfl) rfl rfl ?_
            refine XB_take (i := 25) rfl (by kernel_rfl) (by kernel_rfl) (by kernel_rfl) rfl (fun _ => qt_move rfl) rfl rfl ?_
            refine XB_skip (i := 26) rfl (by kernel_rfl) (by kernel_rfl) (by kernel_rfl) (w_skip rfl hc1147) rfl rfl ?_
            refine XB_skip (i := 27) rfl (by kernel_rfl) (by kernel_rfl) (by kernel_rfl) (w_skip rfl hc1147) rfl rfl ?_
            refine XB_skip (i := 28) rfl (by kernel_rfl) (by kernel_rfl) (by kernel_rfl) (w_skip rfl hc1147) rfl rfl ?_
            refine XB_skip (i := 29) rfl (by kernel_rfl) (by kernel_rfl) (by kernel_rfl) (w_skip rfl hc1147) rfl rfl ?_
            refine XB_take (i := 30) rfl (by kernel_rfl) (by kernel_rfl) (by kernel_rfl) rfl (fun _ => qt_pickF rfl hc1147 rfl) rfl rfl ?_
            refine XB_take (i := 31) rfl (by kernel_rfl) (by kernel_rfl) (by kernel_rfl) rfl (fun _ => qt_move rfl) rfl rfl ?_
            refine XB_skip (i := 32) rfl (by kernel_rfl) (by kernel_rfl) (by kernel_rfl) (w_skip rfl hc1149) rfl rfl ?_
            refine XB_take (i := 33) rfl (by kernel_rfl) (by kernel_rfl) (by kernel_rfl) rfl (fun _ => qt_pickF rfl hc1149 rfl) rfl rfl ?_
            refine XB_take (i := 34) rfl (by kernel_rfl) (by kernel_rfl) (by kernel_rfl) rfl (fun _ => qt_assign rfl) rfl rfl ?_
            refine XB_done (by kernel_rfl) (fun a ha => ?_)
            have H1151 : Holds (([] : List Res).flatMap Res.own) w w220 [] G := (H222.cut 0)
            exact ⟨ha.sub ⟨rfl, trivial⟩, H1151⟩
      · intro a w1152 hI1153
        obtain ⟨ha, H1154⟩ := hI1153
        refine WP.app ?_ ha
        clear ha
        refine WP_ret fun a ha => ?_
        obtain rfl := Option.some.inj h
        exact ret1 rfl ha rfl ⟨rfl, H1154⟩
end Go.Proofs.YtidhmbmollkhdaaDoor
