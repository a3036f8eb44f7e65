/- FnExactEndDeeds: whatever the arguments, the Go function laws.FnExactEndDeeds returns true and leaves its arguments as they were. No condition. -/
import Derived.Test.YtcjkbcdlpfgbgaaRows
import Derived.Test.YtcjkbcdlpfgbgaaWX7E4
import Derived.Test.YtcjkbcdlpfgbgaaEnd
import Derived.Test.YtcjkbcdlpfgbgaaTrod
import Derived.Test.YtcjkbcdlpfgbgaaHead
import Derived.WalkKit
import Derived.ProofKit
import Derived.OpenShut
import Derived.ShutString
import Derived.ChangeOld
import Derived.Below
import Derived.Carry
namespace Go.Proofs.Ytcjkbcdlpfgbgaa.fnExactEndDeeds
open Go.ChangeShapes Go.WideShapes Go.ChangeAt Go.RowKit
open Go.ChangeMaps (open_string shut_string)
set_option linter.unusedVariables false
theorem own : ownKnob Try.prog.godebug = none := by kernel_rfl
theorem laidOut : laidOutB Try.prog = true := by kernel_rfl
set_option maxRecDepth 100000 in
theorem lifted (os : Os) (started : os.Started) (H : Type) (enc : TypeId × Value → H) :
    ReturnsInHanded {} Try.checked os 6 .any (Rows.fnExactEndDeedsSpec.pre6 enc Try.prog Try.f6 Rows.fnExactEndDeedsRow.domain false) (Rows.fnExactEndDeedsSpec.post enc Try.prog Try.f6 false true false false) := by
  refine returnsInHanded_of_change (C := Try.checked) own started (by kernel_rfl) Try.func6
    (ChangeSpec.witness6 (enc := enc) (C := Try.checked) false ⟨#[], #[.agg #[.slice none 0 0, .slice none 0 0, .slice none 0 0, .int .i64 0, .slice none 0 0]], []⟩ 8 (by kernel_rfl) (by kernel_rfl) (by kernel_rfl) (by kernel_rfl)) ?_
  intro W base args ds gs before hval0 hW hcnd _
  have hval : ∀ (j : Nat) t v, Try.f6.params[j]? = some t → args[j]? = some v → Value.okWide Try.prog W .any base t v := hval0
  have hW' := hW
  obtain ⟨p, q, hA0, hV, rfl, hfz, hnd⟩ := hW
  have hA : DataW.TrodAll enc Try.prog W 0 (fun _ => true) true Try.f6.params.toList args.toList ds p := hA0
  rw [Try.params6] at hA hval
  obtain ⟨v0, vs0, d0, ds0, p0, q0, hargs, rfl, rfl, h0, r0⟩ := trodAll_cons hA
  obtain ⟨rfl, rfl, rfl⟩ := trodAll_nil r0
  obtain rfl : args = #[v0] := by cases args; simp_all
  obtain ⟨rfl, rfl⟩ := trodVars_none hV
  have k0 := h0
  have lt0 : ∀ x ∈ p0, x.block < W.heap.size := by obtain ⟨m, hm⟩ := k0; exact DataW.trod_lt m _ _ _ hm
  obtain ⟨cs0, rfl, hsz0⟩ := okWide_struct Try.underlying26 (hval 0 26 v0 rfl rfl)
  obtain ⟨fuel0, hf0⟩ := h0
  obtain ⟨⟨y0_0, y0_1, y0_2, y0_3, y0_4⟩, F0, hr0, hL0⟩ := (Opn.struct Try.underlying26 (by kernel_rfl) (OpnF.cons rfl rfl (by kernel_rfl) (Opn.slice Try.underlying22 (by kernel_rfl) (Opn.struct Try.underlying75 (by kernel_rfl) (OpnF.cons rfl rfl (by kernel_rfl) (Opn.int Try.underlying3) (OpnF.cons rfl rfl (by kernel_rfl) (Opn.slice Try.underlying73 (by kernel_rfl) (Opn.struct Try.underlying105 (by kernel_rfl) (OpnF.cons rfl rfl (by kernel_rfl) (Opn.int Try.underlying3) (OpnF.last rfl rfl (by kernel_rfl) (Opn.int Try.underlying3))))) (OpnF.last rfl rfl (by kernel_rfl) (Opn.int Try.underlying3)))))) (OpnF.cons rfl rfl (by kernel_rfl) (Opn.slice Try.underlying23 (by kernel_rfl) (Opn.int Try.underlying3)) (OpnF.cons rfl rfl (by kernel_rfl) (Opn.slice Try.underlying23 (by kernel_rfl) (Opn.int Try.underlying3)) (OpnF.cons rfl rfl (by kernel_rfl) (Opn.int Try.underlying3) (OpnF.last rfl rfl (by kernel_rfl) (Opn.slice Try.underlying24 (by kernel_rfl) (Opn.struct Try.underlying79 (by kernel_rfl) (OpnF.cons rfl rfl (by kernel_rfl) (Opn.int Try.underlying3) (OpnF.cons rfl rfl (by kernel_rfl) (Opn.slice Try.underlying77 (by kernel_rfl) (Opn.struct Try.underlying107 (by kernel_rfl) (OpnF.cons rfl rfl (by kernel_rfl) (Opn.int Try.underlying3) (OpnF.last rfl rfl (by kernel_rfl) (Opn.int Try.underlying3))))) (OpnF.last rfl rfl (by kernel_rfl) (Opn.slice Try.underlying23 (by kernel_rfl) (Opn.int Try.underlying3))))))))))))) _ _ _ hf0
  obtain ⟨c0_0, e0_0, F0_0, E0_0, ec0_0, ef0_0, r0_0, s0_0⟩ := hr0
  obtain ⟨v0_0, ev0_0, u0_0⟩ := Rep.cell1 r0_0
  obtain ⟨c0_1, e0_1, F0_1, E0_1, ec0_1, ef0_1, r0_1, s0_1⟩ := s0_0
  obtain ⟨v0_1, ev0_1, u0_1⟩ := Rep.cell1 r0_1
  obtain ⟨c0_2, e0_2, F0_2, E0_2, ec0_2, ef0_2, r0_2, s0_2⟩ := s0_1
  obtain ⟨v0_2, ev0_2, u0_2⟩ := Rep.cell1 r0_2
  obtain ⟨c0_3, e0_3, F0_3, E0_3, ec0_3, ef0_3, r0_3, s0_3⟩ := s0_2
  obtain ⟨ev0_3, _⟩ := r0_3
  obtain ⟨v0_4, ev0_4, u0_4⟩ := Rep.cell1 s0_3
  have ecs0 : cs0 = #[v0_0, v0_1, v0_2, .int .i64 y0_3, v0_4] := by
    refine arr_of ?_
    have ec : (Value.agg cs0).cells.toList = _ := ec0_0
    simp only [ev0_0, ev0_1, ev0_2, ev0_3, ev0_4, ec0_1, ec0_2, ec0_3, List.cons_append, List.nil_append] at ec
    exact ec
  subst ecs0
  clear hA0 hval0
  have H0 : Holds (([] : List Res).flatMap Res.own) W W [] [] := Holds.startN (Rs := []) (G := []) ⟨[], rfl, trivial, List.Pairwise.nil, fun f hf => by cases hf⟩
  have H4 : Holds (([] : List Res).flatMap Res.own) W W [.ro (.pair (.int .i64) (.pair (.slice (.pair (.int .i64) (.int .i64))) (.slice (.int .i64)))) v0_4 y0_4] [] := Holds.addRo H0 u0_4 (by simp [Res.own])
  have H3 : Holds (([] : List Res).flatMap Res.own) W W [.ro (.int .i64) v0_2 y0_2, .ro (.pair (.int .i64) (.pair (.slice (.pair (.int .i64) (.int .i64))) (.slice (.int .i64)))) v0_4 y0_4] [] := Holds.addRo H4 u0_2 (by simp [Res.own])
  have H2 : Holds (([] : List Res).flatMap Res.own) W W [.ro (.int .i64) v0_1 y0_1, .ro (.int .i64) v0_2 y0_2, .ro (.pair (.int .i64) (.pair (.slice (.pair (.int .i64) (.int .i64))) (.slice (.int .i64)))) v0_4 y0_4] [] := Holds.addRo H3 u0_1 (by simp [Res.own])
  have H1 : Holds (([] : List Res).flatMap Res.own) W W [.ro (.pair (.int .i64) (.pair (.slice (.pair (.int .i64) (.int .i64))) (.int .i64))) v0_0 y0_0, .ro (.int .i64) v0_1 y0_1, .ro (.int .i64) v0_2 y0_2, .ro (.pair (.int .i64) (.pair (.slice (.pair (.int .i64) (.int .i64))) (.slice (.int .i64)))) v0_4 y0_4] [] := Holds.addRo H2 u0_0 (by simp [Res.own])
  refine (w_laws_FnExactEndDeeds W [.ro (.pair (.int .i64) (.pair (.slice (.pair (.int .i64) (.int .i64))) (.int .i64))) v0_0 y0_0, .ro (.int .i64) v0_1 y0_1, .ro (.int .i64) v0_2 y0_2, .ro (.pair (.int .i64) (.pair (.slice (.pair (.int .i64) (.int .i64))) (.slice (.int .i64)))) v0_4 y0_4] v0_0 y0_0 (HasRo.has (HasRo.hd)) v0_1 y0_1 (HasRo.has (HasRo.c (HasRo.hd))) v0_2 y0_2 (HasRo.has (HasRo.c (HasRo.c (HasRo.hd)))) y0_3 v0_4 y0_4 (HasRo.has (HasRo.c (HasRo.c (HasRo.c (HasRo.hd))))) true (pl_FnExactEndDeeds y0_0 y0_1 y0_2 y0_3 y0_4 (rhouse_of hL0.1 (fun x hx => hx.2.1.1) hL0.2.1.1 hL0.2.2.1.1 hL0.2.2.2.2 (fun x hx => ⟨hx.2.1.1, hx.2.2.1⟩))) H1.ctx).mono fun e W' hK => ?_
  obtain ⟨he, hK2⟩ := hK
  have bel := hK2.bel
  subst he
  exact ⟨_, rfl, _, _, _, [], _, [], hW', trodAll_mk1 (shut_bool Try.underlying4 _), (trodAll_cons_mk (Below.trod laidOut (by kernel_rfl) (of_decide_eq_true (by kernel_rfl)) k0 bel lt0) trodAll_mk0), rfl, bel.frame _, fun h => by cases h⟩
theorem closed : joinedFacts Try.pinned.checked.prog 6 Try.f6 Rows.fnExactEndDeedsSpec Rows.fnExactEndDeedsRow = true := by
  unfold joinedFacts
  refine band (band (band (band (band (band (band (band (band (band (band (band (band (band (band (band (band (band (band (band (band (band (band (band (band (band (band (band (band (band (band (?_) ?_) ?_) ?_) ?_) ?_) ?_) ?_) ?_) ?_) ?_) ?_) ?_) ?_) ?_) ?_) ?_) ?_) ?_) ?_) ?_) ?_) ?_) ?_) ?_) ?_) ?_) ?_) ?_) ?_) ?_) ?_
  · as_aux_lemma => kernel_rfl
  · as_aux_lemma => kernel_rfl
  · as_aux_lemma => kernel_rfl
  · as_aux_lemma => kernel_rfl
  · as_aux_lemma => kernel_rfl
  · as_aux_lemma => kernel_rfl
  · as_aux_lemma => kernel_rfl
  · as_aux_lemma => kernel_rfl
  · as_aux_lemma => kernel_rfl
  · as_aux_lemma => kernel_rfl
  · as_aux_lemma => kernel_rfl
  · as_aux_lemma => kernel_rfl
  · as_aux_lemma => kernel_rfl
  · as_aux_lemma => kernel_rfl
  · as_aux_lemma => kernel_rfl
  · as_aux_lemma => kernel_rfl
  · as_aux_lemma => kernel_rfl
  · as_aux_lemma => kernel_rfl
  · as_aux_lemma => kernel_rfl
  · as_aux_lemma => kernel_rfl
  · as_aux_lemma => kernel_rfl
  · as_aux_lemma => kernel_rfl
  · as_aux_lemma => kernel_rfl
  · as_aux_lemma => kernel_rfl
  · as_aux_lemma => kernel_rfl
  · exact may_enter
  · exact lifts_final
  · exact make_eq
  · as_aux_lemma => kernel_rfl
  · as_aux_lemma => kernel_rfl
  · as_aux_lemma => kernel_rfl
  · as_aux_lemma => kernel_rfl
theorem over : Rows.fnExactEndDeedsRow.holds Try.pinned (OpenSpec.ofChange Rows.fnExactEndDeedsSpec) :=
  OpenClaim.holds_of_wide 6 Try.f6 rfl rfl rfl rfl rfl rfl rfl ⟨rfl, rfl, rfl, rfl, rfl⟩ rfl rfl rfl rfl rfl (by kernel_rfl) Try.func6 closed
    (of_decide_eq_true (by kernel_rfl)) (by unfold Func.isWrapper; first | (rw [if_pos (by decide +kernel)]; kernel_rfl) | (rw [if_neg (by decide +kernel)]; exact ⟨rfl, rfl⟩))
    (fun os started H enc _ => lifted os started H enc)
/-- the statement -/
theorem proved : Rows.FnExactEndDeedsSaid := over
end Go.Proofs.Ytcjkbcdlpfgbgaa.fnExactEndDeeds
