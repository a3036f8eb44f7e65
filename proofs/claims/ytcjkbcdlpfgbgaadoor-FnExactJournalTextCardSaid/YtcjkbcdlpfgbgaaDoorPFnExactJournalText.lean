/- FnExactJournalText: whatever the argument, the Go function laws.FnExactJournalText returns true and leaves its argument and the package's tables as they were; the listed tables hold what the program text lays into them (the card ties that). No other condition. -/
import Derived.Test.YtcjkbcdlpfgbgaaDoorRows
import Derived.Test.YtcjkbcdlpfgbgaaDoorCards
import Derived.Test.YtcjkbcdlpfgbgaaDoorTie
import Derived.Test.YtcjkbcdlpfgbgaaDoorWX7Db
import Derived.Test.YtcjkbcdlpfgbgaaDoorJText2
import Derived.Test.YtcjkbcdlpfgbgaaDoorLaid
import Derived.Test.YtcjkbcdlpfgbgaaDoorHead
import Derived.WalkKit
import Derived.ProofKit
import Derived.OpenShut
import Derived.ShutString
import Derived.ChangeOld
import Derived.Below
import Derived.Carry
import Derived.LaidMore
import Derived.Lay
import Derived.Stop.Joined
import Derived.SevenTiedAt
import Derived.MakeChecks
namespace Go.Proofs.YtcjkbcdlpfgbgaaDoor.fnExactJournalText
open Go.ChangeShapes Go.WideShapes Go.ChangeAt Go.RowKit
open Go.ChangeMaps (open_string shut_string)
set_option linter.unusedVariables false
theorem own : ownKnob Tryd.prog.godebug = none := by kernel_rfl
theorem laidOut : laidOutB Tryd.prog = true := by kernel_rfl
theorem door_met (os : Os) (args : Array Value) : laidMetH Tryd.prog Rows.fnExactJournalTextRow.laid ((World.doorLaid Tryd.prog 400 os).forCall (fun _ _ => 0) ⟨#[], args, []⟩).memory :=
  laidMetH_of_parts3 (fuel := 8) (laidMet_of_run' 8 (by kernel_rfl) (by kernel_rfl)) (by kernel_rfl) (by kernel_rfl)
set_option maxRecDepth 100000 in
theorem lifted (os : Os) (started : os.Started) (H : Type) (enc : TypeId × Value → H) :
    ReturnsInHanded {} Tryd.checked os 5 .any (fun w args => (Rows.fnExactJournalTextSpec.pre enc Tryd.prog Tryd.f5 [] false w args ∧ laidMetH Tryd.prog Rows.fnExactJournalTextRow.laid w) ∧ sizedMet enc Tryd.prog Tryd.f5 (OpenSpec.ofChange Rows.fnExactJournalTextSpec) false w args)
      (Rows.fnExactJournalTextSpec.post enc Tryd.prog Tryd.f5 false true false false) := by
  refine handed (C := Tryd.checked) (X := fun w _ => laidMetH Tryd.prog Rows.fnExactJournalTextRow.laid w) (fun _ _ _ hh h => h.of_heap hh) own started (by kernel_rfl) Tryd.func5
    (ChangeSpec.witness_shaped (enc := enc) (C := Tryd.checked) (os := os) (X := fun w _ => laidMetH Tryd.prog Rows.fnExactJournalTextRow.laid w) false (World.doorLaid Tryd.prog 400 os) #[.slice none 0 0] 8 rfl (World.shaped_of_RefB (by kernel_rfl) (by kernel_rfl)) (by kernel_rfl) (by kernel_rfl) (by kernel_rfl) (door_met os _)) ?_
  intro W base args ds gs before hval0 hW hLaid hShape
  have hval : ∀ (j : Nat) t v, Tryd.f5.params[j]? = some t → args[j]? = some v → Value.okWide Tryd.prog W .any base t v := hval0
  have hW' := hW
  obtain ⟨p, q, hA0, hV, rfl, hfz, hnd⟩ := hW
  have hA : DataW.TrodAll enc Tryd.prog W 0 (fun _ => true) true Tryd.f5.params.toList args.toList ds p := hA0
  rw [Tryd.params5] at hA hval
  have hTab : laidMet Tryd.prog Rows.fnExactJournalTextRow.laid W := by
    have := hLaid
    rwa [MakeChecks.laidMetH_plain _ _ _ (by kernel_rfl)] at this
  obtain ⟨v0, vs0, d0, ds0, p0, q0, hargs, rfl, rfl, h0, r0⟩ := trodAll_cons hA
  obtain ⟨rfl, rfl, rfl⟩ := trodAll_nil r0
  obtain rfl : args = #[v0] := by cases args; simp_all
  obtain ⟨g1, g2, rfl⟩ := vars2 hV
  have k0 := h0
  have lt0 : ∀ x ∈ p0, x.block < W.heap.size := by obtain ⟨m, hm⟩ := k0; exact DataW.trod_lt m _ _ _ hm
  obtain ⟨fuel0, hf0⟩ := h0
  obtain ⟨a0, len0, cap0, rfl⟩ := okWide_slice Tryd.underlying32 (hval 0 32 v0 rfl rfl)
  obtain ⟨y0, F0, hr0, hL0⟩ := (Opn.slice Tryd.underlying32 (by kernel_rfl) (Opn.struct Tryd.underlying23 (by kernel_rfl) (OpnF.cons rfl rfl (by kernel_rfl) (Opn.int Tryd.underlying3) (OpnF.cons rfl rfl (by kernel_rfl) (Opn.int Tryd.underlying3) (OpnF.cons rfl rfl (by kernel_rfl) (Opn.int Tryd.underlying3) (OpnF.last rfl rfl (by kernel_rfl) (Opn.int Tryd.underlying3))))))) _ _ _ hf0
  clear hA0 hval0
  have hB0 := strs_block (zs := deedNames) (Lib.laidMet.reads hTab (n := "loop.example/restaurantkitchen/impl.deedNames") (d := Rows.laid_loop_example_restaurantkitchen_impl_deedNames) (List.Mem.tail _ (List.Mem.tail _ (List.Mem.tail _ (List.Mem.head _))))) (show Tryd.prog.globalNamed "loop.example/restaurantkitchen/impl.deedNames" = some 0 by kernel_rfl) (show (Tryd.prog.globals[0]?).map (·.type) = some 48 by kernel_rfl) (show Tryd.prog.underlying 48 = some (.array 6 9) by kernel_rfl) (show Tryd.prog.underlying 9 = some .string by kernel_rfl) (by kernel_rfl) (by kernel_rfl)
  have hB1 := ints_block (k := .i64) (zs := deedNumbers) (Lib.laidMet.reads hTab (n := "loop.example/restaurantkitchen/impl.deedNumbers") (d := Rows.laid_loop_example_restaurantkitchen_impl_deedNumbers) (List.Mem.tail _ (List.Mem.tail _ (List.Mem.tail _ (List.Mem.tail _ (List.Mem.head _)))))) (show Tryd.prog.globalNamed "loop.example/restaurantkitchen/impl.deedNumbers" = some 1 by kernel_rfl) (show (Tryd.prog.globals[1]?).map (·.type) = some 49 by kernel_rfl) (show Tryd.prog.underlying 49 = some (.array 6 3) by kernel_rfl) (show Tryd.prog.underlying 3 = some (.int .i64) by kernel_rfl) (by kernel_rfl) (by kernel_rfl)
  have hD3 : (Rows.laid_internal_strconv_uint64pow10 : DataW Unit) = Lib.tabData .u64 Lib.pow10Tab := by kernel_rfl
  have hB3 := ints_block (k := .u64) (zs := Lib.pow10Tab) (hD3 ▸ Lib.laidMet.reads hTab (n := "internal/strconv.uint64pow10") (d := Rows.laid_internal_strconv_uint64pow10) (List.Mem.tail _ (List.Mem.tail _ (List.Mem.head _)))) (show Tryd.prog.globalNamed "internal/strconv.uint64pow10" = some 3 by kernel_rfl) (show (Tryd.prog.globals[3]?).map (·.type) = some 86 by kernel_rfl) (show Tryd.prog.underlying 86 = some (.array 20 76) by kernel_rfl) (show Tryd.prog.underlying 76 = some (.int .u64) by kernel_rfl) (by kernel_rfl) (by kernel_rfl)
  have H0 : Holds (([] : List Res).flatMap Res.own) W W [] [] := Holds.startN (Rs := []) (G := []) ⟨[], rfl, trivial, List.Pairwise.nil, fun f hf => by cases hf⟩
  have H4 : Holds (([] : List Res).flatMap Res.own) W W [.rb 3 (Lib.pow10Tab.map fun z => Value.int .u64 z)] [] := Holds.addRb H0 hB3 (by simp [Res.own])
  have H3 : Holds (([] : List Res).flatMap Res.own) W W [.ro (.int .i64) (.slice (some ⟨1, 0, none⟩) 6 6) deedNumbers, .rb 3 (Lib.pow10Tab.map fun z => Value.int .u64 z)] [] := Holds.addRo H4 (rep_ints hB1 (by decide) rfl) (by simp [Res.own])
  have H2 : Holds (([] : List Res).flatMap Res.own) W W [.ro .str (.slice (some ⟨0, 0, none⟩) 6 6) deedNames, .ro (.int .i64) (.slice (some ⟨1, 0, none⟩) 6 6) deedNumbers, .rb 3 (Lib.pow10Tab.map fun z => Value.int .u64 z)] [] := Holds.addRo H3 (rep_strs hB0 (by decide) rfl) (by simp [Res.own])
  have H1 : Holds (([] : List Res).flatMap Res.own) W W [.ro (.pair (.int .i64) (.pair (.int .i64) (.pair (.int .i64) (.int .i64)))) (.slice a0 len0 cap0) y0, .ro .str (.slice (some ⟨0, 0, none⟩) 6 6) deedNames, .ro (.int .i64) (.slice (some ⟨1, 0, none⟩) 6 6) deedNumbers, .rb 3 (Lib.pow10Tab.map fun z => Value.int .u64 z)] [] := Holds.addRo H2 hr0 (by simp [Res.own])
  refine (w_laws_FnExactJournalText W [.ro (.pair (.int .i64) (.pair (.int .i64) (.pair (.int .i64) (.int .i64)))) (.slice a0 len0 cap0) y0, .ro .str (.slice (some ⟨0, 0, none⟩) 6 6) deedNames, .ro (.int .i64) (.slice (some ⟨1, 0, none⟩) 6 6) deedNumbers, .rb 3 (Lib.pow10Tab.map fun z => Value.int .u64 z)] ⟨HasRo.c (HasRo.hd), HasRo.c (HasRo.c (HasRo.hd))⟩ (List.Mem.tail _ (List.Mem.tail _ (List.Mem.tail _ (List.Mem.head _)))) _ y0 (HasRo.has (HasRo.hd)) true (pl_FnExactJournalText y0 hL0) H1.ctx).mono fun e W' hK => ?_
  obtain ⟨he, hK2⟩ := hK
  have bel := hK2.bel
  subst he
  exact ⟨_, rfl, _, _, _, [], _, _, hW', trodAll_mk1 (shut_bool Tryd.underlying4 _), (trodAll_cons_mk (Below.trod laidOut (by kernel_rfl) (of_decide_eq_true (by kernel_rfl)) k0 bel lt0) trodAll_mk0), Below.trodVars laidOut bel (by kernel_rfl) hV, bel.frame _, fun h => by cases h⟩
theorem closed : joinedFacts Tryd.pinned.checked.prog 5 Tryd.f5 Rows.fnExactJournalTextSpec Rows.fnExactJournalTextRow = true := by
  unfold joinedFacts
  refine band (band (band (band (band (band (band (band (band (band (band (band (band (band (band (band (band (band (band (band (band (band (band (band (band (band (band (band (band (band (band (?_) ?_) ?_) ?_) ?_) ?_) ?_) ?_) ?_) ?_) ?_) ?_) ?_) ?_) ?_) ?_) ?_) ?_) ?_) ?_) ?_) ?_) ?_) ?_) ?_) ?_) ?_) ?_) ?_) ?_) ?_) ?_
  · as_aux_lemma => kernel_rfl
  · as_aux_lemma => kernel_rfl
  · as_aux_lemma => kernel_rfl
  · as_aux_lemma => kernel_rfl
  · as_aux_lemma => kernel_rfl
  · as_aux_lemma => kernel_rfl
  · as_aux_lemma => kernel_rfl
  · as_aux_lemma => kernel_rfl
  · as_aux_lemma => kernel_rfl
  · as_aux_lemma => kernel_rfl
  · as_aux_lemma => kernel_rfl
  · as_aux_lemma => kernel_rfl
  · as_aux_lemma => kernel_rfl
  · as_aux_lemma => kernel_rfl
  · as_aux_lemma => kernel_rfl
  · as_aux_lemma => kernel_rfl
  · as_aux_lemma => kernel_rfl
  · as_aux_lemma => kernel_rfl
  · as_aux_lemma => kernel_rfl
  · as_aux_lemma => kernel_rfl
  · as_aux_lemma => kernel_rfl
  · as_aux_lemma => kernel_rfl
  · as_aux_lemma => kernel_rfl
  · as_aux_lemma => kernel_rfl
  · as_aux_lemma => kernel_rfl
  · exact may_enter
  · exact lifts_final
  · exact make_eq
  · as_aux_lemma => kernel_rfl
  · as_aux_lemma => kernel_rfl
  · as_aux_lemma => kernel_rfl
  · as_aux_lemma => kernel_rfl
theorem over : Rows.fnExactJournalTextRow.holds Tryd.pinned (OpenSpec.ofChange Rows.fnExactJournalTextSpec) :=
  OpenClaim.holds_of_wide 5 Tryd.f5 rfl rfl rfl rfl rfl rfl rfl ⟨rfl, rfl, rfl, rfl, rfl⟩ rfl rfl rfl rfl rfl (by kernel_rfl) Tryd.func5 closed
    (of_decide_eq_true (by kernel_rfl)) (by unfold Func.isWrapper; first | (rw [if_pos (by decide +kernel)]; kernel_rfl) | (rw [if_neg (by decide +kernel)]; exact ⟨rfl, rfl⟩))
    (fun os started H enc _ => lifted os started H enc)
/-- the statement: the card -/
theorem proved : Rows.FnExactJournalTextCardSaid :=
  Claim7.holds_tied_plain_at .later [] [.data, .data, .data, .data, .data] true (true, "2a0e3e1d4f0efbb9aa67bf57de2686ceb3ebb0c26f51a711db2beee3aa3ed7c2") false
    over (fun _ h => by cases h) (by kernel_rfl) (fun _ h => by cases h) fnExactJournalText_row_tie rfl ⟨rfl, rfl⟩ main_eq rfl
    (fun f fn hf hfn => by
      obtain rfl : f = 5 := Option.some.inj ((show Tryd.prog.funcNamed "loop.example/restaurantkitchen/laws.FnExactJournalText" = some 5 by kernel_rfl).symm.trans hf) |>.symm
      obtain rfl : fn = Tryd.f5 := (Option.some.inj (Tryd.func5.symm.trans hfn)).symm
      exact ⟨by kernel_rfl, fun j t ht => by
        rw [Tryd.params5] at ht
        have h3 : t = 32 := by
          rcases j with _ | j
          · simpa using ht.symm
          · simp at ht
        subst h3
        exact (show Tryd.prog.wantsStandIn 32 = false by kernel_rfl)⟩)
    (by kernel_rfl)
end Go.Proofs.YtcjkbcdlpfgbgaaDoor.fnExactJournalText

