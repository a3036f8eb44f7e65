/- FnReadJournal: whatever the argument, the Go function laws.FnReadJournal returns true and leaves its argument and the package's tables as they were; the listed tables hold what the program text lays into them (the card ties that). No other condition. -/
import Derived.Test.YtkhnponakhabdaaGreatDoorRows
import Derived.Test.YtkhnponakhabdaaGreatDoorCards
import Derived.Test.YtkhnponakhabdaaGreatDoorTie
import Derived.Test.YtkhnponakhabdaaGreatDoorWX7Db
import Derived.Test.YtkhnponakhabdaaGreatDoorJLaw
import Derived.Test.YtkhnponakhabdaaGreatDoorLaid
import Derived.Test.YtkhnponakhabdaaGreatDoorHead
import Derived.WalkKit
import Derived.ProofKit
import Derived.OpenShut
import Derived.ShutString
import Derived.ChangeOld
import Derived.Below
import Derived.Carry
import Derived.LaidMore
import Derived.Lay
import Derived.Stop.Joined
import Derived.SevenTiedAt
import Derived.MakeChecks
namespace Go.Proofs.YtkhnponakhabdaaGreatDoor.fnReadJournal
open Go.ChangeShapes Go.WideShapes Go.ChangeAt Go.RowKit
open Go.ChangeMaps (open_string shut_string)
set_option linter.unusedVariables false
theorem own : ownKnob Tryz.prog.godebug = none := by kernel_rfl
theorem laidOut : laidOutB Tryz.prog = true := by kernel_rfl
theorem door_met (os : Os) (args : Array Value) : laidMetH Tryz.prog Rows.fnReadJournalRow.laid ((World.laidAll Tryz.prog os Rows.fnReadJournalRow.laid).forCall (fun _ _ => 0) ⟨#[], args, []⟩).memory :=
  by rw [MakeChecks.laidMetH_plain _ _ _ (by kernel_rfl)]; exact laidMet_laidAll _ (by kernel_rfl) (by kernel_rfl)
set_option maxRecDepth 100000 in
theorem lifted (os : Os) (started : os.Started) (H : Type) (enc : TypeId × Value → H) :
    ReturnsInHanded {} Tryz.checked os 5 .any (fun w args => (Rows.fnReadJournalSpec.pre enc Tryz.prog Tryz.f5 [] false w args ∧ laidMetH Tryz.prog Rows.fnReadJournalRow.laid w) ∧ sizedMet enc Tryz.prog Tryz.f5 (OpenSpec.ofChange Rows.fnReadJournalSpec) false w args)
      (Rows.fnReadJournalSpec.post enc Tryz.prog Tryz.f5 false true false false) := by
  refine handed (C := Tryz.checked) (X := fun w _ => laidMetH Tryz.prog Rows.fnReadJournalRow.laid w) (fun _ _ _ hh h => h.of_heap hh) own started (by kernel_rfl) Tryz.func5
    (ChangeSpec.witness_shaped (enc := enc) (C := Tryz.checked) (os := os) (X := fun w _ => laidMetH Tryz.prog Rows.fnReadJournalRow.laid w) false (World.laidAll Tryz.prog os Rows.fnReadJournalRow.laid) #[.slice none 0 0, .slice none 0 0] 8 (World.laidAll_os _ _ _) (World.shaped_of_ZipB (by kernel_rfl) (by kernel_rfl)) (by kernel_rfl) (by kernel_rfl) (by kernel_rfl) (door_met os _)) ?_
  intro W base args ds gs before hval0 hW hLaid hShape
  have hval : ∀ (j : Nat) t v, Tryz.f5.params[j]? = some t → args[j]? = some v → Value.okWide Tryz.prog W .any base t v := hval0
  have hW' := hW
  obtain ⟨p, q, hA0, hV, rfl, hfz, hnd⟩ := hW
  have hA : DataW.TrodAll enc Tryz.prog W 0 (fun _ => true) true Tryz.f5.params.toList args.toList ds p := hA0
  rw [Tryz.params5] at hA hval
  have hTab : laidMet Tryz.prog Rows.fnReadJournalRow.laid W := by
    have := hLaid
    rwa [MakeChecks.laidMetH_plain _ _ _ (by kernel_rfl)] at this
  obtain ⟨v0, vs0, d0, ds0, p0, q0, hargs, rfl, rfl, h0, r0⟩ := trodAll_cons hA
  obtain ⟨v1, vs1, d1, ds1, p1, q1, rfl, rfl, rfl, h1, r1⟩ := trodAll_cons r0
  obtain ⟨rfl, rfl, rfl⟩ := trodAll_nil r1
  obtain rfl : args = #[v0, v1] := by cases args; simp_all
  obtain ⟨g1, g2, rfl⟩ := vars2 hV
  have k0 := h0
  have lt0 : ∀ x ∈ p0, x.block < W.heap.size := by obtain ⟨m, hm⟩ := k0; exact DataW.trod_lt m _ _ _ hm
  obtain ⟨fuel0, hf0⟩ := h0
  obtain ⟨a0, len0, cap0, rfl⟩ := okWide_slice Tryz.underlying22 (hval 0 22 v0 rfl rfl)
  obtain ⟨y0, F0, hr0, hL0⟩ := (Opn.slice Tryz.underlying22 (by kernel_rfl) (Opn.int Tryz.underlying5)) _ _ _ hf0
  have k1 := h1
  have lt1 : ∀ x ∈ p1, x.block < W.heap.size := by obtain ⟨m, hm⟩ := k1; exact DataW.trod_lt m _ _ _ hm
  obtain ⟨fuel1, hf1⟩ := h1
  obtain ⟨a1, len1, cap1, rfl⟩ := okWide_slice Tryz.underlying22 (hval 1 22 v1 rfl rfl)
  obtain ⟨y1, F1, hr1, hL1⟩ := (Opn.slice Tryz.underlying22 (by kernel_rfl) (Opn.int Tryz.underlying5)) _ _ _ hf1
  clear hA0 hval0
  have hB0 := strs_block (zs := deedNames) (Lib.laidMet.reads hTab (n := "loop.example/restaurantkitchen/impl.deedNames") (d := Rows.laid_loop_example_restaurantkitchen_impl_deedNames) (List.Mem.tail _ (List.Mem.tail _ (List.Mem.tail _ (List.Mem.tail _ (List.Mem.head _)))))) (show Tryz.prog.globalNamed "loop.example/restaurantkitchen/impl.deedNames" = some 0 by kernel_rfl) (show (Tryz.prog.globals[0]?).map (·.type) = some 101 by kernel_rfl) (show Tryz.prog.underlying 101 = some (.array 6 9) by kernel_rfl) (show Tryz.prog.underlying 9 = some .string by kernel_rfl) (by kernel_rfl) (by kernel_rfl)
  have hB1 := ints_block (k := .i64) (zs := deedNumbers) (Lib.laidMet.reads hTab (n := "loop.example/restaurantkitchen/impl.deedNumbers") (d := Rows.laid_loop_example_restaurantkitchen_impl_deedNumbers) (List.Mem.tail _ (List.Mem.tail _ (List.Mem.tail _ (List.Mem.tail _ (List.Mem.tail _ (List.Mem.head _))))))) (show Tryz.prog.globalNamed "loop.example/restaurantkitchen/impl.deedNumbers" = some 1 by kernel_rfl) (show (Tryz.prog.globals[1]?).map (·.type) = some 102 by kernel_rfl) (show Tryz.prog.underlying 102 = some (.array 6 3) by kernel_rfl) (show Tryz.prog.underlying 3 = some (.int .i64) by kernel_rfl) (by kernel_rfl) (by kernel_rfl)
  have hD3 : (Rows.laid_internal_strconv_uint64pow10 : DataW Unit) = Lib.tabData .u64 Lib.pow10Tab := by kernel_rfl
  have hB3 := ints_block (k := .u64) (zs := Lib.pow10Tab) (hD3 ▸ Lib.laidMet.reads hTab (n := "internal/strconv.uint64pow10") (d := Rows.laid_internal_strconv_uint64pow10) (List.Mem.tail _ (List.Mem.tail _ (List.Mem.head _)))) (show Tryz.prog.globalNamed "internal/strconv.uint64pow10" = some 3 by kernel_rfl) (show (Tryz.prog.globals[3]?).map (·.type) = some 185 by kernel_rfl) (show Tryz.prog.underlying 185 = some (.array 20 173) by kernel_rfl) (show Tryz.prog.underlying 173 = some (.int .u64) by kernel_rfl) (by kernel_rfl) (by kernel_rfl)
  obtain ⟨m2, hB2⟩ := int_block hShape (g := 2) (t := 3) (k := .i64) (by kernel_rfl) (by kernel_rfl) (by kernel_rfl) (by kernel_rfl) (by kernel_rfl)
  have H0 : Holds (([] : List Res).flatMap Res.own) W W [] [] := Holds.startN (Rs := []) (G := []) ⟨[], rfl, trivial, List.Pairwise.nil, fun f hf => by cases hf⟩
  have H6 : Holds (([] : List Res).flatMap Res.own) W W [.rb 2 [.int .i64 m2]] [] := Holds.addRb H0 hB2 (by simp [Res.own])
  have H5 : Holds (([] : List Res).flatMap Res.own) W W [.rb 3 (Lib.pow10Tab.map fun z => Value.int .u64 z), .rb 2 [.int .i64 m2]] [] := Holds.addRb H6 hB3 (by simp [Res.own])
  have H4 : Holds (([] : List Res).flatMap Res.own) W W [.ro (.int .i64) (.slice (some ⟨1, 0, none⟩) 6 6) deedNumbers, .rb 3 (Lib.pow10Tab.map fun z => Value.int .u64 z), .rb 2 [.int .i64 m2]] [] := Holds.addRo H5 (rep_ints hB1 (by decide) rfl) (by simp [Res.own])
  have H3 : Holds (([] : List Res).flatMap Res.own) W W [.ro .str (.slice (some ⟨0, 0, none⟩) 6 6) deedNames, .ro (.int .i64) (.slice (some ⟨1, 0, none⟩) 6 6) deedNumbers, .rb 3 (Lib.pow10Tab.map fun z => Value.int .u64 z), .rb 2 [.int .i64 m2]] [] := Holds.addRo H4 (rep_strs hB0 (by decide) rfl) (by simp [Res.own])
  have H2 : Holds (([] : List Res).flatMap Res.own) W W [.ro (.int .u8) (.slice a1 len1 cap1) y1, .ro .str (.slice (some ⟨0, 0, none⟩) 6 6) deedNames, .ro (.int .i64) (.slice (some ⟨1, 0, none⟩) 6 6) deedNumbers, .rb 3 (Lib.pow10Tab.map fun z => Value.int .u64 z), .rb 2 [.int .i64 m2]] [] := Holds.addRo H3 hr1 (by simp [Res.own])
  have H1 : Holds (([] : List Res).flatMap Res.own) W W [.ro (.int .u8) (.slice a0 len0 cap0) y0, .ro (.int .u8) (.slice a1 len1 cap1) y1, .ro .str (.slice (some ⟨0, 0, none⟩) 6 6) deedNames, .ro (.int .i64) (.slice (some ⟨1, 0, none⟩) 6 6) deedNumbers, .rb 3 (Lib.pow10Tab.map fun z => Value.int .u64 z), .rb 2 [.int .i64 m2]] [] := Holds.addRo H2 hr0 (by simp [Res.own])
  refine (w_laws_FnReadJournal W [.ro (.int .u8) (.slice a0 len0 cap0) y0, .ro (.int .u8) (.slice a1 len1 cap1) y1, .ro .str (.slice (some ⟨0, 0, none⟩) 6 6) deedNames, .ro (.int .i64) (.slice (some ⟨1, 0, none⟩) 6 6) deedNumbers, .rb 3 (Lib.pow10Tab.map fun z => Value.int .u64 z), .rb 2 [.int .i64 m2]] ⟨HasRo.c (HasRo.c (HasRo.hd)), HasRo.c (HasRo.c (HasRo.c (HasRo.hd)))⟩ ⟨m2, List.Mem.tail _ (List.Mem.tail _ (List.Mem.tail _ (List.Mem.tail _ (List.Mem.tail _ (List.Mem.head _)))))⟩ (List.Mem.tail _ (List.Mem.tail _ (List.Mem.tail _ (List.Mem.tail _ (List.Mem.head _))))) _ y0 (HasRo.hd) _ y1 (HasRo.c (HasRo.hd)) true (pl_FnReadJournal y0 (fun n hn => inK_of_wf (hL0.2 n hn)) y1 (fun n hn => inK_of_wf (hL1.2 n hn))) H1.ctx).mono fun e W' hK => ?_
  obtain ⟨he, hK2⟩ := hK
  have bel := hK2.bel
  subst he
  exact ⟨_, rfl, _, _, _, [], _, _, hW', trodAll_mk1 (shut_bool Tryz.underlying4 _), (trodAll_cons_mk (Below.trod laidOut (by kernel_rfl) (of_decide_eq_true (by kernel_rfl)) k0 bel lt0) (trodAll_cons_mk (Below.trod laidOut (by kernel_rfl) (of_decide_eq_true (by kernel_rfl)) k1 bel lt1) trodAll_mk0)), Below.trodVars laidOut bel (by kernel_rfl) hV, bel.frame _, fun h => by cases h⟩
set_option maxHeartbeats 2000000 in
theorem closed : joinedFacts Tryz.pinned.checked.prog 5 Tryz.f5 Rows.fnReadJournalSpec Rows.fnReadJournalRow = true := by
  unfold joinedFacts
  refine band (band (band (band (band (band (band (band (band (band (band (band (band (band (band (band (band (band (band (band (band (band (band (band (band (band (band (band (band (band (band (?_) ?_) ?_) ?_) ?_) ?_) ?_) ?_) ?_) ?_) ?_) ?_) ?_) ?_) ?_) ?_) ?_) ?_) ?_) ?_) ?_) ?_) ?_) ?_) ?_) ?_) ?_) ?_) ?_) ?_) ?_) ?_
  · as_aux_lemma => kernel_rfl
  · as_aux_lemma => kernel_rfl
  · as_aux_lemma => kernel_rfl
  · as_aux_lemma => kernel_rfl
  · as_aux_lemma => kernel_rfl
  · as_aux_lemma => kernel_rfl
  · as_aux_lemma => kernel_rfl
  · as_aux_lemma => kernel_rfl
  · as_aux_lemma => kernel_rfl
  · as_aux_lemma => kernel_rfl
  · as_aux_lemma => kernel_rfl
  · as_aux_lemma => kernel_rfl
  · as_aux_lemma => kernel_rfl
  · as_aux_lemma => kernel_rfl
  · as_aux_lemma => kernel_rfl
  · as_aux_lemma => kernel_rfl
  · as_aux_lemma => kernel_rfl
  · as_aux_lemma => kernel_rfl
  · as_aux_lemma => kernel_rfl
  · as_aux_lemma => kernel_rfl
  · as_aux_lemma => kernel_rfl
  · as_aux_lemma => kernel_rfl
  · as_aux_lemma => kernel_rfl
  · as_aux_lemma => kernel_rfl
  · as_aux_lemma => kernel_rfl
  · exact may_enter
  · exact lifts_final
  · exact make_eq
  · as_aux_lemma => kernel_rfl
  · as_aux_lemma => kernel_rfl
  · as_aux_lemma => kernel_rfl
  · as_aux_lemma => kernel_rfl
theorem over : Rows.fnReadJournalRow.holds Tryz.pinned (OpenSpec.ofChange Rows.fnReadJournalSpec) :=
  OpenClaim.holds_of_wide 5 Tryz.f5 rfl rfl rfl rfl rfl rfl rfl ⟨rfl, rfl, rfl, rfl, rfl⟩ rfl rfl rfl rfl rfl (by kernel_rfl) Tryz.func5 closed
    (of_decide_eq_true (by kernel_rfl)) (by unfold Func.isWrapper; first | (rw [if_pos (by decide +kernel)]; kernel_rfl) | (rw [if_neg (by decide +kernel)]; exact ⟨rfl, rfl⟩))
    (fun os started H enc _ => lifted os started H enc)
/-- the statement: the card -/
theorem proved : Rows.FnReadJournalCardSaid :=
  Claim7.holds_tied_plain_at .later [] [.data, .data, .data, .data, .data, .data, .pinned] true (true, "020a1d0c07c2c98662195de753adcb3ca858f0fec1996a32c3e41ecb282244ed") false
    over (fun _ h => by cases h) (by kernel_rfl) (fun _ h => by cases h) fnReadJournal_row_tie rfl ⟨rfl, rfl⟩ main_eq rfl
    (fun f fn hf hfn => by
      obtain rfl : f = 5 := Option.some.inj ((show Tryz.prog.funcNamed "loop.example/restaurantkitchen/laws.FnReadJournal" = some 5 by kernel_rfl).symm.trans hf) |>.symm
      obtain rfl : fn = Tryz.f5 := (Option.some.inj (Tryz.func5.symm.trans hfn)).symm
      exact ⟨by kernel_rfl, fun j t ht => by
        rw [Tryz.params5] at ht
        rcases j with _ | _ | j
        · obtain rfl : 22 = t := by simpa using ht
          exact (show Tryz.prog.wantsStandIn 22 = false by kernel_rfl)
        · obtain rfl : 22 = t := by simpa using ht
          exact (show Tryz.prog.wantsStandIn 22 = false by kernel_rfl)
        · simp at ht⟩)
    (by kernel_rfl)
end Go.Proofs.YtkhnponakhabdaaGreatDoor.fnReadJournal

