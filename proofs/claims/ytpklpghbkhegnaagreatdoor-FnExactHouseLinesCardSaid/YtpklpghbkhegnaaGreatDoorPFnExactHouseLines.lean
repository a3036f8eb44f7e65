/- FnExactHouseLines: whatever the argument, the Go function laws.FnExactHouseLines returns true and leaves its argument and the package's tables as they were; the listed tables hold what the program text lays into them (the card ties that). No other condition. -/
import Derived.Test.YtpklpghbkhegnaaGreatDoorRows
import Derived.Test.YtpklpghbkhegnaaGreatDoorCards
import Derived.Test.YtpklpghbkhegnaaGreatDoorTie
import Derived.Test.YtpklpghbkhegnaaGreatDoorWX7M9
import Derived.Test.YtpklpghbkhegnaaGreatDoorMLl
import Derived.Test.YtpklpghbkhegnaaGreatDoorLaid
import Derived.Test.YtpklpghbkhegnaaGreatDoorHead
import Derived.WalkKit
import Derived.ProofKit
import Derived.OpenShut
import Derived.ShutString
import Derived.ChangeOld
import Derived.Below
import Derived.Carry
import Derived.LaidMore
import Derived.Lay
import Derived.Stop.Joined
import Derived.SevenTiedAt
import Derived.MakeChecks
namespace Go.Proofs.YtpklpghbkhegnaaGreatDoor.fnExactHouseLines
open Go.ChangeShapes Go.WideShapes Go.ChangeAt Go.RowKit
open Go.ChangeMaps (open_string shut_string)
set_option linter.unusedVariables false
theorem own : ownKnob Tryz.prog.godebug = none := by kernel_rfl
theorem laidOut : laidOutB Tryz.prog = true := by kernel_rfl
theorem door_met (os : Os) (args : Array Value) : laidMetH Tryz.prog Rows.fnExactHouseLinesRow.laid ((World.laidAll Tryz.prog os Rows.fnExactHouseLinesRow.laid).forCall (fun _ _ => 0) ⟨#[], args, []⟩).memory :=
  by rw [MakeChecks.laidMetH_plain _ _ _ (by kernel_rfl)]; exact laidMet_laidAll _ (by kernel_rfl) (by kernel_rfl)
set_option maxRecDepth 100000 in
theorem lifted (os : Os) (started : os.Started) (H : Type) (enc : TypeId × Value → H) :
    ReturnsInHanded {} Tryz.checked os 4 .any (fun w args => (Rows.fnExactHouseLinesSpec.pre enc Tryz.prog Tryz.f4 [] false w args ∧ laidMetH Tryz.prog Rows.fnExactHouseLinesRow.laid w) ∧ sizedMet enc Tryz.prog Tryz.f4 (OpenSpec.ofChange Rows.fnExactHouseLinesSpec) false w args)
      (Rows.fnExactHouseLinesSpec.post enc Tryz.prog Tryz.f4 false true false false) := by
  refine handed (C := Tryz.checked) (X := fun w _ => laidMetH Tryz.prog Rows.fnExactHouseLinesRow.laid w) (fun _ _ _ hh h => h.of_heap hh) own started (by kernel_rfl) Tryz.func4
    (ChangeSpec.witness_shaped (enc := enc) (C := Tryz.checked) (os := os) (X := fun w _ => laidMetH Tryz.prog Rows.fnExactHouseLinesRow.laid w) false (World.laidAll Tryz.prog os Rows.fnExactHouseLinesRow.laid) #[.agg #[.slice none 0 0, .slice none 0 0, .slice none 0 0, .int .i64 0, .slice none 0 0], .slice none 0 0] 8 (World.laidAll_os _ _ _) (World.shaped_of_ZipB (by kernel_rfl) (by kernel_rfl)) (by kernel_rfl) (by kernel_rfl) (by kernel_rfl) (door_met os _)) ?_
  intro W base args ds gs before hval0 hW hLaid hShape
  have hval : ∀ (j : Nat) t v, Tryz.f4.params[j]? = some t → args[j]? = some v → Value.okWide Tryz.prog W .any base t v := hval0
  have hW' := hW
  obtain ⟨p, q, hA0, hV, rfl, hfz, hnd⟩ := hW
  have hA : DataW.TrodAll enc Tryz.prog W 0 (fun _ => true) true Tryz.f4.params.toList args.toList ds p := hA0
  rw [Tryz.params4] at hA hval
  have hTab : laidMet Tryz.prog Rows.fnExactHouseLinesRow.laid W := by
    have := hLaid
    rwa [MakeChecks.laidMetH_plain _ _ _ (by kernel_rfl)] at this
  obtain ⟨v0, vs0, d0, ds0, p0, q0, hargs, rfl, rfl, h0, r0⟩ := trodAll_cons hA
  obtain ⟨v1, vs1, d1, ds1, p1, q1, rfl, rfl, rfl, h1, r1⟩ := trodAll_cons r0
  obtain ⟨rfl, rfl, rfl⟩ := trodAll_nil r1
  obtain rfl : args = #[v0, v1] := by cases args; simp_all
  obtain ⟨g1, g2, rfl⟩ := vars2 hV
  have k0 := h0
  have lt0 : ∀ x ∈ p0, x.block < W.heap.size := by obtain ⟨m, hm⟩ := k0; exact DataW.trod_lt m _ _ _ hm
  obtain ⟨fuel0, hf0⟩ := h0
  obtain ⟨cs0, rfl, hsz0⟩ := okWide_struct Tryz.underlying26 (hval 0 26 v0 rfl rfl)
  obtain ⟨⟨y0_0, y0_1, y0_2, y0_3, y0_4⟩, F0, hr0, hL0⟩ := (Opn.struct Tryz.underlying26 (by kernel_rfl) (OpnF.cons rfl rfl (by kernel_rfl) (Opn.slice Tryz.underlying22 (by kernel_rfl) (Opn.struct Tryz.underlying80 (by kernel_rfl) (OpnF.cons rfl rfl (by kernel_rfl) (Opn.int Tryz.underlying3) (OpnF.cons rfl rfl (by kernel_rfl) (Opn.slice Tryz.underlying78 (by kernel_rfl) (Opn.struct Tryz.underlying160 (by kernel_rfl) (OpnF.cons rfl rfl (by kernel_rfl) (Opn.int Tryz.underlying3) (OpnF.last rfl rfl (by kernel_rfl) (Opn.int Tryz.underlying3))))) (OpnF.last rfl rfl (by kernel_rfl) (Opn.int Tryz.underlying3)))))) (OpnF.cons rfl rfl (by kernel_rfl) (Opn.slice Tryz.underlying23 (by kernel_rfl) (Opn.int Tryz.underlying3)) (OpnF.cons rfl rfl (by kernel_rfl) (Opn.slice Tryz.underlying23 (by kernel_rfl) (Opn.int Tryz.underlying3)) (OpnF.cons rfl rfl (by kernel_rfl) (Opn.int Tryz.underlying3) (OpnF.last rfl rfl (by kernel_rfl) (Opn.slice Tryz.underlying24 (by kernel_rfl) (Opn.struct Tryz.underlying84 (by kernel_rfl) (OpnF.cons rfl rfl (by kernel_rfl) (Opn.int Tryz.underlying3) (OpnF.cons rfl rfl (by kernel_rfl) (Opn.slice Tryz.underlying82 (by kernel_rfl) (Opn.struct Tryz.underlying162 (by kernel_rfl) (OpnF.cons rfl rfl (by kernel_rfl) (Opn.int Tryz.underlying3) (OpnF.last rfl rfl (by kernel_rfl) (Opn.int Tryz.underlying3))))) (OpnF.last rfl rfl (by kernel_rfl) (Opn.slice Tryz.underlying23 (by kernel_rfl) (Opn.int Tryz.underlying3))))))))))))) _ _ _ hf0
  obtain ⟨c0_0, e0_0, F0_0, E0_0, ec0_0, ef0_0, r0_0, s0_0⟩ := hr0
  obtain ⟨v0_0, ev0_0, u0_0⟩ := Rep.cell1 r0_0
  obtain ⟨c0_1, e0_1, F0_1, E0_1, ec0_1, ef0_1, r0_1, s0_1⟩ := s0_0
  obtain ⟨v0_1, ev0_1, u0_1⟩ := Rep.cell1 r0_1
  obtain ⟨c0_2, e0_2, F0_2, E0_2, ec0_2, ef0_2, r0_2, s0_2⟩ := s0_1
  obtain ⟨v0_2, ev0_2, u0_2⟩ := Rep.cell1 r0_2
  obtain ⟨c0_3, e0_3, F0_3, E0_3, ec0_3, ef0_3, r0_3, s0_3⟩ := s0_2
  obtain ⟨ev0_3, _⟩ := r0_3
  obtain ⟨v0_4, ev0_4, u0_4⟩ := Rep.cell1 s0_3
  have ecs0 : cs0 = #[v0_0, v0_1, v0_2, .int .i64 y0_3, v0_4] := by
    refine arr_of ?_
    have ec : (Value.agg cs0).cells.toList = _ := ec0_0
    simp only [ev0_0, ev0_1, ev0_2, ev0_3, ev0_4, ec0_1, ec0_2, ec0_3, List.cons_append, List.nil_append] at ec
    exact ec
  subst ecs0
  have k1 := h1
  have lt1 : ∀ x ∈ p1, x.block < W.heap.size := by obtain ⟨m, hm⟩ := k1; exact DataW.trod_lt m _ _ _ hm
  obtain ⟨fuel1, hf1⟩ := h1
  obtain ⟨a1, len1, cap1, rfl⟩ := okWide_slice Tryz.underlying38 (hval 1 38 v1 rfl rfl)
  obtain ⟨y1, F1, hr1, hL1⟩ := (Opn.slice Tryz.underlying38 (by kernel_rfl) (Opn.str Tryz.underlying9)) _ _ _ hf1
  clear hA0 hval0
  have hB0 := strs_block (zs := deedNames) (Lib.laidMet.reads hTab (n := "loop.example/restaurantkitchen/impl.deedNames") (d := Rows.laid_loop_example_restaurantkitchen_impl_deedNames) (List.Mem.tail _ (List.Mem.tail _ (List.Mem.tail _ (List.Mem.tail _ (List.Mem.head _)))))) (show Tryz.prog.globalNamed "loop.example/restaurantkitchen/impl.deedNames" = some 0 by kernel_rfl) (show (Tryz.prog.globals[0]?).map (·.type) = some 111 by kernel_rfl) (show Tryz.prog.underlying 111 = some (.array 6 9) by kernel_rfl) (show Tryz.prog.underlying 9 = some .string by kernel_rfl) (by kernel_rfl) (by kernel_rfl)
  have hB1 := ints_block (k := .i64) (zs := deedNumbers) (Lib.laidMet.reads hTab (n := "loop.example/restaurantkitchen/impl.deedNumbers") (d := Rows.laid_loop_example_restaurantkitchen_impl_deedNumbers) (List.Mem.tail _ (List.Mem.tail _ (List.Mem.tail _ (List.Mem.tail _ (List.Mem.tail _ (List.Mem.head _))))))) (show Tryz.prog.globalNamed "loop.example/restaurantkitchen/impl.deedNumbers" = some 1 by kernel_rfl) (show (Tryz.prog.globals[1]?).map (·.type) = some 112 by kernel_rfl) (show Tryz.prog.underlying 112 = some (.array 6 3) by kernel_rfl) (show Tryz.prog.underlying 3 = some (.int .i64) by kernel_rfl) (by kernel_rfl) (by kernel_rfl)
  have hD3 : (Rows.laid_internal_strconv_uint64pow10 : DataW Unit) = Lib.tabData .u64 Lib.pow10Tab := by kernel_rfl
  have hB3 := ints_block (k := .u64) (zs := Lib.pow10Tab) (hD3 ▸ Lib.laidMet.reads hTab (n := "internal/strconv.uint64pow10") (d := Rows.laid_internal_strconv_uint64pow10) (List.Mem.tail _ (List.Mem.tail _ (List.Mem.head _)))) (show Tryz.prog.globalNamed "internal/strconv.uint64pow10" = some 3 by kernel_rfl) (show (Tryz.prog.globals[3]?).map (·.type) = some 196 by kernel_rfl) (show Tryz.prog.underlying 196 = some (.array 20 186) by kernel_rfl) (show Tryz.prog.underlying 186 = some (.int .u64) by kernel_rfl) (by kernel_rfl) (by kernel_rfl)
  obtain ⟨m2, hB2⟩ := int_block hShape (g := 2) (t := 3) (k := .i64) (by kernel_rfl) (by kernel_rfl) (by kernel_rfl) (by kernel_rfl) (by kernel_rfl)
  have H0 : Holds (([] : List Res).flatMap Res.own) W W [] [] := Holds.startN (Rs := []) (G := []) ⟨[], rfl, trivial, List.Pairwise.nil, fun f hf => by cases hf⟩
  have H9 : Holds (([] : List Res).flatMap Res.own) W W [.rb 2 [.int .i64 m2]] [] := Holds.addRb H0 hB2 (by simp [Res.own])
  have H8 : Holds (([] : List Res).flatMap Res.own) W W [.rb 3 (Lib.pow10Tab.map fun z => Value.int .u64 z), .rb 2 [.int .i64 m2]] [] := Holds.addRb H9 hB3 (by simp [Res.own])
  have H7 : Holds (([] : List Res).flatMap Res.own) W W [.ro (.int .i64) (.slice (some ⟨1, 0, none⟩) 6 6) deedNumbers, .rb 3 (Lib.pow10Tab.map fun z => Value.int .u64 z), .rb 2 [.int .i64 m2]] [] := Holds.addRo H8 (rep_ints hB1 (by decide) rfl) (by simp [Res.own])
  have H6 : Holds (([] : List Res).flatMap Res.own) W W [.ro .str (.slice (some ⟨0, 0, none⟩) 6 6) deedNames, .ro (.int .i64) (.slice (some ⟨1, 0, none⟩) 6 6) deedNumbers, .rb 3 (Lib.pow10Tab.map fun z => Value.int .u64 z), .rb 2 [.int .i64 m2]] [] := Holds.addRo H7 (rep_strs hB0 (by decide) rfl) (by simp [Res.own])
  have H5 : Holds (([] : List Res).flatMap Res.own) W W [.ro .str (.slice a1 len1 cap1) y1, .ro .str (.slice (some ⟨0, 0, none⟩) 6 6) deedNames, .ro (.int .i64) (.slice (some ⟨1, 0, none⟩) 6 6) deedNumbers, .rb 3 (Lib.pow10Tab.map fun z => Value.int .u64 z), .rb 2 [.int .i64 m2]] [] := Holds.addRo H6 hr1 (by simp [Res.own])
  have H4 : Holds (([] : List Res).flatMap Res.own) W W [.ro (.pair (.int .i64) (.pair (.slice (.pair (.int .i64) (.int .i64))) (.slice (.int .i64)))) v0_4 y0_4, .ro .str (.slice a1 len1 cap1) y1, .ro .str (.slice (some ⟨0, 0, none⟩) 6 6) deedNames, .ro (.int .i64) (.slice (some ⟨1, 0, none⟩) 6 6) deedNumbers, .rb 3 (Lib.pow10Tab.map fun z => Value.int .u64 z), .rb 2 [.int .i64 m2]] [] := Holds.addRo H5 u0_4 (by simp [Res.own])
  have H3 : Holds (([] : List Res).flatMap Res.own) W W [.ro (.int .i64) v0_2 y0_2, .ro (.pair (.int .i64) (.pair (.slice (.pair (.int .i64) (.int .i64))) (.slice (.int .i64)))) v0_4 y0_4, .ro .str (.slice a1 len1 cap1) y1, .ro .str (.slice (some ⟨0, 0, none⟩) 6 6) deedNames, .ro (.int .i64) (.slice (some ⟨1, 0, none⟩) 6 6) deedNumbers, .rb 3 (Lib.pow10Tab.map fun z => Value.int .u64 z), .rb 2 [.int .i64 m2]] [] := Holds.addRo H4 u0_2 (by simp [Res.own])
  have H2 : Holds (([] : List Res).flatMap Res.own) W W [.ro (.int .i64) v0_1 y0_1, .ro (.int .i64) v0_2 y0_2, .ro (.pair (.int .i64) (.pair (.slice (.pair (.int .i64) (.int .i64))) (.slice (.int .i64)))) v0_4 y0_4, .ro .str (.slice a1 len1 cap1) y1, .ro .str (.slice (some ⟨0, 0, none⟩) 6 6) deedNames, .ro (.int .i64) (.slice (some ⟨1, 0, none⟩) 6 6) deedNumbers, .rb 3 (Lib.pow10Tab.map fun z => Value.int .u64 z), .rb 2 [.int .i64 m2]] [] := Holds.addRo H3 u0_1 (by simp [Res.own])
  have H1 : Holds (([] : List Res).flatMap Res.own) W W [.ro (.pair (.int .i64) (.pair (.slice (.pair (.int .i64) (.int .i64))) (.int .i64))) v0_0 y0_0, .ro (.int .i64) v0_1 y0_1, .ro (.int .i64) v0_2 y0_2, .ro (.pair (.int .i64) (.pair (.slice (.pair (.int .i64) (.int .i64))) (.slice (.int .i64)))) v0_4 y0_4, .ro .str (.slice a1 len1 cap1) y1, .ro .str (.slice (some ⟨0, 0, none⟩) 6 6) deedNames, .ro (.int .i64) (.slice (some ⟨1, 0, none⟩) 6 6) deedNumbers, .rb 3 (Lib.pow10Tab.map fun z => Value.int .u64 z), .rb 2 [.int .i64 m2]] [] := Holds.addRo H2 u0_0 (by simp [Res.own])
  refine (w_laws_FnExactHouseLines W [.ro (.pair (.int .i64) (.pair (.slice (.pair (.int .i64) (.int .i64))) (.int .i64))) v0_0 y0_0, .ro (.int .i64) v0_1 y0_1, .ro (.int .i64) v0_2 y0_2, .ro (.pair (.int .i64) (.pair (.slice (.pair (.int .i64) (.int .i64))) (.slice (.int .i64)))) v0_4 y0_4, .ro .str (.slice a1 len1 cap1) y1, .ro .str (.slice (some ⟨0, 0, none⟩) 6 6) deedNames, .ro (.int .i64) (.slice (some ⟨1, 0, none⟩) 6 6) deedNumbers, .rb 3 (Lib.pow10Tab.map fun z => Value.int .u64 z), .rb 2 [.int .i64 m2]] ⟨HasRo.c (HasRo.c (HasRo.c (HasRo.c (HasRo.c (HasRo.hd))))), HasRo.c (HasRo.c (HasRo.c (HasRo.c (HasRo.c (HasRo.c (HasRo.hd))))))⟩ ⟨m2, List.Mem.tail _ (List.Mem.tail _ (List.Mem.tail _ (List.Mem.tail _ (List.Mem.tail _ (List.Mem.tail _ (List.Mem.tail _ (List.Mem.tail _ (List.Mem.head _))))))))⟩ (List.Mem.tail _ (List.Mem.tail _ (List.Mem.tail _ (List.Mem.tail _ (List.Mem.tail _ (List.Mem.tail _ (List.Mem.tail _ (List.Mem.head _)))))))) v0_0 y0_0 (HasRo.has (HasRo.hd)) v0_1 y0_1 (HasRo.has (HasRo.c (HasRo.hd))) v0_2 y0_2 (HasRo.has (HasRo.c (HasRo.c (HasRo.hd)))) y0_3 v0_4 y0_4 (HasRo.has (HasRo.c (HasRo.c (HasRo.c (HasRo.hd))))) _ y1 (HasRo.has (HasRo.c (HasRo.c (HasRo.c (HasRo.c (HasRo.hd)))))) true (pl_FnExactHouseLines y0_0 y0_1 y0_2 y0_3 y0_4 (rhouse_of hL0.1 (fun x hx => hx.2.1.1) hL0.2.1.1 hL0.2.2.1.1 hL0.2.2.2.2 (fun x hx => ⟨hx.2.1.1, hx.2.2.1⟩)) y1 hL1) H1.ctx).mono fun e W' hK => ?_
  obtain ⟨he, hK2⟩ := hK
  have bel := hK2.bel
  subst he
  exact ⟨_, rfl, _, _, _, [], _, _, hW', trodAll_mk1 (shut_bool Tryz.underlying4 _), (trodAll_cons_mk (Below.trod laidOut (by kernel_rfl) (of_decide_eq_true (by kernel_rfl)) k0 bel lt0) (trodAll_cons_mk (Below.trod laidOut (by kernel_rfl) (of_decide_eq_true (by kernel_rfl)) k1 bel lt1) trodAll_mk0)), Below.trodVars laidOut bel (by kernel_rfl) hV, bel.frame _, fun h => by cases h⟩
set_option maxHeartbeats 2000000 in
theorem closed : joinedFacts Tryz.pinned.checked.prog 4 Tryz.f4 Rows.fnExactHouseLinesSpec Rows.fnExactHouseLinesRow = true := by
  unfold joinedFacts
  refine band (band (band (band (band (band (band (band (band (band (band (band (band (band (band (band (band (band (band (band (band (band (band (band (band (band (band (band (band (band (band (?_) ?_) ?_) ?_) ?_) ?_) ?_) ?_) ?_) ?_) ?_) ?_) ?_) ?_) ?_) ?_) ?_) ?_) ?_) ?_) ?_) ?_) ?_) ?_) ?_) ?_) ?_) ?_) ?_) ?_) ?_) ?_
  · as_aux_lemma => kernel_rfl
  · as_aux_lemma => kernel_rfl
  · as_aux_lemma => kernel_rfl
  · as_aux_lemma => kernel_rfl
  · as_aux_lemma => kernel_rfl
  · as_aux_lemma => kernel_rfl
  · as_aux_lemma => kernel_rfl
  · as_aux_lemma => kernel_rfl
  · as_aux_lemma => kernel_rfl
  · as_aux_lemma => kernel_rfl
  · as_aux_lemma => kernel_rfl
  · as_aux_lemma => kernel_rfl
  · as_aux_lemma => kernel_rfl
  · as_aux_lemma => kernel_rfl
  · as_aux_lemma => kernel_rfl
  · as_aux_lemma => kernel_rfl
  · as_aux_lemma => kernel_rfl
  · as_aux_lemma => kernel_rfl
  · as_aux_lemma => kernel_rfl
  · as_aux_lemma => kernel_rfl
  · as_aux_lemma => kernel_rfl
  · as_aux_lemma => kernel_rfl
  · as_aux_lemma => kernel_rfl
  · as_aux_lemma => kernel_rfl
  · as_aux_lemma => kernel_rfl
  · exact may_enter
  · exact lifts_final
  · exact make_eq
  · as_aux_lemma => kernel_rfl
  · as_aux_lemma => kernel_rfl
  · as_aux_lemma => kernel_rfl
  · as_aux_lemma => kernel_rfl
theorem over : Rows.fnExactHouseLinesRow.holds Tryz.pinned (OpenSpec.ofChange Rows.fnExactHouseLinesSpec) :=
  OpenClaim.holds_of_wide 4 Tryz.f4 rfl rfl rfl rfl rfl rfl rfl ⟨rfl, rfl, rfl, rfl, rfl⟩ rfl rfl rfl rfl rfl (by kernel_rfl) Tryz.func4 closed
    (of_decide_eq_true (by kernel_rfl)) (by unfold Func.isWrapper; first | (rw [if_pos (by decide +kernel)]; kernel_rfl) | (rw [if_neg (by decide +kernel)]; exact ⟨rfl, rfl⟩))
    (fun os started H enc _ => lifted os started H enc)
/-- the statement: the card -/
theorem proved : Rows.FnExactHouseLinesCardSaid :=
  Claim7.holds_tied_plain_at .later [] [.data, .data, .data, .data, .data, .data, .pinned] true (true, "d6a1c3431e3c848b6f0229a506444324eae7a1f3cd0a70cd73cb0eb1b2de198a") false
    over (fun _ h => by cases h) (by kernel_rfl) (fun _ h => by cases h) fnExactHouseLines_row_tie rfl ⟨rfl, rfl⟩ main_eq rfl
    (fun f fn hf hfn => by
      obtain rfl : f = 4 := Option.some.inj ((show Tryz.prog.funcNamed "loop.example/restaurantkitchen/laws.FnExactHouseLines" = some 4 by kernel_rfl).symm.trans hf) |>.symm
      obtain rfl : fn = Tryz.f4 := (Option.some.inj (Tryz.func4.symm.trans hfn)).symm
      exact ⟨by kernel_rfl, fun j t ht => by
        rw [Tryz.params4] at ht
        rcases j with _ | _ | j
        · obtain rfl : 26 = t := by simpa using ht
          exact (show Tryz.prog.wantsStandIn 26 = false by kernel_rfl)
        · obtain rfl : 38 = t := by simpa using ht
          exact (show Tryz.prog.wantsStandIn 38 = false by kernel_rfl)
        · simp at ht⟩)
    (by kernel_rfl)
end Go.Proofs.YtpklpghbkhegnaaGreatDoor.fnExactHouseLines

