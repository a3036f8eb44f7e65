/- SeatsMany: the specification counts the different seats. Own work; no program in sight. -/
import Derived.Test.YtidhmbmollkhdaaDoorDraw12
import Derived.Test.YtidhmbmollkhdaaDoorShS6c
set_option linter.unusedVariables false
namespace Go.Proofs.YtidhmbmollkhdaaDoor
open Go Go.RowKit
theorem l1Has_eq (xs : List Int) (y : Int) (h : xs.length ≤ 2000000) : spec_l1HasS xs y = some (decide (y ∈ xs)) := by
  unfold spec_l1HasS
  apply Ret.eq
  refine Ret.loopb (fun s => ∃ k : Nat, s = (k : Int) ∧ k ≤ xs.length ∧ y ∉ xs.take k) (fun s => xs.length - s.toNat) (fun r => match r with | .inl _ => y ∉ xs | .inr b => b = true ∧ y ∈ xs) ⟨0, rfl, by omega, by simp⟩ ?_ (fun r hr => ?_)
  · rintro s ⟨k, rfl, hk, hp⟩
    refine Ret.ite (fun hc => ?_) (fun hc => ?_)
    · have hkl : k < xs.length := by have := of_decide_eq_true hc; omega
      have e1 : IntKind.wrap .i64 ((k : Int) + 1) = ((k + 1 : Nat) : Int) := wr_succ (n := 2000000) (by omega) (by omega)
      rw [geti_lt' hkl, Option.bind_some, e1]
      refine Ret.ite (fun hb => ?_) (fun hb => ?_)
      · refine Ret.pure ⟨rfl, ?_⟩
        rw [beq_iff_eq] at hb
        rw [← hb]; exact List.getElem_mem hkl
      · refine Ret.pure ⟨⟨k + 1, rfl, by omega, ?_⟩, by simp; omega⟩
        rw [List.take_succ_eq_append_getElem hkl]
        intro hm
        rcases List.mem_append.1 hm with h1 | h1
        · exact hp h1
        · simp only [List.mem_singleton] at h1
          rw [← h1] at hb; simp at hb
    · have hkl : k = xs.length := by have := of_decide_eq_false hc; omega
      subst hkl
      rw [List.take_length] at hp
      exact Ret.pure hp
  · cases r with
    | inl u => exact Ret.pure (by have hr : y ∉ xs := hr; exact (decide_eq_false hr).symm)
    | inr b => exact Ret.pure (by obtain ⟨rfl, h2⟩ := hr; exact (decide_eq_true h2).symm)
theorem nodup_dist (s : List Int) : (dist s).Nodup := (dist_sorted s).imp fun h => by omega
theorem nodup_length {l l' : List Int} (h : l.Nodup) (h' : l'.Nodup) (hm : ∀ y, y ∈ l ↔ y ∈ l') : l.length = l'.length :=
  ((List.perm_ext_iff_of_nodup h h').2 hm).length_eq
theorem specSeatsMany_eq (s : List Int) (h : s.length ≤ 2000000) : spec_SeatsManyS s = some (((dist s).length : Nat) : Int) := by
  unfold spec_SeatsManyS
  apply Ret.eq
  refine Ret.loopb (fun t => ∃ (F : List Int) (k : Nat), t = ((F.length : Int), (k : Int)) ∧ k ≤ s.length ∧ F.length ≤ k ∧ F.Nodup ∧ ∀ y, y ∈ F ↔ y ∈ s.take k) (fun t => s.length - t.2.toNat) (fun r => r = (((dist s).length : Nat) : Int)) ⟨[], 0, rfl, by omega, by simp, List.nodup_nil, by simp⟩ ?_ (fun r hr => Ret.pure hr)
  rintro t ⟨F, k, rfl, hk, hFl, hF, hm⟩
  dsimp only
  refine Ret.ite (fun hc => ?_) (fun hc => ?_)
  · have hkl : k < s.length := by have := of_decide_eq_true hc; omega
    have e1 : IntKind.wrap .i64 ((k : Int) + 1) = ((k + 1 : Nat) : Int) := wr_succ (n := 2000000) (by omega) (by omega)
    have e2 : IntKind.wrap .i64 ((F.length : Int) + 1) = ((F.length + 1 : Nat) : Int) := wr_succ (n := 2000001) (by omega) (by omega)
    have hsub : subO s 0 (k : Int) = some (s.take k) := by
      unfold subO
      rw [if_pos (by simp; omega)]
      simp
    rw [hsub, Option.bind_some, geti_lt' hkl, Option.bind_some, l1Has_eq _ _ (by simp; omega), Option.bind_some, e1, e2]
    by_cases hmem : s[k] ∈ s.take k
    · rw [decide_eq_true hmem, if_neg (by simp)]
      refine Ret.pure ⟨⟨F, k + 1, rfl, by omega, by omega, hF, fun y => ?_⟩, by simp; omega⟩
      rw [hm, List.take_succ_eq_append_getElem hkl, List.mem_append, List.mem_singleton]
      constructor
      · exact .inl
      · rintro (h1 | rfl)
        · exact h1
        · exact hmem
    · rw [decide_eq_false hmem, if_pos (by simp)]
      refine Ret.pure ⟨⟨s[k] :: F, k + 1, by simp, by omega, by simp; omega, List.nodup_cons.2 ⟨fun h1 => hmem ((hm _).1 h1), hF⟩, fun y => ?_⟩, by simp; omega⟩
      rw [List.mem_cons, hm, List.take_succ_eq_append_getElem hkl, List.mem_append, List.mem_singleton]
      constructor
      · rintro (h1 | h1)
        · exact .inr h1
        · exact .inl h1
      · rintro (h1 | h1)
        · exact .inr h1
        · exact .inl h1
  · have hkl : k = s.length := by have := of_decide_eq_false hc; omega
    subst hkl
    refine Ret.pure ?_
    show (F.length : Int) = _
    rw [nodup_length hF (nodup_dist s) fun y => ?_]
    rw [hm, List.take_length]
    exact ⟨mem_dist, dist_mem⟩
theorem dist_len (s : List Int) : (dist s).length ≤ s.length := by
  unfold dist Lib.compact Lib.compactUpTo
  rw [List.length_map]
  refine Nat.le_trans (List.length_filter_le _ _) ?_
  rw [List.length_range]
  exact Nat.le_of_eq (by simp [srt_length])
theorem dist_more {s : List Int} {y : Int} (hy : y ∈ s) : (dist (s ++ [y])).length = (dist s).length :=
  nodup_length (nodup_dist _) (nodup_dist _) fun z => ⟨fun h => mem_dist (by
    rcases List.mem_append.1 (dist_mem h) with h | h
    · exact h
    · rw [List.mem_singleton.1 h]; exact hy), fun h => mem_dist (List.mem_append_left _ (dist_mem h))⟩
theorem pl_FnSeatsMany (x : List Int) (hw : ∀ n ∈ x, InK .u8 n) : laws_FnSeatsManyS x = some true := by
  unfold laws_FnSeatsManyS
  by_cases hl : (x.length : Int) > 1048576
  · rw [if_pos (by simp; omega)]
  rw [if_neg (by simp; omega)]
  have hdraw : Ret (spec_DrawSeatsManyS x) (fun r => r.length ≤ 7) := by
    unfold spec_DrawSeatsManyS
    refine Ret.bind (open_spec x (u8_of hw)) (fun r hr => ?_)
    refine Ret.bind (seated_ret hr.1 (by omega) (by omega)) (fun v hv => ?_)
    exact Ret.pure hv.2
  obtain ⟨s, hd, hsl⟩ := hdraw
  have hdl := dist_len s
  rw [hd, Option.bind_some, many_eq s (by omega), Option.bind_some, specSeatsMany_eq s (by omega), Option.bind_some, if_neg (by simp)]
  cases s with
  | nil =>
    have h0 : (dist []).length = 0 := by simpa using hdl
    rw [h0, if_pos (by simp), Option.bind_some, if_pos (by simp), Option.bind_some, if_pos (by simp), Option.bind_some, if_pos (by simp), alive_eq]
    rfl
  | cons y ys =>
    have hap : appO ([] : List Int) (y :: ys) = some (y :: ys) := by
      unfold appO room; rw [if_pos (by simp at hsl ⊢; omega)]; rfl
    have hap2 : appO (y :: ys) [y] = some ((y :: ys) ++ [y]) := by
      unfold appO room; rw [if_pos (by simp at hsl ⊢; omega)]
    have hg : geti (y :: ys) 0 = some y := rfl
    rw [if_neg (by simp <;> omega), Option.bind_some, if_neg (by simp), if_pos (by simp <;> omega), hap, Option.bind_some, hg, Option.bind_some, hap2, Option.bind_some, many_eq _ (by simp at hsl ⊢ <;> omega), Option.bind_some, dist_more (by simp), Option.bind_some, Option.bind_some]
    rw [if_pos (by simp), Option.bind_some, if_pos (by simp at hdl ⊢ <;> omega), alive_eq]
    rfl
end Go.Proofs.YtidhmbmollkhdaaDoor
