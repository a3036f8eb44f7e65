/- SeatsMany: how many different seats. Own work; no program in sight. -/
import Derived.Test.YtefgdbldkdgogaaSeatF
import Derived.Test.YtefgdbldkdgogaaShM
set_option linter.unusedVariables false
namespace Go.Proofs.Ytefgdbldkdgogaa
open Go Go.RowKit
def dist (s : List Int) : List Int := Lib.compact (srt s)
theorem many_eq (s : List Int) (h : s.length ≤ 2000000) : impl_SeatsManyS s = some (((dist s).length : Nat) : Int) := by
  unfold impl_SeatsManyS impl_copyIntsS
  by_cases h0 : s.length = 0
  · have : s = [] := List.length_eq_zero_iff.1 h0
    subst this
    simp [dist]
  · have hmk : mkO (0 : Int) (s.length : Int) = some (arr s.length fun _ => 0) := mkO_arr (by omega)
    rw [if_neg (by simp; exact fun h => h0 (by rw [h]; rfl)), hmk]
    simp only [Option.bind_some]
    have e : List.take (arr s.length fun _ => (0 : Int)).length s ++ List.drop s.length (arr s.length fun _ => (0 : Int)) = s := by
      rw [arr_length, List.take_length, List.drop_eq_nil_of_le (by rw [arr_length]; omega), List.append_nil]
    rw [e, if_pos (decide_eq_true (by omega))]
    rfl
theorem mem_compactUpTo (d : Array Int) (m : Nat) : ∀ j, j < m → d[j]! ∈ Lib.compactUpTo d m := by
  intro j
  induction j with
  | zero =>
    intro hj
    unfold Lib.compactUpTo
    exact List.mem_map.2 ⟨0, List.mem_filter.2 ⟨List.mem_range.2 hj, by simp [Lib.keeps]⟩, rfl⟩
  | succ j ih =>
    intro hj
    by_cases h : d[j + 1]! = d[j]!
    · rw [h]; exact ih (by omega)
    · unfold Lib.compactUpTo
      exact List.mem_map.2 ⟨j + 1, List.mem_filter.2 ⟨List.mem_range.2 hj, by simp [Lib.keeps, h]⟩, rfl⟩
theorem mem_dist {s : List Int} {y : Int} (h : y ∈ s) : y ∈ dist s := by
  have h1 : y ∈ srt s := (List.mergeSort_perm s _).mem_iff.2 h
  obtain ⟨i, hi, he⟩ := List.getElem_of_mem h1
  have h2 := mem_compactUpTo (srt s).toArray (srt s).length i hi
  rw [getElem!_pos _ i (by simpa using hi)] at h2
  simp only [List.getElem_toArray, he] at h2
  exact h2
theorem dist_mem {s : List Int} {y : Int} (h : y ∈ dist s) : y ∈ s := by
  unfold dist Lib.compact Lib.compactUpTo at h
  obtain ⟨i, hi, he⟩ := List.mem_map.1 h
  have hi := List.mem_range.1 (List.mem_filter.1 hi).1
  rw [getElem!_pos _ i (by simpa using hi)] at he
  have : y ∈ srt s := by rw [← he]; simp
  exact (List.mergeSort_perm s _).mem_iff.1 this
theorem srt_sorted (s : List Int) : (srt s).Pairwise (· ≤ ·) := by
  have := List.pairwise_mergeSort (le := fun a b : Int => decide (a ≤ b)) (fun a b c h1 h2 => by simp only [decide_eq_true_eq] at *; omega) (fun a b => by simp only [Bool.or_eq_true, decide_eq_true_eq]; omega) s
  exact this.imp fun h => by simpa using h
theorem dist_sorted (s : List Int) : (dist s).Pairwise (· < ·) := by
  unfold dist Lib.compact Lib.compactUpTo
  rw [List.pairwise_map]
  have hs := srt_sorted s
  refine List.Pairwise.imp_of_mem ?_ ((List.pairwise_lt_range (n := (srt s).length)).filter _)
  intro a b ha hb hab
  have ha1 := List.mem_range.1 (List.mem_filter.1 ha).1
  have hb1 := List.mem_range.1 (List.mem_filter.1 hb).1
  have hk := (List.mem_filter.1 hb).2
  unfold Lib.keeps at hk
  have hk := of_decide_eq_true hk
  have hne : (srt s).toArray[b]! ≠ (srt s).toArray[b - 1]! := by rcases hk with h | h; · omega
                                                                 · exact h
  rw [getElem!_pos _ b (by simpa using hb1), getElem!_pos _ (b - 1) (by simp; omega)] at hne
  rw [getElem!_pos _ a (by simpa using ha1), getElem!_pos _ b (by simpa using hb1)]
  simp only [List.getElem_toArray] at hne ⊢
  have h1 : (srt s)[b - 1] ≤ (srt s)[b] := List.pairwise_iff_getElem.1 hs (b - 1) b (by omega) hb1 (by omega)
  have h2 : (srt s)[a] ≤ (srt s)[b - 1] := by
    rcases Nat.lt_or_ge a (b - 1) with h | h
    · exact List.pairwise_iff_getElem.1 hs a (b - 1) ha1 (by omega) h
    · have : a = b - 1 := by omega
      subst this; exact Int.le_refl _
  omega
theorem l1Has_eq (xs : List Int) (y : Int) (h : xs.length ≤ 2000000) : spec_l1HasS xs y = some (decide (y ∈ xs)) := by
  unfold spec_l1HasS
  apply Ret.eq
  refine Ret.loopb (fun s => ∃ k : Nat, s = (k : Int) ∧ k ≤ xs.length ∧ y ∉ xs.take k) (fun s => xs.length - s.toNat) (fun r => match r with | .inl _ => y ∉ xs | .inr b => b = true ∧ y ∈ xs) ⟨0, rfl, by omega, by simp⟩ ?_ (fun r hr => ?_)
  · rintro s ⟨k, rfl, hk, hp⟩
    refine Ret.ite (fun hc => ?_) (fun hc => ?_)
    · have hkl : k < xs.length := by have := of_decide_eq_true hc; omega
      have e1 : IntKind.wrap .i64 ((k : Int) + 1) = ((k + 1 : Nat) : Int) := wr_succ (n := 2000000) (by omega) (by omega)
      rw [geti_lt' hkl, Option.bind_some, e1]
      refine Ret.ite (fun hb => ?_) (fun hb => ?_)
      · refine Ret.pure ⟨rfl, ?_⟩
        rw [beq_iff_eq] at hb
        rw [← hb]; exact List.getElem_mem hkl
      · refine Ret.pure ⟨⟨k + 1, rfl, by omega, ?_⟩, by simp; omega⟩
        rw [List.take_succ_eq_append_getElem hkl]
        intro hm
        rcases List.mem_append.1 hm with h1 | h1
        · exact hp h1
        · simp only [List.mem_singleton] at h1
          rw [← h1] at hb; simp at hb
    · have hkl : k = xs.length := by have := of_decide_eq_false hc; omega
      subst hkl
      rw [List.take_length] at hp
      exact Ret.pure hp
  · cases r with
    | inl u => exact Ret.pure (by have hr : y ∉ xs := hr; exact (decide_eq_false hr).symm)
    | inr b => exact Ret.pure (by obtain ⟨rfl, h2⟩ := hr; exact (decide_eq_true h2).symm)
theorem nodup_dist (s : List Int) : (dist s).Nodup := (dist_sorted s).imp fun h => by omega
theorem nodup_length {l l' : List Int} (h : l.Nodup) (h' : l'.Nodup) (hm : ∀ y, y ∈ l ↔ y ∈ l') : l.length = l'.length :=
  ((List.perm_ext_iff_of_nodup h h').2 hm).length_eq
theorem specSeatsMany_eq (s : List Int) (h : s.length ≤ 2000000) : spec_SeatsManyS s = some (((dist s).length : Nat) : Int) := by
  unfold spec_SeatsManyS
  apply Ret.eq
  refine Ret.loopb (fun t => ∃ (F : List Int) (k : Nat), t = ((F.length : Int), (k : Int)) ∧ k ≤ s.length ∧ F.length ≤ k ∧ F.Nodup ∧ ∀ y, y ∈ F ↔ y ∈ s.take k) (fun t => s.length - t.2.toNat) (fun r => r = (((dist s).length : Nat) : Int)) ⟨[], 0, rfl, by omega, by simp, List.nodup_nil, by simp⟩ ?_ (fun r hr => Ret.pure hr)
  rintro t ⟨F, k, rfl, hk, hFl, hF, hm⟩
  dsimp only
  refine Ret.ite (fun hc => ?_) (fun hc => ?_)
  · have hkl : k < s.length := by have := of_decide_eq_true hc; omega
    have e1 : IntKind.wrap .i64 ((k : Int) + 1) = ((k + 1 : Nat) : Int) := wr_succ (n := 2000000) (by omega) (by omega)
    have e2 : IntKind.wrap .i64 ((F.length : Int) + 1) = ((F.length + 1 : Nat) : Int) := wr_succ (n := 2000001) (by omega) (by omega)
    have hsub : subO s 0 (k : Int) = some (s.take k) := by
      unfold subO
      rw [if_pos (by simp; omega)]
      simp
    rw [hsub, Option.bind_some, geti_lt' hkl, Option.bind_some, l1Has_eq _ _ (by simp; omega), Option.bind_some, e1, e2]
    by_cases hmem : s[k] ∈ s.take k
    · rw [decide_eq_true hmem, if_neg (by simp)]
      refine Ret.pure ⟨⟨F, k + 1, rfl, by omega, by omega, hF, fun y => ?_⟩, by simp; omega⟩
      rw [hm, List.take_succ_eq_append_getElem hkl, List.mem_append, List.mem_singleton]
      constructor
      · exact .inl
      · rintro (h1 | rfl)
        · exact h1
        · exact hmem
    · rw [decide_eq_false hmem, if_pos (by simp)]
      refine Ret.pure ⟨⟨s[k] :: F, k + 1, by simp, by omega, by simp; omega, List.nodup_cons.2 ⟨fun h1 => hmem ((hm _).1 h1), hF⟩, fun y => ?_⟩, by simp; omega⟩
      rw [List.mem_cons, hm, List.take_succ_eq_append_getElem hkl, List.mem_append, List.mem_singleton]
      constructor
      · rintro (h1 | h1)
        · exact .inr h1
        · exact .inl h1
      · rintro (h1 | h1)
        · exact .inr h1
        · exact .inl h1
  · have hkl : k = s.length := by have := of_decide_eq_false hc; omega
    subst hkl
    refine Ret.pure ?_
    show (F.length : Int) = _
    rw [nodup_length hF (nodup_dist s) fun y => ?_]
    rw [hm, List.take_length]
    exact ⟨mem_dist, dist_mem⟩
theorem pl_FnExactSeatsMany (s : List Int) (_ : ∀ n ∈ s, InR n) : laws_FnExactSeatsManyS s = some true := by
  unfold laws_FnExactSeatsManyS
  by_cases h : s.length ≤ 1048576
  · rw [if_neg (by simp; omega)]
    simp [toIntS_eq s h, specSeatsMany_eq s (by omega), many_eq s (by omega), eqIntS_eq s s (by omega)]
  · rw [if_pos (by simp; omega)]
end Go.Proofs.Ytefgdbldkdgogaa
