/- Chapter 6: what the shallow functions come to. Own work; no program in sight. -/
import Derived.Test.YtcjkbcdlpfgbgaaShX7E
import Derived.Test.YtcjkbcdlpfgbgaaPl
set_option linter.unusedVariables false
namespace Go.Proofs.Ytcjkbcdlpfgbgaa
open Go Go.RowKit
theorem l1In_eq (a b c : Int) : spec_l1InS a b c = some (decide (b ≤ a ∧ a ≤ c)) := by
  unfold spec_l1InS; simp
theorem amountsOk_eq (xs : List Int) (n m : Int) (h : xs.length ≤ 4611686018427387904) : impl_amountsOkS xs n m = some (decide ((xs.length : Int) = n ∧ ∀ x ∈ xs, 0 ≤ x ∧ x ≤ m)) := by
  unfold impl_amountsOkS
  by_cases hn : (xs.length : Int) = n
  · rw [if_neg (by simp [hn])]
    apply Ret.eq
    refine Ret.loopb (fun s => ∃ k : Nat, s = k ∧ k ≤ xs.length ∧ ∀ x ∈ xs.take k, 0 ≤ x ∧ x ≤ m) (fun s => xs.length - s.toNat) (fun r => (match r with | .inl _ => true | .inr b => b) = decide (∀ x ∈ xs, 0 ≤ x ∧ x ≤ m)) ⟨0, rfl, by omega, by simp⟩ ?_ (fun r hr => ?_)
    · rintro s ⟨k, rfl, hle, ht⟩
      refine Ret.ite (fun hlt => ?_) (fun hge => ?_)
      · have hlt' : k < xs.length := by simpa using hlt
        rw [geti_lt' hlt', Option.bind_some]
        refine Ret.ite (fun hne => ?_) (fun he => ?_)
        · refine Ret.pure ?_
          simp only [Bool.or_eq_true, decide_eq_true_eq] at hne
          have : ¬ ∀ x ∈ xs, 0 ≤ x ∧ x ≤ m := fun hall => by have := hall xs[k] (List.getElem_mem _); omega
          simp only [this, decide_false]
        · refine Ret.pure ⟨⟨k + 1, wr_succ (n := xs.length) h hlt', by omega, ?_⟩, ?_⟩
          · rw [List.take_succ_eq_append_getElem hlt']
            simp only [Bool.or_eq_false_iff, decide_eq_false_iff_not] at he
            intro x hx
            rcases List.mem_append.1 hx with hx | hx
            · exact ht x hx
            · simp at hx; subst hx; omega
          · rw [wr_succ (n := xs.length) h hlt']; simp; omega
      · have hge' : xs.length ≤ k := by simpa using hge
        refine Ret.pure ?_
        rw [List.take_of_length_le hge'] at ht
        simp only [decide_eq_true ht]
    · simp only [hn, true_and]
      cases r with
      | inl u => exact Ret.pure hr
      | inr b => exact Ret.pure hr
  · rw [if_pos (by simp [hn])]
    simp [hn]
/-- is it a menu? -/
def MenuOk (g : Int) (m : List Int) : Prop := 0 ≤ g ∧ g ≤ 6 ∧ m.length ≤ 6 ∧ ∀ x ∈ m, 0 ≤ x ∧ x ≤ 2 ^ g.toNat - 1
instance (g : Int) (m : List Int) : Decidable (MenuOk g m) := by unfold MenuOk; infer_instance
theorem ishl_one {g : Int} (h0 : 0 ≤ g) (h : g ≤ 60) : ishl .i64 1 g = 2 ^ g.toNat ∧ (1 : Int) ≤ 2 ^ g.toNat ∧ (2 : Int) ^ g.toNat ≤ 1152921504606846976 := by
  obtain ⟨n, rfl⟩ := Int.eq_ofNat_of_zero_le h0
  have hn : n ≤ 60 := by omega
  have h1 : (2 : Int) ^ n ≤ 2 ^ 60 := by exact_mod_cast Nat.pow_le_pow_right (by omega) hn
  have h2 : (1 : Int) ≤ 2 ^ n := by exact_mod_cast Nat.one_le_two_pow
  have h3 : (2 : Int) ^ 60 = 1152921504606846976 := by decide
  refine ⟨?_, by simpa using h2, by simpa [h3] using h1⟩
  unfold ishl
  simp only [Int.toNat_natCast, Int.one_mul, IntKind.bits]
  rw [Nat.min_eq_left (by omega), wr ⟨by omega, by omega⟩]
end Go.Proofs.Ytcjkbcdlpfgbgaa
