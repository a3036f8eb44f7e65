/- Chapter 6: what the shallow functions come to. Own work; no program in sight. -/
import Derived.Test.YtidhmbmollkhdaaDoorShS6M
import Derived.Test.YtidhmbmollkhdaaDoorPl
set_option linter.unusedVariables false
namespace Go.Proofs.YtidhmbmollkhdaaDoor
open Go Go.RowKit
theorem l1In_eq (a b c : Int) : spec_l1InS a b c = some (decide (b ≤ a ∧ a ≤ c)) := by
  unfold spec_l1InS; simp
theorem amountsOk_eq (xs : List Int) (n m : Int) (h : xs.length ≤ 4611686018427387904) : impl_amountsOkS xs n m = some (decide ((xs.length : Int) = n ∧ ∀ x ∈ xs, 0 ≤ x ∧ x ≤ m)) := by
  unfold impl_amountsOkS
  by_cases hn : (xs.length : Int) = n
  · rw [if_neg (by simp [hn])]
    apply Ret.eq
    refine Ret.loopb (fun s => ∃ k : Nat, s = k ∧ k ≤ xs.length ∧ ∀ x ∈ xs.take k, 0 ≤ x ∧ x ≤ m) (fun s => xs.length - s.toNat) (fun r => (match r with | .inl _ => true | .inr b => b) = decide (∀ x ∈ xs, 0 ≤ x ∧ x ≤ m)) ⟨0, rfl, by omega, by simp⟩ ?_ (fun r hr => ?_)
    · rintro s ⟨k, rfl, hle, ht⟩
      refine Ret.ite (fun hlt => ?_) (fun hge => ?_)
      · have hlt' : k < xs.length := by simpa using hlt
        rw [geti_lt' hlt', Option.bind_some]
        refine Ret.ite (fun hne => ?_) (fun he => ?_)
        · refine Ret.pure ?_
          simp only [Bool.or_eq_true, decide_eq_true_eq] at hne
          have : ¬ ∀ x ∈ xs, 0 ≤ x ∧ x ≤ m := fun hall => by have := hall xs[k] (List.getElem_mem _); omega
          simp only [this, decide_false]
        · refine Ret.pure ⟨⟨k + 1, wr_succ (n := xs.length) h hlt', by omega, ?_⟩, ?_⟩
          · rw [List.take_succ_eq_append_getElem hlt']
            simp only [Bool.or_eq_false_iff, decide_eq_false_iff_not] at he
            intro x hx
            rcases List.mem_append.1 hx with hx | hx
            · exact ht x hx
            · simp at hx; subst hx; omega
          · rw [wr_succ (n := xs.length) h hlt']; simp; omega
      · have hge' : xs.length ≤ k := by simpa using hge
        refine Ret.pure ?_
        rw [List.take_of_length_le hge'] at ht
        simp only [decide_eq_true ht]
    · simp only [hn, true_and]
      cases r with
      | inl u => exact Ret.pure hr
      | inr b => exact Ret.pure hr
  · rw [if_pos (by simp [hn])]
    simp [hn]
/-- is it a menu? -/
def MenuOk (g : Int) (m : List Int) : Prop := 0 ≤ g ∧ g ≤ 6 ∧ m.length ≤ 6 ∧ ∀ x ∈ m, 0 ≤ x ∧ x ≤ 2 ^ g.toNat - 1
instance (g : Int) (m : List Int) : Decidable (MenuOk g m) := by unfold MenuOk; infer_instance
theorem ishl_one {g : Int} (h0 : 0 ≤ g) (h : g ≤ 60) : ishl .i64 1 g = 2 ^ g.toNat ∧ (1 : Int) ≤ 2 ^ g.toNat ∧ (2 : Int) ^ g.toNat ≤ 1152921504606846976 := by
  obtain ⟨n, rfl⟩ := Int.eq_ofNat_of_zero_le h0
  have hn : n ≤ 60 := by omega
  have h1 : (2 : Int) ^ n ≤ 2 ^ 60 := by exact_mod_cast Nat.pow_le_pow_right (by omega) hn
  have h2 : (1 : Int) ≤ 2 ^ n := by exact_mod_cast Nat.one_le_two_pow
  have h3 : (2 : Int) ^ 60 = 1152921504606846976 := by decide
  refine ⟨?_, by simpa using h2, by simpa [h3] using h1⟩
  unfold ishl
  simp only [Int.toNat_natCast, Int.one_mul, IntKind.bits]
  rw [Nat.min_eq_left (by omega), wr ⟨by omega, by omega⟩]
theorem everybody_eq {g : Int} (h0 : 0 ≤ g) (h : g ≤ 60) : impl_everybodyS g = some (2 ^ g.toNat - 1) := by
  unfold impl_everybodyS ishlO
  obtain ⟨h1, h2, h3⟩ := ishl_one h0 h
  rw [if_neg (by simp; omega), Option.bind_some, h1, wr ⟨by omega, by omega⟩]
theorem implMenuValid_eq (g : Int) (m : List Int) (h : m.length ≤ 4611686018427387904) : impl_MenuValidS g m = some (decide (MenuOk g m)) := by
  unfold impl_MenuValidS
  by_cases hc : (0 ≤ g ∧ g ≤ 6) ∧ m.length ≤ 6
  · obtain ⟨⟨h0, h1⟩, h2⟩ := hc
    rw [if_neg (by simp; omega), everybody_eq h0 (by omega), Option.bind_some, amountsOk_eq m _ _ h, Option.bind_some]
    simp only [MenuOk, h0, h1, h2, true_and]
  · rw [if_pos (by simp; omega)]
    have : ¬ MenuOk g m := by rintro ⟨h0, h1, h2, _⟩; exact hc ⟨⟨h0, h1⟩, h2⟩
    rw [decide_eq_false this]
theorem specMenuValid_eq (g : Int) (m : List Int) (h : m.length ≤ 4611686018427387904) : spec_MenuValidS g m = some (decide (MenuOk g m)) := by
  unfold spec_MenuValidS
  simp only [l1In_eq, Option.bind_some]
  by_cases hg : 0 ≤ g ∧ g ≤ 6
  · obtain ⟨h0, h1⟩ := hg
    obtain ⟨e1, e2, e3⟩ := ishl_one h0 (by omega : g ≤ 60)
    have hsh : ishlO .i64 1 g = some (2 ^ g.toNat) := by unfold ishlO; rw [if_neg (by simp; omega), e1]
    rw [if_neg (by simp; omega)]
    simp only [hsh, Option.bind_some, wr (x := 2 ^ g.toNat - 1) ⟨by omega, by omega⟩]
    apply Ret.eq
    refine Ret.loopb (fun s => ∃ k : Nat, s = k ∧ k ≤ m.length ∧ ∀ x ∈ m.take k, 0 ≤ x ∧ x ≤ 2 ^ g.toNat - 1) (fun s => m.length - s.toNat) (fun r => match r with | .inl _ => ∀ x ∈ m, 0 ≤ x ∧ x ≤ 2 ^ g.toNat - 1 | .inr b => b = false ∧ ¬ ∀ x ∈ m, 0 ≤ x ∧ x ≤ 2 ^ g.toNat - 1) ⟨0, rfl, by omega, by simp⟩ ?_ (fun r hr => ?_)
    · rintro s ⟨k, rfl, hle, ht⟩
      refine Ret.ite (fun hlt => ?_) (fun hge => ?_)
      · have hlt' : k < m.length := by simpa using hlt
        rw [geti_lt' hlt', Option.bind_some]
        refine Ret.ite (fun hne => ?_) (fun he => ?_)
        · refine Ret.pure ⟨rfl, fun hall => ?_⟩
          have := hall m[k] (List.getElem_mem _)
          simp only [Bool.not_eq_true', decide_eq_false_iff_not] at hne
          exact hne this
        · refine Ret.pure ⟨⟨k + 1, wr_succ (n := m.length) h hlt', by omega, ?_⟩, ?_⟩
          · rw [List.take_succ_eq_append_getElem hlt']
            simp only [Bool.not_eq_false', decide_eq_true_eq] at he
            intro x hx
            rcases List.mem_append.1 hx with hx | hx
            · exact ht x hx
            · simp at hx; subst hx; exact he
          · rw [wr_succ (n := m.length) h hlt']; simp; omega
      · have hge' : m.length ≤ k := by simpa using hge
        rw [List.take_of_length_le hge'] at ht
        exact Ret.pure ht
    · cases r with
      | inl u =>
        refine Ret.pure ?_
        have hr' : ∀ x ∈ m, 0 ≤ x ∧ x ≤ 2 ^ g.toNat - 1 := hr
        by_cases hl : m.length ≤ 6
        · have h3 : MenuOk g m := by unfold MenuOk; exact ⟨h0, h1, hl, hr'⟩
          rw [decide_eq_true h3, decide_eq_true (by omega)]
        · have h3 : ¬ MenuOk g m := by rintro ⟨_, _, h4, _⟩; exact hl h4
          rw [decide_eq_false h3, decide_eq_false (by omega)]
      | inr b =>
        refine Ret.pure ?_
        obtain ⟨rfl, hr⟩ := hr
        have : ¬ MenuOk g m := by rintro ⟨_, _, _, h4⟩; exact hr h4
        rw [decide_eq_false this]
  · rw [if_pos (by simp; omega)]
    have : ¬ MenuOk g m := by rintro ⟨h0, h1, _⟩; exact hg ⟨h0, h1⟩
    rw [decide_eq_false this]
end Go.Proofs.YtidhmbmollkhdaaDoor
