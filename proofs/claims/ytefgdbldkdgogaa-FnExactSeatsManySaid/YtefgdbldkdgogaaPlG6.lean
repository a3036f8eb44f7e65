/- Chapter 6: what the shallow functions come to. Own work; no program in sight. -/
import Derived.Test.YtefgdbldkdgogaaShG6
import Derived.Test.YtefgdbldkdgogaaPl
set_option linter.unusedVariables false
namespace Go.Proofs.Ytefgdbldkdgogaa
open Go Go.RowKit
theorem toIntS_eq (xs : List Int) (h : xs.length ≤ 1048576) : laws_toIntSS xs = some xs := by
  unfold laws_toIntSS
  have hm : mkO (0 : Int) (xs.length : Int) = some (List.replicate xs.length 0) := by
    unfold mkO room; rw [if_pos (by simp; omega)]; simp
  rw [hm, Option.bind_some]
  apply Ret.eq
  refine Ret.loopb (fun s => s.1.length = xs.length ∧ ∃ k : Nat, s.2 = k ∧ k ≤ xs.length ∧ s.1.take k = xs.take k) (fun s => xs.length - s.2.toNat) (fun r => r = xs) ⟨by simp, 0, rfl, by omega, by simp⟩ ?_ (fun r hr => Ret.pure hr)
  rintro ⟨ys, i⟩ ⟨hl, k, hk, hle, ht⟩
  simp only at hl hk ht
  subst hk
  refine Ret.ite (fun hlt => ?_) (fun hge => ?_)
  · have hlt' : k < xs.length := by simpa using hlt
    rw [geti_lt' hlt', Option.bind_some, geti_lt' (by omega), Option.bind_some]
    refine Ret.pure ⟨⟨by simp [hl], k + 1, wr_succ (n := xs.length) (by omega) hlt', by omega, ?_⟩, ?_⟩
    · simp only [Int.toNat_natCast]
      rw [List.take_set, List.take_succ_eq_append_getElem (by omega), List.set_append, List.length_take, Nat.min_eq_left (by omega), if_neg (by omega), Nat.sub_self, ht, List.take_succ_eq_append_getElem hlt']
      rfl
    · simp only
      rw [wr_succ (n := xs.length) (by omega) hlt']; simp; omega
  · have hge' : xs.length ≤ k := by simpa using hge
    have : k = xs.length := by omega
    subst this
    refine Ret.pure ?_
    rw [← hl, List.take_length, hl, List.take_length] at ht
    exact ht
theorem eqIntS_eq (xs ys : List Int) (h : xs.length ≤ 4611686018427387904) : laws_eqIntSS xs ys = some (decide (xs = ys)) := by
  unfold laws_eqIntSS
  by_cases hl : xs.length = ys.length
  · rw [if_neg (by simp; omega)]
    apply Ret.eq
    refine Ret.loopb (fun s => ∃ k : Nat, s = k ∧ k ≤ xs.length ∧ xs.take k = ys.take k) (fun s => xs.length - s.toNat) (fun r => (match r with | .inl _ => true | .inr b => b) = decide (xs = ys)) ⟨0, rfl, by omega, by simp⟩ ?_ (fun r hr => ?_)
    · rintro s ⟨k, rfl, hle, ht⟩
      refine Ret.ite (fun hlt => ?_) (fun hge => ?_)
      · have hlt' : k < xs.length := by simpa using hlt
        rw [geti_lt' hlt', Option.bind_some, geti_lt' (by omega), Option.bind_some]
        refine Ret.ite (fun hne => ?_) (fun he => ?_)
        · refine Ret.pure ?_
          have : xs ≠ ys := by rintro rfl; simp at hne
          simp [this]
        · refine Ret.pure ⟨⟨k + 1, wr_succ (n := xs.length) h hlt', by omega, ?_⟩, ?_⟩
          · rw [List.take_succ_eq_append_getElem hlt', List.take_succ_eq_append_getElem (by omega), ht]
            have : xs[k] = ys[k] := by simpa using he
            rw [this]
          · rw [wr_succ (n := xs.length) h hlt']; simp; omega
      · have hge' : xs.length ≤ k := by simpa using hge
        refine Ret.pure ?_
        have h1 : xs.take k = xs := List.take_of_length_le hge'
        have h2 : ys.take k = ys := List.take_of_length_le (by omega)
        rw [h1, h2] at ht
        simp [ht]
    · cases r with
      | inl u => exact Ret.pure hr
      | inr b => exact Ret.pure hr
  · rw [if_pos (by simp; omega)]
    have : xs ≠ ys := by rintro rfl; exact hl rfl
    simp [this]
theorem l1In_eq (a b c : Int) : spec_l1InS a b c = some (decide (b ≤ a ∧ a ≤ c)) := by
  unfold spec_l1InS; simp
theorem amountsOk_eq (xs : List Int) (n m : Int) (h : xs.length ≤ 4611686018427387904) : impl_amountsOkS xs n m = some (decide ((xs.length : Int) = n ∧ ∀ x ∈ xs, 0 ≤ x ∧ x ≤ m)) := by
  unfold impl_amountsOkS
  by_cases hn : (xs.length : Int) = n
  · rw [if_neg (by simp [hn])]
    apply Ret.eq
    refine Ret.loopb (fun s => ∃ k : Nat, s = k ∧ k ≤ xs.length ∧ ∀ x ∈ xs.take k, 0 ≤ x ∧ x ≤ m) (fun s => xs.length - s.toNat) (fun r => (match r with | .inl _ => true | .inr b => b) = decide (∀ x ∈ xs, 0 ≤ x ∧ x ≤ m)) ⟨0, rfl, by omega, by simp⟩ ?_ (fun r hr => ?_)
    · rintro s ⟨k, rfl, hle, ht⟩
      refine Ret.ite (fun hlt => ?_) (fun hge => ?_)
      · have hlt' : k < xs.length := by simpa using hlt
        rw [geti_lt' hlt', Option.bind_some]
        refine Ret.ite (fun hne => ?_) (fun he => ?_)
        · refine Ret.pure ?_
          simp only [Bool.or_eq_true, decide_eq_true_eq] at hne
          have : ¬ ∀ x ∈ xs, 0 ≤ x ∧ x ≤ m := fun hall => by have := hall xs[k] (List.getElem_mem _); omega
          simp only [this, decide_false]
        · refine Ret.pure ⟨⟨k + 1, wr_succ (n := xs.length) h hlt', by omega, ?_⟩, ?_⟩
          · rw [List.take_succ_eq_append_getElem hlt']
            simp only [Bool.or_eq_false_iff, decide_eq_false_iff_not] at he
            intro x hx
            rcases List.mem_append.1 hx with hx | hx
            · exact ht x hx
            · simp at hx; subst hx; omega
          · rw [wr_succ (n := xs.length) h hlt']; simp; omega
      · have hge' : xs.length ≤ k := by simpa using hge
        refine Ret.pure ?_
        rw [List.take_of_length_le hge'] at ht
        simp only [decide_eq_true ht]
    · simp only [hn, true_and]
      cases r with
      | inl u => exact Ret.pure hr
      | inr b => exact Ret.pure hr
  · rw [if_pos (by simp [hn])]
    simp [hn]
/-- is it a menu? -/
def MenuOk (g : Int) (m : List Int) : Prop := 0 ≤ g ∧ g ≤ 6 ∧ m.length ≤ 6 ∧ ∀ x ∈ m, 0 ≤ x ∧ x ≤ 2 ^ g.toNat - 1
instance (g : Int) (m : List Int) : Decidable (MenuOk g m) := by unfold MenuOk; infer_instance
theorem ishl_one {g : Int} (h0 : 0 ≤ g) (h : g ≤ 60) : ishl .i64 1 g = 2 ^ g.toNat ∧ (1 : Int) ≤ 2 ^ g.toNat ∧ (2 : Int) ^ g.toNat ≤ 1152921504606846976 := by
  obtain ⟨n, rfl⟩ := Int.eq_ofNat_of_zero_le h0
  have hn : n ≤ 60 := by omega
  have h1 : (2 : Int) ^ n ≤ 2 ^ 60 := by exact_mod_cast Nat.pow_le_pow_right (by omega) hn
  have h2 : (1 : Int) ≤ 2 ^ n := by exact_mod_cast Nat.one_le_two_pow
  have h3 : (2 : Int) ^ 60 = 1152921504606846976 := by decide
  refine ⟨?_, by simpa using h2, by simpa [h3] using h1⟩
  unfold ishl
  simp only [Int.toNat_natCast, Int.one_mul, IntKind.bits]
  rw [Nat.min_eq_left (by omega), wr ⟨by omega, by omega⟩]
theorem everybody_eq {g : Int} (h0 : 0 ≤ g) (h : g ≤ 60) : impl_everybodyS g = some (2 ^ g.toNat - 1) := by
  unfold impl_everybodyS ishlO
  obtain ⟨h1, h2, h3⟩ := ishl_one h0 h
  rw [if_neg (by simp; omega), Option.bind_some, h1, wr ⟨by omega, by omega⟩]
theorem implMenuValid_eq (g : Int) (m : List Int) (h : m.length ≤ 4611686018427387904) : impl_MenuValidS g m = some (decide (MenuOk g m)) := by
  unfold impl_MenuValidS
  by_cases hc : (0 ≤ g ∧ g ≤ 6) ∧ m.length ≤ 6
  · obtain ⟨⟨h0, h1⟩, h2⟩ := hc
    rw [if_neg (by simp; omega), everybody_eq h0 (by omega), Option.bind_some, amountsOk_eq m _ _ h, Option.bind_some]
    simp only [MenuOk, h0, h1, h2, true_and]
  · rw [if_pos (by simp; omega)]
    have : ¬ MenuOk g m := by rintro ⟨h0, h1, h2, _⟩; exact hc ⟨⟨h0, h1⟩, h2⟩
    rw [decide_eq_false this]
theorem specMenuValid_eq (g : Int) (m : List Int) (h : m.length ≤ 4611686018427387904) : spec_MenuValidS g m = some (decide (MenuOk g m)) := by
  unfold spec_MenuValidS
  simp only [l1In_eq, Option.bind_some]
  by_cases hg : 0 ≤ g ∧ g ≤ 6
  · obtain ⟨h0, h1⟩ := hg
    obtain ⟨e1, e2, e3⟩ := ishl_one h0 (by omega : g ≤ 60)
    have hsh : ishlO .i64 1 g = some (2 ^ g.toNat) := by unfold ishlO; rw [if_neg (by simp; omega), e1]
    rw [if_neg (by simp; omega)]
    simp only [hsh, Option.bind_some, wr (x := 2 ^ g.toNat - 1) ⟨by omega, by omega⟩]
    apply Ret.eq
    refine Ret.loopb (fun s => ∃ k : Nat, s = k ∧ k ≤ m.length ∧ ∀ x ∈ m.take k, 0 ≤ x ∧ x ≤ 2 ^ g.toNat - 1) (fun s => m.length - s.toNat) (fun r => match r with | .inl _ => ∀ x ∈ m, 0 ≤ x ∧ x ≤ 2 ^ g.toNat - 1 | .inr b => b = false ∧ ¬ ∀ x ∈ m, 0 ≤ x ∧ x ≤ 2 ^ g.toNat - 1) ⟨0, rfl, by omega, by simp⟩ ?_ (fun r hr => ?_)
    · rintro s ⟨k, rfl, hle, ht⟩
      refine Ret.ite (fun hlt => ?_) (fun hge => ?_)
      · have hlt' : k < m.length := by simpa using hlt
        rw [geti_lt' hlt', Option.bind_some]
        refine Ret.ite (fun hne => ?_) (fun he => ?_)
        · refine Ret.pure ⟨rfl, fun hall => ?_⟩
          have := hall m[k] (List.getElem_mem _)
          simp only [Bool.not_eq_true', decide_eq_false_iff_not] at hne
          exact hne this
        · refine Ret.pure ⟨⟨k + 1, wr_succ (n := m.length) h hlt', by omega, ?_⟩, ?_⟩
          · rw [List.take_succ_eq_append_getElem hlt']
            simp only [Bool.not_eq_false', decide_eq_true_eq] at he
            intro x hx
            rcases List.mem_append.1 hx with hx | hx
            · exact ht x hx
            · simp at hx; subst hx; exact he
          · rw [wr_succ (n := m.length) h hlt']; simp; omega
      · have hge' : m.length ≤ k := by simpa using hge
        rw [List.take_of_length_le hge'] at ht
        exact Ret.pure ht
    · cases r with
      | inl u =>
        refine Ret.pure ?_
        have hr' : ∀ x ∈ m, 0 ≤ x ∧ x ≤ 2 ^ g.toNat - 1 := hr
        by_cases hl : m.length ≤ 6
        · have h3 : MenuOk g m := by unfold MenuOk; exact ⟨h0, h1, hl, hr'⟩
          rw [decide_eq_true h3, decide_eq_true (by omega)]
        · have h3 : ¬ MenuOk g m := by rintro ⟨_, _, h4, _⟩; exact hl h4
          rw [decide_eq_false h3, decide_eq_false (by omega)]
      | inr b =>
        refine Ret.pure ?_
        obtain ⟨rfl, hr⟩ := hr
        have : ¬ MenuOk g m := by rintro ⟨_, _, _, h4⟩; exact hr h4
        rw [decide_eq_false this]
  · rw [if_pos (by simp; omega)]
    have : ¬ MenuOk g m := by rintro ⟨h0, h1, _⟩; exact hg ⟨h0, h1⟩
    rw [decide_eq_false this]
theorem pl_FnExactMenuValid (g : Int) (_ : InR g) (m : List Int) (_ : ∀ n ∈ m, InR n) : laws_FnExactMenuValidS g m = some true := by
  unfold laws_FnExactMenuValidS
  by_cases h : m.length ≤ 1048576
  · rw [if_neg (by simp; omega)]
    simp [toIntS_eq m h, specMenuValid_eq g m (by omega), implMenuValid_eq g m (by omega), eqIntS_eq m m (by omega)]
  · rw [if_pos (by simp; omega)]
end Go.Proofs.Ytefgdbldkdgogaa
