/- Loops that go on as a function of the count says; the greatest of what holds. Own work; no program in sight. -/
import Derived.Test.YtcjkbcdlpfgbgaaLoop2
set_option linter.unusedVariables false
namespace Go.Proofs.Ytcjkbcdlpfgbgaa
open Go Go.RowKit
theorem loopDet {τ ρ : Type} {step : τ → Option (τ ⊕ ρ)} {s : τ} (F : Nat → τ) (n : Nat) (r : ρ) (h0 : s = F 0)
    (h : ∀ k, k < n → step (F k) = some (.inl (F (k + 1)))) (he : step (F n) = some (.inr r)) : loop (σ := τ) (ρ := ρ) step s = some r := by
  have key : ∀ d k, k + d = n → loop (σ := τ) (ρ := ρ) step (F k) = some r := by
    intro d
    induction d with
    | zero => intro k hk; rw [Nat.add_zero] at hk; subst hk; rw [loop_eq, he]
    | succ d ih => intro k hk; rw [loop_eq, h k (by omega)]; exact ih (k + 1) (by omega)
  rw [h0]; exact key n 0 (by omega)
/-- the first of the numbers below n at which the loop is left -/
def firstOf {ρ : Type} (p : Nat → Option ρ) : Nat → Nat → Option ρ
  | _, 0 => none
  | k, n + 1 => match p k with
    | some r => some r
    | none => firstOf p (k + 1) n
theorem loopExit {τ ρ : Type} {step : τ → Option (τ ⊕ ρ)} {s : τ} (F : Nat → τ) (n : Nat) (p : Nat → Option ρ) (e : ρ) (h0 : s = F 0)
    (h : ∀ k, k < n → step (F k) = some (match p k with | none => .inl (F (k + 1)) | some r => .inr r)) (he : step (F n) = some (.inr e)) : loop (σ := τ) (ρ := ρ) step s = some ((firstOf p 0 n).getD e) := by
  have key : ∀ d k, k + d = n → loop (σ := τ) (ρ := ρ) step (F k) = some ((firstOf p k d).getD e) := by
    intro d
    induction d with
    | zero => intro k hk; rw [Nat.add_zero] at hk; subst hk; rw [loop_eq, he]; rfl
    | succ d ih =>
      intro k hk
      rw [loop_eq, h k (by omega)]
      unfold firstOf
      cases p k with
      | none => exact ih (k + 1) (by omega)
      | some r => rfl
  rw [h0]; exact key n 0 (by omega)
/-- a loop that counts to n and leaves at the first number that fails; the step is known only where all before have passed -/
theorem loopAllP (n : Nat) (p : Nat → Bool) {step : Int → Option (Int ⊕ (Unit ⊕ Bool))}
    (h : ∀ k : Nat, k < n → (∀ j, j < k → p j = true) → step (k : Int) = some (if p k then .inl ((k + 1 : Nat) : Int) else .inr (.inr false))) (he : step (n : Int) = some (.inr (.inl ()))) :
    loop (σ := Int) (ρ := Unit ⊕ Bool) step 0 = some (if (List.range n).all p then .inl () else .inr false) := by
  have key : ∀ d k, k + d = n → (∀ j, j < k → p j = true) → loop (σ := Int) (ρ := Unit ⊕ Bool) step (k : Int) = some (if (List.range n).all p then .inl () else .inr false) := by
    intro d
    induction d with
    | zero =>
      intro k hk hp
      rw [Nat.add_zero] at hk; subst hk
      rw [loop_eq, he, if_pos (List.all_eq_true.2 fun j hj => hp j (List.mem_range.1 hj))]
    | succ d ih =>
      intro k hk hp
      rw [loop_eq, h k (by omega) hp]
      by_cases hpk : p k = true
      · rw [if_pos hpk]
        refine ih (k + 1) (by omega) fun j hj => ?_
        rcases Nat.lt_or_ge j k with h1 | h1
        · exact hp j h1
        · have : j = k := by omega
          subst this; exact hpk
      · have : ¬ ((List.range n).all p = true) := fun hall => hpk (List.all_eq_true.1 hall k (List.mem_range.2 (by omega)))
        rw [if_neg hpk, if_neg this]
  exact key n 0 (by omega) fun j hj => by omega
/-- two loops whose states stay related leave with related results -/
theorem loop_sim {σ τ ρ ρ' : Type} {f : σ → Option (σ ⊕ ρ)} {g : τ → Option (τ ⊕ ρ')} {s : σ} {t : τ} (R : σ → τ → Prop) (O : ρ → ρ' → Prop) (μ : σ → Nat) (h0 : R s t)
    (hs : ∀ s t, R s t → (∃ s' t', f s = some (.inl s') ∧ g t = some (.inl t') ∧ R s' t' ∧ μ s' < μ s) ∨ ∃ r r', f s = some (.inr r) ∧ g t = some (.inr r') ∧ O r r') :
    ∃ r r', loop (σ := σ) (ρ := ρ) f s = some r ∧ loop (σ := τ) (ρ := ρ') g t = some r' ∧ O r r' := by
  have key : ∀ n s t, μ s < n → R s t → ∃ r r', loop (σ := σ) (ρ := ρ) f s = some r ∧ loop (σ := τ) (ρ := ρ') g t = some r' ∧ O r r' := by
    intro n
    induction n with
    | zero => intro s t h; omega
    | succ n ih =>
      intro s t hlt hR
      rw [loop_eq, loop_eq (step := g)]
      rcases hs s t hR with ⟨s', t', h1, h2, h3, h4⟩ | ⟨r, r', h1, h2, h3⟩
      · rw [h1, h2]; exact ih s' t' (by omega) h3
      · rw [h1, h2]; exact ⟨r, r', rfl, rfl, h3⟩
  exact key (μ s + 1) s t (by omega) h0
/-- the greatest f k of those below n for which p holds; 0 if there is none -/
def maxTo (p : Nat → Bool) (f : Nat → Nat) : Nat → Nat
  | 0 => 0
  | k + 1 => if p k then max (maxTo p f k) (f k) else maxTo p f k
theorem le_maxTo {p : Nat → Bool} {f : Nat → Nat} : ∀ {n i : Nat}, i < n → p i = true → f i ≤ maxTo p f n
  | 0, _, h, _ => by omega
  | n + 1, i, h, hp => by
    unfold maxTo
    rcases Nat.lt_or_ge i n with hi | hi
    · have := le_maxTo (f := f) hi hp
      split <;> omega
    · have : i = n := by omega
      subst this
      rw [if_pos hp]; omega
theorem maxTo_le {p : Nat → Bool} {f : Nat → Nat} {b : Nat} : ∀ {n : Nat}, (∀ i, i < n → p i = true → f i ≤ b) → maxTo p f n ≤ b
  | 0, _ => Nat.zero_le _
  | n + 1, h => by
    have h1 := maxTo_le (n := n) (fun i hi hp => h i (by omega) hp)
    unfold maxTo
    split
    · rename_i hp; have := h n (by omega) hp; omega
    · exact h1
theorem maxTo_at {p : Nat → Bool} {f : Nat → Nat} : ∀ {n : Nat}, 0 < maxTo p f n → ∃ i, i < n ∧ p i = true ∧ f i = maxTo p f n
  | 0, h => by simp [maxTo] at h
  | n + 1, h => by
    unfold maxTo at h ⊢
    by_cases hp : p n = true
    · rw [if_pos hp] at h ⊢
      rcases Nat.lt_or_ge (maxTo p f n) (f n) with h1 | h1
      · exact ⟨n, by omega, hp, by omega⟩
      · obtain ⟨i, hi, h2, h3⟩ := maxTo_at (n := n) (p := p) (f := f) (by omega)
        exact ⟨i, by omega, h2, by omega⟩
    · rw [if_neg hp] at h ⊢
      obtain ⟨i, hi, h2, h3⟩ := maxTo_at h
      exact ⟨i, by omega, h2, h3⟩
theorem maxTo_congr {p p' : Nat → Bool} {f f' : Nat → Nat} : ∀ {n : Nat}, (∀ i, i < n → p i = p' i ∧ f i = f' i) → maxTo p f n = maxTo p' f' n
  | 0, _ => rfl
  | n + 1, h => by
    unfold maxTo
    rw [maxTo_congr (n := n) (fun i hi => h i (by omega)), (h n (by omega)).1, (h n (by omega)).2]
theorem max_cast (a b : Nat) : (if (b : Int) > (a : Int) then (b : Int) else (a : Int)) = ((max a b : Nat) : Int) := by
  by_cases h : a < b
  · rw [if_pos (by omega)]; omega
  · rw [if_neg (by omega)]; omega
theorem min_cast (a b : Nat) : (if (b : Int) < (a : Int) then (b : Int) else (a : Int)) = ((min a b : Nat) : Int) := by
  by_cases h : b < a
  · rw [if_pos (by omega)]; omega
  · rw [if_neg (by omega)]; omega
theorem all_take_succ (l : List Nat) (f : Nat → Bool) {i : Nat} (h : i < l.length) : (l.take (i + 1)).all f = ((l.take i).all f && f (nth l i)) := by
  rw [List.take_succ_eq_append_getElem h, List.all_append, nth_lt h]; simp
theorem all_range_succ (f : Nat → Bool) (n : Nat) : (List.range (n + 1)).all f = ((List.range n).all f && f n) := by
  rw [List.range_succ, List.all_append]; simp
end Go.Proofs.Ytcjkbcdlpfgbgaa
