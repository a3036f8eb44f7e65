/- Loops over lists of anything, membership, copies. Own work; no program in sight. -/
import Derived.Test.YtcjkbcdlpfgbgaaDet
set_option linter.unusedVariables false
namespace Go.Proofs.Ytcjkbcdlpfgbgaa
open Go Go.RowKit
theorem loopAllF {τ : Type} {step : τ → Option (τ ⊕ (Unit ⊕ Bool))} {s : τ} (F : Nat → τ) (n : Nat) (p : Nat → Bool) (h0 : s = F 0)
    (h : ∀ k, k < n → (∀ j, j < k → p j = true) → step (F k) = some (if p k then .inl (F (k + 1)) else .inr (.inr false))) (he : (∀ j, j < n → p j = true) → step (F n) = some (.inr (.inl ()))) :
    loop (σ := τ) (ρ := Unit ⊕ Bool) step s = some (if (List.range n).all p then .inl () else .inr false) := by
  have key : ∀ d k, k + d = n → (∀ j, j < k → p j = true) → loop (σ := τ) (ρ := Unit ⊕ Bool) step (F k) = some (if (List.range n).all p then .inl () else .inr false) := by
    intro d
    induction d with
    | zero =>
      intro k hk hp
      rw [Nat.add_zero] at hk; subst hk
      rw [loop_eq, he hp, if_pos (List.all_eq_true.2 fun j hj => hp j (List.mem_range.1 hj))]
    | succ d ih =>
      intro k hk hp
      rw [loop_eq, h k (by omega) hp]
      by_cases hpk : p k = true
      · rw [if_pos hpk]
        refine ih (k + 1) (by omega) fun j hj => ?_
        rcases Nat.lt_or_ge j k with h1 | h1
        · exact hp j h1
        · have : j = k := by omega
          subst this; exact hpk
      · have : ¬ ((List.range n).all p = true) := fun hall => hpk (List.all_eq_true.1 hall k (List.mem_range.2 (by omega)))
        rw [if_neg hpk, if_neg this]
  rw [h0]; exact key n 0 (by omega) fun j hj => by omega
/-- the element at k passes; true beyond the end -/
def atB {α : Type} (xs : List α) (p : α → Bool) (k : Nat) : Bool := match xs[k]? with | some x => p x | none => true
theorem atB_lt {α : Type} {xs : List α} {p : α → Bool} {k : Nat} (h : k < xs.length) : atB xs p k = p xs[k] := by unfold atB; rw [List.getElem?_eq_getElem h]
def allI {α : Type} (xs : List α) (p : Nat → α → Bool) : Bool := (List.range xs.length).all fun k => atB xs (p k) k
theorem allI_true {α : Type} {xs : List α} {p : Nat → α → Bool} : allI xs p = true ↔ ∀ k (h : k < xs.length), p k xs[k] = true := by
  unfold allI
  rw [List.all_eq_true]
  constructor
  · intro h k hk
    have := h k (List.mem_range.2 hk)
    rwa [atB_lt hk] at this
  · intro h k hk
    rw [atB_lt (List.mem_range.1 hk)]; exact h k _
theorem allI_all {α : Type} (xs : List α) (p : α → Bool) : allI xs (fun _ x => p x) = xs.all p := by
  rw [Bool.eq_iff_iff, allI_true, List.all_eq_true]
  constructor
  · intro h x hx
    obtain ⟨k, hk, rfl⟩ := List.mem_iff_getElem.1 hx
    exact h k hk
  · intro h k hk; exact h _ (List.getElem_mem hk)
theorem allI_congr {α : Type} {xs : List α} {p q : Nat → α → Bool} (h : ∀ k (hk : k < xs.length), p k xs[k] = q k xs[k]) : allI xs p = allI xs q := by
  rw [Bool.eq_iff_iff, allI_true, allI_true]
  constructor
  · intro hp k hk; rw [← h k hk]; exact hp k hk
  · intro hp k hk; rw [h k hk]; exact hp k hk
theorem allI_and {α : Type} (xs : List α) (p q : Nat → α → Bool) : allI xs (fun k x => p k x && q k x) = (allI xs p && allI xs q) := by
  rw [Bool.eq_iff_iff, Bool.and_eq_true, allI_true, allI_true, allI_true]
  simp only [Bool.and_eq_true]
  exact ⟨fun h => ⟨fun k hk => (h k hk).1, fun k hk => (h k hk).2⟩, fun h k hk => ⟨h.1 k hk, h.2 k hk⟩⟩
/-- a loop over the elements of a list that leaves at the first that fails -/
theorem loopList {α : Type} (xs : List α) (p : Nat → α → Bool) {step : Int → Option (Int ⊕ (Unit ⊕ Bool))}
    (h : ∀ k (hk : k < xs.length), step (k : Int) = some (if p k xs[k] then .inl ((k + 1 : Nat) : Int) else .inr (.inr false))) (he : step (xs.length : Int) = some (.inr (.inl ()))) :
    loop (σ := Int) (ρ := Unit ⊕ Bool) step 0 = some (if allI xs p then .inl () else .inr false) := by
  refine loopAllF (fun k => (k : Int)) xs.length (fun k => atB xs (p k) k) rfl (fun k hk _ => ?_) (fun _ => he)
  rw [atB_lt hk]; exact h k hk
theorem loopListF {α τ : Type} {step : τ → Option (τ ⊕ (Unit ⊕ Bool))} {s : τ} (F : Nat → τ) (xs : List α) (p : Nat → α → Bool) (h0 : s = F 0)
    (h : ∀ k (hk : k < xs.length), step (F k) = some (if p k xs[k] then .inl (F (k + 1)) else .inr (.inr false))) (he : step (F xs.length) = some (.inr (.inl ()))) :
    loop (σ := τ) (ρ := Unit ⊕ Bool) step s = some (if allI xs p then .inl () else .inr false) := by
  refine loopAllF F xs.length (fun k => atB xs (p k) k) h0 (fun k hk _ => ?_) (fun _ => he)
  rw [atB_lt hk]; exact h k hk
theorem lt_dec {k n : Nat} (h : k < n) : decide ((k : Int) < (n : Int)) = true := decide_eq_true (by omega)
theorem lt_self_dec (n : Nat) : decide ((n : Int) < (n : Int)) = false := decide_eq_false (by omega)
theorem mkO_nat {α : Type} (z : α) {n : Nat} (h : n ≤ 1099511627776) : mkO z (n : Int) = some (List.replicate n z) := by
  unfold mkO room; rw [if_pos (by simp; omega)]; simp
theorem appO_le {α : Type} {xs ys : List α} (h : xs.length + ys.length ≤ 1099511627776) : appO xs ys = some (xs ++ ys) := by
  unfold appO room; rw [if_pos (by simp; omega)]
/-- a loop that writes the elements of xs, or what they are turned to, one behind the other -/
theorem copyLoop {α β : Type} (xs : List α) (f : α → β) (z : β) {step : Int × List β → Option ((Int × List β) ⊕ List β)}
    (hs : ∀ k (hk : k < xs.length) (ys : List β), ys.length = xs.length → step ((k : Int), ys) = some (.inl (((k + 1 : Nat) : Int), ys.set k (f xs[k]))))
    (he : ∀ ys : List β, ys.length = xs.length → step ((xs.length : Int), ys) = some (.inr ys)) :
    loop (σ := Int × List β) (ρ := List β) step (0, List.replicate xs.length z) = some (xs.map f) := by
  refine loopDet (fun k => ((k : Int), (xs.take k).map f ++ List.replicate (xs.length - k) z)) xs.length _ (by simp) (fun k hk => ?_) ?_
  · rw [hs k hk _ (by simp; omega)]
    congr 3
    rw [List.set_append, if_neg (by simp; omega), List.take_succ_eq_append_getElem hk, List.map_append]
    rw [show k - ((xs.take k).map f).length = 0 by simp; omega, show xs.length - k = (xs.length - (k + 1)) + 1 by omega, List.replicate_succ, List.set_cons_zero]
    simp
  · rw [he _ (by simp)]; simp
theorem mem_take_succ {α : Type} {xs : List α} {v : α} {k : Nat} (h : k < xs.length) : v ∈ xs.take (k + 1) ↔ v ∈ xs.take k ∨ v = xs[k] := by
  rw [List.take_succ_eq_append_getElem h, List.mem_append, List.mem_singleton]
end Go.Proofs.Ytcjkbcdlpfgbgaa
