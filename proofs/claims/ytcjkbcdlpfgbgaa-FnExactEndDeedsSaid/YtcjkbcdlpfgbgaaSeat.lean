/- Chapter 6: seats. Own work; no program in sight. -/
import Derived.Test.YtcjkbcdlpfgbgaaQuar
set_option linter.unusedVariables false
namespace Go.Proofs.Ytcjkbcdlpfgbgaa
open Go Go.RowKit
theorem geti_getD {s : List Int} {k : Nat} (h : k < s.length) : geti s (k : Int) = some (s.getD k 0) := by rw [geti_lt' h, getD_lt h]
theorem quarValid_nat {g : Int} {q : List Int} (h : quarValid g q = true) : ∃ qs : List Nat, q = qs.map (fun x : Nat => (x : Int)) ∧ g = (qs.length : Int) ∧ qs.length ≤ 6 ∧ (∀ x ∈ qs, x < 2 ^ qs.length) ∧ quarOk qs = true := by
  unfold quarValid at h
  rw [Bool.and_eq_true, decide_eq_true_eq] at h
  obtain ⟨qs, rfl, hg, hn, hx⟩ := quar_nat h.1
  rw [map_toNat] at h
  exact ⟨qs, rfl, hg, hn, hx, h.2⟩
/-- what a valid list of quarrels gives -/
theorem quar_self {qs : List Nat} (h : quarOk qs = true) {i : Nat} (hi : i < qs.length) : (nth qs i).testBit i = false := by
  have := (List.all_eq_true.1 h) i (List.mem_range.2 hi)
  rw [Bool.and_eq_true] at this
  simpa using this.1
theorem quar_sym {qs : List Nat} (h : quarOk qs = true) {i j : Nat} (hi : i < qs.length) (hj : j < i) : (nth qs i).testBit j = (nth qs j).testBit i := by
  have := (List.all_eq_true.1 h) i (List.mem_range.2 hi)
  rw [Bool.and_eq_true, List.all_eq_true] at this
  have := this.2 j (List.mem_range.2 hj)
  rwa [beq_iff_eq] at this
def seatsApart (qs : List Nat) (s : List Int) : Bool := (List.range qs.length).all fun i => (List.range i).all fun j => !((nth qs i).testBit j && (s.getD i 0 == s.getD j 0))
def seatsApartI (qs : List Nat) (s : List Int) : Bool := (List.range qs.length).all fun i => (members (nth qs i)).all fun j => !(s.getD i 0 == s.getD j 0)
theorem seatsApartI_eq {qs : List Nat} (s : List Int) (hn : qs.length ≤ 6) (hx : ∀ x ∈ qs, x < 2 ^ qs.length) (hq : quarOk qs = true) : seatsApartI qs s = seatsApart qs s := by
  unfold seatsApartI seatsApart
  rw [Bool.eq_iff_iff, List.all_eq_true, List.all_eq_true]
  constructor
  · intro h i hi
    have hin := List.mem_range.1 hi
    have xi := p6 hn (hx _ (nth_mem hin))
    have h1 := h i hi
    rw [List.all_eq_true] at h1 ⊢
    intro j hj
    cases hb : (nth qs i).testBit j
    · rfl
    · exact h1 j ((mem_members (by omega)).2 hb)
  · intro h i hi
    have hin := List.mem_range.1 hi
    have xi := hx _ (nth_mem hin)
    have h1 := h i hi
    rw [List.all_eq_true] at h1 ⊢
    intro j hj
    have hb := (mem_members (by have := p6 hn xi; omega)).1 hj
    have hjn := bit_lt xi hb
    rcases Nat.lt_trichotomy j i with hlt | heq | hgt
    · have := h1 j (List.mem_range.2 hlt)
      rwa [hb, Bool.true_and] at this
    · subst heq; rw [quar_self hq hin] at hb; cases hb
    · have h2 := h j (List.mem_range.2 hjn)
      rw [List.all_eq_true] at h2
      have h3 := h2 i (List.mem_range.2 hgt)
      rw [quar_sym hq hjn hgt, hb, Bool.true_and] at h3
      rw [Bool.beq_comm]; exact h3
def seatsOk (g : Int) (q s : List Int) : Bool := quarValid g q && (decide ((s.length : Int) = g ∧ ∀ x ∈ s, 0 ≤ x ∧ x ≤ g - 1) && seatsApart (q.map Int.toNat) s)
end Go.Proofs.Ytcjkbcdlpfgbgaa
