/- Chapter 6: quarrels. Own work; no program in sight. -/
import Derived.Test.YtcjkbcdlpfgbgaaPop
set_option linter.unusedVariables false
namespace Go.Proofs.Ytcjkbcdlpfgbgaa
open Go Go.RowKit
/-- a loop that counts to n and leaves at the first number that fails -/
theorem loopAll (n : Nat) (p : Nat → Bool) (step : Int → Option (Int ⊕ (Unit ⊕ Bool)))
    (h : ∀ k : Nat, k < n → step (k : Int) = some (if p k then .inl ((k + 1 : Nat) : Int) else .inr (.inr false))) (he : step (n : Int) = some (.inr (.inl ()))) :
    loop (σ := Int) (ρ := Unit ⊕ Bool) step 0 = some (if (List.range n).all p then .inl () else .inr false) := by
  apply Ret.eq
  refine Ret.loop (fun s => ∃ k : Nat, s = (k : Int) ∧ k ≤ n ∧ (List.range k).all p = true) (fun s => n - s.toNat) ⟨0, rfl, by omega, by simp⟩ ?_
  rintro s ⟨k, rfl, hle, ha⟩
  by_cases hk : k < n
  · rw [h k hk]
    cases hp : p k
    · refine Ret.pure ?_
      have : ¬ ((List.range n).all p = true) := by
        intro hall
        have := List.all_eq_true.1 hall k (List.mem_range.2 hk)
        rw [hp] at this; cases this
      rw [if_neg this]; rfl
    · refine Ret.pure ⟨⟨k + 1, rfl, by omega, ?_⟩, by simp; omega⟩
      rw [List.range_succ, List.all_append, ha]; simp [hp]
  · have : k = n := by omega
    subst this
    rw [he]
    refine Ret.pure ?_
    rw [if_pos ha]
theorem fin2 (b : Bool) : (match (if b = true then .inl () else .inr false : Unit ⊕ Bool) with | .inl _ => some true | .inr p => some p) = some b := by cases b <;> rfl
theorem fin3 (b : Bool) (z : Int) : (match (if b = true then .inl () else .inr false : Unit ⊕ Bool) with | .inl _ => some (.inl z : Int ⊕ (Unit ⊕ Bool)) | .inr p => some (.inr (.inr p))) = some (if b = true then .inl z else .inr (.inr false)) := by cases b <;> rfl
/-- the members of a set, to a bound -/
def membersTo (x k : Nat) : List Nat := (List.range k).filter (fun i => x.testBit i)
def members (x : Nat) : List Nat := membersTo x 64
theorem membersTo_succ (x k : Nat) : membersTo x (k + 1) = membersTo x k ++ (if x.testBit k then [k] else []) := by
  unfold membersTo
  rw [List.range_succ, List.filter_append]
  cases h : x.testBit k <;> simp [h]
theorem membersTo_zero {x i : Nat} (h : x >>> i = 0) : ∀ d, membersTo x (i + d) = membersTo x i
  | 0 => rfl
  | d + 1 => by
    have : x.testBit (i + d) = false := by rw [← Nat.testBit_shiftRight, h]; simp
    rw [← Nat.add_assoc, membersTo_succ, membersTo_zero h d, this]; simp
theorem mem_members {x i : Nat} (hx : x < 18446744073709551616) : i ∈ members x ↔ x.testBit i = true := by
  unfold members membersTo
  rw [List.mem_filter, List.mem_range]
  constructor
  · exact fun h => h.2
  · intro h
    refine ⟨?_, h⟩
    rcases Nat.lt_or_ge i 64 with hi | hi
    · exact hi
    · have : x < 2 ^ i := Nat.lt_of_lt_of_le hx (Nat.pow_le_pow_right (n := 2) (by omega) hi)
      rw [Nat.testBit_lt_two_pow this] at h; cases h
theorem membersTo_length (x : Nat) : ∀ k, (membersTo x k).length ≤ k
  | 0 => by simp [membersTo]
  | k + 1 => by rw [membersTo_succ, List.length_append]; have := membersTo_length x k; split <;> simp <;> omega
/-- the sets of quarrels: entry i of the list, as a set -/
def nth (qs : List Nat) (i : Nat) : Nat := qs.getD i 0
theorem nth_lt {qs : List Nat} {k : Nat} (h : k < qs.length) : nth qs k = qs[k] := by unfold nth; rw [List.getD_eq_getElem?_getD, List.getElem?_eq_getElem h]; rfl
theorem geti_nth {qs : List Nat} {k : Nat} (h : k < qs.length) : geti (qs.map (fun x : Nat => (x : Int))) (k : Int) = some ((nth qs k : Nat) : Int) := by rw [geti_map h, nth_lt h]
theorem nth_mem {qs : List Nat} {k : Nat} (h : k < qs.length) : nth qs k ∈ qs := by rw [nth_lt h]; exact List.getElem_mem h
def quarOk (qs : List Nat) : Bool := (List.range qs.length).all fun i => !(nth qs i).testBit i && (List.range i).all fun j => (nth qs i).testBit j == (nth qs j).testBit i
def quarImpl (qs : List Nat) : Bool := (List.range qs.length).all fun i => !(nth qs i).testBit i && (members (nth qs i)).all fun j => (nth qs j).testBit i
theorem range_all_nth (l : List Nat) (f : Nat → Bool) : (List.range l.length).all (fun k => f (nth l k)) = l.all f := by
  rw [Bool.eq_iff_iff, List.all_eq_true, List.all_eq_true]
  constructor
  · intro h x hx
    obtain ⟨k, hk, rfl⟩ := List.getElem_of_mem hx
    have := h k (List.mem_range.2 hk)
    rwa [nth_lt hk] at this
  · intro h k hk
    exact h _ (nth_mem (List.mem_range.1 hk))
theorem bit_lt {x n i : Nat} (h : x < 2 ^ n) (hb : x.testBit i = true) : i < n := by
  rcases Nat.lt_or_ge i n with hi | hi
  · exact hi
  · rw [Nat.testBit_lt_two_pow (Nat.lt_of_lt_of_le h (Nat.pow_le_pow_right (n := 2) (by omega) hi))] at hb; cases hb
theorem quarImpl_eq {qs : List Nat} (hn : qs.length ≤ 6) (h : ∀ x ∈ qs, x < 2 ^ qs.length) : quarImpl qs = quarOk qs := by
  unfold quarImpl quarOk
  rw [Bool.eq_iff_iff, List.all_eq_true, List.all_eq_true]
  constructor
  · intro hi i hr
    have hin := List.mem_range.1 hr
    have h1 := hi i hr
    rw [Bool.and_eq_true, List.all_eq_true] at h1 ⊢
    refine ⟨h1.1, fun j hj => ?_⟩
    have hj' := List.mem_range.1 hj
    have h2 := hi j (List.mem_range.2 (by omega))
    rw [Bool.and_eq_true, List.all_eq_true] at h2
    have xi := p6 hn (h _ (nth_mem hin))
    have xj := p6 hn (h _ (nth_mem (show j < qs.length by omega)))
    rw [beq_iff_eq, Bool.eq_iff_iff]
    exact ⟨fun hb => h1.2 j ((mem_members (by omega)).2 hb), fun hb => h2.2 i ((mem_members (by omega)).2 hb)⟩
  · intro hi i hr
    have hin := List.mem_range.1 hr
    have h1 := hi i hr
    rw [Bool.and_eq_true, List.all_eq_true] at h1 ⊢
    refine ⟨h1.1, fun j hj => ?_⟩
    have xi := h _ (nth_mem hin)
    have hb := (mem_members (by have := p6 hn xi; omega)).1 hj
    have hjn := bit_lt xi hb
    rcases Nat.lt_trichotomy j i with hlt | heq | hgt
    · have := h1.2 j (List.mem_range.2 hlt)
      rw [beq_iff_eq] at this; rw [← this]; exact hb
    · subst heq; simp [hb] at h1
    · have h2 := hi j (List.mem_range.2 hjn)
      rw [Bool.and_eq_true, List.all_eq_true] at h2
      have := h2.2 i (List.mem_range.2 hgt)
      rw [beq_iff_eq] at this; rw [this]; exact hb
def QuarIn (g : Int) (q : List Int) : Prop := (0 ≤ g ∧ g ≤ 6) ∧ (q.length : Int) = g ∧ ∀ x ∈ q, 0 ≤ x ∧ x ≤ 2 ^ g.toNat - 1
instance (g : Int) (q : List Int) : Decidable (QuarIn g q) := by unfold QuarIn; infer_instance
def quarValid (g : Int) (q : List Int) : Bool := decide (QuarIn g q) && quarOk (q.map Int.toNat)
theorem quar_nat {g : Int} {q : List Int} (h : QuarIn g q) : ∃ qs : List Nat, q = qs.map (fun x : Nat => (x : Int)) ∧ g = (qs.length : Int) ∧ qs.length ≤ 6 ∧ ∀ x ∈ qs, x < 2 ^ qs.length := by
  obtain ⟨⟨h0, h1⟩, h2, h3⟩ := h
  have hm : MenuOk g q := ⟨h0, h1, by omega, h3⟩
  obtain ⟨n, ms, hg, hn, rfl, hl, hx⟩ := menu_nat hm
  have : n = ms.length := by simp at h2; omega
  subst this
  exact ⟨ms, rfl, hg, hn, hx⟩
theorem shr_bits_ne (a b j i : Nat) : (Int.tmod ((a >>> j : Nat) : Int) 2 != Int.tmod ((b >>> i : Nat) : Int) 2) = !(a.testBit j == b.testBit i) := by
  rw [tmod2, tmod2, ← shr_bit, ← shr_bit, tmod2, tmod2]
  have h1 : a >>> j % 2 = 0 ∨ a >>> j % 2 = 1 := by omega
  have h2 : b >>> i % 2 = 0 ∨ b >>> i % 2 = 1 := by omega
  rcases h1 with h1 | h1 <;> rcases h2 with h2 | h2 <;> rw [h1, h2] <;> rfl
def inSet (n : Nat) (x : Int) : Bool := decide (0 ≤ x ∧ x ≤ ((2 ^ n : Nat) : Int) - 1)
theorem nth_toNat {q : List Int} {k : Nat} (h : k < q.length) : nth (q.map Int.toNat) k = q[k].toNat := by rw [nth_lt (by simpa using h)]; simp
def quarSpec (q : List Int) : Bool := (List.range q.length).all fun i => inSet q.length (q.getD i 0) && (!(nth (q.map Int.toNat) i).testBit i && (List.range i).all fun j => inSet q.length (q.getD j 0) && ((nth (q.map Int.toNat) i).testBit j == (nth (q.map Int.toNat) j).testBit i))
theorem getD_lt {q : List Int} {k : Nat} (h : k < q.length) : q.getD k 0 = q[k] := by rw [List.getD_eq_getElem?_getD, List.getElem?_eq_getElem h]; rfl
theorem quarSpec_eq (q : List Int) : quarSpec q = (decide (∀ x ∈ q, 0 ≤ x ∧ x ≤ ((2 ^ q.length : Nat) : Int) - 1) && quarOk (q.map Int.toNat)) := by
  unfold quarSpec quarOk
  rw [Bool.eq_iff_iff, Bool.and_eq_true, decide_eq_true_eq, List.all_eq_true, List.all_eq_true, List.length_map]
  constructor
  · intro h
    refine ⟨fun x hx => ?_, fun i hi => ?_⟩
    · obtain ⟨k, hk, rfl⟩ := List.getElem_of_mem hx
      have := h k (List.mem_range.2 hk)
      rw [Bool.and_eq_true, getD_lt hk] at this
      exact of_decide_eq_true this.1
    · have := h i hi
      rw [Bool.and_eq_true, Bool.and_eq_true, List.all_eq_true] at this
      rw [Bool.and_eq_true, List.all_eq_true]
      refine ⟨this.2.1, fun j hj => ?_⟩
      have h2 := this.2.2 j hj
      rw [Bool.and_eq_true] at h2
      exact h2.2
  · rintro ⟨hr, h⟩ i hi
    have hin := List.mem_range.1 hi
    have := h i hi
    rw [Bool.and_eq_true, List.all_eq_true] at this
    rw [Bool.and_eq_true, Bool.and_eq_true, List.all_eq_true]
    refine ⟨by rw [getD_lt hin]; exact decide_eq_true (hr _ (List.getElem_mem hin)), this.1, fun j hj => ?_⟩
    have hjn : j < q.length := by have := List.mem_range.1 hj; omega
    rw [Bool.and_eq_true]
    exact ⟨by rw [getD_lt hjn]; exact decide_eq_true (hr _ (List.getElem_mem hjn)), this.2 j hj⟩
end Go.Proofs.Ytcjkbcdlpfgbgaa
