/- Chapter 6: seats. Own work; no program in sight. -/
import Derived.Test.YtidhmbmollkhdaaDoorQuar
set_option linter.unusedVariables false
namespace Go.Proofs.YtidhmbmollkhdaaDoor
open Go Go.RowKit
theorem geti_getD {s : List Int} {k : Nat} (h : k < s.length) : geti s (k : Int) = some (s.getD k 0) := by rw [geti_lt' h, getD_lt h]
theorem quarValid_nat {g : Int} {q : List Int} (h : quarValid g q = true) : ∃ qs : List Nat, q = qs.map (fun x : Nat => (x : Int)) ∧ g = (qs.length : Int) ∧ qs.length ≤ 6 ∧ (∀ x ∈ qs, x < 2 ^ qs.length) ∧ quarOk qs = true := by
  unfold quarValid at h
  rw [Bool.and_eq_true, decide_eq_true_eq] at h
  obtain ⟨qs, rfl, hg, hn, hx⟩ := quar_nat h.1
  rw [map_toNat] at h
  exact ⟨qs, rfl, hg, hn, hx, h.2⟩
/-- what a valid list of quarrels gives -/
theorem quar_self {qs : List Nat} (h : quarOk qs = true) {i : Nat} (hi : i < qs.length) : (nth qs i).testBit i = false := by
  have := (List.all_eq_true.1 h) i (List.mem_range.2 hi)
  rw [Bool.and_eq_true] at this
  simpa using this.1
theorem quar_sym {qs : List Nat} (h : quarOk qs = true) {i j : Nat} (hi : i < qs.length) (hj : j < i) : (nth qs i).testBit j = (nth qs j).testBit i := by
  have := (List.all_eq_true.1 h) i (List.mem_range.2 hi)
  rw [Bool.and_eq_true, List.all_eq_true] at this
  have := this.2 j (List.mem_range.2 hj)
  rwa [beq_iff_eq] at this
def seatsApart (qs : List Nat) (s : List Int) : Bool := (List.range qs.length).all fun i => (List.range i).all fun j => !((nth qs i).testBit j && (s.getD i 0 == s.getD j 0))
def seatsApartI (qs : List Nat) (s : List Int) : Bool := (List.range qs.length).all fun i => (members (nth qs i)).all fun j => !(s.getD i 0 == s.getD j 0)
theorem seatsApartI_eq {qs : List Nat} (s : List Int) (hn : qs.length ≤ 6) (hx : ∀ x ∈ qs, x < 2 ^ qs.length) (hq : quarOk qs = true) : seatsApartI qs s = seatsApart qs s := by
  unfold seatsApartI seatsApart
  rw [Bool.eq_iff_iff, List.all_eq_true, List.all_eq_true]
  constructor
  · intro h i hi
    have hin := List.mem_range.1 hi
    have xi := p6 hn (hx _ (nth_mem hin))
    have h1 := h i hi
    rw [List.all_eq_true] at h1 ⊢
    intro j hj
    cases hb : (nth qs i).testBit j
    · rfl
    · exact h1 j ((mem_members (by omega)).2 hb)
  · intro h i hi
    have hin := List.mem_range.1 hi
    have xi := hx _ (nth_mem hin)
    have h1 := h i hi
    rw [List.all_eq_true] at h1 ⊢
    intro j hj
    have hb := (mem_members (by have := p6 hn xi; omega)).1 hj
    have hjn := bit_lt xi hb
    rcases Nat.lt_trichotomy j i with hlt | heq | hgt
    · have := h1 j (List.mem_range.2 hlt)
      rwa [hb, Bool.true_and] at this
    · subst heq; rw [quar_self hq hin] at hb; cases hb
    · have h2 := h j (List.mem_range.2 hjn)
      rw [List.all_eq_true] at h2
      have h3 := h2 i (List.mem_range.2 hgt)
      rw [quar_sym hq hjn hgt, hb, Bool.true_and] at h3
      rw [Bool.beq_comm]; exact h3
def seatsOk (g : Int) (q s : List Int) : Bool := quarValid g q && (decide ((s.length : Int) = g ∧ ∀ x ∈ s, 0 ≤ x ∧ x ≤ g - 1) && seatsApart (q.map Int.toNat) s)
theorem implSeatsOk_eq (g : Int) (q s : List Int) (h : q.length ≤ 4611686018427387904) (h2 : s.length ≤ 4611686018427387904) : impl_SeatsOkS g q s = some (seatsOk g q s) := by
  unfold impl_SeatsOkS seatsOk
  rw [implQuarrelsValid_eq g q h, Option.bind_some]
  cases hv : quarValid g q
  · rfl
  · obtain ⟨qs, rfl, rfl, hn, hx, hq⟩ := quarValid_nat hv
    rw [wr (x := (qs.length : Int) - 1) ⟨by omega, by omega⟩, if_neg (by simp), amountsOk_eq s _ _ h2, Option.bind_some, Option.bind_some, map_toNat, ← seatsApartI_eq s hn hx hq, Bool.true_and]
    by_cases hs : (s.length : Int) = (qs.length : Int) ∧ ∀ x ∈ s, 0 ≤ x ∧ x ≤ (qs.length : Int) - 1
    · rw [decide_eq_true hs, if_neg (by simp), Bool.true_and]
      have hsl : s.length = qs.length := by omega
      rw [loopAll qs.length (fun i => (members (nth qs i)).all fun j => !(s.getD i 0 == s.getD j 0))]
      · rw [Option.bind_some]; exact fin2 _
      · intro i hi
        have xi := hx _ (nth_mem hi)
        have xi6 := p6 hn xi
        simp only [List.length_map]
        rw [if_pos (by simp; omega), geti_nth hi, Option.bind_some, membersOf_eq _ (by omega), Option.bind_some, wr_succ (n := qs.length) (by omega) hi]
        rw [loopAll (members (nth qs i)).length (fun k => !(s.getD i 0 == s.getD (nth (members (nth qs i)) k) 0))]
        · rw [Option.bind_some, range_all_nth _ (fun j => !(s.getD i 0 == s.getD j 0))]
          exact fin3 _ _
        · intro k hk
          have hj := bit_lt xi ((mem_members (by omega)).1 (nth_mem hk))
          have hml : (members (nth qs i)).length ≤ 64 := membersTo_length _ 64
          simp only [List.length_map]
          rw [if_pos (by simp; omega), geti_nth hk, Option.bind_some, geti_getD (by omega), Option.bind_some, geti_getD (by omega), Option.bind_some, wr_succ (n := (members (nth qs i)).length) (by omega) hk]
          cases (s.getD i 0 == s.getD (nth (members (nth qs i)) k) 0) <;> rfl
        · simp
      · simp
    · rw [decide_eq_false hs]; rfl
theorem specSeatsOk_eq (g : Int) (q s : List Int) (h : q.length ≤ 4611686018427387904) (h2 : s.length ≤ 4611686018427387904) : spec_SeatsOkS g q s = some (seatsOk g q s) := by
  unfold spec_SeatsOkS seatsOk
  rw [specQuarrelsValid_eq g q h, Option.bind_some]
  cases hv : quarValid g q
  · rfl
  · obtain ⟨qs, rfl, rfl, hn, hx, hq⟩ := quarValid_nat hv
    rw [map_toNat, Bool.true_and]
    by_cases hsl : s.length = qs.length
    · rw [if_neg (by simp; omega)]
      rw [loopAll qs.length (fun i => decide (0 ≤ s.getD i 0 ∧ s.getD i 0 ≤ (qs.length : Int) - 1) && (List.range i).all fun j => !((nth qs i).testBit j && (s.getD i 0 == s.getD j 0)))]
      · rw [Option.bind_some]
        refine (fin2 _).trans (congrArg some ?_)
        unfold seatsApart
        rw [Bool.eq_iff_iff, Bool.and_eq_true, decide_eq_true_eq, List.all_eq_true, List.all_eq_true]
        constructor
        · intro hh
          refine ⟨⟨by omega, fun x hxm => ?_⟩, fun i hi => ?_⟩
          · obtain ⟨k, hk, rfl⟩ := List.getElem_of_mem hxm
            have := hh k (List.mem_range.2 (by omega))
            rw [Bool.and_eq_true, getD_lt hk] at this
            exact of_decide_eq_true this.1
          · have := hh i hi
            rw [Bool.and_eq_true] at this
            exact this.2
        · rintro ⟨⟨_, hr⟩, ha⟩ i hi
          have hin : i < s.length := by have := List.mem_range.1 hi; omega
          rw [Bool.and_eq_true]
          exact ⟨by rw [getD_lt hin]; exact decide_eq_true (hr _ (List.getElem_mem hin)), ha i hi⟩
      · intro i hi
        have xi6 := p6 hn (hx _ (nth_mem hi))
        simp only [l1In_eq]
        rw [if_pos (by simp; omega), geti_getD (by omega), Option.bind_some, Option.bind_some, wr (x := (qs.length : Int) - 1) ⟨by omega, by omega⟩, wr_succ (n := qs.length) (by omega) hi]
        cases decide (0 ≤ s.getD i 0 ∧ s.getD i 0 ≤ (qs.length : Int) - 1)
        · rfl
        · rw [if_neg (by simp), Bool.true_and]
          rw [loopAll i (fun j => !((nth qs i).testBit j && (s.getD i 0 == s.getD j 0)))]
          · rw [Option.bind_some]; exact fin3 _ _
          · intro j hj
            rw [if_pos (by simp; omega), geti_nth hi, Option.bind_some, ishrO_nat (by omega), Option.bind_some, shr_bit, Option.bind_some, geti_getD (s := s) (k := j) (by omega), Option.bind_some, wr_succ (n := qs.length) (by omega) (by omega)]
            cases (nth qs i).testBit j
            · rfl
            · cases (s.getD i 0 == s.getD j 0) <;> rfl
          · simp
      · simp
    · rw [if_pos (by simp; omega), decide_eq_false (by rintro ⟨hl, _⟩; omega)]; rfl
end Go.Proofs.YtidhmbmollkhdaaDoor
