/- Houses: what an item uses, its marks, what is free of an allergen, tables, the house. Own work; no program in sight. -/
import Derived.Test.YthofjabphcheeaaDoorHouse
set_option linter.unusedVariables false
namespace Go.Proofs.YthofjabphcheeaaDoor
open Go Go.RowKit
/-! ### uses -/
def partsOr (u : Nat) (ps : List (Int × Int)) : Nat := ps.foldl (fun u p => u ||| 2 ^ p.1.toNat) u
theorem partsOr_take {u : Nat} {ps : List (Int × Int)} {k : Nat} (h : k < ps.length) : partsOr u (ps.take (k + 1)) = partsOr u (ps.take k) ||| 2 ^ ps[k].1.toNat := by
  unfold partsOr; rw [List.take_succ_eq_append_getElem h, List.foldl_append]; rfl
theorem partsOr_lt {n : Nat} : ∀ {ps : List (Int × Int)} {u : Nat}, (∀ x ∈ ps, 0 ≤ x.1 ∧ x.1 < n) → u < 2 ^ n → partsOr u ps < 2 ^ n
  | [], u, _, hu => hu
  | p :: ps, u, h, hu => by
    have hp := h p (by simp)
    refine partsOr_lt (ps := ps) (fun x hx => h x (by simp [hx])) (Nat.or_lt_two_pow hu (Nat.pow_lt_pow_right (by omega) (by omega)))
theorem partsOr_bit {n : Nat} : ∀ {ps : List (Int × Int)} {u : Nat}, (∀ x ∈ ps, 0 ≤ x.1 ∧ x.1 < n) → (partsOr u ps).testBit n = u.testBit n
  | [], u, _ => rfl
  | p :: ps, u, h => by
    have hp := h p (by simp)
    refine (partsOr_bit (ps := ps) (u := u ||| 2 ^ p.1.toNat) (fun x hx => h x (by simp [hx]))).trans ?_
    rw [Nat.testBit_or, Nat.testBit_two_pow_of_ne (by omega), Bool.or_false]
def partsAt (xs : List HItem) (i : Nat) : List (Int × Int) := match xs[i]? with | some it => it.2.1 | none => []
theorem partsAt_lt {xs : List HItem} {i : Nat} (h : i < xs.length) : partsAt xs i = xs[i].2.1 := by unfold partsAt; rw [List.getElem?_eq_getElem h]
def U (xs : List HItem) (p : Nat) : Nat → Nat
  | 0 => 2 ^ p
  | j + 1 => if (U xs p j).testBit (p - j) then partsOr (U xs p j) (partsAt xs (p - j)) else U xs p j
theorem parts_bound {xs : List HItem} (h : itemsB xs = true) {p i : Nat} (hi : i ≤ p) (hp : p < xs.length) : ∀ x ∈ partsAt xs i, 0 ≤ x.1 ∧ x.1 < (i : Int) := by
  rw [partsAt_lt (show i < xs.length by omega)]
  exact itemsB_part h _
theorem U_lt {xs : List HItem} (h : itemsB xs = true) {p : Nat} (hp : p < xs.length) : ∀ j, U xs p j < 2 ^ (p + 1)
  | 0 => Nat.pow_lt_pow_right (by omega) (by omega)
  | j + 1 => by
    have ih := U_lt h hp j
    unfold U
    split
    · refine partsOr_lt (fun x hx => ?_) ih
      have := parts_bound h (show p - j ≤ p by omega) hp x hx
      omega
    · exact ih
theorem p7 {xs : List HItem} (h : itemsB xs = true) {p : Nat} (hp : p < xs.length) : 2 ^ (p + 1) ≤ 64 := by
  have := itemsB_len h
  exact Nat.pow_le_pow_right (n := 2) (i := p + 1) (j := 6) (by omega) (by omega)
def usesZ (xs : List HItem) (p : Int) : Int := if itemsB xs = true ∧ 0 ≤ p ∧ p < xs.length then ((U xs p.toNat (p.toNat + 1) : Nat) : Int) else -1
theorem pow_small {i : Nat} (h : i ≤ 61) : 2 ^ i < 9223372036854775808 := by have := pow61 h; omega
theorem U_step {xs : List HItem} {p j : Nat} : U xs p (j + 1) = if (U xs p j).testBit (p - j) then partsOr (U xs p j) (partsAt xs (p - j)) else U xs p j := rfl
theorem implUses_eq {xs : List HItem} (h : ItemsL xs) (p : Int) : impl_UsesOfS xs p = some (usesZ xs p) := by
  unfold impl_UsesOfS usesZ
  rw [implItems_eq h, Option.bind_some]
  by_cases hv : itemsB xs = true ∧ 0 ≤ p ∧ p < xs.length
  · obtain ⟨hI, h0, hp⟩ := hv
    obtain ⟨q, rfl⟩ : ∃ q : Nat, p = q := ⟨p.toNat, by omega⟩
    have hq : q < xs.length := by omega
    have h6 := itemsB_len hI
    have h64 := p7 hI hq
    rw [hI, if_neg (by simp; omega), if_pos ⟨rfl, h0, hp⟩, ishlO_nat (by omega), Option.bind_some]
    rw [loopDet (fun j => (((U xs q j : Nat) : Int), (q : Int) - j)) (q + 1) ((U xs q (q + 1) : Nat) : Int)]
    · rfl
    · simp [U]
    · intro j hj
      have hu := U_lt hI hq j
      (try dsimp only)
      rw [show (q : Int) - (j : Int) = ((q - j : Nat) : Int) by omega, if_pos (decide_eq_true (by omega)), ishlO_nat (by omega), Option.bind_some, iand_nat (by omega) (pow_small (by omega)), and_pow_eq]
      rw [U_step, wr (x := ((q - j : Nat) : Int) - 1) ⟨by omega, by omega⟩, show ((q - j : Nat) : Int) - 1 = (q : Int) - ((j + 1 : Nat) : Int) by omega]
      cases hb : (U xs q j).testBit (q - j)
      · rfl
      · rw [if_neg (by simp), geti_lt' (show q - j < xs.length by omega), Option.bind_some]
        have hps := parts_bound hI (show q - j ≤ q by omega) hq
        rw [partsAt_lt (show q - j < xs.length by omega)] at hps ⊢
        have hl := h.at (show q - j < xs.length by omega)
        revert hps hl
        generalize xs[q - j].2.1 = ps
        intro hps hl
        rw [loopDet (fun k => (((partsOr (U xs q j) (ps.take k) : Nat) : Int), (k : Int))) ps.length ((partsOr (U xs q j) ps : Nat) : Int)]
        · rfl
        · simp [partsOr]
        · intro k hk
          have hx := hps _ (List.getElem_mem hk)
          have hlt : partsOr (U xs q j) (ps.take k) < 2 ^ (q + 1) := partsOr_lt (fun x hx => by have := hps x (List.mem_of_mem_take hx); omega) hu
          (try dsimp only)
          rw [if_pos (lt_dec hk), geti_lt' hk, Option.bind_some, show ps[k].1 = ((ps[k].1.toNat : Nat) : Int) by omega, ishlO_nat (by omega), Option.bind_some, ior_nat (by omega) (pow_small (by omega)), wr_succ hl hk, partsOr_take hk]
        · (try dsimp only)
          rw [if_neg (by simp), List.take_length]
    · (try dsimp only)
      rw [if_neg (by simp; omega)]
  · rw [if_neg hv, if_pos]
    simp only [Bool.or_eq_true, Bool.not_eq_true', decide_eq_true_eq]
    by_cases hI : itemsB xs = true
    · by_cases h0 : p < 0
      · exact .inl (.inr h0)
      · exact .inr (by have : ¬ p < xs.length := fun hp => hv ⟨hI, by omega, hp⟩
                       omega)
    · exact .inl (.inl (by simpa using hI))
theorem specUses_eq {xs : List HItem} (h : ItemsL xs) (p : Int) : spec_UsesOfS xs p = some (usesZ xs p) := by
  unfold spec_UsesOfS usesZ
  rw [specItems_eq h, Option.bind_some]
  have hlen := h.1
  rw [wr (x := (xs.length : Int) - 1) ⟨by omega, by omega⟩, l1In_eq, Option.bind_some]
  by_cases hv : itemsB xs = true ∧ 0 ≤ p ∧ p < xs.length
  · obtain ⟨hI, h0, hp⟩ := hv
    obtain ⟨q, rfl⟩ : ∃ q : Nat, p = q := ⟨p.toNat, by omega⟩
    have hq : q < xs.length := by omega
    have h6 := itemsB_len hI
    have h64 := p7 hI hq
    rw [hI, if_neg (by simp), Option.bind_some, decide_eq_true (show 0 ≤ (q : Int) ∧ (q : Int) ≤ (xs.length : Int) - 1 by omega), if_neg (by simp), if_pos ⟨rfl, h0, hp⟩, ishlO_nat (by omega), Option.bind_some]
    rw [loopDet (fun j => (((U xs q j : Nat) : Int), (q : Int) - j)) (q + 1) ((U xs q (q + 1) : Nat) : Int)]
    · rfl
    · simp [U]
    · intro j hj
      have hu := U_lt hI hq j
      (try dsimp only)
      rw [show (q : Int) - (j : Int) = ((q - j : Nat) : Int) by omega, if_pos (decide_eq_true (by omega))]
      have hps := parts_bound hI (show q - j ≤ q by omega) hq
      rw [U_step, wr (x := ((q - j : Nat) : Int) - 1) ⟨by omega, by omega⟩, show ((q - j : Nat) : Int) - 1 = (q : Int) - ((j + 1 : Nat) : Int) by omega]
      rw [geti_lt' (show q - j < xs.length by omega)]
      rw [partsAt_lt (show q - j < xs.length by omega)] at hps ⊢
      have hl := h.at (show q - j < xs.length by omega)
      simp only [Option.bind_some]
      revert hps hl
      generalize xs[q - j].2.1 = ps
      intro hps hl
      cases hb : (U xs q j).testBit (q - j)
      · rw [loopDet (fun k => (((U xs q j : Nat) : Int), (k : Int))) 0 ((U xs q j : Nat) : Int)]
        · rfl
        · rfl
        · intro k hk; omega
        · (try dsimp only)
          rw [ishrO_nat (by omega), Option.bind_some, shr_bit, hb]
          cases decide (((0 : Nat) : Int) < (ps.length : Int)) <;> rfl
      · rw [loopDet (fun k => (((partsOr (U xs q j) (ps.take k) : Nat) : Int), (k : Int))) ps.length ((partsOr (U xs q j) ps : Nat) : Int)]
        · rfl
        · simp [partsOr]
        · intro k hk
          have hx := hps _ (List.getElem_mem hk)
          have hpt : ∀ x ∈ ps.take k, 0 ≤ x.1 ∧ x.1 < ((q - j : Nat) : Int) := fun x hx => hps x (List.mem_of_mem_take hx)
          have hlt : partsOr (U xs q j) (ps.take k) < 2 ^ (q + 1) := partsOr_lt (fun x hx => by have := hpt x hx; omega) hu
          (try dsimp only)
          have hpw : 2 ^ ps[k].1.toNat < 2305843009213693952 := Nat.lt_of_lt_of_le (Nat.pow_lt_pow_right (by omega) (show ps[k].1.toNat < 6 by omega)) (by decide)
          rw [if_pos (lt_dec hk), ishrO_nat (by omega), Option.bind_some, shr_bit, partsOr_bit hpt, hb, Option.bind_some, if_pos rfl, geti_lt' hk, Option.bind_some, show ps[k].1 = ((ps[k].1.toNat : Nat) : Int) by omega, ishlO_nat (by omega), Option.bind_some, l1Join_eq (by omega) hpw, Option.bind_some, wr_succ hl hk, partsOr_take hk]
        · (try dsimp only)
          rw [if_neg (by simp)]
          rw [Option.bind_some, if_neg (by simp), List.take_length]
    · (try dsimp only)
      rw [if_neg (by simp; omega)]
  · rw [if_neg hv]
    by_cases hI : itemsB xs = true
    · rw [hI, if_neg (by simp), Option.bind_some, decide_eq_false (show ¬ (0 ≤ p ∧ p ≤ (xs.length : Int) - 1) from fun hp => hv ⟨hI, hp.1, by omega⟩)]; rfl
    · rw [Bool.not_eq_true] at hI
      rw [hI]; rfl
/-! ### marks -/
def marksAt (xs : List HItem) (i : Nat) : Nat := match xs[i]? with | some it => it.2.2.toNat | none => 0
theorem marksAt_lt {xs : List HItem} {i : Nat} (h : i < xs.length) : marksAt xs i = xs[i].2.2.toNat := by unfold marksAt; rw [List.getElem?_eq_getElem h]
def MA (xs : List HItem) (u : Nat) : Nat → Nat
  | 0 => 0
  | k + 1 => if u.testBit k then MA xs u k ||| marksAt xs k else MA xs u k
theorem marksAt_32 {xs : List HItem} (h : itemsB xs = true) (i : Nat) : marksAt xs i < 2 ^ 5 := by
  rcases Nat.lt_or_ge i xs.length with hi | hi
  · rw [marksAt_lt hi]
    have := itemsB_marks h hi
    omega
  · unfold marksAt; rw [List.getElem?_eq_none hi]; decide
theorem MA_lt {xs : List HItem} (h : itemsB xs = true) (u : Nat) : ∀ k, MA xs u k < 2 ^ 5
  | 0 => by show 0 < 2 ^ 5; decide
  | k + 1 => by
    unfold MA
    split
    · exact Nat.or_lt_two_pow (MA_lt h u k) (marksAt_32 h k)
    · exact MA_lt h u k
theorem MA_stable {xs : List HItem} {u n : Nat} (hu : u < 2 ^ n) : ∀ d, MA xs u (n + d) = MA xs u n
  | 0 => rfl
  | d + 1 => by
    show (if u.testBit (n + d) then _ else _) = _
    rw [Nat.testBit_lt_two_pow (Nat.lt_of_lt_of_le hu (Nat.pow_le_pow_right (by omega) (by omega)))]
    exact MA_stable hu d
def marksN (xs : List HItem) (p : Nat) : Nat := MA xs (U xs p (p + 1)) xs.length
theorem marksN_lt {xs : List HItem} (h : itemsB xs = true) (p : Nat) : marksN xs p < 32 := MA_lt h _ _
def marksZ (xs : List HItem) (p : Int) : Int := if itemsB xs = true ∧ 0 ≤ p ∧ p < xs.length then ((marksN xs p.toNat : Nat) : Int) else -1
theorem MA_step {xs : List HItem} {u k : Nat} : MA xs u (k + 1) = if u.testBit k then MA xs u k ||| marksAt xs k else MA xs u k := rfl
theorem implMarks_eq {xs : List HItem} (h : ItemsL xs) (p : Int) : impl_MarksOfS xs p = some (marksZ xs p) := by
  unfold impl_MarksOfS marksZ
  rw [implUses_eq h, Option.bind_some]
  unfold usesZ
  by_cases hv : itemsB xs = true ∧ 0 ≤ p ∧ p < xs.length
  · obtain ⟨hI, h0, hp⟩ := hv
    obtain ⟨q, rfl⟩ : ∃ q : Nat, p = q := ⟨p.toNat, by omega⟩
    have hq : q < xs.length := by omega
    have h6 := itemsB_len hI
    have h64 := p7 hI hq
    have hu := U_lt hI hq (q + 1)
    simp only [if_pos (show itemsB xs = true ∧ (0 : Int) ≤ (q : Int) ∧ (q : Int) < (xs.length : Int) from ⟨hI, h0, hp⟩)]
    rw [show ((q : Nat) : Int).toNat = q by omega]
    unfold marksN
    generalize U xs q (q + 1) = u at hu ⊢
    rw [if_neg (by simp), loopDet (s := ((0 : Int), (0 : Int))) (fun k => (((MA xs u k : Nat) : Int), (k : Int))) xs.length ((MA xs u xs.length : Nat) : Int) rfl]
    · rfl
    · intro k hk
      have hm := itemsB_marks hI hk
      have hM := MA_lt hI u k
      (try dsimp only)
      rw [if_pos (lt_dec hk), geti_lt' hk, Option.bind_some, ishlO_nat (by omega), Option.bind_some, iand_nat (by omega) (pow_small (by omega)), and_pow_ne, wr_succ (n := xs.length) (by omega) hk, MA_step, marksAt_lt hk]
      cases u.testBit k
      · rfl
      · rw [if_pos rfl, if_pos rfl]
        have e : ior .i64 ((MA xs u k : Nat) : Int) xs[k].2.2 = ((MA xs u k ||| xs[k].2.2.toNat : Nat) : Int) := by
          obtain ⟨m, e1⟩ : ∃ m : Nat, xs[k].2.2 = (m : Int) := ⟨xs[k].2.2.toNat, by omega⟩
          rw [e1, ior_nat (by omega) (by omega)]; rfl
        rw [e]
    · (try dsimp only)
      rw [if_neg (by simp)]
  · simp only [if_neg hv]; rfl
theorem specMarks_eq {xs : List HItem} (h : ItemsL xs) (p : Int) : spec_MarksOfS xs p = some (marksZ xs p) := by
  unfold spec_MarksOfS marksZ
  rw [specUses_eq h, Option.bind_some]
  unfold usesZ
  by_cases hv : itemsB xs = true ∧ 0 ≤ p ∧ p < xs.length
  · obtain ⟨hI, h0, hp⟩ := hv
    obtain ⟨q, rfl⟩ : ∃ q : Nat, p = q := ⟨p.toNat, by omega⟩
    have hq : q < xs.length := by omega
    have h6 := itemsB_len hI
    have h64 := p7 hI hq
    have hu := U_lt hI hq (q + 1)
    simp only [if_pos (show itemsB xs = true ∧ (0 : Int) ≤ (q : Int) ∧ (q : Int) < (xs.length : Int) from ⟨hI, h0, hp⟩)]
    rw [show ((q : Nat) : Int).toNat = q by omega]
    unfold marksN
    generalize U xs q (q + 1) = u at hu ⊢
    have hst : MA xs u xs.length = MA xs u (q + 1) := by
      have := MA_stable (xs := xs) hu (xs.length - (q + 1))
      rwa [show q + 1 + (xs.length - (q + 1)) = xs.length by omega] at this
    rw [if_neg (by simp), hst, loopDet (s := ((0 : Int), (0 : Int))) (fun k => (((MA xs u k : Nat) : Int), (k : Int))) (q + 1) ((MA xs u (q + 1) : Nat) : Int) rfl]
    · rfl
    · intro k hk
      have hkl : k < xs.length := by omega
      have hm := itemsB_marks hI hkl
      have hM := MA_lt hI u k
      (try dsimp only)
      rw [if_pos (decide_eq_true (by omega)), ishrO_nat (by omega), Option.bind_some, shr_bit, wr_succ (n := xs.length) (by omega) hkl, MA_step, marksAt_lt hkl]
      cases u.testBit k
      · rfl
      · rw [if_pos rfl, if_pos rfl, geti_lt' hkl, Option.bind_some]
        have e : spec_l1JoinS ((MA xs u k : Nat) : Int) xs[k].2.2 = some ((MA xs u k ||| xs[k].2.2.toNat : Nat) : Int) := by
          obtain ⟨m, e1⟩ : ∃ m : Nat, xs[k].2.2 = (m : Int) := ⟨xs[k].2.2.toNat, by omega⟩
          rw [e1, l1Join_eq (by omega) (by omega)]; rfl
        rw [e]; rfl
    · (try dsimp only)
      rw [if_neg (by simp; omega)]
  · simp only [if_neg hv]; rfl
/-! ### what is free of an allergen -/
theorem marksZ_at {xs : List HItem} (hI : itemsB xs = true) {k : Nat} (hk : k < xs.length) : marksZ xs (k : Int) = ((marksN xs k : Nat) : Int) := by
  unfold marksZ; rw [if_pos ⟨hI, by omega, by omega⟩]; rfl
def minsAt (xs : List HItem) (i : Nat) : Int := match xs[i]? with | some it => it.1 | none => 0
theorem minsAt_lt {xs : List HItem} {i : Nat} (h : i < xs.length) : minsAt xs i = xs[i].1 := by unfold minsAt; rw [List.getElem?_eq_getElem h]
def isFree (xs : List HItem) (a k : Nat) : Bool := decide (minsAt xs k > 0) && ((((marksN xs k &&& a : Nat) : Int)) == 0)
def freeTo (xs : List HItem) (a : Nat) : Nat → List Int
  | 0 => []
  | k + 1 => freeTo xs a k ++ (if isFree xs a k then [(k : Int)] else [])
theorem freeTo_len (xs : List HItem) (a : Nat) : ∀ k, (freeTo xs a k).length ≤ k
  | 0 => Nat.le_refl _
  | k + 1 => by
    have := freeTo_len xs a k
    unfold freeTo
    split <;> simp <;> omega
theorem mem_freeTo {xs : List HItem} {a : Nat} {v : Int} : ∀ {n : Nat}, v ∈ freeTo xs a n ↔ ∃ k : Nat, k < n ∧ v = (k : Int) ∧ isFree xs a k = true
  | 0 => by simp [freeTo]
  | n + 1 => by
    unfold freeTo
    rw [List.mem_append, mem_freeTo]
    constructor
    · rintro (⟨k, h1, h2, h3⟩ | h)
      · exact ⟨k, by omega, h2, h3⟩
      · split at h
        · rename_i hf
          exact ⟨n, by omega, by simpa using h, hf⟩
        · cases h
    · rintro ⟨k, h1, h2, h3⟩
      rcases Nat.lt_or_ge k n with hk | hk
      · exact .inl ⟨k, hk, h2, h3⟩
      · have : k = n := by omega
        subst this
        right; rw [if_pos h3]; simp [h2]
def free (xs : List HItem) (a : Int) : List Int := if itemsB xs = true ∧ 0 ≤ a ∧ a ≤ 31 then freeTo xs a.toNat xs.length else []
theorem implFree_eq {xs : List HItem} (h : ItemsL xs) (a : Int) : impl_FreeOfS xs a = some (free xs a) := by
  unfold impl_FreeOfS free
  rw [implItems_eq h, Option.bind_some]
  by_cases hv : itemsB xs = true ∧ 0 ≤ a ∧ a ≤ 31
  · obtain ⟨hI, h0, ha⟩ := hv
    have h6 := itemsB_len hI
    obtain ⟨b, rfl⟩ : ∃ b : Nat, a = b := ⟨a.toNat, by omega⟩
    rw [hI, if_neg (by simp; omega), if_pos ⟨rfl, h0, ha⟩, loopDet (s := (([] : List Int), (0 : Int))) (fun k => (freeTo xs b k, (k : Int))) xs.length (freeTo xs b xs.length) rfl]
    · rfl
    · intro k hk
      have hlen := freeTo_len xs b k
      have hM := marksN_lt hI k
      (try dsimp only)
      rw [if_pos (lt_dec hk), geti_lt' hk, Option.bind_some, implMarks_eq h, Option.bind_some, wr_succ (n := xs.length) (by omega) hk]
      rw [marksZ_at hI hk, iand_nat (by omega) (by omega)]
      rw [show freeTo xs b (k + 1) = freeTo xs b k ++ (if isFree xs b k then [(k : Int)] else []) from rfl]
      unfold isFree
      rw [minsAt_lt hk]
      cases decide (xs[k].1 > 0)
      · simp
      · rw [if_pos rfl, Option.bind_some, Bool.true_and]
        cases (((marksN xs k &&& b : Nat) : Int) == 0)
        · simp
        · rw [if_pos rfl, appO_le (by simp; omega), Option.bind_some, if_pos rfl]
    · (try dsimp only)
      rw [if_neg (by simp)]
  · rw [if_neg hv, if_pos]
    simp only [Bool.or_eq_true, Bool.not_eq_true', decide_eq_true_eq]
    by_cases hI : itemsB xs = true
    · by_cases h0 : a < 0
      · exact .inl (.inr h0)
      · exact .inr (by have : ¬ a ≤ 31 := fun hp => hv ⟨hI, by omega, hp⟩
                       omega)
    · exact .inl (.inl (by simpa using hI))
theorem specFree_eq {xs : List HItem} (h : ItemsL xs) (a : Int) : spec_FreeOfS xs a = some (free xs a) := by
  have hlen := h.1
  unfold spec_FreeOfS free
  by_cases hv : itemsB xs = true ∧ 0 ≤ a ∧ a ≤ 31
  · obtain ⟨hI, h0, ha⟩ := hv
    have h6 := itemsB_len hI
    obtain ⟨b, rfl⟩ : ∃ b : Nat, a = b := ⟨a.toNat, by omega⟩
    rw [if_pos ⟨hI, h0, ha⟩, loopDet (s := (([] : List Int), (0 : Int))) (fun k => (freeTo xs b k, (k : Int))) xs.length (freeTo xs b xs.length) rfl]
    · rfl
    · intro k hk
      have hlen := freeTo_len xs b k
      have hM := marksN_lt hI k
      (try dsimp only)
      rw [if_pos (lt_dec hk), specItems_eq h, Option.bind_some, hI, Option.bind_some, if_pos rfl, l1In_eq, Option.bind_some, decide_eq_true (show 0 ≤ (b : Int) ∧ (b : Int) ≤ 31 by omega), Option.bind_some, if_pos rfl]
      rw [geti_lt' hk, Option.bind_some, specMarks_eq h, Option.bind_some, wr_succ (n := xs.length) (by omega) hk]
      rw [marksZ_at hI hk, l1Meet_eq (by omega) (by omega), Option.bind_some]
      rw [show freeTo xs b (k + 1) = freeTo xs b k ++ (if isFree xs b k then [(k : Int)] else []) from rfl]
      unfold isFree
      rw [minsAt_lt hk]
      cases decide (xs[k].1 > 0)
      · simp
      · rw [if_pos rfl, Option.bind_some, Bool.true_and]
        cases (((marksN xs k &&& b : Nat) : Int) == 0)
        · simp
        · rw [if_pos rfl, appO_le (by simp; omega), Option.bind_some, if_pos rfl]
    · (try dsimp only)
      rw [if_neg (by simp)]
      rfl
  · rw [if_neg hv, loopDet (s := (([] : List Int), (0 : Int))) (fun k => (([] : List Int), (k : Int))) 0 [] rfl]
    · rfl
    · intro k hk; omega
    · (try dsimp only)
      rw [specItems_eq h, l1In_eq]
      cases decide (((0 : Nat) : Int) < (xs.length : Int))
      · rfl
      · rw [if_pos rfl, Option.bind_some, Option.bind_some]
        by_cases hI : itemsB xs = true
        · rw [hI, if_pos rfl, decide_eq_false (show ¬ (0 ≤ a ∧ a ≤ 31) from fun hp => hv ⟨hI, hp.1, hp.2⟩)]; rfl
        · rw [Bool.not_eq_true] at hI
          rw [hI]; rfl
/-! ### membership -/
theorem specHas_eq (xs : List Int) (v : Int) (hl : xs.length ≤ 4611686018427387904) : spec_l1HasS xs v = some (decide (v ∈ xs)) := by
  unfold spec_l1HasS
  refine Ret.eq (Ret.loopb (fun s => ∃ k : Nat, s = k ∧ k ≤ xs.length ∧ v ∉ xs.take k) (fun s => xs.length - s.toNat) (fun r => match r with | .inl _ => v ∉ xs | .inr b => v ∈ xs ∧ b = true) ⟨0, rfl, by omega, by simp⟩ ?_ (fun r hr => ?_))
  · rintro s ⟨k, rfl, hle, ht⟩
    (try dsimp only)
    by_cases hk : k < xs.length
    · rw [if_pos (lt_dec hk), geti_lt' hk, Option.bind_some, wr_succ hl hk]
      by_cases he : xs[k] = v
      · rw [if_pos (by simpa using he)]
        exact Ret.pure ⟨he ▸ List.getElem_mem hk, rfl⟩
      · rw [if_neg (by simpa using he)]
        exact Ret.pure ⟨⟨k + 1, rfl, by omega, fun hm => by rcases (mem_take_succ hk).1 hm with h | h; exact ht h; exact he h.symm⟩, by simp; omega⟩
    · rw [if_neg (by simp; omega)]
      rw [List.take_of_length_le (by omega)] at ht
      exact Ret.pure ht
  · cases r with
    | inl u => exact Ret.pure (decide_eq_false hr).symm
    | inr b => exact Ret.pure (by rw [hr.2, decide_eq_true hr.1])
theorem contains_eq (xs : List Int) (v : Int) (hl : xs.length ≤ 4611686018427387904) : slices_Contains___int_intS xs v = some (decide (v ∈ xs)) := by
  unfold slices_Contains___int_intS slices_Index___int_intS
  refine Ret.eq (Ret.bind (Q := fun i => decide (i ≥ 0) = decide (v ∈ xs)) ?_ (fun a ha => Ret.pure ha))
  refine Ret.loopb (fun s => ∃ k : Nat, s = k ∧ k ≤ xs.length ∧ v ∉ xs.take k) (fun s => xs.length - s.toNat) (fun r => match r with | .inl _ => v ∉ xs | .inr b => v ∈ xs ∧ 0 ≤ b) ⟨0, rfl, by omega, by simp⟩ ?_ (fun r hr => ?_)
  · rintro s ⟨k, rfl, hle, ht⟩
    (try dsimp only)
    by_cases hk : k < xs.length
    · rw [if_pos (lt_dec hk), geti_lt' hk, Option.bind_some, wr_succ hl hk]
      by_cases he : v = xs[k]
      · rw [if_pos (by simpa using he)]
        exact Ret.pure ⟨he ▸ List.getElem_mem hk, by omega⟩
      · rw [if_neg (by simpa using he)]
        exact Ret.pure ⟨⟨k + 1, rfl, by omega, fun hm => by rcases (mem_take_succ hk).1 hm with h | h; exact ht h; exact he h⟩, by simp; omega⟩
    · rw [if_neg (by simp; omega)]
      rw [List.take_of_length_le (by omega)] at ht
      exact Ret.pure ht
  · cases r with
    | inl u => exact Ret.pure (by rw [decide_eq_false hr]; rfl)
    | inr b => exact Ret.pure (by rw [decide_eq_true hr.1, decide_eq_true hr.2])
end Go.Proofs.YthofjabphcheeaaDoor
