/- Chapter 6: sets of guests and dishes. Own work; no program in sight. -/
import Derived.Test.YtcjkbcdlpfgbgaaPlG6
import Derived.Test.YtcjkbcdlpfgbgaaBits
set_option linter.unusedVariables false
namespace Go.Proofs.Ytcjkbcdlpfgbgaa
open Go Go.RowKit
theorem iquoO_nat {a n : Nat} (ha : a < 9223372036854775808) (hn : 0 < n) : iquoO .i64 (a : Int) (n : Int) = some ((a / n : Nat) : Int) := by
  unfold iquoO
  rw [if_neg (by simp; omega), Int.tdiv_eq_ediv_of_nonneg (by omega)]
  have : (a : Int) / (n : Int) = ((a / n : Nat) : Int) := by simp
  have h2 : a / n ≤ a := Nat.div_le_self a n
  rw [this, wrn (by omega)]
theorem div_bit (a k : Nat) : (Int.tmod ((a / 2 ^ k : Nat) : Int) 2 == 1) = a.testBit k := by rw [← Nat.shiftRight_eq_div_pow]; exact shr_bit a k
theorem or_max_lt {a b n : Nat} (ha : a < 2 ^ n) (hb : b < 2 ^ n) : a ||| b < 2 ^ n := Nat.or_lt_two_pow ha hb
theorem pow61 {k : Nat} (h : k ≤ 61) : 2 ^ k ≤ 2305843009213693952 := (ishl_nat h).2
theorem l1Join_eq {a b : Nat} (ha : a < 2305843009213693952) (hb : b < 2305843009213693952) : spec_l1JoinS (a : Int) (b : Int) = some ((a ||| b : Nat) : Int) := by
  unfold spec_l1JoinS
  have hmax : (if (b : Int) > (a : Int) then (b : Int) else (a : Int)) = ((max a b : Nat) : Int) := by
    by_cases h : a < b
    · rw [if_pos (by omega)]; omega
    · rw [if_neg (by omega)]; omega
  rw [hmax]
  have hm : max a b < 2305843009213693952 := by omega
  apply Ret.eq
  refine Ret.loopb (fun s => ∃ k : Nat, k ≤ 61 ∧ s.2 = ((2 ^ k : Nat) : Int) ∧ s.1 = (((a ||| b) % 2 ^ k : Nat) : Int)) (fun s => 2305843009213693953 - s.2.toNat) (fun r => r = ((a ||| b : Nat) : Int)) ⟨0, by omega, rfl, by simp [Nat.mod_one]⟩ ?_ (fun r hr => Ret.pure hr)
  rintro ⟨out, bit⟩ ⟨k, hk, h2, h1⟩
  simp only at h1 h2
  subst h1; subst h2
  have hpos : 0 < 2 ^ k := Nat.two_pow_pos k
  have hple := pow61 hk
  refine Ret.ite (fun hlt => ?_) (fun hge => ?_)
  · have hlt' : 2 ^ k ≤ max a b := Int.ofNat_le.1 (of_decide_eq_true hlt)
    have hk1 : k + 1 ≤ 61 := by
      rcases Nat.lt_or_ge k 61 with h | h
      · exact h
      · have : (2 : Nat) ^ 61 ≤ 2 ^ k := Nat.pow_le_pow_right (by omega) h
        have h3 : (2 : Nat) ^ 61 = 2305843009213693952 := by decide
        omega
    have hple1 := pow61 hk1
    rw [Nat.pow_succ] at hple1
    have hml : (a ||| b) % 2 ^ k < 2 ^ k := Nat.mod_lt _ hpos
    have hw1 : IntKind.wrap .i64 (2 * ((2 ^ k : Nat) : Int)) = ((2 ^ (k + 1) : Nat) : Int) := by
      rw [show (2 : Int) * ((2 ^ k : Nat) : Int) = ((2 * 2 ^ k : Nat) : Int) from by simp, wrn (by omega), Nat.pow_succ, Nat.mul_comm]
    have hw2 : IntKind.wrap .i64 ((((a ||| b) % 2 ^ k : Nat) : Int) + ((2 ^ k : Nat) : Int)) = (((a ||| b) % 2 ^ k + 2 ^ k : Nat) : Int) := by
      rw [show (((a ||| b) % 2 ^ k : Nat) : Int) + ((2 ^ k : Nat) : Int) = (((a ||| b) % 2 ^ k + 2 ^ k : Nat) : Int) from by omega, wrn (by omega)]
    rw [iquoO_nat (by omega) hpos, Option.bind_some, div_bit, iquoO_nat (by omega) hpos, Option.bind_some, div_bit, hw1, hw2]
    have hmod := mod_pow_succ (a ||| b) k
    rw [Nat.testBit_or] at hmod
    have hmeas : 2305843009213693953 - (((2 ^ (k + 1) : Nat) : Int)).toNat < 2305843009213693953 - (((2 ^ k : Nat) : Int)).toNat := by
      simp only [Int.toNat_natCast]; rw [Nat.pow_succ]; omega
    cases hta : a.testBit k <;> cases htb : b.testBit k <;> simp only [hta, htb, Bool.or_false, Bool.false_or, Bool.or_self, Bool.or_true, Bool.true_or, if_true, if_false, Bool.false_eq_true, Option.bind_some] at hmod ⊢ <;>
      exact Ret.pure ⟨⟨k + 1, hk1, rfl, by simp only [hmod, Nat.add_zero]⟩, hmeas⟩
  · have hge' : max a b < 2 ^ k := by have := of_decide_eq_false hge; exact Int.ofNat_lt.1 (by omega)
    refine Ret.pure ?_
    rw [Nat.mod_eq_of_lt (or_max_lt (by omega) (by omega))]
theorem l1Meet_eq {a b : Nat} (ha : a < 2305843009213693952) (hb : b < 2305843009213693952) : spec_l1MeetS (a : Int) (b : Int) = some ((a &&& b : Nat) : Int) := by
  unfold spec_l1MeetS
  have h := or_and_add 61 a b ha hb
  rw [l1Join_eq ha hb]
  simp only [Option.bind_some]
  congr 1
  rw [show (a : Int) + (b : Int) = ((a + b : Nat) : Int) from by omega, wrn (by omega), wr ⟨by omega, by omega⟩]
  omega
/-- the guests whom the first k dishes of a set feed -/
def fedTo (ms : List Nat) (d : Nat) : Nat → Nat
  | 0 => 0
  | k + 1 => if d.testBit k then fedTo ms d k ||| ms.getD k 0 else fedTo ms d k
def fed (ms : List Nat) (d : Nat) : Nat := fedTo ms d ms.length
theorem fedTo_lt {ms : List Nat} {n d : Nat} (h : ∀ x ∈ ms, x < 2 ^ n) : ∀ k, fedTo ms d k < 2 ^ n
  | 0 => Nat.two_pow_pos n
  | k + 1 => by
    unfold fedTo
    have hx : ms.getD k 0 < 2 ^ n := by
      rw [List.getD_eq_getElem?_getD]
      cases hk : ms[k]? with
      | none => exact Nat.two_pow_pos n
      | some x => exact h x (List.mem_of_getElem? hk)
    split
    · exact or_max_lt (fedTo_lt h k) hx
    · exact fedTo_lt h k
/-- a valid menu, as numbers from 0 on -/
theorem menu_nat {g : Int} {m : List Int} (h : MenuOk g m) : ∃ (n : Nat) (ms : List Nat), g = (n : Int) ∧ n ≤ 6 ∧ m = ms.map (fun x : Nat => (x : Int)) ∧ ms.length ≤ 6 ∧ ∀ x ∈ ms, x < 2 ^ n := by
  obtain ⟨h0, h1, h2, h3⟩ := h
  refine ⟨g.toNat, m.map Int.toNat, by omega, by omega, ?_, by simpa using h2, ?_⟩
  · rw [List.map_map]
    symm
    conv => rhs; rw [← List.map_id m]
    apply List.map_congr_left
    intro x hx
    have := h3 x hx
    simp; omega
  · intro x hx
    obtain ⟨y, hy, rfl⟩ := List.mem_map.1 hx
    have := h3 y hy
    have e : ((2 : Int) ^ g.toNat) = ((2 ^ g.toNat : Nat) : Int) := by simp
    rw [e] at this
    omega
theorem p6 {n x : Nat} (hn : n ≤ 6) (h : x < 2 ^ n) : x < 64 := Nat.lt_of_lt_of_le h (Nat.pow_le_pow_right (n := 2) (by omega) hn)
theorem geti_map {ms : List Nat} {k : Nat} (h : k < ms.length) : geti (ms.map (fun x : Nat => (x : Int))) (k : Int) = some ((ms[k] : Nat) : Int) := by
  rw [geti_nat, List.getElem?_map, List.getElem?_eq_getElem h]; rfl
theorem fedTo_succ {ms : List Nat} {d k : Nat} (h : k < ms.length) : fedTo ms d (k + 1) = if d.testBit k then fedTo ms d k ||| ms[k] else fedTo ms d k := by
  show (if d.testBit k then fedTo ms d k ||| ms.getD k 0 else fedTo ms d k) = _
  rw [List.getD_eq_getElem?_getD, List.getElem?_eq_getElem h]; rfl
/-- FedBy: the set of the guests who are fed, or -1 -/
def fedBy (g : Int) (m : List Int) (d : Int) : Int :=
  if MenuOk g m ∧ 0 ≤ d ∧ d < 2 ^ m.length then ((fed (m.map Int.toNat) d.toNat : Nat) : Int) else -1
theorem map_toNat (ms : List Nat) : (ms.map (fun x : Nat => (x : Int))).map Int.toNat = ms := by
  rw [List.map_map]; conv => rhs; rw [← List.map_id ms]
  apply List.map_congr_left; intro x _; simp
theorem two_pow_cast (k : Nat) : ((2 : Int) ^ k) = ((2 ^ k : Nat) : Int) := by simp
theorem fedBy_nonneg {g : Int} {m : List Int} {d : Int} (h : 0 ≤ fedBy g m d) : MenuOk g m := by
  unfold fedBy at h; split at h
  · rename_i hx; exact hx.1
  · omega
/-- FeedsAll -/
def feedsAll (g : Int) (m : List Int) (d : Int) : Bool := decide (MenuOk g m) && (fedBy g m d == 2 ^ g.toNat - 1)
end Go.Proofs.Ytcjkbcdlpfgbgaa
