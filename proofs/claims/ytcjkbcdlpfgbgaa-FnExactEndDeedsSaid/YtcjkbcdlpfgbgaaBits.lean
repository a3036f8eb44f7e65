/- Numbers as sets of bits. Own work; no program in sight. -/
import Derived.Test.YtcjkbcdlpfgbgaaPl
set_option linter.unusedVariables false
namespace Go.Proofs.Ytcjkbcdlpfgbgaa
open Go Go.RowKit
theorem wrn {n : Nat} (h : n < 9223372036854775808) : IntKind.wrap .i64 (n : Int) = (n : Int) := wr ⟨by omega, by omega⟩
theorem ofInt_nat (n : Nat) : BitVec.ofInt 64 (n : Int) = BitVec.ofNat 64 n := by simp
theorem toNat64 {n : Nat} (h : n < 9223372036854775808) : (BitVec.ofInt IntKind.i64.bits (n : Int)).toNat = n := by
  show (BitVec.ofInt 64 (n : Int)).toNat = n
  rw [ofInt_nat, BitVec.toNat_ofNat]; omega
theorem and_lt {a b n : Nat} (h : a < n) : a &&& b < n := Nat.lt_of_le_of_lt Nat.and_le_left h
theorem iand_nat {a b : Nat} (ha : a < 9223372036854775808) (hb : b < 9223372036854775808) : iand .i64 (a : Int) (b : Int) = ((a &&& b : Nat) : Int) := by
  unfold iand
  rw [BitVec.toNat_and, toNat64 ha, toNat64 hb, wrn (and_lt ha)]
theorem or_lt63 {a b : Nat} (ha : a < 9223372036854775808) (hb : b < 9223372036854775808) : a ||| b < 9223372036854775808 := by
  have := @Nat.or_lt_two_pow a b 63 (by omega) (by omega)
  omega
theorem ior_nat {a b : Nat} (ha : a < 9223372036854775808) (hb : b < 9223372036854775808) : ior .i64 (a : Int) (b : Int) = ((a ||| b : Nat) : Int) := by
  unfold ior
  rw [BitVec.toNat_or, toNat64 ha, toNat64 hb, wrn (or_lt63 ha hb)]
/-- what a has and b has not -/
def minus (a b : Nat) : Nat := a ^^^ (a &&& b)
theorem testBit_minus (a b i : Nat) : (minus a b).testBit i = (a.testBit i && !b.testBit i) := by
  unfold minus; rw [Nat.testBit_xor, Nat.testBit_and]; cases a.testBit i <;> cases b.testBit i <;> rfl
theorem minus_le (a b : Nat) : minus a b ≤ a := by
  have : minus a b &&& a = minus a b := by
    apply Nat.eq_of_testBit_eq; intro i
    rw [Nat.testBit_and, testBit_minus]; cases a.testBit i <;> simp
  rw [← this]; exact Nat.and_le_right
theorem iandNot_nat {a b : Nat} (ha : a < 9223372036854775808) (hb : b < 9223372036854775808) : iandNot .i64 (a : Int) (b : Int) = ((minus a b : Nat) : Int) := by
  unfold iandNot
  have h : (BitVec.ofInt IntKind.i64.bits (a : Int) &&& ~~~ BitVec.ofInt IntKind.i64.bits (b : Int)).toNat = minus a b := by
    apply Nat.eq_of_testBit_eq; intro i
    rw [testBit_minus, ← BitVec.getLsbD, BitVec.getLsbD_and, BitVec.getLsbD_not]
    have e1 : (BitVec.ofInt IntKind.i64.bits (a : Int)).getLsbD i = a.testBit i := by rw [BitVec.getLsbD, toNat64 ha]
    have e2 : (BitVec.ofInt IntKind.i64.bits (b : Int)).getLsbD i = b.testBit i := by rw [BitVec.getLsbD, toNat64 hb]
    rw [e1, e2]
    by_cases hi : i < 64
    · have : decide (i < IntKind.i64.bits) = true := decide_eq_true hi
      rw [this, Bool.true_and]
    · have : a.testBit i = false := Nat.testBit_lt_two_pow (Nat.lt_of_lt_of_le (show a < 2 ^ 64 by omega) (Nat.pow_le_pow_right (by omega) (by omega)))
      rw [this]; rfl
  rw [h, wrn (Nat.lt_of_le_of_lt (minus_le a b) ha)]
theorem ishl_nat {k : Nat} (h : k ≤ 61) : ishl .i64 1 (k : Int) = ((2 ^ k : Nat) : Int) ∧ 2 ^ k ≤ 2305843009213693952 := by
  have hp : 2 ^ k ≤ 2 ^ 61 := Nat.pow_le_pow_right (by omega) h
  have h3 : 2 ^ 61 = 2305843009213693952 := by decide
  refine ⟨?_, by omega⟩
  unfold ishl
  simp only [Int.toNat_natCast, Int.one_mul, IntKind.bits]
  rw [Nat.min_eq_left (by omega)]
  have : ((2 : Int) ^ k) = ((2 ^ k : Nat) : Int) := by simp
  rw [this, wrn (by omega)]
theorem ishlO_nat {k : Nat} (h : k ≤ 61) : ishlO .i64 1 (k : Int) = some ((2 ^ k : Nat) : Int) := by
  unfold ishlO; rw [if_neg (by simp), (ishl_nat h).1]
theorem ishr_nat {a k : Nat} (ha : a < 9223372036854775808) : ishr .i64 (a : Int) (k : Int) = ((a >>> k : Nat) : Int) := by
  unfold ishr
  simp only [Int.toNat_natCast, IntKind.bits]
  rw [Nat.shiftRight_eq_div_pow]
  by_cases hk : k ≤ 64
  · rw [Nat.min_eq_left hk]
    have : ((2 : Int) ^ k) = ((2 ^ k : Nat) : Int) := by simp
    rw [this, Int.fdiv_eq_ediv_of_nonneg _ (Int.natCast_nonneg _)]; simp
  · rw [Nat.min_eq_right (by omega)]
    have h1 : a / 2 ^ k = 0 := Nat.div_eq_of_lt (Nat.lt_of_lt_of_le (show a < 2 ^ 64 by omega) (Nat.pow_le_pow_right (by omega) (by omega)))
    rw [h1, Int.fdiv_eq_ediv_of_nonneg _ (by decide)]
    have h64 : (2 : Int) ^ 64 = 18446744073709551616 := by decide
    exact Int.ediv_eq_zero_of_lt (by omega) (by rw [h64]; omega)
theorem ishrO_nat {a k : Nat} (ha : a < 9223372036854775808) : ishrO .i64 (a : Int) (k : Int) = some ((a >>> k : Nat) : Int) := by
  unfold ishrO; rw [if_neg (by simp), ishr_nat ha]
theorem tmod2 (n : Nat) : Int.tmod (n : Int) 2 = ((n % 2 : Nat) : Int) := by rw [Int.tmod_eq_emod_of_nonneg (by omega)]; omega
theorem shr_bit (a k : Nat) : (Int.tmod ((a >>> k : Nat) : Int) 2 == 1) = a.testBit k := by
  rw [tmod2, Nat.testBit_eq_decide_div_mod_eq, Nat.shiftRight_eq_div_pow]
  generalize a / 2 ^ k = m
  have h2 : m % 2 = 0 ∨ m % 2 = 1 := by omega
  rcases h2 with h | h <;> rw [h] <;> rfl
theorem shr_bit0 (a k : Nat) : (Int.tmod ((a >>> k : Nat) : Int) 2 == 0) = !a.testBit k := by
  rw [tmod2, Nat.testBit_eq_decide_div_mod_eq, Nat.shiftRight_eq_div_pow]
  generalize a / 2 ^ k = m
  have h2 : m % 2 = 0 ∨ m % 2 = 1 := by omega
  rcases h2 with h | h <;> rw [h] <;> rfl
theorem and_pow_ne (a k : Nat) : (((a &&& 2 ^ k : Nat) : Int) != 0) = a.testBit k := by
  rw [Bool.eq_iff_iff]
  simp only [bne_iff_ne, ne_eq, Int.natCast_eq_zero]
  constructor
  · intro h
    cases hb : a.testBit k with
    | true => rfl
    | false =>
      exfalso; apply h
      apply Nat.eq_of_testBit_eq; intro i
      rw [Nat.testBit_and, Nat.testBit_two_pow]
      by_cases hi : k = i
      · subst hi; simp [hb]
      · simp [hi]
  · intro h h0
    have : (a &&& 2 ^ k).testBit k = true := by rw [Nat.testBit_and, Nat.testBit_two_pow_self, h]; rfl
    rw [h0] at this; simp at this
theorem and_pow_eq (a k : Nat) : (((a &&& 2 ^ k : Nat) : Int) == 0) = !a.testBit k := by
  have := and_pow_ne a k
  rw [← this]; simp [bne]
theorem mod_pow_succ (x k : Nat) : x % 2 ^ (k + 1) = x % 2 ^ k + (if x.testBit k then 2 ^ k else 0) := by
  rw [Nat.testBit_eq_decide_div_mod_eq, Nat.pow_succ, Nat.mod_mul]
  have h2 : x / 2 ^ k % 2 = 0 ∨ x / 2 ^ k % 2 = 1 := by omega
  rcases h2 with h | h <;> simp [h]
theorem or_and_add : ∀ (n a b : Nat), a < 2 ^ n → b < 2 ^ n → (a ||| b) + (a &&& b) = a + b
  | 0, a, b, ha, hb => by
    have : a = 0 := by simpa using ha
    have : b = 0 := by simpa using hb
    subst_vars; rfl
  | n + 1, a, b, ha, hb => by
    have ih := or_and_add n (a / 2) (b / 2) (by rw [Nat.pow_succ] at ha; omega) (by rw [Nat.pow_succ] at hb; omega)
    have e1 : (a ||| b) / 2 = a / 2 ||| b / 2 := Nat.or_div_two
    have e2 : (a &&& b) / 2 = a / 2 &&& b / 2 := Nat.and_div_two
    have e3 : (a ||| b) % 2 = if a % 2 = 1 ∨ b % 2 = 1 then 1 else 0 := by
      have := Nat.testBit_or a b 0
      simp only [Nat.testBit_zero] at this
      have h1 : a % 2 = 0 ∨ a % 2 = 1 := by omega
      have h2 : b % 2 = 0 ∨ b % 2 = 1 := by omega
      have h3 : (a ||| b) % 2 = 0 ∨ (a ||| b) % 2 = 1 := by omega
      rcases h1 with h1 | h1 <;> rcases h2 with h2 | h2 <;> rcases h3 with h3 | h3 <;> simp [h1, h2, h3] at this ⊢
    have e4 : (a &&& b) % 2 = if a % 2 = 1 ∧ b % 2 = 1 then 1 else 0 := by
      have := Nat.testBit_and a b 0
      simp only [Nat.testBit_zero] at this
      have h1 : a % 2 = 0 ∨ a % 2 = 1 := by omega
      have h2 : b % 2 = 0 ∨ b % 2 = 1 := by omega
      have h3 : (a &&& b) % 2 = 0 ∨ (a &&& b) % 2 = 1 := by omega
      rcases h1 with h1 | h1 <;> rcases h2 with h2 | h2 <;> rcases h3 with h3 | h3 <;> simp [h1, h2, h3] at this ⊢
    have h1 : a % 2 = 0 ∨ a % 2 = 1 := by omega
    have h2 : b % 2 = 0 ∨ b % 2 = 1 := by omega
    rcases h1 with h1 | h1 <;> rcases h2 with h2 | h2 <;> rw [h1, h2] at e3 e4 <;> simp only [Nat.zero_ne_one, or_self, or_true, true_or, and_self, and_true, true_and, if_true, if_false, and_false, false_and] at e3 e4 <;> omega
end Go.Proofs.Ytcjkbcdlpfgbgaa
