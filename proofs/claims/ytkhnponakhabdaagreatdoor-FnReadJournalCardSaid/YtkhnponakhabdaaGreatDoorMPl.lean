import Derived.Test.YtkhnponakhabdaaGreatDoorMBase
import Derived.Test.YtkhnponakhabdaaGreatDoorShS7J
set_option linter.unusedVariables false
namespace Go.Proofs.YtkhnponakhabdaaGreatDoor
open Go Go.RowKit
def Ret {α : Type} (o : Option α) (Q : α → Prop) : Prop := ∃ a, o = some a ∧ Q a
theorem Ret.pure {α : Type} {a : α} {Q : α → Prop} (h : Q a) : Ret (some a) Q := ⟨a, rfl, h⟩
theorem Ret.bind {α β : Type} {o : Option α} {f : α → Option β} {Q : α → Prop} {R : β → Prop} (h : Ret o Q) (hf : ∀ a, Q a → Ret (f a) R) : Ret (o.bind f) R := by
 obtain ⟨a, rfl, ha⟩ := h; exact hf a ha
theorem Ret.ite {α : Type} {b : Bool} {x y : Option α} {Q : α → Prop} (ht : b = true → Ret x Q) (hf : b = false → Ret y Q) : Ret (if b then x else y) Q := by
 cases b
 ·exact hf rfl
 ·exact ht rfl
theorem Ret.mono {α : Type} {o : Option α} {Q R : α → Prop} (h : Ret o Q) (hr : ∀ a, Q a → R a) : Ret o R := let ⟨a, h1, h2⟩ := h; ⟨a, h1, hr a h2⟩
theorem Ret.eq {α : Type} {o : Option α} {v : α} (h : Ret o (· = v)) : o = some v := by obtain ⟨a, h1, rfl⟩ := h; exact h1
theorem Ret.of {α : Type} {o : Option α} {v : α} {Q : α → Prop} (h : o = some v) (hq : Q v) : Ret o Q := ⟨v, h, hq⟩
theorem Ret.loop {σ ρ : Type} {step : σ → Option (σ ⊕ ρ)} {s : σ} (I : σ → Prop) (μ : σ → Nat) {R : ρ → Prop} (h0 : I s)
  (hs : ∀ s, I s → Ret (step s) (fun o => match o with | .inl s' => I s' ∧ μ s' < μ s | .inr r => R r)) : Ret (loop step s) R := by
 have key : ∀ n s, μ s < n → I s → Ret (Proofs.YtkhnponakhabdaaGreatDoor.loop step s) R := by
  intro n
  induction n with
  | zero => intro s h; omega
  | succ n ih =>
   intro s hlt hI
   obtain ⟨o, h1, h2⟩ := hs s hI
   rw [loop_eq, h1]
   cases o with
   | inl s' => exact ih s' (by have := h2.2; omega) h2.1
   | inr r => exact ⟨r, rfl, h2⟩
 exact key (μ s + 1) s (by omega) h0
theorem Ret.loopb {σ ρ β : Type} {step : σ → Option (σ ⊕ ρ)} {s : σ} {f : ρ → Option β} {Q : β → Prop} (I : σ → Prop) (μ : σ → Nat) (R : ρ → Prop) (h0 : I s)
  (hs : ∀ s, I s → Ret (step s) (fun o => match o with | .inl s' => I s' ∧ μ s' < μ s | .inr r => R r)) (hf : ∀ r, R r → Ret (f r) Q) : Ret ((Proofs.YtkhnponakhabdaaGreatDoor.loop step s).bind f) Q :=
 Ret.bind (Ret.loop I μ h0 hs) hf
def InR (x : Int) : Prop := -9223372036854775808 ≤ x ∧ x ≤ 9223372036854775807
theorem wr {x : Int} (h : InR x) : IntKind.wrap .i64 x = x := IntWalk.i64_in x h
theorem wr_succ {n : Nat} {k : Nat} (hn : n ≤ 4611686018427387904) (hk : k < n) : IntKind.wrap .i64 ((k : Int) + 1) = ((k + 1 : Nat) : Int) := by
 rw [wr ⟨by omega, by omega⟩]; omega
theorem geti_nat {α : Type} (xs : List α) (k : Nat) : geti xs (k : Int) = xs[k]? := by unfold geti; rw [if_pos (by omega)]; simp
theorem geti_lt' {α : Type} {xs : List α} {k : Nat} (h : k < xs.length) : geti xs (k : Int) = some xs[k] := by rw [geti_nat, List.getElem?_eq_getElem h]
def InK (k : IntKind) (x : Int) : Prop := k.min ≤ x ∧ x ≤ k.max
theorem inK_of_wf {k : IntKind} {x : Int} (h : (Lit.int k x).wf = true) : InK k x := by
 simpa [Lit.wf, InK] using h
end Go.Proofs.YtkhnponakhabdaaGreatDoor
set_option linter.unusedVariables false
namespace Go.Proofs.YtkhnponakhabdaaGreatDoor
open Go Go.RowKit
theorem l1In_eq (a b c : Int) : spec_l1InS a b c = some (decide (b ≤ a ∧ a ≤ c)) := by
 unfold spec_l1InS; simp
theorem amountsOk_eq (xs : List Int) (n m : Int) (h : xs.length ≤ 4611686018427387904) : impl_amountsOkS xs n m = some (decide ((xs.length : Int) = n ∧ ∀ x ∈ xs, 0 ≤ x ∧ x ≤ m)) := by
 unfold impl_amountsOkS
 by_cases hn : (xs.length : Int) = n
 ·rw [if_neg (by simp [hn])]
  apply Ret.eq
  refine Ret.loopb (fun s => ∃ k : Nat, s = k ∧ k ≤ xs.length ∧ ∀ x ∈ xs.take k, 0 ≤ x ∧ x ≤ m) (fun s => xs.length - s.toNat) (fun r => (match r with | .inl _ => true | .inr b => b) = decide (∀ x ∈ xs, 0 ≤ x ∧ x ≤ m)) ⟨0, rfl, by omega, by simp⟩ ?_ (fun r hr => ?_)
  ·rintro s ⟨k, rfl, hle, ht⟩
   refine Ret.ite (fun hlt => ?_) (fun hge => ?_)
   ·have hlt' : k < xs.length := by simpa using hlt
    rw [geti_lt' hlt', Option.bind_some]
    refine Ret.ite (fun hne => ?_) (fun he => ?_)
    ·refine Ret.pure ?_
     simp only [Bool.or_eq_true, decide_eq_true_eq] at hne
     have : ¬ ∀ x ∈ xs, 0 ≤ x ∧ x ≤ m := fun hall => by have := hall xs[k] (List.getElem_mem _); omega
     simp only [this, decide_false]
    ·refine Ret.pure ⟨⟨k + 1, wr_succ (n := xs.length) h hlt', by omega, ?_⟩, ?_⟩
     ·rw [List.take_succ_eq_append_getElem hlt']
      simp only [Bool.or_eq_false_iff, decide_eq_false_iff_not] at he
      intro x hx
      rcases List.mem_append.1 hx with hx | hx
      ·exact ht x hx
      ·simp at hx; subst hx; omega
     ·rw [wr_succ (n := xs.length) h hlt']; simp; omega
   ·have hge' : xs.length ≤ k := by simpa using hge
    refine Ret.pure ?_
    rw [List.take_of_length_le hge'] at ht
    simp only [decide_eq_true ht]
  ·simp only [hn, true_and]
   cases r with
   | inl u => exact Ret.pure hr
   | inr b => exact Ret.pure hr
 ·rw [if_pos (by simp [hn])]
  simp [hn]
def MenuOk (g : Int) (m : List Int) : Prop := 0 ≤ g ∧ g ≤ 6 ∧ m.length ≤ 6 ∧ ∀ x ∈ m, 0 ≤ x ∧ x ≤ 2 ^ g.toNat - 1
instance (g : Int) (m : List Int) : Decidable (MenuOk g m) := by unfold MenuOk; infer_instance
end Go.Proofs.YtkhnponakhabdaaGreatDoor
set_option linter.unusedVariables false
namespace Go.Proofs.YtkhnponakhabdaaGreatDoor
open Go Go.RowKit
theorem wrn {n : Nat} (h : n < 9223372036854775808) : IntKind.wrap .i64 (n : Int) = (n : Int) := wr ⟨by omega, by omega⟩
theorem ofInt_nat (n : Nat) : BitVec.ofInt 64 (n : Int) = BitVec.ofNat 64 n := by simp
theorem toNat64 {n : Nat} (h : n < 9223372036854775808) : (BitVec.ofInt IntKind.i64.bits (n : Int)).toNat = n := by
 show (BitVec.ofInt 64 (n : Int)).toNat = n
 rw [ofInt_nat, BitVec.toNat_ofNat]; omega
theorem and_lt {a b n : Nat} (h : a < n) : a &&& b < n := Nat.lt_of_le_of_lt Nat.and_le_left h
theorem iand_nat {a b : Nat} (ha : a < 9223372036854775808) (hb : b < 9223372036854775808) : iand .i64 (a : Int) (b : Int) = ((a &&& b : Nat) : Int) := by
 unfold iand
 rw [BitVec.toNat_and, toNat64 ha, toNat64 hb, wrn (and_lt ha)]
theorem or_lt63 {a b : Nat} (ha : a < 9223372036854775808) (hb : b < 9223372036854775808) : a ||| b < 9223372036854775808 := by
 have := @Nat.or_lt_two_pow a b 63 (by omega) (by omega)
 omega
theorem ior_nat {a b : Nat} (ha : a < 9223372036854775808) (hb : b < 9223372036854775808) : ior .i64 (a : Int) (b : Int) = ((a ||| b : Nat) : Int) := by
 unfold ior
 rw [BitVec.toNat_or, toNat64 ha, toNat64 hb, wrn (or_lt63 ha hb)]
theorem ishl_nat {k : Nat} (h : k ≤ 61) : ishl .i64 1 (k : Int) = ((2 ^ k : Nat) : Int) ∧ 2 ^ k ≤ 2305843009213693952 := by
 have hp : 2 ^ k ≤ 2 ^ 61 := Nat.pow_le_pow_right (by omega) h
 have h3 : 2 ^ 61 = 2305843009213693952 := by decide
 refine ⟨?_, by omega⟩
 unfold ishl
 simp only [Int.toNat_natCast, Int.one_mul, IntKind.bits]
 rw [Nat.min_eq_left (by omega)]
 have : ((2 : Int) ^ k) = ((2 ^ k : Nat) : Int) := by simp
 rw [this, wrn (by omega)]
theorem ishlO_nat {k : Nat} (h : k ≤ 61) : ishlO .i64 1 (k : Int) = some ((2 ^ k : Nat) : Int) := by
 unfold ishlO; rw [if_neg (by simp), (ishl_nat h).1]
theorem ishr_nat {a k : Nat} (ha : a < 9223372036854775808) : ishr .i64 (a : Int) (k : Int) = ((a >>> k : Nat) : Int) := by
 unfold ishr
 simp only [Int.toNat_natCast, IntKind.bits]
 rw [Nat.shiftRight_eq_div_pow]
 by_cases hk : k ≤ 64
 ·rw [Nat.min_eq_left hk]
  have : ((2 : Int) ^ k) = ((2 ^ k : Nat) : Int) := by simp
  rw [this, Int.fdiv_eq_ediv_of_nonneg _ (Int.natCast_nonneg _)]; simp
 ·rw [Nat.min_eq_right (by omega)]
  have h1 : a / 2 ^ k = 0 := Nat.div_eq_of_lt (Nat.lt_of_lt_of_le (show a < 2 ^ 64 by omega) (Nat.pow_le_pow_right (by omega) (by omega)))
  rw [h1, Int.fdiv_eq_ediv_of_nonneg _ (by decide)]
  have h64 : (2 : Int) ^ 64 = 18446744073709551616 := by decide
  exact Int.ediv_eq_zero_of_lt (by omega) (by rw [h64]; omega)
theorem ishrO_nat {a k : Nat} (ha : a < 9223372036854775808) : ishrO .i64 (a : Int) (k : Int) = some ((a >>> k : Nat) : Int) := by
 unfold ishrO; rw [if_neg (by simp), ishr_nat ha]
theorem tmod2 (n : Nat) : Int.tmod (n : Int) 2 = ((n % 2 : Nat) : Int) := by rw [Int.tmod_eq_emod_of_nonneg (by omega)]; omega
theorem shr_bit (a k : Nat) : (Int.tmod ((a >>> k : Nat) : Int) 2 == 1) = a.testBit k := by
 rw [tmod2, Nat.testBit_eq_decide_div_mod_eq, Nat.shiftRight_eq_div_pow]
 generalize a / 2 ^ k = m
 have h2 : m % 2 = 0 ∨ m % 2 = 1 := by omega
 rcases h2 with h | h <;> rw [h] <;> rfl
theorem and_pow_ne (a k : Nat) : (((a &&& 2 ^ k : Nat) : Int) != 0) = a.testBit k := by
 rw [Bool.eq_iff_iff]
 simp only [bne_iff_ne, ne_eq, Int.natCast_eq_zero]
 constructor
 ·intro h
  cases hb : a.testBit k with
  | true => rfl
  | false =>
   exfalso; apply h
   apply Nat.eq_of_testBit_eq; intro i
   rw [Nat.testBit_and, Nat.testBit_two_pow]
   by_cases hi : k = i
   ·subst hi; simp [hb]
   ·simp [hi]
 ·intro h h0
  have : (a &&& 2 ^ k).testBit k = true := by rw [Nat.testBit_and, Nat.testBit_two_pow_self, h]; rfl
  rw [h0] at this; simp at this
theorem and_pow_eq (a k : Nat) : (((a &&& 2 ^ k : Nat) : Int) == 0) = !a.testBit k := by
 have := and_pow_ne a k
 rw [← this]; simp [bne]
theorem mod_pow_succ (x k : Nat) : x % 2 ^ (k + 1) = x % 2 ^ k + (if x.testBit k then 2 ^ k else 0) := by
 rw [Nat.testBit_eq_decide_div_mod_eq, Nat.pow_succ, Nat.mod_mul]
 have h2 : x / 2 ^ k % 2 = 0 ∨ x / 2 ^ k % 2 = 1 := by omega
 rcases h2 with h | h <;> simp [h]
theorem or_and_add : ∀ (n a b : Nat), a < 2 ^ n → b < 2 ^ n → (a ||| b) + (a &&& b) = a + b
 | 0, a, b, ha, hb => by
  have : a = 0 := by simpa using ha
  have : b = 0 := by simpa using hb
  subst_vars; rfl
 | n + 1, a, b, ha, hb => by
  have ih := or_and_add n (a / 2) (b / 2) (by rw [Nat.pow_succ] at ha; omega) (by rw [Nat.pow_succ] at hb; omega)
  have e1 : (a ||| b) / 2 = a / 2 ||| b / 2 := Nat.or_div_two
  have e2 : (a &&& b) / 2 = a / 2 &&& b / 2 := Nat.and_div_two
  have e3 : (a ||| b) % 2 = if a % 2 = 1 ∨ b % 2 = 1 then 1 else 0 := by
   have := Nat.testBit_or a b 0
   simp only [Nat.testBit_zero] at this
   have h1 : a % 2 = 0 ∨ a % 2 = 1 := by omega
   have h2 : b % 2 = 0 ∨ b % 2 = 1 := by omega
   have h3 : (a ||| b) % 2 = 0 ∨ (a ||| b) % 2 = 1 := by omega
   rcases h1 with h1 | h1 <;> rcases h2 with h2 | h2 <;> rcases h3 with h3 | h3 <;> simp [h1, h2, h3] at this ⊢
  have e4 : (a &&& b) % 2 = if a % 2 = 1 ∧ b % 2 = 1 then 1 else 0 := by
   have := Nat.testBit_and a b 0
   simp only [Nat.testBit_zero] at this
   have h1 : a % 2 = 0 ∨ a % 2 = 1 := by omega
   have h2 : b % 2 = 0 ∨ b % 2 = 1 := by omega
   have h3 : (a &&& b) % 2 = 0 ∨ (a &&& b) % 2 = 1 := by omega
   rcases h1 with h1 | h1 <;> rcases h2 with h2 | h2 <;> rcases h3 with h3 | h3 <;> simp [h1, h2, h3] at this ⊢
  have h1 : a % 2 = 0 ∨ a % 2 = 1 := by omega
  have h2 : b % 2 = 0 ∨ b % 2 = 1 := by omega
  rcases h1 with h1 | h1 <;> rcases h2 with h2 | h2 <;> rw [h1, h2] at e3 e4 <;> simp only [Nat.zero_ne_one, or_self, or_true, true_or, and_self, and_true, true_and, if_true, if_false, and_false, false_and] at e3 e4 <;> omega
end Go.Proofs.YtkhnponakhabdaaGreatDoor
set_option linter.unusedVariables false
namespace Go.Proofs.YtkhnponakhabdaaGreatDoor
open Go Go.RowKit
theorem iquoO_nat {a n : Nat} (ha : a < 9223372036854775808) (hn : 0 < n) : iquoO .i64 (a : Int) (n : Int) = some ((a / n : Nat) : Int) := by
 unfold iquoO
 rw [if_neg (by simp; omega), Int.tdiv_eq_ediv_of_nonneg (by omega)]
 have : (a : Int) / (n : Int) = ((a / n : Nat) : Int) := by simp
 have h2 : a / n ≤ a := Nat.div_le_self a n
 rw [this, wrn (by omega)]
theorem div_bit (a k : Nat) : (Int.tmod ((a / 2 ^ k : Nat) : Int) 2 == 1) = a.testBit k := by rw [← Nat.shiftRight_eq_div_pow]; exact shr_bit a k
theorem or_max_lt {a b n : Nat} (ha : a < 2 ^ n) (hb : b < 2 ^ n) : a ||| b < 2 ^ n := Nat.or_lt_two_pow ha hb
theorem pow61 {k : Nat} (h : k ≤ 61) : 2 ^ k ≤ 2305843009213693952 := (ishl_nat h).2
theorem l1Join_eq {a b : Nat} (ha : a < 2305843009213693952) (hb : b < 2305843009213693952) : spec_l1JoinS (a : Int) (b : Int) = some ((a ||| b : Nat) : Int) := by
 unfold spec_l1JoinS
 have hmax : (if (b : Int) > (a : Int) then (b : Int) else (a : Int)) = ((max a b : Nat) : Int) := by
  by_cases h : a < b
  ·rw [if_pos (by omega)]; omega
  ·rw [if_neg (by omega)]; omega
 rw [hmax]
 have hm : max a b < 2305843009213693952 := by omega
 apply Ret.eq
 refine Ret.loopb (fun s => ∃ k : Nat, k ≤ 61 ∧ s.2 = ((2 ^ k : Nat) : Int) ∧ s.1 = (((a ||| b) % 2 ^ k : Nat) : Int)) (fun s => 2305843009213693953 - s.2.toNat) (fun r => r = ((a ||| b : Nat) : Int)) ⟨0, by omega, rfl, by simp [Nat.mod_one]⟩ ?_ (fun r hr => Ret.pure hr)
 rintro ⟨out, bit⟩ ⟨k, hk, h2, h1⟩
 simp only at h1 h2
 subst h1; subst h2
 have hpos : 0 < 2 ^ k := Nat.two_pow_pos k
 have hple := pow61 hk
 refine Ret.ite (fun hlt => ?_) (fun hge => ?_)
 ·have hlt' : 2 ^ k ≤ max a b := Int.ofNat_le.1 (of_decide_eq_true hlt)
  have hk1 : k + 1 ≤ 61 := by
   rcases Nat.lt_or_ge k 61 with h | h
   ·exact h
   ·have : (2 : Nat) ^ 61 ≤ 2 ^ k := Nat.pow_le_pow_right (by omega) h
    have h3 : (2 : Nat) ^ 61 = 2305843009213693952 := by decide
    omega
  have hple1 := pow61 hk1
  rw [Nat.pow_succ] at hple1
  have hml : (a ||| b) % 2 ^ k < 2 ^ k := Nat.mod_lt _ hpos
  have hw1 : IntKind.wrap .i64 (2 * ((2 ^ k : Nat) : Int)) = ((2 ^ (k + 1) : Nat) : Int) := by
   rw [show (2 : Int) * ((2 ^ k : Nat) : Int) = ((2 * 2 ^ k : Nat) : Int) from by simp, wrn (by omega), Nat.pow_succ, Nat.mul_comm]
  have hw2 : IntKind.wrap .i64 ((((a ||| b) % 2 ^ k : Nat) : Int) + ((2 ^ k : Nat) : Int)) = (((a ||| b) % 2 ^ k + 2 ^ k : Nat) : Int) := by
   rw [show (((a ||| b) % 2 ^ k : Nat) : Int) + ((2 ^ k : Nat) : Int) = (((a ||| b) % 2 ^ k + 2 ^ k : Nat) : Int) from by omega, wrn (by omega)]
  rw [iquoO_nat (by omega) hpos, Option.bind_some, div_bit, iquoO_nat (by omega) hpos, Option.bind_some, div_bit, hw1, hw2]
  have hmod := mod_pow_succ (a ||| b) k
  rw [Nat.testBit_or] at hmod
  have hmeas : 2305843009213693953 - (((2 ^ (k + 1) : Nat) : Int)).toNat < 2305843009213693953 - (((2 ^ k : Nat) : Int)).toNat := by
   simp only [Int.toNat_natCast]; rw [Nat.pow_succ]; omega
  cases hta : a.testBit k <;> cases htb : b.testBit k <;> simp only [hta, htb, Bool.or_false, Bool.false_or, Bool.or_self, Bool.or_true, Bool.true_or, if_true, if_false, Bool.false_eq_true, Option.bind_some] at hmod ⊢ <;>
   exact Ret.pure ⟨⟨k + 1, hk1, rfl, by simp only [hmod, Nat.add_zero]⟩, hmeas⟩
 ·have hge' : max a b < 2 ^ k := by have := of_decide_eq_false hge; exact Int.ofNat_lt.1 (by omega)
  refine Ret.pure ?_
  rw [Nat.mod_eq_of_lt (or_max_lt (by omega) (by omega))]
theorem l1Meet_eq {a b : Nat} (ha : a < 2305843009213693952) (hb : b < 2305843009213693952) : spec_l1MeetS (a : Int) (b : Int) = some ((a &&& b : Nat) : Int) := by
 unfold spec_l1MeetS
 have h := or_and_add 61 a b ha hb
 rw [l1Join_eq ha hb]
 simp only [Option.bind_some]
 congr 1
 rw [show (a : Int) + (b : Int) = ((a + b : Nat) : Int) from by omega, wrn (by omega), wr ⟨by omega, by omega⟩]
 omega
theorem p6 {n x : Nat} (hn : n ≤ 6) (h : x < 2 ^ n) : x < 64 := Nat.lt_of_lt_of_le h (Nat.pow_le_pow_right (n := 2) (by omega) hn)
end Go.Proofs.YtkhnponakhabdaaGreatDoor
set_option linter.unusedVariables false
namespace Go.Proofs.YtkhnponakhabdaaGreatDoor
open Go Go.RowKit
def pcF : Nat → Nat → Nat
 | 0, _ => 0
 | k + 1, x => x % 2 + pcF k (x / 2)
def Mk (c : Nat) : Nat → Nat
 | 0 => 0
 | n + 1 => c + 256 * Mk c n
theorem and_byte {b c x y : Nat} (hb : b < 256) (hc : c < 256) : (b + 256 * x) &&& (c + 256 * y) = (b &&& c) + 256 * (x &&& y) := by
 have h1 : ((b + 256 * x) &&& (c + 256 * y)) % 2 ^ 8 = b &&& c := by
  rw [Nat.and_mod_two_pow]
  have e1 : (b + 256 * x) % 2 ^ 8 = b := by simp; omega
  have e2 : (c + 256 * y) % 2 ^ 8 = c := by simp; omega
  rw [e1, e2]
 have h2 : ((b + 256 * x) &&& (c + 256 * y)) / 2 ^ 8 = x &&& y := by
  rw [← Nat.shiftRight_eq_div_pow, Nat.shiftRight_and_distrib, Nat.shiftRight_eq_div_pow, Nat.shiftRight_eq_div_pow]
  have e1 : (b + 256 * x) / 2 ^ 8 = x := by simp; omega
  have e2 : (c + 256 * y) / 2 ^ 8 = y := by simp; omega
  rw [e1, e2]
 have h3 := Nat.div_add_mod ((b + 256 * x) &&& (c + 256 * y)) (2 ^ 8)
 rw [h1, h2] at h3
 rw [← h3]; simp; omega
def s1 (n x : Nat) : Nat := ((x / 2) &&& Mk 85 n) + (x &&& Mk 85 n)
def s2 (n x : Nat) : Nat := ((x / 4) &&& Mk 51 n) + (x &&& Mk 51 n)
def s3 (n x : Nat) : Nat := (x / 16 + x) &&& Mk 15 n
def b1 (b : Nat) : Nat := ((b / 2) &&& 85) + (b &&& 85)
def b2 (b : Nat) : Nat := ((b / 4) &&& 51) + (b &&& 51)
def b3 (b : Nat) : Nat := (b / 16 + b) &&& 15
theorem tab1 : ∀ b < 256, ∀ t < 2, (b / 2 + 128 * t) &&& 85 = (b / 2) &&& 85 := by decide +kernel
theorem tab2 : ∀ b < 256, ∀ t < 4, (b / 4 + 64 * t) &&& 51 = (b / 4) &&& 51 := by decide +kernel
theorem tab3 : ∀ b < 69, ∀ t < 5, (b / 16 + 16 * t + b) &&& 15 = b3 b := by decide +kernel
theorem tabAll : ∀ b < 256, b1 b < 256 ∧ b2 (b1 b) < 69 ∧ b2 (b1 b) % 16 < 5 ∧ b3 (b2 (b1 b)) = pcF 8 b := by decide +kernel
theorem s1_succ (n b x : Nat) (hb : b < 256) : s1 (n + 1) (b + 256 * x) = b1 b + 256 * s1 n x := by
 unfold s1 b1
 have e : (b + 256 * x) / 2 = (b / 2 + 128 * (x % 2)) + 256 * (x / 2) := by omega
 show ((b + 256 * x) / 2 &&& (85 + 256 * Mk 85 n)) + ((b + 256 * x) &&& (85 + 256 * Mk 85 n)) = _
 rw [e, and_byte (by omega) (by omega), and_byte hb (by omega), tab1 b hb (x % 2) (by omega)]
 omega
theorem s2_succ (n b x : Nat) (hb : b < 256) : s2 (n + 1) (b + 256 * x) = b2 b + 256 * s2 n x := by
 unfold s2 b2
 have e : (b + 256 * x) / 4 = (b / 4 + 64 * (x % 4)) + 256 * (x / 4) := by omega
 show ((b + 256 * x) / 4 &&& (51 + 256 * Mk 51 n)) + ((b + 256 * x) &&& (51 + 256 * Mk 51 n)) = _
 rw [e, and_byte (by omega) (by omega), and_byte hb (by omega), tab2 b hb (x % 4) (by omega)]
 omega
theorem s3_succ (n b x : Nat) (hb : b < 69) (hx : x % 16 < 5) : s3 (n + 1) (b + 256 * x) = b3 b + 256 * s3 n x := by
 unfold s3
 have e : (b + 256 * x) / 16 + (b + 256 * x) = (b / 16 + 16 * (x % 16) + b) + 256 * (x / 16 + x) := by omega
 show ((b + 256 * x) / 16 + (b + 256 * x)) &&& (15 + 256 * Mk 15 n) = _
 rw [e, and_byte (by omega) (by omega), tab3 b hb (x % 16) hx]
def bytesPc : Nat → Nat → Nat
 | 0, _ => 0
 | n + 1, x => pcF 8 (x % 256) + 256 * bytesPc n (x / 256)
theorem low_nibble : ∀ (n x : Nat), s2 n (s1 n x) % 16 < 5
 | 0, x => by simp [s2, s1, Mk]
 | n + 1, x => by
  have hx : x = x % 256 + 256 * (x / 256) := by omega
  obtain ⟨h1, h2, h3, h4⟩ := tabAll (x % 256) (by omega)
  rw [hx, s1_succ n _ _ (by omega), s2_succ n _ _ h1]
  omega
theorem fields : ∀ (n x : Nat), s3 n (s2 n (s1 n x)) = bytesPc n x
 | 0, x => by simp [s3, Mk, bytesPc]
 | n + 1, x => by
  have hx : x = x % 256 + 256 * (x / 256) := by omega
  obtain ⟨h1, h2, h3, h4⟩ := tabAll (x % 256) (by omega)
  conv => lhs; rw [hx]
  rw [s1_succ n _ _ (by omega), s2_succ n _ _ h1, s3_succ n _ _ h2 (low_nibble n _), h4, fields n (x / 256)]
  rfl
end Go.Proofs.YtkhnponakhabdaaGreatDoor
set_option linter.unusedVariables false
namespace Go.Proofs.YtkhnponakhabdaaGreatDoor
open Go Go.RowKit
def QuarIn (g : Int) (q : List Int) : Prop := (0 ≤ g ∧ g ≤ 6) ∧ (q.length : Int) = g ∧ ∀ x ∈ q, 0 ≤ x ∧ x ≤ 2 ^ g.toNat - 1
instance (g : Int) (q : List Int) : Decidable (QuarIn g q) := by unfold QuarIn; infer_instance
theorem getD_lt {q : List Int} {k : Nat} (h : k < q.length) : q.getD k 0 = q[k] := by rw [List.getD_eq_getElem?_getD, List.getElem?_eq_getElem h]; rfl
end Go.Proofs.YtkhnponakhabdaaGreatDoor
set_option linter.unusedVariables false
namespace Go.Proofs.YtkhnponakhabdaaGreatDoor
open Go Go.RowKit
theorem geti_getD {s : List Int} {k : Nat} (h : k < s.length) : geti s (k : Int) = some (s.getD k 0) := by rw [geti_lt' h, getD_lt h]
end Go.Proofs.YtkhnponakhabdaaGreatDoor
set_option linter.unusedVariables false
namespace Go.Proofs.YtkhnponakhabdaaGreatDoor
open Go Go.RowKit
theorem loopDet {τ ρ : Type} {step : τ → Option (τ ⊕ ρ)} {s : τ} (F : Nat → τ) (n : Nat) (r : ρ) (h0 : s = F 0)
  (h : ∀ k, k < n → step (F k) = some (.inl (F (k + 1)))) (he : step (F n) = some (.inr r)) : loop (σ := τ) (ρ := ρ) step s = some r := by
 have key : ∀ d k, k + d = n → loop (σ := τ) (ρ := ρ) step (F k) = some r := by
  intro d
  induction d with
  | zero => intro k hk; rw [Nat.add_zero] at hk; subst hk; rw [loop_eq, he]
  | succ d ih => intro k hk; rw [loop_eq, h k (by omega)]; exact ih (k + 1) (by omega)
 rw [h0]; exact key n 0 (by omega)
def firstOf {ρ : Type} (p : Nat → Option ρ) : Nat → Nat → Option ρ
 | _, 0 => none
 | k, n + 1 => match p k with
  | some r => some r
  | none => firstOf p (k + 1) n
theorem loopExit {τ ρ : Type} {step : τ → Option (τ ⊕ ρ)} {s : τ} (F : Nat → τ) (n : Nat) (p : Nat → Option ρ) (e : ρ) (h0 : s = F 0)
  (h : ∀ k, k < n → step (F k) = some (match p k with | none => .inl (F (k + 1)) | some r => .inr r)) (he : step (F n) = some (.inr e)) : loop (σ := τ) (ρ := ρ) step s = some ((firstOf p 0 n).getD e) := by
 have key : ∀ d k, k + d = n → loop (σ := τ) (ρ := ρ) step (F k) = some ((firstOf p k d).getD e) := by
  intro d
  induction d with
  | zero => intro k hk; rw [Nat.add_zero] at hk; subst hk; rw [loop_eq, he]; rfl
  | succ d ih =>
   intro k hk
   rw [loop_eq, h k (by omega)]
   unfold firstOf
   cases p k with
   | none => exact ih (k + 1) (by omega)
   | some r => rfl
 rw [h0]; exact key n 0 (by omega)
end Go.Proofs.YtkhnponakhabdaaGreatDoor
set_option linter.unusedVariables false
namespace Go.Proofs.YtkhnponakhabdaaGreatDoor
open Go Go.RowKit
theorem loopAllF {τ : Type} {step : τ → Option (τ ⊕ (Unit ⊕ Bool))} {s : τ} (F : Nat → τ) (n : Nat) (p : Nat → Bool) (h0 : s = F 0)
  (h : ∀ k, k < n → (∀ j, j < k → p j = true) → step (F k) = some (if p k then .inl (F (k + 1)) else .inr (.inr false))) (he : (∀ j, j < n → p j = true) → step (F n) = some (.inr (.inl ()))) :
  loop (σ := τ) (ρ := Unit ⊕ Bool) step s = some (if (List.range n).all p then .inl () else .inr false) := by
 have key : ∀ d k, k + d = n → (∀ j, j < k → p j = true) → loop (σ := τ) (ρ := Unit ⊕ Bool) step (F k) = some (if (List.range n).all p then .inl () else .inr false) := by
  intro d
  induction d with
  | zero =>
   intro k hk hp
   rw [Nat.add_zero] at hk; subst hk
   rw [loop_eq, he hp, if_pos (List.all_eq_true.2 fun j hj => hp j (List.mem_range.1 hj))]
  | succ d ih =>
   intro k hk hp
   rw [loop_eq, h k (by omega) hp]
   by_cases hpk : p k = true
   ·rw [if_pos hpk]
    refine ih (k + 1) (by omega) fun j hj => ?_
    rcases Nat.lt_or_ge j k with h1 | h1
    ·exact hp j h1
    ·have : j = k := by omega
     subst this; exact hpk
   ·have : ¬ ((List.range n).all p = true) := fun hall => hpk (List.all_eq_true.1 hall k (List.mem_range.2 (by omega)))
    rw [if_neg hpk, if_neg this]
 rw [h0]; exact key n 0 (by omega) fun j hj => by omega
def atB {α : Type} (xs : List α) (p : α → Bool) (k : Nat) : Bool := match xs[k]? with | some x => p x | none => true
theorem atB_lt {α : Type} {xs : List α} {p : α → Bool} {k : Nat} (h : k < xs.length) : atB xs p k = p xs[k] := by unfold atB; rw [List.getElem?_eq_getElem h]
def allI {α : Type} (xs : List α) (p : Nat → α → Bool) : Bool := (List.range xs.length).all fun k => atB xs (p k) k
theorem allI_true {α : Type} {xs : List α} {p : Nat → α → Bool} : allI xs p = true ↔ ∀ k (h : k < xs.length), p k xs[k] = true := by
 unfold allI
 rw [List.all_eq_true]
 constructor
 ·intro h k hk
  have := h k (List.mem_range.2 hk)
  rwa [atB_lt hk] at this
 ·intro h k hk
  rw [atB_lt (List.mem_range.1 hk)]; exact h k _
theorem allI_all {α : Type} (xs : List α) (p : α → Bool) : allI xs (fun _ x => p x) = xs.all p := by
 rw [Bool.eq_iff_iff, allI_true, List.all_eq_true]
 constructor
 ·intro h x hx
  obtain ⟨k, hk, rfl⟩ := List.mem_iff_getElem.1 hx
  exact h k hk
 ·intro h k hk; exact h _ (List.getElem_mem hk)
theorem allI_and {α : Type} (xs : List α) (p q : Nat → α → Bool) : allI xs (fun k x => p k x && q k x) = (allI xs p && allI xs q) := by
 rw [Bool.eq_iff_iff, Bool.and_eq_true, allI_true, allI_true, allI_true]
 simp only [Bool.and_eq_true]
 exact ⟨fun h => ⟨fun k hk => (h k hk).1, fun k hk => (h k hk).2⟩, fun h k hk => ⟨h.1 k hk, h.2 k hk⟩⟩
theorem loopList {α : Type} (xs : List α) (p : Nat → α → Bool) {step : Int → Option (Int ⊕ (Unit ⊕ Bool))}
  (h : ∀ k (hk : k < xs.length), step (k : Int) = some (if p k xs[k] then .inl ((k + 1 : Nat) : Int) else .inr (.inr false))) (he : step (xs.length : Int) = some (.inr (.inl ()))) :
  loop (σ := Int) (ρ := Unit ⊕ Bool) step 0 = some (if allI xs p then .inl () else .inr false) := by
 refine loopAllF (fun k => (k : Int)) xs.length (fun k => atB xs (p k) k) rfl (fun k hk _ => ?_) (fun _ => he)
 rw [atB_lt hk]; exact h k hk
theorem loopListF {α τ : Type} {step : τ → Option (τ ⊕ (Unit ⊕ Bool))} {s : τ} (F : Nat → τ) (xs : List α) (p : Nat → α → Bool) (h0 : s = F 0)
  (h : ∀ k (hk : k < xs.length), step (F k) = some (if p k xs[k] then .inl (F (k + 1)) else .inr (.inr false))) (he : step (F xs.length) = some (.inr (.inl ()))) :
  loop (σ := τ) (ρ := Unit ⊕ Bool) step s = some (if allI xs p then .inl () else .inr false) := by
 refine loopAllF F xs.length (fun k => atB xs (p k) k) h0 (fun k hk _ => ?_) (fun _ => he)
 rw [atB_lt hk]; exact h k hk
theorem lt_dec {k n : Nat} (h : k < n) : decide ((k : Int) < (n : Int)) = true := decide_eq_true (by omega)
theorem mkO_nat {α : Type} (z : α) {n : Nat} (h : n ≤ 1099511627776) : mkO z (n : Int) = some (List.replicate n z) := by
 unfold mkO room; rw [if_pos (by simp; omega)]; simp
theorem appO_le {α : Type} {xs ys : List α} (h : xs.length + ys.length ≤ 1099511627776) : appO xs ys = some (xs ++ ys) := by
 unfold appO room; rw [if_pos (by simp; omega)]
theorem copyLoop {α β : Type} (xs : List α) (f : α → β) (z : β) {step : Int × List β → Option ((Int × List β) ⊕ List β)}
  (hs : ∀ k (hk : k < xs.length) (ys : List β), ys.length = xs.length → step ((k : Int), ys) = some (.inl (((k + 1 : Nat) : Int), ys.set k (f xs[k]))))
  (he : ∀ ys : List β, ys.length = xs.length → step ((xs.length : Int), ys) = some (.inr ys)) :
  loop (σ := Int × List β) (ρ := List β) step (0, List.replicate xs.length z) = some (xs.map f) := by
 refine loopDet (fun k => ((k : Int), (xs.take k).map f ++ List.replicate (xs.length - k) z)) xs.length _ (by simp) (fun k hk => ?_) ?_
 ·rw [hs k hk _ (by simp; omega)]
  congr 3
  rw [List.set_append, if_neg (by simp; omega), List.take_succ_eq_append_getElem hk, List.map_append]
  rw [show k - ((xs.take k).map f).length = 0 by simp; omega, show xs.length - k = (xs.length - (k + 1)) + 1 by omega, List.replicate_succ, List.set_cons_zero]
  simp
 ·rw [he _ (by simp)]; simp
theorem mem_take_succ {α : Type} {xs : List α} {v : α} {k : Nat} (h : k < xs.length) : v ∈ xs.take (k + 1) ↔ v ∈ xs.take k ∨ v = xs[k] := by
 rw [List.take_succ_eq_append_getElem h, List.mem_append, List.mem_singleton]
end Go.Proofs.YtkhnponakhabdaaGreatDoor
