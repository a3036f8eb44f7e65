/- The number of bits: the loop, and the sum of fields of Go's library. Own work. -/
import Derived.Test.YtcjkbcdlpfgbgaaPlG6b
set_option linter.unusedVariables false
namespace Go.Proofs.Ytcjkbcdlpfgbgaa
open Go Go.RowKit
def pcF : Nat → Nat → Nat
  | 0, _ => 0
  | k + 1, x => x % 2 + pcF k (x / 2)
def pc (x : Nat) : Nat := pcF 64 x
theorem pcF_add : ∀ (a k x : Nat), pcF (a + k) x = pcF a (x % 2 ^ a) + pcF k (x / 2 ^ a)
  | 0, k, x => by simp [pcF]
  | a + 1, k, x => by
    rw [show a + 1 + k = (a + k) + 1 from by omega]
    show x % 2 + pcF (a + k) (x / 2) = ((x % 2 ^ (a + 1)) % 2 + pcF a ((x % 2 ^ (a + 1)) / 2)) + pcF k (x / 2 ^ (a + 1))
    rw [pcF_add a k (x / 2), Nat.pow_succ, Nat.mul_comm (2 ^ a) 2, Nat.mod_mul, Nat.div_div_eq_div_mul]
    have h1 : (x % 2 + 2 * (x / 2 % 2 ^ a)) % 2 = x % 2 := by omega
    have h2 : (x % 2 + 2 * (x / 2 % 2 ^ a)) / 2 = x / 2 % 2 ^ a := by omega
    rw [h1, h2]; omega
theorem pcF_stable : ∀ (k x : Nat), x < 2 ^ k → pcF (k + 1) x = pcF k x
  | 0, x, h => by have : x = 0 := by simpa using h
                  subst this; rfl
  | k + 1, x, h => by
    have hx : x / 2 < 2 ^ k := by rw [Nat.pow_succ] at h; omega
    have ih := pcF_stable k (x / 2) hx
    show x % 2 + pcF (k + 1) (x / 2) = x % 2 + pcF k (x / 2)
    rw [ih]
theorem pcF_le : ∀ (k x : Nat), pcF k x ≤ k
  | 0, _ => Nat.le_refl _
  | k + 1, x => by have := pcF_le k (x / 2); unfold pcF; omega
/-! ### masks, byte by byte -/
def Mk (c : Nat) : Nat → Nat
  | 0 => 0
  | n + 1 => c + 256 * Mk c n
theorem and_byte {b c x y : Nat} (hb : b < 256) (hc : c < 256) : (b + 256 * x) &&& (c + 256 * y) = (b &&& c) + 256 * (x &&& y) := by
  have h1 : ((b + 256 * x) &&& (c + 256 * y)) % 2 ^ 8 = b &&& c := by
    rw [Nat.and_mod_two_pow]
    have e1 : (b + 256 * x) % 2 ^ 8 = b := by simp; omega
    have e2 : (c + 256 * y) % 2 ^ 8 = c := by simp; omega
    rw [e1, e2]
  have h2 : ((b + 256 * x) &&& (c + 256 * y)) / 2 ^ 8 = x &&& y := by
    rw [← Nat.shiftRight_eq_div_pow, Nat.shiftRight_and_distrib, Nat.shiftRight_eq_div_pow, Nat.shiftRight_eq_div_pow]
    have e1 : (b + 256 * x) / 2 ^ 8 = x := by simp; omega
    have e2 : (c + 256 * y) / 2 ^ 8 = y := by simp; omega
    rw [e1, e2]
  have h3 := Nat.div_add_mod ((b + 256 * x) &&& (c + 256 * y)) (2 ^ 8)
  rw [h1, h2] at h3
  rw [← h3]; simp; omega
def s1 (n x : Nat) : Nat := ((x / 2) &&& Mk 85 n) + (x &&& Mk 85 n)
def s2 (n x : Nat) : Nat := ((x / 4) &&& Mk 51 n) + (x &&& Mk 51 n)
def s3 (n x : Nat) : Nat := (x / 16 + x) &&& Mk 15 n
def b1 (b : Nat) : Nat := ((b / 2) &&& 85) + (b &&& 85)
def b2 (b : Nat) : Nat := ((b / 4) &&& 51) + (b &&& 51)
def b3 (b : Nat) : Nat := (b / 16 + b) &&& 15
theorem tab1 : ∀ b < 256, ∀ t < 2, (b / 2 + 128 * t) &&& 85 = (b / 2) &&& 85 := by decide +kernel
theorem tab2 : ∀ b < 256, ∀ t < 4, (b / 4 + 64 * t) &&& 51 = (b / 4) &&& 51 := by decide +kernel
theorem tab3 : ∀ b < 69, ∀ t < 5, (b / 16 + 16 * t + b) &&& 15 = b3 b := by decide +kernel
theorem tabAll : ∀ b < 256, b1 b < 256 ∧ b2 (b1 b) < 69 ∧ b2 (b1 b) % 16 < 5 ∧ b3 (b2 (b1 b)) = pcF 8 b := by decide +kernel
theorem s1_succ (n b x : Nat) (hb : b < 256) : s1 (n + 1) (b + 256 * x) = b1 b + 256 * s1 n x := by
  unfold s1 b1
  have e : (b + 256 * x) / 2 = (b / 2 + 128 * (x % 2)) + 256 * (x / 2) := by omega
  show ((b + 256 * x) / 2 &&& (85 + 256 * Mk 85 n)) + ((b + 256 * x) &&& (85 + 256 * Mk 85 n)) = _
  rw [e, and_byte (by omega) (by omega), and_byte hb (by omega), tab1 b hb (x % 2) (by omega)]
  omega
theorem s2_succ (n b x : Nat) (hb : b < 256) : s2 (n + 1) (b + 256 * x) = b2 b + 256 * s2 n x := by
  unfold s2 b2
  have e : (b + 256 * x) / 4 = (b / 4 + 64 * (x % 4)) + 256 * (x / 4) := by omega
  show ((b + 256 * x) / 4 &&& (51 + 256 * Mk 51 n)) + ((b + 256 * x) &&& (51 + 256 * Mk 51 n)) = _
  rw [e, and_byte (by omega) (by omega), and_byte hb (by omega), tab2 b hb (x % 4) (by omega)]
  omega
theorem s3_succ (n b x : Nat) (hb : b < 69) (hx : x % 16 < 5) : s3 (n + 1) (b + 256 * x) = b3 b + 256 * s3 n x := by
  unfold s3
  have e : (b + 256 * x) / 16 + (b + 256 * x) = (b / 16 + 16 * (x % 16) + b) + 256 * (x / 16 + x) := by omega
  show ((b + 256 * x) / 16 + (b + 256 * x)) &&& (15 + 256 * Mk 15 n) = _
  rw [e, and_byte (by omega) (by omega), tab3 b hb (x % 16) hx]
def bytesPc : Nat → Nat → Nat
  | 0, _ => 0
  | n + 1, x => pcF 8 (x % 256) + 256 * bytesPc n (x / 256)
theorem low_nibble : ∀ (n x : Nat), s2 n (s1 n x) % 16 < 5
  | 0, x => by simp [s2, s1, Mk]
  | n + 1, x => by
    have hx : x = x % 256 + 256 * (x / 256) := by omega
    obtain ⟨h1, h2, h3, h4⟩ := tabAll (x % 256) (by omega)
    rw [hx, s1_succ n _ _ (by omega), s2_succ n _ _ h1]
    omega
theorem fields : ∀ (n x : Nat), s3 n (s2 n (s1 n x)) = bytesPc n x
  | 0, x => by simp [s3, Mk, bytesPc]
  | n + 1, x => by
    have hx : x = x % 256 + 256 * (x / 256) := by omega
    obtain ⟨h1, h2, h3, h4⟩ := tabAll (x % 256) (by omega)
    conv => lhs; rw [hx]
    rw [s1_succ n _ _ (by omega), s2_succ n _ _ h1, s3_succ n _ _ h2 (low_nibble n _), h4, fields n (x / 256)]
    rfl
theorem pc_bytes (x : Nat) : pc x = pcF 8 (x % 256) + (pcF 8 (x / 256 % 256) + (pcF 8 (x / 256 / 256 % 256) + (pcF 8 (x / 256 / 256 / 256 % 256) + (pcF 8 (x / 256 / 256 / 256 / 256 % 256) + (pcF 8 (x / 256 / 256 / 256 / 256 / 256 % 256) + (pcF 8 (x / 256 / 256 / 256 / 256 / 256 / 256 % 256) + pcF 8 (x / 256 / 256 / 256 / 256 / 256 / 256 / 256 % 256))))))) := by
  unfold pc
  have h (k y : Nat) : pcF (8 + k) y = pcF 8 (y % 256) + pcF k (y / 256) := pcF_add 8 k y
  rw [show (64 : Nat) = 8 + 56 from rfl, h 56, show (56 : Nat) = 8 + 48 from rfl, h 48, show (48 : Nat) = 8 + 40 from rfl, h 40, show (40 : Nat) = 8 + 32 from rfl, h 32, show (32 : Nat) = 8 + 24 from rfl, h 24,
    show (24 : Nat) = 8 + 16 from rfl, h 16, show (16 : Nat) = 8 + 8 from rfl, h 8]
  have h0 (y : Nat) : pcF 8 y = pcF 8 (y % 256) := by have := h 0 y; simpa [pcF] using this
  rw [h0 (x / 256 / 256 / 256 / 256 / 256 / 256 / 256)]
/-- the last steps: the bytes are summed -/
def Y8 (y0 y1 y2 y3 y4 y5 y6 y7 : Nat) : Nat := y0 + 256 * (y1 + 256 * (y2 + 256 * (y3 + 256 * (y4 + 256 * (y5 + 256 * (y6 + 256 * (y7 + 256 * 0)))))))
theorem sum_q1 (y0 y1 y2 y3 y4 y5 y6 y7 : Nat) (h : y0 < 256) : Y8 y0 y1 y2 y3 y4 y5 y6 y7 / 256 = Y8 y1 y2 y3 y4 y5 y6 y7 0 := by unfold Y8; omega
theorem sum_q2 (y0 y1 y2 y3 y4 y5 y6 y7 : Nat) : Y8 y0 y1 y2 y3 y4 y5 y6 y7 + Y8 y1 y2 y3 y4 y5 y6 y7 0 = Y8 (y0+y1) (y1+y2) (y2+y3) (y3+y4) (y4+y5) (y5+y6) (y6+y7) y7 := by unfold Y8; omega
theorem sum_q3 (y0 y1 y2 y3 y4 y5 y6 y7 : Nat) (h : y0 < 256) (h1 : y1 < 256) : Y8 y0 y1 y2 y3 y4 y5 y6 y7 / 65536 = Y8 y2 y3 y4 y5 y6 y7 0 0 := by
  rw [show (65536 : Nat) = 256 * 256 from rfl, ← Nat.div_div_eq_div_mul, sum_q1 _ _ _ _ _ _ _ _ h, sum_q1 _ _ _ _ _ _ _ _ h1]
theorem sum_q4 (y0 y1 y2 y3 y4 y5 y6 y7 : Nat) (h : y0 < 256) (h1 : y1 < 256) (h2 : y2 < 256) (h3 : y3 < 256) : Y8 y0 y1 y2 y3 y4 y5 y6 y7 / 4294967296 = Y8 y4 y5 y6 y7 0 0 0 0 := by
  rw [show (4294967296 : Nat) = 65536 * 65536 from rfl, ← Nat.div_div_eq_div_mul, sum_q3 _ _ _ _ _ _ _ _ h h1, sum_q3 _ _ _ _ _ _ _ _ h2 h3]
theorem Y8_add (a0 a1 a2 a3 a4 a5 a6 a7 b0 b1 b2 b3 b4 b5 b6 b7 : Nat) : Y8 a0 a1 a2 a3 a4 a5 a6 a7 + Y8 b0 b1 b2 b3 b4 b5 b6 b7 = Y8 (a0+b0) (a1+b1) (a2+b2) (a3+b3) (a4+b4) (a5+b5) (a6+b6) (a7+b7) := by unfold Y8; omega
theorem Y8_lt (a0 a1 a2 a3 a4 a5 a6 a7 : Nat) (h0 : a0 < 256) (h1 : a1 < 256) (h2 : a2 < 256) (h3 : a3 < 256) (h4 : a4 < 256) (h5 : a5 < 256) (h6 : a6 < 256) (h7 : a7 < 128) : Y8 a0 a1 a2 a3 a4 a5 a6 a7 < 9223372036854775808 := by
  have e7 : a7 + 256 * 0 < 2 ^ 7 := by omega
  generalize hb7 : a7 + 256 * 0 = b7 at e7
  have e6 : a6 + 256 * b7 < 2 ^ 15 := by omega
  generalize hb6 : a6 + 256 * b7 = b6 at e6
  have e5 : a5 + 256 * b6 < 2 ^ 23 := by omega
  generalize hb5 : a5 + 256 * b6 = b5 at e5
  have e4 : a4 + 256 * b5 < 2 ^ 31 := by omega
  generalize hb4 : a4 + 256 * b5 = b4 at e4
  have e3 : a3 + 256 * b4 < 2 ^ 39 := by omega
  generalize hb3 : a3 + 256 * b4 = b3 at e3
  have e2 : a2 + 256 * b3 < 2 ^ 47 := by omega
  generalize hb2 : a2 + 256 * b3 = b2 at e2
  have e1 : a1 + 256 * b2 < 2 ^ 55 := by omega
  unfold Y8
  rw [hb7, hb6, hb5, hb4, hb3, hb2]
  omega
theorem Y8_mod (a0 a1 a2 a3 a4 a5 a6 a7 : Nat) (h0 : a0 < 128) : Y8 a0 a1 a2 a3 a4 a5 a6 a7 % 128 = a0 := by
  unfold Y8
  generalize (a1 + 256 * (a2 + 256 * (a3 + 256 * (a4 + 256 * (a5 + 256 * (a6 + 256 * (a7 + 256 * 0))))))) = t
  omega
theorem sum_bytes (x : Nat) : ∃ y, bytesPc 8 x = y ∧ y + y / 256 < 9223372036854775808 ∧ (y + y / 256) + (y + y / 256) / 65536 < 9223372036854775808 ∧
    ((y + y / 256) + (y + y / 256) / 65536) + ((y + y / 256) + (y + y / 256) / 65536) / 4294967296 < 9223372036854775808 ∧
    (((y + y / 256) + (y + y / 256) / 65536) + ((y + y / 256) + (y + y / 256) / 65536) / 4294967296) % 128 = pc x := by
  refine ⟨_, rfl, ?_⟩
  rw [pc_bytes x]
  have e : bytesPc 8 x = Y8 (pcF 8 (x % 256)) (pcF 8 (x / 256 % 256)) (pcF 8 (x / 256 / 256 % 256)) (pcF 8 (x / 256 / 256 / 256 % 256)) (pcF 8 (x / 256 / 256 / 256 / 256 % 256)) (pcF 8 (x / 256 / 256 / 256 / 256 / 256 % 256)) (pcF 8 (x / 256 / 256 / 256 / 256 / 256 / 256 % 256)) (pcF 8 (x / 256 / 256 / 256 / 256 / 256 / 256 / 256 % 256)) := rfl
  rw [e]
  have l0 := pcF_le 8 (x % 256)
  have l1 := pcF_le 8 (x / 256 % 256)
  have l2 := pcF_le 8 (x / 256 / 256 % 256)
  have l3 := pcF_le 8 (x / 256 / 256 / 256 % 256)
  have l4 := pcF_le 8 (x / 256 / 256 / 256 / 256 % 256)
  have l5 := pcF_le 8 (x / 256 / 256 / 256 / 256 / 256 % 256)
  have l6 := pcF_le 8 (x / 256 / 256 / 256 / 256 / 256 / 256 % 256)
  have l7 := pcF_le 8 (x / 256 / 256 / 256 / 256 / 256 / 256 / 256 % 256)
  generalize pcF 8 (x % 256) = y0 at *
  generalize pcF 8 (x / 256 % 256) = y1 at *
  generalize pcF 8 (x / 256 / 256 % 256) = y2 at *
  generalize pcF 8 (x / 256 / 256 / 256 % 256) = y3 at *
  generalize pcF 8 (x / 256 / 256 / 256 / 256 % 256) = y4 at *
  generalize pcF 8 (x / 256 / 256 / 256 / 256 / 256 % 256) = y5 at *
  generalize pcF 8 (x / 256 / 256 / 256 / 256 / 256 / 256 % 256) = y6 at *
  generalize pcF 8 (x / 256 / 256 / 256 / 256 / 256 / 256 / 256 % 256) = y7 at *
  clear e
  rw [sum_q1 _ _ _ _ _ _ _ _ (by omega), sum_q2, sum_q3 _ _ _ _ _ _ _ _ (by omega) (by omega), Y8_add,
    sum_q4 _ _ _ _ _ _ _ _ (by omega) (by omega) (by omega) (by omega), Y8_add]
  refine ⟨Y8_lt _ _ _ _ _ _ _ _ (by omega) (by omega) (by omega) (by omega) (by omega) (by omega) (by omega) (by omega),
    Y8_lt _ _ _ _ _ _ _ _ (by omega) (by omega) (by omega) (by omega) (by omega) (by omega) (by omega) (by omega),
    Y8_lt _ _ _ _ _ _ _ _ (by omega) (by omega) (by omega) (by omega) (by omega) (by omega) (by omega) (by omega), ?_⟩
  rw [Y8_mod _ _ _ _ _ _ _ _ (by omega)]
  omega
/-! ### the unsigned operators -/
theorem wu {n : Nat} (h : n < 18446744073709551616) : IntKind.wrap .u64 (n : Int) = (n : Int) := by
  show (if (IntKind.u64.signed && decide ((n : Int) % (2 ^ 64 : Int) ≥ (2 ^ 63 : Int))) = true then (n : Int) % (2 ^ 64 : Int) - 2 ^ 64 else (n : Int) % (2 ^ 64 : Int)) = _
  rw [if_neg (by simp [IntKind.signed]), Int.emod_eq_of_lt (by omega) (by omega)]
theorem toNatU {n : Nat} (h : n < 18446744073709551616) : (BitVec.ofInt IntKind.u64.bits (n : Int)).toNat = n := by
  show (BitVec.ofInt 64 (n : Int)).toNat = n
  rw [ofInt_nat, BitVec.toNat_ofNat]; omega
theorem iandU {a b : Nat} (ha : a < 18446744073709551616) (hb : b < 18446744073709551616) : iand .u64 (a : Int) (b : Int) = ((a &&& b : Nat) : Int) := by
  unfold iand
  rw [BitVec.toNat_and, toNatU ha, toNatU hb, wu (and_lt ha)]
theorem ishrU (a k : Nat) (hk : k ≤ 64) : ishr .u64 (a : Int) (k : Int) = ((a / 2 ^ k : Nat) : Int) := by
  unfold ishr
  have e : min ((k : Int)).toNat IntKind.u64.bits = k := by
    show min ((k : Int)).toNat 64 = k
    rw [Int.toNat_natCast]; omega
  rw [e, Int.fdiv_eq_ediv_of_nonneg _ (by exact Int.le_of_lt (Int.pow_pos (by decide)))]
  simp
theorem pcF_zero : ∀ k, pcF k 0 = 0
  | 0 => rfl
  | k + 1 => by show 0 % 2 + pcF k (0 / 2) = 0; rw [show (0 : Nat) / 2 = 0 from rfl, pcF_zero k]
theorem pc_step {x : Nat} (h : x < 18446744073709551616) : pc x = x % 2 + pc (x / 2) := by
  unfold pc
  have h63 : pcF 64 (x / 2) = pcF 63 (x / 2) := pcF_stable 63 (x / 2) (by omega)
  rw [h63]
  rfl
theorem pc_le (x : Nat) : pc x ≤ 64 := pcF_le 64 x
end Go.Proofs.Ytcjkbcdlpfgbgaa
