/- Numbers in decimal: what is read and what is written. Own work; no program in sight. -/
import Derived.Test.YtcjkbcdlpfgbgaaDoorWords
set_option linter.unusedVariables false
namespace Go.Proofs.YtcjkbcdlpfgbgaaDoor
open Go Go.RowKit
def val (w : List UInt8) : Nat := w.foldl (fun v b => v * 10 + (b.toNat - 48)) 0
theorem val_snoc (w : List UInt8) (b : UInt8) : val (w ++ [b]) = val w * 10 + (b.toNat - 48) := by unfold val; rw [List.foldl_append]; rfl
def Dg (w : List UInt8) : Prop := ∀ b ∈ w, 48 ≤ b.toNat ∧ b.toNat ≤ 57
theorem Dg.snoc {w : List UInt8} {b : UInt8} (h : Dg (w ++ [b])) : Dg w ∧ 48 ≤ b.toNat ∧ b.toNat ≤ 57 := ⟨fun x hx => h x (by simp [hx]), h b (by simp)⟩
theorem val_lt : ∀ (n : Nat) (w : List UInt8), w.length = n → Dg w → val w < 10 ^ n
  | 0, w, hl, _ => by rw [List.eq_nil_of_length_eq_zero hl]; decide
  | n + 1, w, hl, hd => by
    rcases List.eq_nil_or_concat w with rfl | ⟨w', b, rfl⟩
    · simp at hl
    · rw [List.concat_eq_append] at *
      obtain ⟨h1, h2⟩ := hd.snoc
      have ih := val_lt n w' (by simpa using hl) h1
      rw [val_snoc, Nat.pow_succ]; omega
theorem val_pos : ∀ (n : Nat) (w : List UInt8), w.length = n + 1 → Dg w → w.head? ≠ some 48 → 1 ≤ val w
  | 0, w, hl, hd, hh => by
    obtain ⟨b, rfl⟩ := List.length_eq_one_iff.1 hl
    have h1 := hd b (by simp)
    have h2 : b.toNat ≠ 48 := fun e => hh (by simp; exact UInt8.toNat_inj.1 e)
    show 1 ≤ 0 * 10 + (b.toNat - 48)
    omega
  | n + 1, w, hl, hd, hh => by
    rcases List.eq_nil_or_concat w with rfl | ⟨w', b, rfl⟩
    · simp at hl
    · rw [List.concat_eq_append] at *
      obtain ⟨h1, h2⟩ := hd.snoc
      have hl' : w'.length = n + 1 := by simpa using hl
      have hh' : w'.head? ≠ some 48 := by
        cases w' with
        | nil => simp at hl'
        | cons x xs => simpa using hh
      have ih := val_pos n w' hl' h1 hh'
      rw [val_snoc]; omega
theorem byte_of {b : UInt8} {n : Nat} (h : b.toNat = n) (hn : n < 256) : UInt8.ofNat n = b := by
  apply UInt8.toNat_inj.1
  rw [h]; simp; omega
theorem num_dec : ∀ (n : Nat) (w : List UInt8), w.length = n + 1 → Dg w → (1 < w.length → w.head? ≠ some 48) → Lib.decDigits (val w) = w
  | 0, w, hl, hd, _ => by
    obtain ⟨b, rfl⟩ := List.length_eq_one_iff.1 hl
    have h1 := hd b (by simp)
    have e : val [b] = b.toNat - 48 := by show 0 * 10 + (b.toNat - 48) = _; omega
    rw [e, Lib.decDigits_one (by omega), byte_of (b := b) (by omega) (by omega)]
  | n + 1, w, hl, hd, hh => by
    rcases List.eq_nil_or_concat w with rfl | ⟨w', b, rfl⟩
    · simp at hl
    · rw [List.concat_eq_append] at *
      obtain ⟨h1, h2⟩ := hd.snoc
      have hl' : w'.length = n + 1 := by simpa using hl
      have hh' : w'.head? ≠ some 48 := by
        have := hh (by simp; omega)
        cases w' with
        | nil => simp at hl'
        | cons x xs => simpa using this
      have hp := val_pos n w' hl' h1 hh'
      have ih := num_dec n w' hl' h1 (fun _ => hh')
      rw [val_snoc, Lib.decDigits, dif_neg (by omega)]
      rw [show (val w' * 10 + (b.toNat - 48)) / 10 = val w' by omega, show (val w' * 10 + (b.toNat - 48)) % 10 = b.toNat - 48 by omega, ih, byte_of (b := b) (by omega) (by omega)]
theorem ofNat_toNat {n : Nat} (h : n < 256) : (UInt8.ofNat n).toNat = n := by simp; omega
theorem dec_num : ∀ (k n : Nat), n ≤ k → Lib.decDigits n ≠ [] ∧ Dg (Lib.decDigits n) ∧ val (Lib.decDigits n) = n ∧ (1 ≤ n → (Lib.decDigits n).head? ≠ some 48) := by
  intro k
  induction k with
  | zero =>
    intro n hn
    have : n = 0 := by omega
    subst this
    rw [Lib.decDigits_one (by omega)]
    exact ⟨by simp, fun b hb => by simp at hb; subst hb; decide, rfl, fun h => by omega⟩
  | succ k ih =>
    intro n hn
    by_cases h10 : n < 10
    · rw [Lib.decDigits_one h10]
      have e := ofNat_toNat (n := 48 + n) (by omega)
      refine ⟨by simp, fun b hb => ?_, ?_, fun h1 hh => ?_⟩
      · simp only [List.mem_singleton] at hb
        subst hb
        omega
      · show 0 * 10 + ((UInt8.ofNat (48 + n)).toNat - 48) = n
        omega
      · simp only [List.head?_cons, Option.some.injEq] at hh
        rw [hh] at e
        have : (48 : UInt8).toNat = 48 := rfl
        omega
    · obtain ⟨i1, i2, i3, i4⟩ := ih (n / 10) (by omega)
      have e := ofNat_toNat (n := 48 + n % 10) (by omega)
      rw [Lib.decDigits, dif_neg h10]
      refine ⟨by simp, fun b hb => ?_, ?_, fun h1 => ?_⟩
      · rcases List.mem_append.1 hb with h | h
        · exact i2 b h
        · simp only [List.mem_singleton] at h
          subst h; omega
      · rw [val_snoc, i3]; omega
      · have h4 := i4 (by omega)
        generalize Lib.decDigits (n / 10) = l at i1 h4 ⊢
        cases l with
        | nil => exact absurd rfl i1
        | cons x xs => simpa using h4
theorem dec_no {n : Nat} {c : UInt8} (hc : c.toNat < 48) : c ∉ Lib.decDigits n := fun h => by
  have := (dec_num n n (Nat.le_refl _)).2.1 c h
  omega
/-- a number of at most m digits, none ahead too many -/
def IsNum (m : Nat) (w : List UInt8) : Prop := (1 ≤ w.length ∧ w.length ≤ m) ∧ Dg w ∧ (1 < w.length → w.head? ≠ some 48)
theorem isNum_dec {m : Nat} {w : List UInt8} (h : IsNum m w) : Lib.decDigits (val w) = w := num_dec (w.length - 1) w (by have := h.1; omega) h.2.1 h.2.2
theorem dec_isNum {n : Nat} (h : n < 1000) {m : Nat} (hm : 3 ≤ m) : IsNum m (Lib.decDigits n) := by
  obtain ⟨h1, h2, h3, h4⟩ := dec_num n n (Nat.le_refl _)
  have hl := digits_len h
  have h5 : 0 < (Lib.decDigits n).length := List.length_pos_iff.2 h1
  refine ⟨⟨by omega, by omega⟩, h2, fun hgt => h4 ?_⟩
  rcases Nat.eq_zero_or_pos n with h0 | h0
  · subst h0
    rw [Lib.decDigits_one (by omega)] at hgt
    simp at hgt
  · exact h0
theorem head_byte {w : List UInt8} (h : 0 < w.length) : byteAt w 0 = some (((w[0]).toNat : Nat) : Int) := byteAt_lt (k := 0) h
theorem head48 {w : List UInt8} (h : 0 < w.length) : ((((w[0]).toNat : Nat) : Int) == 48) = decide (w.head? = some 48) := by
  rw [Bool.eq_iff_iff, beq_iff_eq, decide_eq_true_eq, List.head?_eq_getElem?, List.getElem?_eq_getElem h, Option.some.injEq]
  constructor
  · intro e
    apply UInt8.toNat_inj.1
    show _ = 48
    omega
  · intro e; rw [e]; rfl
theorem digit_val {b : UInt8} (h : 48 ≤ b.toNat ∧ b.toNat ≤ 57) : IntKind.wrap .i64 (IntKind.wrap .u8 (((b.toNat : Nat) : Int) - 48)) = ((b.toNat - 48 : Nat) : Int) := by
  rw [show ((b.toNat : Nat) : Int) - 48 = ((b.toNat - 48 : Nat) : Int) by omega, wr8 (by omega), wrn (by omega)]
instance (m : Nat) (w : List UInt8) : Decidable (IsNum m w) := by
  unfold IsNum Dg
  exact inferInstance
theorem take_val {w : List UInt8} {k : Nat} (h : k < w.length) : val (w.take (k + 1)) = val (w.take k) * 10 + ((w[k]).toNat - 48) := by
  rw [List.take_succ_eq_append_getElem h, val_snoc]
end Go.Proofs.YtcjkbcdlpfgbgaaDoor
