/- What is read of a number's text. Own work; no program in sight. -/
import Derived.Test.YtcjkbcdlpfgbgaaDoorNum
set_option linter.unusedVariables false
namespace Go.Proofs.YtcjkbcdlpfgbgaaDoor
open Go Go.RowKit
theorem lead_eq (w : List UInt8) : (if decide ((w.length : Int) > 1) = true then ((byteAt w 0).bind fun x1 => some (x1 == 48)) else some false) = some (!decide (1 < w.length → w.head? ≠ some 48)) := by
  by_cases h1 : 1 < w.length
  · rw [if_pos (by simp; omega), head_byte (by omega), Option.bind_some, head48 (by omega)]
    congr 1
    by_cases h : w.head? = some 48
    · rw [decide_eq_true h, decide_eq_false (fun hh => hh h1 h)]; rfl
    · rw [decide_eq_false h, decide_eq_true (fun _ => h)]; rfl
  · rw [if_neg (by simp; omega), decide_eq_true (fun h => absurd h h1)]; rfl
theorem Dg.take_succ {w : List UInt8} {k : Nat} (h : k < w.length) (hd : Dg (w.take k)) (hb : 48 ≤ (w[k]).toNat ∧ (w[k]).toNat ≤ 57) : Dg (w.take (k + 1)) := by
  rw [List.take_succ_eq_append_getElem h]
  intro b hm
  rcases List.mem_append.1 hm with hm | hm
  · exact hd b hm
  · rw [List.mem_singleton.1 hm]; exact hb
theorem p105 {k : Nat} (h : k ≤ 5) : 10 ^ k ≤ 100000 := Nat.le_trans (Nat.pow_le_pow_right (by omega) h) (by decide)
theorem readNumber_eq (w : List UInt8) : impl_readNumberS w 3 = some (if IsNum 3 w then (((val w : Nat) : Int), true) else (0, false)) := by
  unfold impl_readNumberS
  rw [lead_eq]
  by_cases hl : 1 ≤ w.length ∧ w.length ≤ 3
  · rw [if_neg (by simp only [Bool.or_eq_true, decide_eq_true_eq]; omega), Option.bind_some, Option.bind_some]
    by_cases hh : 1 < w.length → w.head? ≠ some 48
    · rw [decide_eq_true hh, if_neg (by simp)]
      refine Ret.eq (Ret.loopb (fun s => ∃ k : Nat, s = (((val (w.take k) : Nat) : Int), (k : Int)) ∧ k ≤ w.length ∧ Dg (w.take k)) (fun s => w.length - s.2.toNat)
        (fun r => (r = .inl ((val w : Nat) : Int) ∧ Dg w) ∨ (r = .inr (0, false) ∧ ¬ Dg w)) ⟨0, by simp [val], by omega, by simp [Dg]⟩ ?_ (fun r hr => ?_))
      · rintro s ⟨k, rfl, hk, hd⟩
        (try dsimp only)
        by_cases hkl : k < w.length
        · rw [if_pos (lt_dec hkl), byteAt_lt hkl, Option.bind_some]
          by_cases hb : 48 ≤ (w[k]).toNat ∧ (w[k]).toNat ≤ 57
          · rw [if_neg (by simp; omega), Option.bind_some, Option.bind_some, if_neg (by simp; omega), Option.bind_some, digit_val hb]
            have hv := val_lt k (w.take k) (by simp; omega) hd
            have hp := p105 (k := k) (by omega)
            rw [show ((val (w.take k) : Nat) : Int) * 10 = ((val (w.take k) * 10 : Nat) : Int) by omega, wrn (by omega), show ((val (w.take k) * 10 : Nat) : Int) + (((w[k]).toNat - 48 : Nat) : Int) = ((val (w.take k) * 10 + ((w[k]).toNat - 48) : Nat) : Int) by omega, wrn (by omega), wr_succ (n := w.length) (by omega) hkl, ← take_val hkl]
            exact Ret.pure ⟨⟨k + 1, rfl, by omega, hd.take_succ hkl hb⟩, by dsimp only; omega⟩
          · have hnd : ¬ Dg w := fun h => hb (h _ (List.getElem_mem hkl))
            by_cases h48 : (w[k]).toNat < 48
            · rw [if_pos (by simp; omega), Option.bind_some, if_pos rfl]
              exact Ret.pure (.inr ⟨rfl, hnd⟩)
            · rw [if_neg (by simp; omega), Option.bind_some, Option.bind_some, if_pos (by simp; omega)]
              exact Ret.pure (.inr ⟨rfl, hnd⟩)
        · have : k = w.length := by omega
          subst this
          rw [if_neg (by simp)]
          rw [List.take_length] at hd ⊢
          exact Ret.pure (.inl ⟨rfl, hd⟩)
      · rcases hr with ⟨rfl, h⟩ | ⟨rfl, h⟩
        · rw [if_pos (show IsNum 3 w from ⟨hl, h, hh⟩)]; exact Ret.pure rfl
        · rw [if_neg (fun hn : IsNum 3 w => h hn.2.1)]; exact Ret.pure rfl
    · rw [decide_eq_false hh, if_pos (by simp), if_neg (fun hn : IsNum 3 w => hh hn.2.2)]
  · rw [if_pos (by simp only [Bool.or_eq_true, decide_eq_true_eq]; omega), Option.bind_some, if_pos rfl, if_neg (fun hn : IsNum 3 w => hl hn.1)]
theorem read_eq (w : List UInt8) : spec_l1ReadS w = some (if IsNum 5 w then ((val w : Nat) : Int) else -1) := by
  unfold spec_l1ReadS
  rw [lead_eq, l1In_eq, Option.bind_some]
  by_cases hl : 1 ≤ w.length ∧ w.length ≤ 5
  · rw [decide_eq_true (show (1 : Int) ≤ (w.length : Int) ∧ (w.length : Int) ≤ 5 by omega), if_neg (by simp), Option.bind_some, Option.bind_some]
    by_cases hh : 1 < w.length → w.head? ≠ some 48
    · rw [decide_eq_true hh, if_neg (by simp)]
      refine Ret.eq (Ret.loopb (fun s => ∃ k : Nat, s = (((val (w.take k) : Nat) : Int), (k : Int)) ∧ k ≤ w.length ∧ Dg (w.take k)) (fun s => w.length - s.2.toNat)
        (fun r => (r = .inl ((val w : Nat) : Int) ∧ Dg w) ∨ (r = .inr (-1) ∧ ¬ Dg w)) ⟨0, by simp [val], by omega, by simp [Dg]⟩ ?_ (fun r hr => ?_))
      · rintro s ⟨k, rfl, hk, hd⟩
        (try dsimp only)
        by_cases hkl : k < w.length
        · rw [if_pos (lt_dec hkl), byteAt_lt hkl, Option.bind_some]
          by_cases hb : 48 ≤ (w[k]).toNat ∧ (w[k]).toNat ≤ 57
          · rw [if_neg (by simp; omega), Option.bind_some, Option.bind_some, if_neg (by simp; omega), Option.bind_some, digit_val hb]
            have hv := val_lt k (w.take k) (by simp; omega) hd
            have hp := p105 (k := k) (by omega)
            rw [show 10 * ((val (w.take k) : Nat) : Int) = ((val (w.take k) * 10 : Nat) : Int) by omega, wrn (by omega), show ((val (w.take k) * 10 : Nat) : Int) + (((w[k]).toNat - 48 : Nat) : Int) = ((val (w.take k) * 10 + ((w[k]).toNat - 48) : Nat) : Int) by omega, wrn (by omega), wr_succ (n := w.length) (by omega) hkl, ← take_val hkl]
            exact Ret.pure ⟨⟨k + 1, rfl, by omega, hd.take_succ hkl hb⟩, by dsimp only; omega⟩
          · have hnd : ¬ Dg w := fun h => hb (h _ (List.getElem_mem hkl))
            by_cases h48 : (w[k]).toNat < 48
            · rw [if_pos (by simp; omega), Option.bind_some, if_pos rfl]
              exact Ret.pure (.inr ⟨rfl, hnd⟩)
            · rw [if_neg (by simp; omega), Option.bind_some, Option.bind_some, if_pos (by simp; omega)]
              exact Ret.pure (.inr ⟨rfl, hnd⟩)
        · have : k = w.length := by omega
          subst this
          rw [if_neg (by simp)]
          rw [List.take_length] at hd ⊢
          exact Ret.pure (.inl ⟨rfl, hd⟩)
      · rcases hr with ⟨rfl, h⟩ | ⟨rfl, h⟩
        · rw [if_pos (show IsNum 5 w from ⟨hl, h, hh⟩)]; exact Ret.pure rfl
        · rw [if_neg (fun hn : IsNum 5 w => h hn.2.1)]; exact Ret.pure rfl
    · rw [decide_eq_false hh, if_pos (by simp), if_neg (fun hn : IsNum 5 w => hh hn.2.2)]
  · rw [decide_eq_false (show ¬ ((1 : Int) ≤ (w.length : Int) ∧ (w.length : Int) ≤ 5) by omega), if_pos (by simp), Option.bind_some, if_pos rfl, if_neg (fun hn : IsNum 5 w => hl hn.1)]
end Go.Proofs.YtcjkbcdlpfgbgaaDoor
