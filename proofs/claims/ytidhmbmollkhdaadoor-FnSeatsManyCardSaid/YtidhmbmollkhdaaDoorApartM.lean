/- Chapter 6: the most guests that no dish feeds together. Own work; no program in sight. -/
import Derived.Test.YtidhmbmollkhdaaDoorApart
set_option linter.unusedVariables false
namespace Go.Proofs.YtidhmbmollkhdaaDoor
open Go Go.RowKit
def apartMost (g : Int) (m : List Int) : Nat := maxTo (fun x => apartValid g m (castL (members x))) (fun x => (members x).length) (2 ^ g.toNat)
theorem castL_length (l : List Nat) : (castL l).length = l.length := by simp [castL]
theorem implApartMost_eq (g : Int) (m : List Int) (h : m.length ≤ 4611686018427387904) : impl_ApartMostS g m = some (if decide (MenuOk g m) then ((apartMost g m : Nat) : Int) else -1) := by
  unfold impl_ApartMostS
  rw [implMenuValid_eq g m h, Option.bind_some]
  by_cases hm : MenuOk g m
  · have hm' := hm
    obtain ⟨n, ms, rfl, hn, hms, hl, hx⟩ := menu_nat hm
    rw [decide_eq_true hm, if_neg (by simp), if_pos rfl]
    have hp : 2 ^ n ≤ 64 := Nat.pow_le_pow_right (n := 2) (by omega) hn
    have hsh : ishlO .i64 1 (n : Int) = some ((2 ^ n : Nat) : Int) := ishlO_nat (by omega)
    simp only [hsh, Option.bind_some]
    unfold apartMost
    rw [Int.toNat_natCast]
    rw [loopDet (fun k => (((maxTo (fun x => apartValid (n : Int) m (castL (members x))) (fun x => (members x).length) k : Nat) : Int), (k : Int))) (2 ^ n) ((maxTo (fun x => apartValid (n : Int) m (castL (members x))) (fun x => (members x).length) (2 ^ n) : Nat) : Int)]
    · rfl
    · rfl
    · intro k hk
      have hk6 := p6 hn hk
      have hml : (members k).length ≤ 64 := membersTo_length _ 64
      simp only
      rw [if_pos (by simp only [decide_eq_true_eq]; omega), membersOf_eq _ (by omega), Option.bind_some, show ((members k).map fun i : Nat => (i : Int)) = castL (members k) from rfl, implApartValid_eq _ _ _ h (by rw [castL_length]; omega), Option.bind_some, wr_succ (n := 64) (by omega) hk6, castL_length, max_cast]
      simp only [maxTo]
      by_cases ha : apartValid (n : Int) m (castL (members k)) = true
      · rw [if_pos ha, if_pos ha]
      · rw [if_neg ha, if_neg ha]
    · simp only
      rw [if_neg (by simp)]
  · rw [decide_eq_false hm]; rfl
theorem specApartMost_eq (g : Int) (m : List Int) (h : m.length ≤ 4611686018427387904) : spec_ApartMostS g m = some (if decide (MenuOk g m) then ((apartMost g m : Nat) : Int) else -1) := by
  unfold spec_ApartMostS
  rw [specMenuValid_eq g m h, Option.bind_some]
  by_cases hm : MenuOk g m
  · have hm' := hm
    obtain ⟨n, ms, rfl, hn, hms, hl, hx⟩ := menu_nat hm
    rw [decide_eq_true hm, if_neg (by simp), if_pos rfl]
    have hp : 2 ^ n ≤ 64 := Nat.pow_le_pow_right (n := 2) (by omega) hn
    have hsh : ishlO .i64 1 (n : Int) = some ((2 ^ n : Nat) : Int) := ishlO_nat (by omega)
    simp only [hsh, Option.bind_some]
    unfold apartMost
    rw [Int.toNat_natCast]
    rw [loopDet (fun k => (((maxTo (fun x => apartValid (n : Int) m (castL (members x))) (fun x => (members x).length) k : Nat) : Int), (k : Int))) (2 ^ n) ((maxTo (fun x => apartValid (n : Int) m (castL (members x))) (fun x => (members x).length) (2 ^ n) : Nat) : Int)]
    · rfl
    · rfl
    · intro k hk
      have hk6 := p6 hn hk
      have hml : (members k).length ≤ 64 := membersTo_length _ 64
      simp only
      rw [if_pos (by simp only [decide_eq_true_eq]; omega)]
      rw [loopDet (fun i => (castL (membersTo k i), (i : Int))) n (castL (members k))]
      · rw [Option.bind_some, specApartValid_eq _ _ _ h (by rw [castL_length]; omega), Option.bind_some, wr_succ (n := 64) (by omega) hk6, castL_length, max_cast]
        simp only [maxTo]
        by_cases ha : apartValid (n : Int) m (castL (members k)) = true
        · rw [if_pos ha, if_pos ha]
        · rw [if_neg ha, if_neg ha]
      · rfl
      · intro i hi
        simp only
        rw [if_pos (by simp only [decide_eq_true_eq]; omega), ishrO_nat (by omega), Option.bind_some, shr_bit, wr_succ (n := n) (by omega) hi, membersTo_succ]
        have hml2 := membersTo_length k i
        cases k.testBit i
        · simp
        · rw [if_pos rfl, appO_cast _ _ (by omega)]; rfl
      · simp only
        rw [if_neg (by simp)]
        have : membersTo k n = members k := by
          unfold members
          have h64 : membersTo k 64 = membersTo k (n + (64 - n)) := by congr 1; omega
          rw [h64, membersTo_zero (by rw [Nat.shiftRight_eq_div_pow]; exact Nat.div_eq_of_lt hk)]
        rw [this]
    · simp only
      rw [if_neg (by simp)]
  · rw [decide_eq_false hm]; rfl
end Go.Proofs.YtidhmbmollkhdaaDoor
