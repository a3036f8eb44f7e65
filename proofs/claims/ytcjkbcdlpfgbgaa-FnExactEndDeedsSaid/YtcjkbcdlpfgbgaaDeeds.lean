/- Lists of deeds: compared with themselves, marked, held. Own work; no program in sight. -/
import Derived.Test.YtcjkbcdlpfgbgaaKit
set_option linter.unusedVariables false
namespace Go.Proofs.Ytcjkbcdlpfgbgaa
open Go Go.RowKit
abbrev HDeed := Int × Int × Int × Int
theorem eqDeed_self (a b c d : Int) : laws_eqHouseDeedS a b c d a b c d = some true := by unfold laws_eqHouseDeedS; simp
theorem eqDeeds_self (xs : List HDeed) (h : xs.length ≤ 4611686018427387904) : laws_eqHouseDeedSS xs xs = some true := by
  unfold laws_eqHouseDeedSS
  rw [if_neg (by simp), loopList xs (fun _ _ => true)]
  · rw [show allI xs (fun _ _ => true) = true from allI_true.2 fun _ _ => rfl]; rfl
  · intro k hk
    (try dsimp only)
    rw [if_pos (lt_dec hk), geti_lt' hk, Option.bind_some, Option.bind_some, eqDeed_self, Option.bind_some, if_neg (by simp), wr_succ h hk]
    rfl
  · (try dsimp only)
    rw [if_neg (by simp)]
def mk4 (k : Nat) : HDeed := (((4 * k + 1 : Nat) : Int), ((4 * k + 2 : Nat) : Int), ((4 * k + 3 : Nat) : Int), ((4 * k + 4 : Nat) : Int))
def ml (n : Nat) : List HDeed := (List.range n).map mk4
theorem ml_len (n : Nat) : (ml n).length = n := by simp [ml]
theorem ml_succ (n : Nat) : ml (n + 1) = ml n ++ [mk4 n] := by unfold ml; rw [List.range_succ, List.map_append]; rfl
theorem set_mid {α : Type} (l : List α) (x y : α) (r : List α) : (l ++ x :: r).set l.length y = l ++ y :: r := by
  rw [List.set_append_right _ _ (Nat.le_refl _)]; simp
theorem geti_mid {α : Type} (l : List α) (x : α) (r : List α) : geti (l ++ x :: r) (l.length : Int) = some x := by
  rw [geti_nat]; simp
theorem mark_eq (xs : List HDeed) (h : xs.length ≤ 1048577) : laws_markHouseDeedSS xs 1 = some (ml xs.length, ((4 * xs.length + 1 : Nat) : Int)) := by
  unfold laws_markHouseDeedSS
  rw [loopDet (s := ((1 : Int), (0 : Int), xs)) (fun k => (((4 * k + 1 : Nat) : Int), (k : Int), ml k ++ xs.drop k)) xs.length (((4 * xs.length + 1 : Nat) : Int), ml xs.length)]
  · rfl
  · simp [ml]
  · intro k hk
    (try dsimp only)
    have hl : (ml k ++ xs.drop k).length = xs.length := by simp [ml_len]; omega
    rw [hl, if_pos (lt_dec hk)]
    rw [List.drop_eq_getElem_cons hk]
    generalize hx : xs[k] = x
    generalize xs.drop (k + 1) = r
    have hk' : (ml k).length = k := ml_len k
    have e1 : ∀ y : HDeed, geti (ml k ++ y :: r) (k : Int) = some y := fun y => by have := geti_mid (ml k) y r; rwa [hk'] at this
    have e2 : ∀ y z : HDeed, (ml k ++ y :: r).set k z = ml k ++ z :: r := fun y z => by have := set_mid (ml k) y z r; rwa [hk'] at this
    rw [show Int.toNat (k : Int) = k from rfl]
    rw [e1, Option.bind_some, e2, e1, Option.bind_some, e2, e1, Option.bind_some, e2, e1, Option.bind_some, e2]
    rw [show (((4 * k + 1 : Nat) : Int) + 1) = ((4 * k + 2 : Nat) : Int) by omega, wrn (by omega), show (((4 * k + 2 : Nat) : Int) + 1) = ((4 * k + 3 : Nat) : Int) by omega, wrn (by omega), show (((4 * k + 3 : Nat) : Int) + 1) = ((4 * k + 4 : Nat) : Int) by omega, wrn (by omega), show (((4 * k + 4 : Nat) : Int) + 1) = ((4 * (k + 1) + 1 : Nat) : Int) by omega, wrn (by omega), wr_succ (n := xs.length) (by omega) hk, ml_succ]
    simp [mk4]
  · (try dsimp only)
    have hl : (ml xs.length ++ xs.drop xs.length).length = xs.length := by simp [ml_len]
    rw [hl, if_neg (by simp)]
    simp
theorem held_eq (n : Nat) (h : n ≤ 1048577) : laws_heldHouseDeedSS (ml n) 1 = some ((4 * n + 1 : Nat) : Int) := by
  unfold laws_heldHouseDeedSS
  rw [loopDet (s := ((1 : Int), (0 : Int))) (fun k => (((4 * k + 1 : Nat) : Int), (k : Int))) n (.inl ((4 * n + 1 : Nat) : Int)) rfl]
  · rfl
  · intro k hk
    (try dsimp only)
    have hg : geti (ml n) (k : Int) = some (mk4 k) := by
      rw [geti_lt' (by rw [ml_len]; exact hk)]
      simp [ml]
    rw [ml_len, if_pos (lt_dec hk), hg]
    simp only [Option.bind_some]
    rw [show (((4 * k + 1 : Nat) : Int) + 1) = ((4 * k + 2 : Nat) : Int) by omega, wrn (by omega), show (((4 * k + 2 : Nat) : Int) + 1) = ((4 * k + 3 : Nat) : Int) by omega, wrn (by omega), show (((4 * k + 3 : Nat) : Int) + 1) = ((4 * k + 4 : Nat) : Int) by omega, wrn (by omega), show (((4 * k + 4 : Nat) : Int) + 1) = ((4 * (k + 1) + 1 : Nat) : Int) by omega, wrn (by omega), wr_succ (n := n) (by omega) hk]
    rw [if_neg (by simp [mk4]), if_neg (by simp [mk4]), if_neg (by simp [mk4]), if_neg (by simp [mk4])]
  · (try dsimp only)
    rw [ml_len, if_neg (by simp)]
end Go.Proofs.Ytcjkbcdlpfgbgaa
