import Derived.Test.YtkhnponakhabdaaGreatDoorMTx
import Derived.Test.YtkhnponakhabdaaGreatDoorMWk
set_option linter.unusedVariables false
namespace Go.Proofs.YtkhnponakhabdaaGreatDoor
open Go Go.RowKit
def RJ : List (List UInt8) → List HDeed × Nat
 | [] => ([], 0)
 | [_] => ([], 0)
 | l :: l2 :: ls => if (readS l).2 then ((readS l).1 :: (RJ (l2 :: ls)).1, l.length + 1 + (RJ (l2 :: ls)).2) else ([], 0)
theorem RJ_cons {l : List UInt8} {ls : List (List UInt8)} (h : ls ≠ []) : RJ (l :: ls) = if (readS l).2 then ((readS l).1 :: (RJ ls).1, l.length + 1 + (RJ ls).2) else ([], 0) := by
 cases ls with
 | nil => exact absurd rfl h
 | cons l2 ls => rfl
def journal (s : List UInt8) : List HDeed × Int := ((RJ (pieces 10 s)).1, (((RJ (pieces 10 s)).2 : Nat) : Int))
theorem specJour_eq (s : List UInt8) (h : s.length ≤ 1048576) : spec_ReadJournalS s = some (journal s) := by
 unfold spec_ReadJournalS journal
 refine Ret.eq (Ret.loopb (fun t => ∃ (out : List HDeed) (i k : Nat), t = (out, (i : Int), (k : Int)) ∧ i ≤ k ∧ k ≤ s.length ∧ out.length ≤ k ∧ (RJ (pieces 10 s)).1 = out ++ (RJ (pieces 10 (s.drop i))).1 ∧ (RJ (pieces 10 s)).2 = i + (RJ (pieces 10 (s.drop i))).2 ∧ ∀ j (hj : j < s.length), i ≤ j → j < k → s[j] ≠ 10) (fun t => s.length - t.2.2.toNat)
  (fun r => r = .inl ((RJ (pieces 10 s)).1, (((RJ (pieces 10 s)).2 : Nat) : Int)) ∨ r = .inr ((RJ (pieces 10 s)).1, (((RJ (pieces 10 s)).2 : Nat) : Int))) ⟨[], 0, 0, rfl, by omega, by omega, by simp, by simp, by simp, fun j hj h1 h2 => by omega⟩ ?_ (fun r hr => ?_))
 ·rintro t ⟨out, i, k, rfl, hik, hks, hol, h1, h2, hno⟩
  (try dsimp only)
  by_cases hk : k < s.length
  ·rw [if_pos (lt_dec hk), byteAt_lt hk, Option.bind_some, show (10 : Int) = (((10 : UInt8).toNat : Nat) : Int) from rfl, byte_eq, wr_succ (n := s.length) (by omega) hk]
   by_cases hc : s[k] = 10
   ·rw [decide_eq_true hc, if_pos rfl]
    have hs : subO s (i : Int) (k : Int) = some ((s.take k).drop i) := by
     unfold subO; rw [if_pos (by simp; omega)]; simp
    have hll : ((s.take k).drop i).length = k - i := by simp; omega
    have e : s.drop i = (s.take k).drop i ++ 10 :: s.drop (k + 1) := by
     have e1 : s = s.take k ++ 10 :: s.drop (k + 1) := by
      rw [← hc]
      have := List.take_append_drop k s
      rw [List.drop_eq_getElem_cons hk] at this
      exact this.symm
     conv => lhs; rw [e1]
     rw [List.drop_append_of_le_length (by simp; omega)]
    rw [e, pieces_cons _ (take_drop_mem hno), RJ_cons (pieces_ne _ _)] at h1 h2
    rw [hs, Option.bind_some, specRead_eq _ (by omega), Option.bind_some]
    by_cases hok : (readS ((s.take k).drop i)).2 = true
    ·rw [if_pos hok] at h1 h2
     rw [hok, if_neg (by simp), appO_le (by simp; omega), Option.bind_some]
     refine Ret.pure ⟨⟨_, k + 1, k + 1, rfl, by omega, by omega, by simp; omega, ?_, ?_, fun j hj h3 h4 => by omega⟩, by dsimp only; omega⟩
     ·rw [h1]; simp
     ·rw [h2]; dsimp only; omega
    ·rw [if_neg hok] at h1 h2
     rw [if_pos (by simpa using hok)]
     refine Ret.pure (.inr ?_)
     rw [h1, h2]; simp
   ·rw [decide_eq_false hc, if_neg (by simp)]
    refine Ret.pure ⟨⟨out, i, k + 1, rfl, by omega, by omega, by omega, h1, h2, fun j hj h3 h4 => ?_⟩, by dsimp only; omega⟩
    rcases Nat.lt_or_ge j k with h5 | h5
    ·exact hno j hj h3 h5
    ·have : j = k := by omega
     subst this; exact hc
  ·have : k = s.length := by omega
   subst this
   rw [if_neg (by simp)]
   have := take_drop_mem hno
   rw [List.take_length] at this
   rw [pieces_none this] at h1 h2
   refine Ret.pure (.inl ?_)
   rw [h1, h2]; simp [RJ]
 ·rcases hr with rfl | rfl
  ·exact Ret.pure rfl
  ·exact Ret.pure rfl
theorem implJour_eq (s : List UInt8) (h : s.length ≤ 1048576) : impl_ReadJournalS s = some (journal s) := by
 unfold impl_ReadJournalS journal
 refine Ret.eq (Ret.loopb (fun t => ∃ (out : List HDeed) (i : Nat), t = (out, (i : Int)) ∧ i ≤ s.length ∧ out.length ≤ i ∧ (RJ (pieces 10 s)).1 = out ++ (RJ (pieces 10 (s.drop i))).1 ∧ (RJ (pieces 10 s)).2 = i + (RJ (pieces 10 (s.drop i))).2) (fun t => s.length - t.2.toNat)
  (fun r => r = ((RJ (pieces 10 s)).1, (((RJ (pieces 10 s)).2 : Nat) : Int))) ⟨[], 0, rfl, by omega, by simp, by simp, by simp⟩ ?_ (fun r hr => ?_))
 ·rintro t ⟨out, i, rfl, hi, hol, h1, h2⟩
  (try dsimp only)
  have hs : subO s (i : Int) (s.length : Int) = some (s.drop i) := by
   unfold subO; rw [if_pos (by simp; omega)]; simp
  rw [hs, Option.bind_some]
  have hdl : (s.drop i).length = s.length - i := by simp
  have hcut : strings_CutS (s.drop i) [10] = some (Lib.cut (s.drop i) [10]) := by unfold strings_CutS; rw [if_pos (by omega)]
  rw [hcut, Option.bind_some]
  rcases indexByte_pieces 10 (s.drop i) with ⟨g1, g2⟩ | ⟨j, g1, g2, g3⟩
  ·have hc : Lib.cut (s.drop i) [10] = (s.drop i, [], false) := by
    unfold Lib.cut
    rw [Lib.index_one, g1]; rfl
   rw [g2] at h1 h2
   rw [hc, if_pos (by rfl)]
   refine Ret.pure ?_
   rw [h1, h2]; simp [RJ]
  ·have hc : Lib.cut (s.drop i) [10] = ((s.drop i).take j, (s.drop i).drop (j + 1), true) := by
    unfold Lib.cut
    rw [Lib.index_one, g1, if_pos (by omega)]; rfl
   rw [hc]
   (try dsimp only)
   rw [g3, RJ_cons (pieces_ne _ _)] at h1 h2
   rw [if_neg (by simp)]
   have htl : ((s.drop i).take j).length = j := by simp; omega
   rw [implRead_eq _ (by omega), Option.bind_some]
   by_cases hok : (readS ((s.drop i).take j)).2 = true
   ·rw [if_pos hok] at h1 h2
    rw [hok, if_neg (by simp), appO_le (by simp; omega), Option.bind_some, htl, wr (x := ((j : Nat) : Int) + 1) ⟨by omega, by omega⟩, wr (x := ((i : Nat) : Int) + (((j : Nat) : Int) + 1)) ⟨by omega, by omega⟩]
    rw [List.drop_drop] at h1 h2
    refine Ret.pure ⟨⟨_, i + (j + 1), by rw [show ((i : Nat) : Int) + (((j : Nat) : Int) + 1) = ((i + (j + 1) : Nat) : Int) by omega], by omega, by simp; omega, ?_, ?_⟩, by dsimp only; omega⟩
    ·rw [h1]; simp
    ·rw [h2, htl]; dsimp only; omega
   ·rw [if_neg hok] at h1 h2
    rw [if_pos (by simpa using hok)]
    refine Ret.pure ?_
    rw [h1, h2]; simp
 ·rw [hr]; exact Ret.pure rfl
end Go.Proofs.YtkhnponakhabdaaGreatDoor
set_option linter.unusedVariables false
namespace Go.Proofs.YtkhnponakhabdaaGreatDoor
open Go Go.RowKit
theorem RJ_len : ∀ ls : List (List UInt8), (RJ ls).1.length ≤ ls.length
 | [] => by simp [RJ]
 | [_] => by simp [RJ]
 | l :: l2 :: ls => by
  have ih := RJ_len (l2 :: ls)
  unfold RJ
  split
  ·simp at ih ⊢; omega
  ·simp
end Go.Proofs.YtkhnponakhabdaaGreatDoor
