/- The law of the journals that are written. Own work; no program in sight. -/
import Derived.Test.YtkhnponakhabdaaGreatDoorMJr
import Derived.Test.YtkhnponakhabdaaGreatDoorShX7Db
set_option linter.unusedVariables false
namespace Go.Proofs.YtkhnponakhabdaaGreatDoor
open Go Go.RowKit
theorem kindText_len (k a b c : Int) : (kindText k a b c).length ≤ 17 := by
 unfold kindText
 split
 ·rename_i hk
  obtain ⟨i, rfl⟩ : ∃ i : Nat, k = (i : Int) := ⟨k.toNat, by omega⟩
  obtain ⟨nm, m, h1, h2, h3, h4, h5⟩ := kind_facts (i := i) (by omega)
  rw [show (i : Int).toNat = i from rfl, geti_getD' h1, geti_getD' h2]
  unfold deedText
  split
  ·rename_i hd
   have := textTo_len (nm := nm) (L := [a, b, c]) (k := m) (fun j hj => (hd j (by omega)).1)
   rw [show (m : Int).toNat = m from rfl]
   omega
  ·simp
 ·simp
def dText (d : HDeed) : List UInt8 := kindText d.1 d.2.1 d.2.2.1 d.2.2.2
theorem dText_len (d : HDeed) : (dText d).length ≤ 17 := kindText_len _ _ _ _
def jRes : List HDeed → List UInt8 → List UInt8 ⊕ List UInt8
 | [], acc => .inl acc
 | d :: ds, acc => if dText d = [] then .inr [] else jRes ds (acc ++ dText d ++ [10])
def jText (ds : List HDeed) : List UInt8 := match jRes ds [] with | .inl z => z | .inr z => z
theorem jLoop (xs : List HDeed) {step : List UInt8 × Int → Option ((List UInt8 × Int) ⊕ (List UInt8 ⊕ List UInt8))}
  (hs : ∀ k (hk : k < xs.length) (acc : List UInt8), acc.length ≤ 18 * k → step (acc, (k : Int)) = some (if dText xs[k] = [] then .inr (.inr []) else .inl (acc ++ dText xs[k] ++ [10], ((k + 1 : Nat) : Int))))
  (he : ∀ acc, step (acc, (xs.length : Int)) = some (.inr (.inl acc))) :
  loop (σ := List UInt8 × Int) (ρ := List UInt8 ⊕ List UInt8) step ([], 0) = some (jRes xs []) := by
 have key : ∀ d k (acc : List UInt8), k + d = xs.length → acc.length ≤ 18 * k → loop (σ := List UInt8 × Int) (ρ := List UInt8 ⊕ List UInt8) step (acc, (k : Int)) = some (jRes (xs.drop k) acc) := by
  intro d
  induction d with
  | zero =>
   intro k acc hk _
   rw [Nat.add_zero] at hk; subst hk
   rw [loop_eq, he, List.drop_length]; rfl
  | succ d ih =>
   intro k acc hk hl
   have hkl : k < xs.length := by omega
   rw [loop_eq, hs k hkl acc hl, List.drop_eq_getElem_cons hkl]
   by_cases hd : dText xs[k] = []
   ·rw [if_pos hd, jRes, if_pos hd]
   ·rw [if_neg hd, jRes, if_neg hd]
    have := dText_len xs[k]
    exact ih (k + 1) _ (by omega) (by simp; omega)
 exact key xs.length 0 [] (by omega) (by simp)
theorem specJText_eq (xs : List HDeed) (h : xs.length ≤ 1048576) : spec_JournalTextS xs = some (jText xs) := by
 unfold spec_JournalTextS
 rw [jLoop xs]
 ·rw [Option.bind_some]
  unfold jText
  cases jRes xs [] <;> rfl
 ·intro k hk acc hl
  (try dsimp only)
  rw [if_pos (lt_dec hk), geti_lt' hk, Option.bind_some, specDeed_eq, Option.bind_some, Option.bind_some, specDeed_eq, Option.bind_some, wr_succ (n := xs.length) (by omega) hk]
  have hd := dText_len xs[k]
  unfold dText at hd ⊢
  generalize kindText xs[k].1 xs[k].2.1 xs[k].2.2.1 xs[k].2.2.2 = t at hd ⊢
  by_cases ht : t = []
  ·rw [if_pos (by rw [ht]; rfl), if_pos ht]
  ·rw [if_neg (by simpa using ht), if_neg ht, strAdd_le (by omega), Option.bind_some, strAdd_le (by simp; omega), Option.bind_some]
 ·intro acc
  (try dsimp only)
  rw [if_neg (by simp)]
theorem implJText_eq (xs : List HDeed) (h : xs.length ≤ 1048576) : impl_JournalTextS xs = some (jText xs) := by
 unfold impl_JournalTextS
 rw [jLoop xs]
 ·rw [Option.bind_some]
  unfold jText
  cases jRes xs [] <;> rfl
 ·intro k hk acc hl
  (try dsimp only)
  rw [if_pos (lt_dec hk), geti_lt' hk, Option.bind_some, implDeed_eq, Option.bind_some, wr_succ (n := xs.length) (by omega) hk]
  have hd := dText_len xs[k]
  unfold dText at hd ⊢
  generalize kindText xs[k].1 xs[k].2.1 xs[k].2.2.1 xs[k].2.2.2 = t at hd ⊢
  by_cases ht : t = []
  ·rw [if_pos (by rw [ht]; rfl), if_pos ht]
  ·rw [if_neg (by simpa using ht), if_neg ht, if_pos (decide_eq_true (by omega))]
 ·intro acc
  (try dsimp only)
  rw [if_neg (by simp)]
end Go.Proofs.YtkhnponakhabdaaGreatDoor
