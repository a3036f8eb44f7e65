/- Texts of deeds and journals are read back, and read texts are canonical. Own work; no program in sight. -/
import Derived.Test.YtkhnponakhabdaaGreatDoorJText2
set_option linter.unusedVariables false
namespace Go.Proofs.YtkhnponakhabdaaGreatDoor
open Go Go.RowKit
theorem kindText_some {a b c d : Int} (h : kindText a b c d ≠ []) : ∃ k : Nat, k < 6 ∧ a = (k : Int) ∧ DeedOk (numAt k) [b, c, d] ∧ kindText a b c d = joinW 32 (nameAt k :: ws [b, c, d] (numAt k)) := by
 unfold kindText at h
 split at h
 ·rename_i hk
  refine ⟨a.toNat, by omega, by omega, ?_⟩
  have e : kindText a b c d = deedText (nameAt a.toNat) (numAt a.toNat) [b, c, d] := by
   unfold kindText; rw [if_pos hk]; rfl
  have h' : deedText (nameAt a.toNat) (numAt a.toNat) [b, c, d] ≠ [] := h
  unfold deedText at h'
  split at h'
  ·rename_i hd
   refine ⟨hd, ?_⟩
   rw [e]; unfold deedText
   rw [if_pos hd, textTo_join]
  ·exact absurd rfl h'
 ·exact absurd rfl h
theorem ws_clean {L : List Int} {m : Nat} {c : UInt8} (hc : c.toNat < 48) : ∀ w ∈ ws L m, c ∉ w := by
 intro w hw
 unfold ws at hw
 obtain ⟨i, _, rfl⟩ := List.mem_map.1 hw
 exact dec_no hc
theorem ws_len (L : List Int) (m : Nat) : (ws L m).length = m := by simp [ws]
theorem okN_at {m : Nat} {L : List Int} (h : DeedOk m L) {i : Nat} (hi : i < 3) : 0 ≤ L.getD i 0 ∧ L.getD i 0 ≤ 999 := (h i hi).1
theorem read_text {a b c d : Int} (h : kindText a b c d ≠ []) : readS (kindText a b c d) = ((a, b, c, d), true) := by
 obtain ⟨k, hk, rfl, hok, ht⟩ := kindText_some h
 have hm := numAt_le hk
 obtain ⟨hn1, hn2⟩ := names_clean k hk
 have hp : pieces 32 (kindText (k : Int) b c d) = nameAt k :: ws [b, c, d] (numAt k) := by
  rw [ht]
  refine pieces_join (by simp) ?_
  intro w hw
  rcases List.mem_cons.1 hw with rfl | hw
  ·exact hn2
  ·exact ws_clean (by decide) w hw
 have hhd : hdOf (kindText (k : Int) b c d) = nameAt k := by unfold hdOf; rw [hp]; rfl
 have htl : tlOf (kindText (k : Int) b c d) = ws [b, c, d] (numAt k) := by unfold tlOf; rw [hp]; rfl
 have hw3 : ∀ w ∈ ws [b, c, d] (numAt k), IsNum 3 w := by
  intro w hw
  unfold ws at hw
  obtain ⟨i, hi, rfl⟩ := List.mem_map.1 hw
  have := okN_at hok (i := i) (by have := List.mem_range.1 hi; omega)
  exact dec_isNum (by omega) (by omega)
 have hf : Fits (kindText (k : Int) b c d) k := by
  refine ⟨⟨hhd, ?_⟩, ?_⟩
  ·rw [htl, ws_len]
  ·rw [htl]; exact hw3
 rw [read_true hk hf, htl, ws_len]
 have hg : ∀ i, i < 3 → (Lto (ws [b, c, d] (numAt k)) (numAt k)).getD i 0 = [b, c, d].getD i 0 := by
  intro i hi
  rw [Lto_get hi]
  by_cases him : i < numAt k
  ·have hl : i < (ws [b, c, d] (numAt k)).length := by rw [ws_len]; exact him
   rw [if_pos him, rdAt_lt hl]
   have he : (ws [b, c, d] (numAt k))[i] = Lib.decDigits ([b, c, d].getD i 0).toNat := by simp [ws]
   rw [he]
   have h5 : IsNum 5 (Lib.decDigits ([b, c, d].getD i 0).toNat) := isNum35 (by have := hw3 _ (List.getElem_mem hl); rwa [he] at this)
   have hv := (dec_num ([b, c, d].getD i 0).toNat _ (Nat.le_refl _)).2.2.1
   have := okN_at hok hi
   unfold rd
   rw [if_pos h5, hv]
   omega
  ·rw [if_neg him]
   exact ((hok i hi).2 (by omega)).symm
 rw [hg 0 (by omega), hg 1 (by omega), hg 2 (by omega)]
 rfl
theorem text_read {s : List UInt8} (h : (readS s).2 = true) : kindText (readS s).1.1 (readS s).1.2.1 (readS s).1.2.2.1 (readS s).1.2.2.2 = s ∧ s ≠ [] := by
 unfold readS at h ⊢
 dsimp only at h ⊢
 split at h
 ·cases h
 ·rename_i hn
  rw [if_neg hn]
  simp only [not_or, ne_eq, Classical.not_not] at hn
  exact ⟨hn.2, hn.1⟩
def flatT : List HDeed → List UInt8
 | [] => []
 | d :: ds => dText d ++ 10 :: flatT ds
theorem jRes_all : ∀ (ds : List HDeed) (acc : List UInt8), (∀ d ∈ ds, dText d ≠ []) → jRes ds acc = .inl (acc ++ flatT ds)
 | [], acc, _ => by simp [jRes, flatT]
 | d :: ds, acc, h => by
  rw [jRes, if_neg (h d (by simp)), jRes_all ds _ fun x hx => h x (by simp [hx])]
  simp [flatT]
theorem jRes_no : ∀ (ds : List HDeed) (acc : List UInt8), (∃ d ∈ ds, dText d = []) → jRes ds acc = .inr []
 | [], acc, h => by obtain ⟨d, hd, _⟩ := h; cases hd
 | d :: ds, acc, h => by
  rw [jRes]
  by_cases hd : dText d = []
  ·rw [if_pos hd]
  ·rw [if_neg hd]
   refine jRes_no ds _ ?_
   obtain ⟨x, hx, he⟩ := h
   rcases List.mem_cons.1 hx with rfl | hx
   ·exact absurd he hd
   ·exact ⟨x, hx, he⟩
theorem jText_cases (ds : List HDeed) : (jText ds = [] ∧ ∃ d ∈ ds, dText d = []) ∨ (jText ds = flatT ds ∧ ∀ d ∈ ds, dText d ≠ []) := by
 by_cases h : ∃ d ∈ ds, dText d = []
 ·left; refine ⟨?_, h⟩; unfold jText; rw [jRes_no ds [] h]
 ·right
  have h' : ∀ d ∈ ds, dText d ≠ [] := fun d hd he => h ⟨d, hd, he⟩
  refine ⟨?_, h'⟩
  unfold jText; rw [jRes_all ds [] h']; simp
end Go.Proofs.YtkhnponakhabdaaGreatDoor
