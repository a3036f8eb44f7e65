/- Deeds that are read: the program reads what the specification reads. Own work; no program in sight. -/
import Derived.Test.YthofjabphcheeaaDoorMTx
import Derived.Test.YthofjabphcheeaaDoorDeeds
set_option linter.unusedVariables false
namespace Go.Proofs.YthofjabphcheeaaDoor
open Go Go.RowKit
def ws (L : List Int) (j : Nat) : List (List UInt8) := (List.range j).map fun i => Lib.decDigits (L.getD i 0).toNat
theorem ws_succ (L : List Int) (j : Nat) : ws L (j + 1) = ws L j ++ [Lib.decDigits (L.getD j 0).toNat] := by unfold ws; rw [List.range_succ, List.map_append]; rfl
theorem joinW_snoc (c : UInt8) (w x : List UInt8) (l : List (List UInt8)) : joinW c (w :: (l ++ [x])) = joinW c (w :: l) ++ c :: x := by
  show w ++ ((l ++ [x]).map (c :: ·)).flatten = (w ++ (l.map (c :: ·)).flatten) ++ c :: x
  rw [List.map_append, List.flatten_append]
  simp
theorem textTo_join (nm : List UInt8) (L : List Int) : ∀ j, textTo nm L j = joinW 32 (nm :: ws L j)
  | 0 => by simp [textTo, ws, joinW]
  | j + 1 => by
    rw [ws_succ, joinW_snoc, ← textTo_join nm L j]
    rfl
theorem names_clean : ∀ k, k < 6 → nameAt k ≠ [] ∧ (32 : UInt8) ∉ nameAt k := by decide
theorem kindText_at {k : Nat} (h : k < 6) (a b c : Int) : kindText (k : Int) a b c = deedText (nameAt k) (numAt k) [a, b, c] := by
  unfold kindText
  rw [if_pos (by omega)]
  rfl
theorem Lto_self (tl : List (List UInt8)) (j : Nat) : [(Lto tl j).getD 0 0, (Lto tl j).getD 1 0, (Lto tl j).getD 2 0] = Lto tl j := rfl
theorem numAt_le {k : Nat} (h : k < 6) : numAt k ≤ 3 := (num_geti h).2
theorem val_small {w : List UInt8} (h : IsNum 3 w) : val w < 1000 := by
  have h1 := val_lt w.length w rfl h.2.1
  have h2 : 10 ^ w.length ≤ 10 ^ 3 := Nat.pow_le_pow_right (by omega) h.1.2
  omega
theorem read_true {s : List UInt8} {k : Nat} (hk : k < 6) (hf : Fits s k) : readS s = (((k : Int), (Lto (tlOf s) (tlOf s).length).getD 0 0, (Lto (tlOf s) (tlOf s).length).getD 1 0, (Lto (tlOf s) (tlOf s).length).getD 2 0), true) := by
  obtain ⟨⟨hhd, hlen⟩, hall⟩ := hf
  have hm3 := numAt_le hk
  have hkd := kdTo_hit (hd := hdOf s) (n := 6) hk (by omega) hhd
  obtain ⟨hnm, hcl⟩ := names_clean k hk
  have hmin : min 3 (tlOf s).length = (tlOf s).length := by omega
  have hsn : s ≠ [] := by
    rintro rfl
    have : hdOf [] = [] := rfl
    rw [this] at hhd
    exact hnm hhd.symm
  have hp : pieces 32 s = hdOf s :: tlOf s := by
    unfold hdOf tlOf
    have hne := pieces_ne 32 s
    generalize pieces 32 s = W at hne ⊢
    cases W with
    | nil => exact absurd rfl hne
    | cons x xs => rfl
  have hget : ∀ i (hi : i < (tlOf s).length), (Lto (tlOf s) (tlOf s).length).getD i 0 = ((val (tlOf s)[i] : Nat) : Int) := by
    intro i hi
    rw [Lto_get (by omega), if_pos hi, rdAt_lt hi, rd, if_pos (isNum35 (hall _ (List.getElem_mem hi)))]
  have hok : DeedOk (numAt k) (Lto (tlOf s) (tlOf s).length) := by
    intro i hi
    rcases Nat.lt_or_ge i (tlOf s).length with h1 | h1
    · rw [hget i h1]
      have := val_small (hall _ (List.getElem_mem h1))
      exact ⟨⟨by omega, by omega⟩, fun h => by omega⟩
    · rw [Lto_get hi, if_neg (by omega)]
      exact ⟨⟨by omega, by omega⟩, fun _ => rfl⟩
  have hws : ws (Lto (tlOf s) (tlOf s).length) (numAt k) = tlOf s := by
    rw [← hlen]
    unfold ws
    apply List.ext_getElem
    · simp
    · intro i h1 h2
      rw [List.getElem_map, List.getElem_range, hget i h2, Int.toNat_natCast]
      exact isNum_dec (hall _ (List.getElem_mem h2))
  have htext : kindText (k : Int) ((Lto (tlOf s) (tlOf s).length).getD 0 0) ((Lto (tlOf s) (tlOf s).length).getD 1 0) ((Lto (tlOf s) (tlOf s).length).getD 2 0) = s := by
    rw [kindText_at hk, Lto_self]
    unfold deedText
    rw [if_pos hok, textTo_join, hws, ← hhd, ← hp, join_pieces]
  show (if s = [] ∨ kindText (kdTo (hdOf s) 6) ((Lto (tlOf s) (min 3 (tlOf s).length)).getD 0 0) ((Lto (tlOf s) (min 3 (tlOf s).length)).getD 1 0) ((Lto (tlOf s) (min 3 (tlOf s).length)).getD 2 0) ≠ s then _ else ((kdTo (hdOf s) 6, (Lto (tlOf s) (min 3 (tlOf s).length)).getD 0 0, (Lto (tlOf s) (min 3 (tlOf s).length)).getD 1 0, (Lto (tlOf s) (min 3 (tlOf s).length)).getD 2 0), true)) = _
  rw [hmin, hkd, if_neg]
  rintro (h | h)
  · exact hsn h
  · exact h htext
theorem read_false {s : List UInt8} (hno : ∀ k, k < 6 → ¬ Fits s k) : readS s = ((0, 0, 0, 0), false) := by
  show (if s = [] ∨ kindText (kdTo (hdOf s) 6) ((Lto (tlOf s) (min 3 (tlOf s).length)).getD 0 0) ((Lto (tlOf s) (min 3 (tlOf s).length)).getD 1 0) ((Lto (tlOf s) (min 3 (tlOf s).length)).getD 2 0) ≠ s then _ else _) = _
  by_cases hs : s = []
  · rw [if_pos (.inl hs)]
  · by_cases ht : kindText (kdTo (hdOf s) 6) ((Lto (tlOf s) (min 3 (tlOf s).length)).getD 0 0) ((Lto (tlOf s) (min 3 (tlOf s).length)).getD 1 0) ((Lto (tlOf s) (min 3 (tlOf s).length)).getD 2 0) = s
    · exfalso
      rcases kdTo_back (hd := hdOf s) (n := 6) with h | ⟨k, hk, h, hhd⟩
      · rw [h] at ht
        unfold kindText at ht
        rw [if_neg (by omega)] at ht
        exact hs ht.symm
      · rw [h, kindText_at hk, Lto_self] at ht
        generalize hL : Lto (tlOf s) (min 3 (tlOf s).length) = L at ht
        unfold deedText at ht
        by_cases hok : DeedOk (numAt k) L
        · rw [if_pos hok, textTo_join] at ht
          obtain ⟨hnm, hcl⟩ := names_clean k hk
          have hm3 := numAt_le hk
          have hsm : ∀ i, i < numAt k → (L.getD i 0).toNat < 1000 := fun i hi => by
            have := (hok i (by omega)).1
            unfold okN at this; omega
          have hpc : pieces 32 s = nameAt k :: ws L (numAt k) := by
            rw [← ht]
            refine pieces_join (by simp) (fun w hw => ?_)
            rcases List.mem_cons.1 hw with rfl | hw
            · exact hcl
            · unfold ws at hw
              obtain ⟨i, _, rfl⟩ := List.mem_map.1 hw
              exact dec_no (by decide)
          have htl : tlOf s = ws L (numAt k) := by unfold tlOf; rw [hpc]; rfl
          refine hno k hk ⟨⟨hhd, ?_⟩, fun w hw => ?_⟩
          · rw [htl]; simp [ws]
          · rw [htl] at hw
            unfold ws at hw
            obtain ⟨i, hi, rfl⟩ := List.mem_map.1 hw
            exact dec_isNum (hsm i (List.mem_range.1 hi)) (by omega)
        · rw [if_neg hok] at ht
          exact hs ht.symm
    · rw [if_pos (.inr ht)]
theorem implRead_eq (s : List UInt8) (h : s.length ≤ 1048576) : impl_ReadDeedS s = some (readS s) := by
  obtain ⟨r, hr, h1 | h1⟩ := implRead s h
  · obtain ⟨k, hk, hf, rfl⟩ := h1
    rw [hr, read_true hk hf]
  · rw [hr, h1.1, read_false h1.2]
end Go.Proofs.YthofjabphcheeaaDoor
