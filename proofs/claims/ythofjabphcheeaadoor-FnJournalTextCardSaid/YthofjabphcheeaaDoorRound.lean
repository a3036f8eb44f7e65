/- Texts of deeds and journals are read back, and read texts are canonical. Own work; no program in sight. -/
import Derived.Test.YthofjabphcheeaaDoorJText2
set_option linter.unusedVariables false
namespace Go.Proofs.YthofjabphcheeaaDoor
open Go Go.RowKit
theorem kindText_some {a b c d : Int} (h : kindText a b c d ≠ []) : ∃ k : Nat, k < 6 ∧ a = (k : Int) ∧ DeedOk (numAt k) [b, c, d] ∧ kindText a b c d = joinW 32 (nameAt k :: ws [b, c, d] (numAt k)) := by
  unfold kindText at h
  split at h
  · rename_i hk
    refine ⟨a.toNat, by omega, by omega, ?_⟩
    have e : kindText a b c d = deedText (nameAt a.toNat) (numAt a.toNat) [b, c, d] := by
      unfold kindText; rw [if_pos hk]; rfl
    have h' : deedText (nameAt a.toNat) (numAt a.toNat) [b, c, d] ≠ [] := h
    unfold deedText at h'
    split at h'
    · rename_i hd
      refine ⟨hd, ?_⟩
      rw [e]; unfold deedText
      rw [if_pos hd, textTo_join]
    · exact absurd rfl h'
  · exact absurd rfl h
theorem ws_clean {L : List Int} {m : Nat} {c : UInt8} (hc : c.toNat < 48) : ∀ w ∈ ws L m, c ∉ w := by
  intro w hw
  unfold ws at hw
  obtain ⟨i, _, rfl⟩ := List.mem_map.1 hw
  exact dec_no hc
theorem ws_len (L : List Int) (m : Nat) : (ws L m).length = m := by simp [ws]
theorem okN_at {m : Nat} {L : List Int} (h : DeedOk m L) {i : Nat} (hi : i < 3) : 0 ≤ L.getD i 0 ∧ L.getD i 0 ≤ 999 := (h i hi).1
theorem read_text {a b c d : Int} (h : kindText a b c d ≠ []) : readS (kindText a b c d) = ((a, b, c, d), true) := by
  obtain ⟨k, hk, rfl, hok, ht⟩ := kindText_some h
  have hm := numAt_le hk
  obtain ⟨hn1, hn2⟩ := names_clean k hk
  have hp : pieces 32 (kindText (k : Int) b c d) = nameAt k :: ws [b, c, d] (numAt k) := by
    rw [ht]
    refine pieces_join (by simp) ?_
    intro w hw
    rcases List.mem_cons.1 hw with rfl | hw
    · exact hn2
    · exact ws_clean (by decide) w hw
  have hhd : hdOf (kindText (k : Int) b c d) = nameAt k := by unfold hdOf; rw [hp]; rfl
  have htl : tlOf (kindText (k : Int) b c d) = ws [b, c, d] (numAt k) := by unfold tlOf; rw [hp]; rfl
  have hw3 : ∀ w ∈ ws [b, c, d] (numAt k), IsNum 3 w := by
    intro w hw
    unfold ws at hw
    obtain ⟨i, hi, rfl⟩ := List.mem_map.1 hw
    have := okN_at hok (i := i) (by have := List.mem_range.1 hi; omega)
    exact dec_isNum (by omega) (by omega)
  have hf : Fits (kindText (k : Int) b c d) k := by
    refine ⟨⟨hhd, ?_⟩, ?_⟩
    · rw [htl, ws_len]
    · rw [htl]; exact hw3
  rw [read_true hk hf, htl, ws_len]
  have hg : ∀ i, i < 3 → (Lto (ws [b, c, d] (numAt k)) (numAt k)).getD i 0 = [b, c, d].getD i 0 := by
    intro i hi
    rw [Lto_get hi]
    by_cases him : i < numAt k
    · have hl : i < (ws [b, c, d] (numAt k)).length := by rw [ws_len]; exact him
      rw [if_pos him, rdAt_lt hl]
      have he : (ws [b, c, d] (numAt k))[i] = Lib.decDigits ([b, c, d].getD i 0).toNat := by simp [ws]
      rw [he]
      have h5 : IsNum 5 (Lib.decDigits ([b, c, d].getD i 0).toNat) := isNum35 (by have := hw3 _ (List.getElem_mem hl); rwa [he] at this)
      have hv := (dec_num ([b, c, d].getD i 0).toNat _ (Nat.le_refl _)).2.2.1
      have := okN_at hok hi
      unfold rd
      rw [if_pos h5, hv]
      omega
    · rw [if_neg him]
      exact ((hok i hi).2 (by omega)).symm
  rw [hg 0 (by omega), hg 1 (by omega), hg 2 (by omega)]
  rfl
theorem text_read {s : List UInt8} (h : (readS s).2 = true) : kindText (readS s).1.1 (readS s).1.2.1 (readS s).1.2.2.1 (readS s).1.2.2.2 = s ∧ s ≠ [] := by
  unfold readS at h ⊢
  dsimp only at h ⊢
  split at h
  · cases h
  · rename_i hn
    rw [if_neg hn]
    simp only [not_or, ne_eq, Classical.not_not] at hn
    exact ⟨hn.2, hn.1⟩
theorem read_zero {s : List UInt8} (h : (readS s).2 = false) : (readS s).1 = (0, 0, 0, 0) := by
  unfold readS at h ⊢
  dsimp only at h ⊢
  split at h
  · rename_i hn; rw [if_pos hn]
  · cases h
theorem text_end {a b c d : Int} {s : List UInt8} (h : kindText a b c d = s ++ [32]) : False := by
  have hne : kindText a b c d ≠ [] := by rw [h]; simp
  obtain ⟨k, hk, rfl, hok, ht⟩ := kindText_some hne
  obtain ⟨hn1, hn2⟩ := names_clean k hk
  have hl : (joinW 32 (nameAt k :: ws [b, c, d] (numAt k))).getLast? = some 32 := by rw [← ht, h]; simp
  cases hm : numAt k with
  | zero =>
    rw [hm] at hl
    have e : joinW 32 (nameAt k :: ws [b, c, d] 0) = nameAt k := by simp [ws, joinW]
    rw [e] at hl
    exact hn2 (List.mem_of_getLast? hl)
  | succ j =>
    rw [hm, ws_succ, joinW_snoc, List.getLast?_append] at hl
    have hd := (dec_num ([b, c, d].getD j 0).toNat _ (Nat.le_refl _)).1
    have hno := dec_no (n := ([b, c, d].getD j 0).toNat) (c := 32) (by decide)
    generalize Lib.decDigits ([b, c, d].getD j 0).toNat = w at hl hd hno
    cases w with
    | nil => exact hd rfl
    | cons x w =>
      rw [List.getLast?_cons_cons] at hl
      cases he : (x :: w).getLast? with
      | none => simp at he
      | some y =>
        rw [he] at hl
        have : y = 32 := by simpa using hl
        subst this
        exact hno (List.mem_of_getLast? he)
theorem read_space (s : List UInt8) : (readS (s ++ [32])).2 = false := by
  cases h : (readS (s ++ [32])).2 with
  | false => rfl
  | true => exact (text_end (text_read h).1).elim
/-! ### journals -/
theorem joinW_mem {c x : UInt8} : ∀ {wss : List (List UInt8)}, x ∈ joinW c wss → x = c ∨ ∃ w ∈ wss, x ∈ w
  | [], h => by simp [joinW] at h
  | w :: wss, h => by
    have h' : x ∈ w ++ (wss.map (c :: ·)).flatten := h
    rcases List.mem_append.1 h' with h1 | h1
    · exact .inr ⟨w, by simp, h1⟩
    · obtain ⟨l, hl, hx⟩ := List.mem_flatten.1 h1
      obtain ⟨w2, hw2, rfl⟩ := List.mem_map.1 hl
      rcases List.mem_cons.1 hx with rfl | hx
      · exact .inl rfl
      · exact .inr ⟨w2, by simp [hw2], hx⟩
theorem names_line : ∀ k, k < 6 → (10 : UInt8) ∉ nameAt k := by decide
theorem text_line (d : HDeed) : (10 : UInt8) ∉ dText d := by
  intro h
  unfold dText at h
  have hne : kindText d.1 d.2.1 d.2.2.1 d.2.2.2 ≠ [] := fun e => by rw [e] at h; cases h
  obtain ⟨k, hk, _, _, ht⟩ := kindText_some hne
  rw [ht] at h
  rcases joinW_mem h with h1 | ⟨w, hw, hx⟩
  · exact absurd h1 (by decide)
  · rcases List.mem_cons.1 hw with rfl | hw
    · exact names_line k hk hx
    · exact ws_clean (by decide) w hw hx
def flatT : List HDeed → List UInt8
  | [] => []
  | d :: ds => dText d ++ 10 :: flatT ds
theorem jRes_all : ∀ (ds : List HDeed) (acc : List UInt8), (∀ d ∈ ds, dText d ≠ []) → jRes ds acc = .inl (acc ++ flatT ds)
  | [], acc, _ => by simp [jRes, flatT]
  | d :: ds, acc, h => by
    rw [jRes, if_neg (h d (by simp)), jRes_all ds _ fun x hx => h x (by simp [hx])]
    simp [flatT]
theorem jRes_no : ∀ (ds : List HDeed) (acc : List UInt8), (∃ d ∈ ds, dText d = []) → jRes ds acc = .inr []
  | [], acc, h => by obtain ⟨d, hd, _⟩ := h; cases hd
  | d :: ds, acc, h => by
    rw [jRes]
    by_cases hd : dText d = []
    · rw [if_pos hd]
    · rw [if_neg hd]
      refine jRes_no ds _ ?_
      obtain ⟨x, hx, he⟩ := h
      rcases List.mem_cons.1 hx with rfl | hx
      · exact absurd he hd
      · exact ⟨x, hx, he⟩
theorem jText_cases (ds : List HDeed) : (jText ds = [] ∧ ∃ d ∈ ds, dText d = []) ∨ (jText ds = flatT ds ∧ ∀ d ∈ ds, dText d ≠ []) := by
  by_cases h : ∃ d ∈ ds, dText d = []
  · left; refine ⟨?_, h⟩; unfold jText; rw [jRes_no ds [] h]
  · right
    have h' : ∀ d ∈ ds, dText d ≠ [] := fun d hd he => h ⟨d, hd, he⟩
    refine ⟨?_, h'⟩
    unfold jText; rw [jRes_all ds [] h']; simp
theorem pieces_flatT : ∀ ds : List HDeed, pieces 10 (flatT ds) = ds.map dText ++ [[]]
  | [] => rfl
  | d :: ds => by
    rw [flatT, pieces_cons _ (text_line d), pieces_flatT ds]; rfl
theorem RJ_map : ∀ ds : List HDeed, (∀ d ∈ ds, dText d ≠ []) → RJ (ds.map dText ++ [[]]) = (ds, (flatT ds).length)
  | [], _ => rfl
  | d :: ds, h => by
    have hr : readS (dText d) = (d, true) := read_text (h d (by simp))
    rw [List.map_cons, List.cons_append, RJ_cons (by simp), hr, if_pos rfl, RJ_map ds fun x hx => h x (by simp [hx])]
    simp [flatT]; omega
theorem journal_text {ds : List HDeed} (h : ∀ d ∈ ds, dText d ≠ []) : journal (flatT ds) = (ds, ((flatT ds).length : Int)) := by
  unfold journal
  rw [pieces_flatT, RJ_map ds h]
end Go.Proofs.YthofjabphcheeaaDoor
