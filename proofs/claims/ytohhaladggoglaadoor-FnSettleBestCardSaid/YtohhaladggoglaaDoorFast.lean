/- The quick way to settle: both functions; payments that settle. Own work; no program in sight. -/
import Derived.Test.YtohhaladggoglaaDoorGroups
import Derived.Test.YtohhaladggoglaaDoorShareL
set_option linter.unusedVariables false
namespace Go.Proofs.YtohhaladggoglaaDoor
open Go Go.RowKit
/-- the first of the least of the first k -/
def minI (xs : List Int) : Nat → Nat
  | 0 => 0
  | k + 1 => if at0 xs k < at0 xs (minI xs k) then k else minI xs k
def maxI (xs : List Int) : Nat → Nat
  | 0 => 0
  | k + 1 => if at0 xs k > at0 xs (maxI xs k) then k else maxI xs k
theorem minI_spec (xs : List Int) : ∀ k, (minI xs k < k ∨ minI xs k = 0) ∧ (∀ j, j < k → at0 xs (minI xs k) ≤ at0 xs j) ∧ ∀ j, j < minI xs k → at0 xs (minI xs k) < at0 xs j
  | 0 => ⟨.inr rfl, (fun j hj => by omega), fun j hj => by simp [minI] at hj⟩
  | k + 1 => by
    obtain ⟨h1, h2, h3⟩ := minI_spec xs k
    unfold minI
    by_cases h : at0 xs k < at0 xs (minI xs k)
    · rw [if_pos h]
      refine ⟨.inl (by omega), fun j hj => ?_, fun j hj => ?_⟩
      · rcases Nat.lt_or_ge j k with h4 | h4
        · have := h2 j h4; omega
        · have : j = k := by omega
          subst this; exact Int.le_refl _
      · have := h2 j hj; omega
    · rw [if_neg h]
      refine ⟨by omega, fun j hj => ?_, h3⟩
      rcases Nat.lt_or_ge j k with h4 | h4
      · exact h2 j h4
      · have : j = k := by omega
        subst this; omega
theorem maxI_spec (xs : List Int) : ∀ k, (maxI xs k < k ∨ maxI xs k = 0) ∧ (∀ j, j < k → at0 xs j ≤ at0 xs (maxI xs k)) ∧ ∀ j, j < maxI xs k → at0 xs j < at0 xs (maxI xs k)
  | 0 => ⟨.inr rfl, (fun j hj => by omega), fun j hj => by simp [maxI] at hj⟩
  | k + 1 => by
    obtain ⟨h1, h2, h3⟩ := maxI_spec xs k
    unfold maxI
    by_cases h : at0 xs k > at0 xs (maxI xs k)
    · rw [if_pos h]
      refine ⟨.inl (by omega), fun j hj => ?_, fun j hj => ?_⟩
      · rcases Nat.lt_or_ge j k with h4 | h4
        · have := h2 j h4; omega
        · have : j = k := by omega
          subst this; exact Int.le_refl _
      · have := h2 j hj; omega
    · rw [if_neg h]
      refine ⟨by omega, fun j hj => ?_, h3⟩
      rcases Nat.lt_or_ge j k with h4 | h4
      · exact h2 j h4
      · have : j = k := by omega
        subst this; omega
theorem minAt {xs : List Int} (h : xs ≠ []) : MinAt xs (minI xs xs.length) := by
  have := List.length_pos_iff.2 h
  obtain ⟨h1, h2, h3⟩ := minI_spec xs xs.length
  exact ⟨by omega, h2, h3⟩
theorem maxAt {xs : List Int} (h : xs ≠ []) : MaxAt xs (maxI xs xs.length) := by
  have := List.length_pos_iff.2 h
  obtain ⟨h1, h2, h3⟩ := maxI_spec xs xs.length
  exact ⟨by omega, h2, h3⟩
/-- where nobody owes, nobody is owed -/
theorem all_zero {xs : List Int} (hs : sm xs = 0) (h : ∀ x ∈ xs, 0 ≤ x) : ∀ x ∈ xs, x = 0 := fun x hx => by
  obtain ⟨i, hi, rfl⟩ := mem_at0 hx
  have h1 := sm_ge_at h hi
  have h2 := h _ (at0_mem hi)
  omega
theorem all_zero' {xs : List Int} (hs : sm xs = 0) (h : ∀ x ∈ xs, x ≤ 0) : ∀ x ∈ xs, x = 0 := fun x hx => by
  have h1 := all_zero (xs := xs.map (- ·)) (by rw [sm_neg]; omega) (fun y hy => by obtain ⟨z, hz, rfl⟩ := List.mem_map.1 hy; have := h z hz; omega) (-x) (List.mem_map_of_mem hx)
  omega
theorem some_pos {xs : List Int} {f t : Nat} (hs : sm xs = 0) (hf : f < xs.length) (h0 : at0 xs f < 0) (ht : MaxAt xs t) : 0 < at0 xs t := by
  rcases Int.lt_or_le 0 (at0 xs t) with h | h
  · exact h
  · exfalso
    have := all_zero' hs (fun x hx => by obtain ⟨i, hi, rfl⟩ := mem_at0 hx; have := ht.2.1 i hi; omega) _ (at0_mem hf)
    omega
/-- what is kept while it is settled -/
structure FI (xs : List Int) (out : PayL) (left : List Int) : Prop where
  len : left.length = xs.length
  sm : Proofs.YtohhaladggoglaaDoor.sm left = 0
  rg : Rg 9999 left
  few : out.length + nzc left ≤ nzc xs
  go : ∀ q, Fast left q → Fast xs (out ++ q)
theorem FI.step {xs left : List Int} {out : PayL} {f t : Nat} (h : FI xs out left) (hf : MinAt left f) (ht : MaxAt left t) (h0 : at0 left f < 0) (h1 : 0 < at0 left t) :
    FI xs (out ++ [((f : Int), (t : Int), payS left f t)]) (payD left f t) ∧ nzc (payD left f t) < nzc left := by
  have hz := payD_nzc hf.1 ht.1 h0 h1
  refine ⟨⟨by rw [payD_length, h.len], by rw [payD_sm hf.1 ht.1 h0 h1, h.sm], fun x hx => ?_, by have := h.few; simp; omega, fun q hq => ?_⟩, by omega⟩
  · obtain ⟨i, hi, rfl⟩ := mem_at0 hx
    rw [payD_length] at hi
    have hp := payS_pos h0 h1
    have b1 := h.rg.at hi
    have b2 := h.rg.at hf.1
    have b3 := h.rg.at ht.1
    have hne : f ≠ t := fun e => by subst e; omega
    rw [payD_at hf.1 ht.1 h0 h1]
    by_cases e1 : f = i
    · subst e1; rw [if_pos rfl, if_neg (fun e => hne e.symm)]; omega
    · by_cases e2 : t = i
      · subst e2; rw [if_neg e1, if_pos rfl]; omega
      · rw [if_neg e1, if_neg e2]; omega
  · have := h.go _ (Fast.step hf ht h0 h1 hq)
    simpa using this
theorem FI.done {xs left : List Int} {out : PayL} (h : FI xs out left) (hz : ∀ x ∈ left, 0 ≤ x) : Fast xs out := by
  have := h.go [] (Fast.stop (all_zero h.sm hz))
  simpa using this
theorem FI.start {xs : List Int} (h : OwedOk xs) : FI xs [] xs := ⟨rfl, h.2.2, h.rg, by simp, fun q hq => hq⟩
theorem set2 {left : List Int} {f t : Nat} (hf : f < left.length) (ht : t < left.length) (hne : f ≠ t) (v : Int) : at0 (left.set f v) t = at0 left t := by rw [at0_set, if_neg (fun e => hne e.1)]
theorem implFast_ret {xs : List Int} (h : OwedOk xs) : Ret (impl_SettleFastS xs) (Fast xs) := by
  unfold impl_SettleFastS
  rw [implOwedValid_eq, Option.bind_some, decide_eq_true h]
  have h7 := h.1
  by_cases h0 : xs.length = 0
  · rw [if_pos (by simp [h0])]
    rw [List.eq_nil_of_length_eq_zero h0]
    exact Ret.pure (Fast.stop (fun x hx => by cases hx))
  rw [if_neg (by simp only [Bool.not_true, Bool.false_or, beq_iff_eq]; omega), copyInts_eq (by omega), Option.bind_some]
  refine Ret.loopb (fun s => FI xs s.1 s.2) (fun s => nzc s.2) (fun r => Fast xs r.1) (FI.start h) ?_ ?_
  · rintro ⟨out, left⟩ hI
    dsimp only at hI ⊢
    have hl := hI.len
    have hne : left ≠ [] := fun e => by rw [e] at hl; simp at hl; omega
    have hmin := minAt hne
    have hmax := maxAt hne
    rw [loopDet (fun k => (((minI left k : Nat) : Int), ((maxI left k : Nat) : Int), (k : Int))) left.length (((minI left left.length : Nat) : Int), ((maxI left left.length : Nat) : Int))]
    · rw [Option.bind_some]
      generalize minI left left.length = f at hmin ⊢
      generalize maxI left left.length = t at hmax ⊢
      dsimp only
      have b1 := hI.rg.at hmin.1
      have b2 := hI.rg.at hmax.1
      rw [geti_at0 hmin.1, Option.bind_some]
      by_cases hf0 : at0 left f ≥ 0
      · rw [if_pos (by simpa using hf0)]
        exact Ret.pure (hI.done (fun x hx => by obtain ⟨i, hi, rfl⟩ := mem_at0 hx; have := hmin.2.1 i hi; omega))
      · have hf1 : at0 left f < 0 := by omega
        have ht1 := some_pos hI.sm hmin.1 hf1 hmax
        have hft : f ≠ t := fun e => by subst e; omega
        have hp := payS_pos hf1 ht1
        rw [if_neg (by simpa using hf0), Option.bind_some, geti_at0 hmax.1, Option.bind_some, Option.bind_some, Option.bind_some, wr (x := -at0 left f) ⟨by omega, by omega⟩]
        have eS : (if at0 left t < -at0 left f then at0 left t else -at0 left f) = payS left f t := rfl
        rw [eS, wr (x := at0 left f + payS left f t) ⟨by omega, by omega⟩, Int.toNat_natCast, Int.toNat_natCast, geti_at0 (by simpa using hmax.1), Option.bind_some, set2 hmin.1 hmax.1 hft, Option.bind_some, wr (x := at0 left t - payS left f t) ⟨by omega, by omega⟩]
        have hst := hI.step hmin hmax hf1 ht1
        have hfew := hI.few
        have hn7 := nzc_le xs
        rw [appO_ok (by simp; omega), Option.bind_some]
        exact Ret.pure ⟨hst.1, hst.2⟩
    · rfl
    · intro k hk
      (try dsimp only)
      have e1 := (minI_spec left k).1
      have e2 := (maxI_spec left k).1
      rw [if_pos (by simp only [decide_eq_true_eq]; omega), geti_at0 hk, Option.bind_some, geti_at0 (by omega), Option.bind_some, wr_succ (n := left.length) (by omega) hk]
      have m1 : minI left (k + 1) = if at0 left k < at0 left (minI left k) then k else minI left k := rfl
      have m2 : maxI left (k + 1) = if at0 left k > at0 left (maxI left k) then k else maxI left k := rfl
      by_cases c1 : at0 left k < at0 left (minI left k)
      · rw [if_pos (by simpa using c1), Option.bind_some, geti_at0 (by omega), Option.bind_some, m1, if_pos c1, m2]
        by_cases c2 : at0 left k > at0 left (maxI left k)
        · rw [if_pos (by simpa using c2), if_pos c2]
        · rw [if_neg (by simpa using c2), if_neg c2]
      · rw [if_neg (by simpa using c1), Option.bind_some, geti_at0 (by omega), Option.bind_some, m1, if_neg c1, m2]
        by_cases c2 : at0 left k > at0 left (maxI left k)
        · rw [if_pos (by simpa using c2), if_pos c2]
        · rw [if_neg (by simpa using c2), if_neg c2]
    · (try dsimp only)
      rw [if_neg (by simp)]
  · rintro ⟨p, q⟩ hr
    exact Ret.pure hr
/-- the first of those who owe most, of the first k; -1 if nobody owes -/
def selN (xs : List Int) : Nat → Int
  | 0 => -1
  | k + 1 => if decide (at0 xs k < 0) && (decide (selN xs k < 0) || decide (at0 xs k < at0 xs (selN xs k).toNat)) then (k : Int) else selN xs k
def selP (xs : List Int) : Nat → Int
  | 0 => -1
  | k + 1 => if decide (at0 xs k > 0) && (decide (selP xs k < 0) || decide (at0 xs k > at0 xs (selP xs k).toNat)) then (k : Int) else selP xs k
theorem selN_spec (xs : List Int) : ∀ k, (selN xs k = -1 ∧ ∀ j, j < k → 0 ≤ at0 xs j) ∨ ∃ b : Nat, selN xs k = (b : Int) ∧ b < k ∧ at0 xs b < 0 ∧ (∀ j, j < k → at0 xs b ≤ at0 xs j) ∧ ∀ j, j < b → at0 xs b < at0 xs j
  | 0 => .inl ⟨rfl, fun j hj => by omega⟩
  | k + 1 => by
    have hle : ∀ i, i < k + 1 → i < k ∨ i = k := fun i hi => by omega
    rcases selN_spec xs k with ⟨h1, h2⟩ | ⟨b, h1, h2, h3, h4, h5⟩
    · by_cases hk : at0 xs k < 0
      · right
        refine ⟨k, by simp [selN, hk, h1], by omega, hk, fun j hj => ?_, fun j hj => by have := h2 j hj; omega⟩
        rcases hle j hj with h | rfl
        · have := h2 j h; omega
        · exact Int.le_refl _
      · left
        refine ⟨by simp [selN, hk, h1], fun j hj => ?_⟩
        rcases hle j hj with h | rfl
        · exact h2 j h
        · omega
    · right
      have hb : (selN xs k).toNat = b := by rw [h1]; omega
      by_cases hk : at0 xs k < at0 xs b
      · refine ⟨k, ?_, by omega, by omega, fun j hj => ?_, fun j hj => by have := h4 j hj; omega⟩
        · simp only [selN, hb]
          have : at0 xs k < 0 := by omega
          rw [if_pos (by simp [hk, this])]
        · rcases hle j hj with h | rfl
          · have := h4 j h; omega
          · exact Int.le_refl _
      · refine ⟨b, ?_, by omega, h3, fun j hj => ?_, h5⟩
        · simp only [selN, hb]
          rw [if_neg (by simp [hk, h1]), h1]
        · rcases hle j hj with h | rfl
          · exact h4 j h
          · omega
theorem selP_spec (xs : List Int) : ∀ k, (selP xs k = -1 ∧ ∀ j, j < k → at0 xs j ≤ 0) ∨ ∃ b : Nat, selP xs k = (b : Int) ∧ b < k ∧ 0 < at0 xs b ∧ (∀ j, j < k → at0 xs j ≤ at0 xs b) ∧ ∀ j, j < b → at0 xs j < at0 xs b
  | 0 => .inl ⟨rfl, fun j hj => by omega⟩
  | k + 1 => by
    have hle : ∀ i, i < k + 1 → i < k ∨ i = k := fun i hi => by omega
    rcases selP_spec xs k with ⟨h1, h2⟩ | ⟨b, h1, h2, h3, h4, h5⟩
    · by_cases hk : at0 xs k > 0
      · right
        refine ⟨k, by simp [selP, hk, h1], by omega, hk, fun j hj => ?_, fun j hj => by have := h2 j hj; omega⟩
        rcases hle j hj with h | rfl
        · have := h2 j h; omega
        · exact Int.le_refl _
      · left
        refine ⟨by simp [selP, hk, h1], fun j hj => ?_⟩
        rcases hle j hj with h | rfl
        · exact h2 j h
        · omega
    · right
      have hb : (selP xs k).toNat = b := by rw [h1]; omega
      by_cases hk : at0 xs k > at0 xs b
      · refine ⟨k, ?_, by omega, by omega, fun j hj => ?_, fun j hj => by have := h4 j hj; omega⟩
        · simp only [selP, hb]
          have : at0 xs k > 0 := by omega
          rw [if_pos (by simp [hk, this])]
        · rcases hle j hj with h | rfl
          · have := h4 j h; omega
          · exact Int.le_refl _
      · refine ⟨b, ?_, by omega, h3, fun j hj => ?_, h5⟩
        · simp only [selP, hb]
          rw [if_neg (by simp [hk, h1]), h1]
        · rcases hle j hj with h | rfl
          · exact h4 j h
          · omega
theorem specFast_ret {xs : List Int} (h : OwedOk xs) : Ret (spec_SettleFastS xs) (Fast xs) := by
  unfold spec_SettleFastS
  have h7 := h.1
  rw [specOwedValid_eq _ (by omega), Option.bind_some, decide_eq_true h, if_neg (by simp), appO_ok (by simp; omega), Option.bind_some, List.nil_append]
  refine Ret.loopb (fun s => FI xs s.1 s.2) (fun s => nzc s.2) (fun r => Fast xs r.1) (FI.start h) ?_ ?_
  · rintro ⟨out, left⟩ hI
    dsimp only at hI ⊢
    have hl := hI.len
    rw [loopDet (fun k => (selN left k, selP left k, (k : Int))) left.length (selN left left.length, selP left left.length)]
    · rw [Option.bind_some]
      (try dsimp only)
      rcases selN_spec left left.length with ⟨e1, e2⟩ | ⟨f, e1, hf, hf1, e4, e5⟩
      · rw [e1, if_pos (by simp)]
        exact Ret.pure (hI.done (fun x hx => by obtain ⟨i, hi, rfl⟩ := mem_at0 hx; exact e2 i hi))
      · rcases selP_spec left left.length with ⟨g1, g2⟩ | ⟨t, g1, ht, ht1, g4, g5⟩
        · exfalso
          have := all_zero' hI.sm (fun x hx => by obtain ⟨i, hi, rfl⟩ := mem_at0 hx; exact g2 i hi) _ (at0_mem hf)
          omega
        · have hmin : MinAt left f := ⟨hf, e4, e5⟩
          have hmax : MaxAt left t := ⟨ht, g4, g5⟩
          have hft : f ≠ t := fun e => by subst e; omega
          have hp := payS_pos hf1 ht1
          have b1 := hI.rg.at hmin.1
          have b2 := hI.rg.at hmax.1
          rw [e1, g1, if_neg (by simp), geti_at0 hf, Option.bind_some, geti_at0 ht, Option.bind_some, Option.bind_some, Option.bind_some, wr (x := -at0 left f) ⟨by omega, by omega⟩]
          have eS : (if at0 left t < -at0 left f then at0 left t else -at0 left f) = payS left f t := rfl
          rw [eS, wr (x := at0 left f + payS left f t) ⟨by omega, by omega⟩, Int.toNat_natCast, Int.toNat_natCast, geti_at0 (by simpa using ht), Option.bind_some, set2 hf ht hft, Option.bind_some, wr (x := at0 left t - payS left f t) ⟨by omega, by omega⟩]
          have hst := hI.step hmin hmax hf1 ht1
          have hfew := hI.few
          have hn7 := nzc_le xs
          rw [appO_ok (by simp; omega), Option.bind_some]
          exact Ret.pure ⟨hst.1, hst.2⟩
    · rfl
    · intro k hk
      (try dsimp only)
      rw [if_pos (by simp only [decide_eq_true_eq]; omega), geti_at0 hk, Option.bind_some, wr_succ (n := left.length) (by omega) hk]
      have m1 : selN left (k + 1) = if decide (at0 left k < 0) && (decide (selN left k < 0) || decide (at0 left k < at0 left (selN left k).toNat)) then (k : Int) else selN left k := rfl
      have m2 : selP left (k + 1) = if decide (at0 left k > 0) && (decide (selP left k < 0) || decide (at0 left k > at0 left (selP left k).toNat)) then (k : Int) else selP left k := rfl
      have c1 : (if decide (at0 left k < 0) = true then ((if decide (selN left k < 0) = true then some true else ((some (at0 left k)).bind fun x36 => ((geti left (selN left k)).bind fun x45 => some (decide (x36 < x45))))).bind fun b36 => some b36) else some false) = some (decide (at0 left k < 0) && (decide (selN left k < 0) || decide (at0 left k < at0 left (selN left k).toNat))) := by
        by_cases d1 : at0 left k < 0
        · rw [if_pos (by simpa using d1)]
          rcases selN_spec left k with ⟨e1, _⟩ | ⟨b, e1, hb, _⟩
          · rw [e1]; simp [d1]
          · rw [e1, if_neg (by simp), Option.bind_some, geti_at0 (by omega), Option.bind_some, Option.bind_some, Int.toNat_natCast]
            simp [d1]; intro hh; omega
        · rw [if_neg (by simpa using d1)]; simp [d1]
      have c2 : (if decide (at0 left k > 0) = true then ((if decide (selP left k < 0) = true then some true else ((some (at0 left k)).bind fun x51 => ((geti left (selP left k)).bind fun x60 => some (decide (x51 > x60))))).bind fun b51 => some b51) else some false) = some (decide (at0 left k > 0) && (decide (selP left k < 0) || decide (at0 left k > at0 left (selP left k).toNat))) := by
        by_cases d1 : at0 left k > 0
        · rw [if_pos (by simpa using d1)]
          rcases selP_spec left k with ⟨e1, _⟩ | ⟨b, e1, hb, _⟩
          · rw [e1]; simp [d1]
          · rw [e1, if_neg (by simp), Option.bind_some, geti_at0 (by omega), Option.bind_some, Option.bind_some, Int.toNat_natCast]
            simp [d1]; intro hh; omega
        · rw [if_neg (by simpa using d1)]; simp [d1]
      rw [c1, Option.bind_some, m1, m2]
      generalize (decide (at0 left k < 0) && (decide (selN left k < 0) || decide (at0 left k < at0 left (selN left k).toNat))) = bn
      have hj : ((if bn = true then some (k : Int) else some (selN left k)) : Option Int) = some (if bn = true then (k : Int) else selN left k) := by cases bn <;> rfl
      rw [hj, Option.bind_some, Option.bind_some, c2, Option.bind_some]
      generalize (decide (at0 left k > 0) && (decide (selP left k < 0) || decide (at0 left k > at0 left (selP left k).toNat))) = bp
      cases bp <;> rfl
    · (try dsimp only)
      rw [if_neg (by simp)]
  · rintro ⟨p, q⟩ hr
    exact Ret.pure hr
theorem fast_both {xs : List Int} (h : OwedOk xs) : ∃ p, impl_SettleFastS xs = some p ∧ spec_SettleFastS xs = some p ∧ Fast xs p := by
  obtain ⟨p, h1, h2⟩ := implFast_ret h
  obtain ⟨q, h3, h4⟩ := specFast_ret h
  rw [h2.uniq h4] at h1
  exact ⟨q, h1, h3, h4⟩
theorem fast_not {xs : List Int} (hl : xs.length ≤ 1000) (h : ¬ OwedOk xs) : impl_SettleFastS xs = some [] ∧ spec_SettleFastS xs = some [] := by
  constructor
  · unfold impl_SettleFastS
    rw [implOwedValid_eq, Option.bind_some, decide_eq_false h, if_pos (by simp)]
  · unfold spec_SettleFastS
    rw [specOwedValid_eq _ (by omega), Option.bind_some, decide_eq_false h, if_pos (by simp)]
/-! ### payments held against each other, and whether they settle -/
theorem geti_get {α : Type} [Inhabited α] {xs : List α} {k : Nat} (h : k < xs.length) : geti xs (k : Int) = some (xs.getD k default) := by
  rw [geti_lt' h, List.getD_eq_getElem?_getD, List.getElem?_eq_getElem h]; rfl
theorem samePays_eq (xs ys : PayL) (h : xs.length ≤ 4611686018427387904) : laws_samePaysS xs ys = some (decide (xs = ys)) := by
  unfold laws_samePaysS
  by_cases hl : xs.length = ys.length
  · rw [if_neg (by simp [hl])]
    rw [loopAll xs.length (fun k => decide (xs.getD k default = ys.getD k default))]
    · rw [Option.bind_some]
      refine (fin2 _).trans ?_
      congr 1
      rw [Bool.eq_iff_iff, List.all_eq_true, decide_eq_true_eq]
      constructor
      · intro hh
        apply List.ext_getElem hl
        intro i h1 h2
        have := of_decide_eq_true (hh i (List.mem_range.2 h1))
        rw [List.getD_eq_getElem?_getD, List.getD_eq_getElem?_getD, List.getElem?_eq_getElem h1, List.getElem?_eq_getElem h2] at this
        simpa using this
      · intro hh i hi; rw [hh]; simp
    · intro k hk
      (try dsimp only)
      rw [if_pos (by simp only [decide_eq_true_eq]; omega), geti_get hk, Option.bind_some, geti_get (by omega), Option.bind_some, wr_succ (n := xs.length) (by omega) hk]
      generalize xs.getD k default = a
      generalize ys.getD k default = b
      obtain ⟨a1, a2, a3⟩ := a
      obtain ⟨b1, b2, b3⟩ := b
      by_cases he : (a1, a2, a3) = (b1, b2, b3)
      · rw [he]; simp
      · have : ((a1, a2, a3) == (b1, b2, b3)) = false := by rw [beq_eq_false_iff_ne]; exact he
        simp only [this, decide_eq_false he]; rfl
    · (try dsimp only); rw [if_neg (by simp)]
  · rw [if_pos (by simp; omega), decide_eq_false (fun e => hl (by rw [e]))]
def GoodPay (n : Nat) (p : Int × Int × Int) : Prop := (0 ≤ p.1 ∧ p.1 < n) ∧ (0 ≤ p.2.1 ∧ p.2.1 < n) ∧ p.1 ≠ p.2.1 ∧ 1 ≤ p.2.2 ∧ p.2.2 ≤ 9999
instance (n : Nat) (p : Int × Int × Int) : Decidable (GoodPay n p) := inferInstanceAs (Decidable (_ ∧ _ ∧ _ ∧ _ ∧ _))
def PaysOk (xs : List Int) (ps : PayL) : Prop := OwedOk xs ∧ (∀ p ∈ ps, GoodPay xs.length p) ∧ ∀ i, i < xs.length → at0 xs i + flow ps i = 0
/-- what is left when the first k payments are made -/
def leftAt (xs : List Int) (ps : PayL) (k : Nat) : List Int := ra xs.length (fun i => at0 xs i + flow (ps.take k) i)
theorem take_get {ps : PayL} {k : Nat} (h : k < ps.length) : ps.take (k + 1) = ps.take k ++ [ps.getD k default] := by
  rw [List.take_succ_eq_append_getElem h, List.getD_eq_getElem?_getD, List.getElem?_eq_getElem h]; rfl
theorem flow_one (p : Int × Int × Int) (i : Int) : flow [p] i = (if p.1 = i then p.2.2 else 0) - (if p.2.1 = i then p.2.2 else 0) := by simp [flow]
theorem flow_bd {n : Nat} : ∀ {l : PayL}, (∀ p ∈ l, GoodPay n p) → ∀ i : Int, -(l.length * 9999 : Int) ≤ flow l i ∧ flow l i ≤ l.length * 9999
  | [], _, i => by simp [flow]
  | p :: l, h, i => by
    have ih := flow_bd (l := l) (fun q hq => h q (by simp [hq])) i
    have hp := h p (by simp)
    obtain ⟨_, _, hne, h1, h2⟩ := hp
    simp only [flow, List.length_cons]
    split <;> split <;> omega
theorem leftAt_step {xs : List Int} {ps : PayL} {k : Nat} (hk : k < ps.length) (hx : OwedOk xs) (hp : GoodPay xs.length (ps.getD k default)) (hall : ∀ p ∈ ps.take k, GoodPay xs.length p) (hn : ps.length ≤ 100000) :
    ∃ f t : Nat, (ps.getD k default).1 = (f : Int) ∧ (ps.getD k default).2.1 = (t : Int) ∧ f < xs.length ∧ t < xs.length ∧ f ≠ t ∧
      IntKind.wrap .i64 (at0 (leftAt xs ps k) f + (ps.getD k default).2.2) = at0 (leftAt xs ps k) f + (ps.getD k default).2.2 ∧
      IntKind.wrap .i64 (at0 (leftAt xs ps k) t - (ps.getD k default).2.2) = at0 (leftAt xs ps k) t - (ps.getD k default).2.2 ∧
      List.set (List.set (leftAt xs ps k) f (at0 (leftAt xs ps k) f + (ps.getD k default).2.2)) t (at0 (leftAt xs ps k) t - (ps.getD k default).2.2) = leftAt xs ps (k + 1) := by
  have htk := take_get hk
  generalize ps.getD k default = p at hp htk ⊢
  obtain ⟨⟨f0, f1⟩, ⟨t0, t1⟩, hne, s0, s1⟩ := hp
  obtain ⟨f, hf⟩ := Int.eq_ofNat_of_zero_le f0
  obtain ⟨t, ht⟩ := Int.eq_ofNat_of_zero_le t0
  have hfl : f < xs.length := by omega
  have htl : t < xs.length := by omega
  have hb : ∀ i, i < xs.length → -2000000000 ≤ at0 (leftAt xs ps k) i ∧ at0 (leftAt xs ps k) i ≤ 2000000000 := fun i hi => by
    unfold leftAt
    rw [ra_at _ hi]
    have h1 := flow_bd hall (i : Int)
    have h2 := hx.2.1 _ (at0_mem hi)
    have h3 : (ps.take k).length ≤ 100000 := by rw [List.length_take]; omega
    omega
  refine ⟨f, t, hf, ht, hfl, htl, fun e => hne (by rw [hf, ht, e]), ?_, ?_, ?_⟩
  · have := hb f hfl; exact wr ⟨by omega, by omega⟩
  · have := hb t htl; exact wr ⟨by omega, by omega⟩
  · have hlen : (leftAt xs ps k).length = xs.length := ra_length _ _
    apply ext_at0 (by unfold leftAt; simp [ra_length])
    intro i hi
    rw [List.length_set, List.length_set, hlen] at hi
    have e1 : at0 (leftAt xs ps (k + 1)) i = at0 (leftAt xs ps k) i + flow [p] i := by
      unfold leftAt; rw [ra_at _ hi, ra_at _ hi, htk, flow_append]; omega
    rw [e1, flow_one, at0_set, at0_set, List.length_set, hlen, hf, ht]
    have c1 : ((f : Int) = (i : Int)) ↔ f = i := by omega
    have c2 : ((t : Int) = (i : Int)) ↔ t = i := by omega
    simp only [c1, c2]
    have hft : f ≠ t := fun e => hne (by rw [hf, ht, e])
    by_cases e2 : t = i
    · subst e2
      rw [if_pos ⟨rfl, hi⟩, if_neg hft, if_pos rfl]; omega
    · rw [if_neg (fun e => e2 e.1), if_neg e2]
      by_cases e3 : f = i
      · subst e3; rw [if_pos ⟨rfl, hi⟩, if_pos rfl]; omega
      · rw [if_neg (fun e => e3 e.1), if_neg e3]; omega
theorem final_check (xs : List Int) (ps : PayL) (hl : xs.length ≤ 1000) : (loop (σ := Int) (ρ := (Unit) ⊕ (Bool)) (fun (s : Int) => match s with | s100 => (if (decide (s100 < (List.length (leftAt xs ps ps.length) : Int))) then ((geti (leftAt xs ps ps.length) s100).bind fun x102 => (if (x102 != 0) then (some (.inr (.inr false))) else (some (.inl (IntKind.wrap .i64 (s100 + 1)))))) else (some (.inr (.inl ()))))) 0) = some (if (List.range xs.length).all (fun i => decide (at0 xs i + flow ps i = 0)) then .inl () else .inr false) := by
  have hlen : (leftAt xs ps ps.length).length = xs.length := ra_length _ _
  refine loopAll xs.length _ _ (fun k hk => ?_) ?_
  · have e : at0 (leftAt xs ps ps.length) k = at0 xs k + flow ps k := by unfold leftAt; rw [ra_at _ hk, List.take_length]
    rw [if_pos (by simp only [decide_eq_true_eq]; omega), geti_at0 (by omega), Option.bind_some, e, wr_succ (n := xs.length) (by omega) hk]
    by_cases h0 : at0 xs k + flow ps k = 0
    · rw [if_neg (by simp [h0]), if_pos (decide_eq_true h0)]
    · rw [if_pos (by simpa using h0), if_neg (by simpa using h0)]
  · rw [if_neg (by rw [hlen]; simp)]
open Classical in
/-- whether payments settle -/
noncomputable def paysOk (xs : List Int) (ps : PayL) : Bool := decide (PaysOk xs ps)
open Classical in
theorem pays_end {xs : List Int} {ps : PayL} (h : OwedOk xs) (hg : ∀ p ∈ ps, GoodPay xs.length p) : (match (if (List.range xs.length).all (fun i => decide (at0 xs i + flow ps i = 0)) = true then .inl () else .inr false : Unit ⊕ Bool) with | .inl _ => some true | .inr p => some p) = some (paysOk xs ps) := by
  refine (fin2 _).trans ?_
  congr 1
  unfold paysOk
  rw [Bool.eq_iff_iff, List.all_eq_true, decide_eq_true_eq]
  constructor
  · intro hh; exact ⟨h, hg, fun i hi => of_decide_eq_true (hh i (List.mem_range.2 hi))⟩
  · intro hh i hi; exact decide_eq_true (hh.2.2 i (List.mem_range.1 hi))
open Classical in
theorem paysOk_false {xs : List Int} {ps : PayL} (h : ¬ PaysOk xs ps) : paysOk xs ps = false := decide_eq_false h
open Classical in
theorem paysOk_true {xs : List Int} {ps : PayL} (h : PaysOk xs ps) : paysOk xs ps = true := decide_eq_true h
open Classical in
theorem of_paysOk {xs : List Int} {ps : PayL} (h : paysOk xs ps = true) : PaysOk xs ps := of_decide_eq_true h
theorem implPaysOk_eq (xs : List Int) (ps : PayL) (hl : xs.length ≤ 1000) (hp : ps.length ≤ 100000) : impl_PaysOkS xs ps = some (paysOk xs ps) := by
  unfold impl_PaysOkS
  rw [implOwedValid_eq, Option.bind_some]
  by_cases h : OwedOk xs
  case neg => rw [decide_eq_false h, if_pos (by simp), paysOk_false (fun k => h k.1)]
  have h7 := h.1
  rw [decide_eq_true h, if_neg (by simp), copyInts_eq hl, Option.bind_some]
  apply Ret.eq
  refine Ret.loopb (fun s => ∃ k : Nat, s = ((k : Int), leftAt xs ps k) ∧ k ≤ ps.length ∧ ∀ p ∈ ps.take k, GoodPay xs.length p) (fun s => ps.length - s.1.toNat) (fun r => match r with | .inl l => l = leftAt xs ps ps.length ∧ ∀ p ∈ ps, GoodPay xs.length p | .inr q => q.1 = false ∧ ¬ ∀ p ∈ ps, GoodPay xs.length p) ?_ ?_ ?_
  · refine ⟨0, ?_, by omega, fun p hp => by simp at hp⟩
    congr 1
    unfold leftAt
    conv => lhs; rw [ra_of xs]
    apply ra_ext
    intro k hk; simp [flow]
  · rintro s ⟨k, rfl, hk, hall⟩
    dsimp only
    have hlen : (leftAt xs ps k).length = xs.length := ra_length _ _
    by_cases hk2 : k < ps.length
    · have hmem : ps.getD k default ∈ ps := by rw [List.getD_eq_getElem?_getD, List.getElem?_eq_getElem hk2]; exact List.getElem_mem hk2
      rw [if_pos (by simp only [decide_eq_true_eq]; omega), geti_get hk2, Option.bind_some, wr_succ (n := ps.length) (by omega) hk2]
      by_cases hg : GoodPay xs.length (ps.getD k default)
      · obtain ⟨f, t, e1, e2, hf, ht, hft, w1, w2, hset⟩ := leftAt_step hk2 h hg hall hp
        have hg2 := hg
        obtain ⟨⟨f0, f1⟩, ⟨t0, t1⟩, hne, s0, s1⟩ := hg
        rw [if_neg (by simp only [Bool.or_eq_true, decide_eq_true_eq, beq_iff_eq]; omega), if_neg (by simp only [Bool.or_eq_true, decide_eq_true_eq]; omega), e1, e2, geti_at0 (by omega), Option.bind_some, Option.bind_some, w1, Int.toNat_natCast, Int.toNat_natCast, geti_at0 (by rw [List.length_set]; omega), Option.bind_some, set2 (by omega) (by omega) hft, Option.bind_some, w2, hset]
        refine Ret.pure ⟨⟨k + 1, rfl, by omega, fun p hp => ?_⟩, by simp; omega⟩
        rw [take_get hk2] at hp
        rcases List.mem_append.1 hp with hp | hp
        · exact hall p hp
        · simp only [List.mem_singleton] at hp; rw [hp]; exact hg2
      · have hno : ¬ ∀ p ∈ ps, GoodPay xs.length p := fun hh => hg (hh _ hmem)
        by_cases hc : ((((decide ((ps.getD k default).1 < 0) || decide ((ps.getD k default).1 ≥ (xs.length : Int))) || decide ((ps.getD k default).2.1 < 0)) || decide ((ps.getD k default).2.1 ≥ (xs.length : Int))) || ((ps.getD k default).1 == (ps.getD k default).2.1)) = true
        · rw [if_pos hc]; exact Ret.pure ⟨rfl, hno⟩
        · rw [if_neg hc, if_pos]
          · exact Ret.pure ⟨rfl, hno⟩
          · simp only [Bool.or_eq_true, decide_eq_true_eq, beq_iff_eq] at hc ⊢
            unfold GoodPay at hg
            omega
    · have : k = ps.length := by omega
      subst this
      rw [if_neg (by simp)]
      rw [List.take_length] at hall
      exact Ret.pure ⟨rfl, hall⟩
  · rintro (l | ⟨b, l⟩) hr
    · obtain ⟨rfl, hg⟩ := hr
      dsimp only
      rw [final_check xs ps hl, Option.bind_some]
      exact ⟨_, pays_end h hg, rfl⟩
    · obtain ⟨rfl, hno⟩ := hr
      rw [paysOk_false (fun k => hno k.2.1)]
      exact Ret.pure rfl
theorem specPaysOk_eq (xs : List Int) (ps : PayL) (hl : xs.length ≤ 1000) (hp : ps.length ≤ 100000) : spec_PaysOkS xs ps = some (paysOk xs ps) := by
  unfold spec_PaysOkS
  rw [specOwedValid_eq _ (by omega), Option.bind_some]
  by_cases h : OwedOk xs
  case neg => rw [decide_eq_false h, if_pos (by simp), paysOk_false (fun k => h k.1)]
  have h7 := h.1
  rw [decide_eq_true h, if_neg (by simp), appO_ok (by simp; omega), Option.bind_some, List.nil_append]
  apply Ret.eq
  refine Ret.loopb (fun s => ∃ k : Nat, s = ((k : Int), leftAt xs ps k) ∧ k ≤ ps.length ∧ ∀ p ∈ ps.take k, GoodPay xs.length p) (fun s => ps.length - s.1.toNat) (fun r => match r with | .inl l => l = leftAt xs ps ps.length ∧ ∀ p ∈ ps, GoodPay xs.length p | .inr q => q.1 = false ∧ ¬ ∀ p ∈ ps, GoodPay xs.length p) ?_ ?_ ?_
  · refine ⟨0, ?_, by omega, fun p hp => by simp at hp⟩
    congr 1
    unfold leftAt
    conv => lhs; rw [ra_of xs]
    apply ra_ext
    intro k hk; simp [flow]
  · rintro s ⟨k, rfl, hk, hall⟩
    dsimp only
    have hlen : (leftAt xs ps k).length = xs.length := ra_length _ _
    by_cases hk2 : k < ps.length
    · have hmem : ps.getD k default ∈ ps := by rw [List.getD_eq_getElem?_getD, List.getElem?_eq_getElem hk2]; exact List.getElem_mem hk2
      rw [if_pos (by simp only [decide_eq_true_eq]; omega), geti_get hk2, Option.bind_some, wr_succ (n := ps.length) (by omega) hk2, l1In_eq, Option.bind_some, wr (x := (xs.length : Int) - 1) ⟨by omega, by omega⟩]
      by_cases hg : GoodPay xs.length (ps.getD k default)
      · obtain ⟨f, t, e1, e2, hf, ht, hft, w1, w2, hset⟩ := leftAt_step hk2 h hg hall hp
        have hg2 := hg
        obtain ⟨⟨f0, f1⟩, ⟨t0, t1⟩, hne, s0, s1⟩ := hg
        have g1 : decide (0 ≤ (ps.getD k default).1 ∧ (ps.getD k default).1 ≤ (xs.length : Int) - 1) = true := decide_eq_true (by omega)
        have g2 : decide (0 ≤ (ps.getD k default).2.1 ∧ (ps.getD k default).2.1 ≤ (xs.length : Int) - 1) = true := decide_eq_true (by omega)
        have g3 : decide (1 ≤ (ps.getD k default).2.2 ∧ (ps.getD k default).2.2 ≤ 9999) = true := decide_eq_true (by omega)
        have g4 : ((ps.getD k default).1 == (ps.getD k default).2.1) = false := by rw [beq_eq_false_iff_ne]; exact hne
        rw [g1, if_neg (by simp), l1In_eq, Option.bind_some, g2, Option.bind_some, g4, if_neg (by simp), l1In_eq, Option.bind_some, g3, Option.bind_some, if_neg (by simp), e1, e2, geti_at0 (by omega), Option.bind_some, Option.bind_some, w1, Int.toNat_natCast, Int.toNat_natCast, geti_at0 (by rw [List.length_set]; omega), Option.bind_some, set2 (by omega) (by omega) hft, Option.bind_some, w2, hset]
        refine Ret.pure ⟨⟨k + 1, rfl, by omega, fun p hp => ?_⟩, by simp; omega⟩
        rw [take_get hk2] at hp
        rcases List.mem_append.1 hp with hp | hp
        · exact hall p hp
        · simp only [List.mem_singleton] at hp; rw [hp]; exact hg2
      · have hno : ¬ ∀ p ∈ ps, GoodPay xs.length p := fun hh => hg (hh _ hmem)
        by_cases g1 : 0 ≤ (ps.getD k default).1 ∧ (ps.getD k default).1 ≤ (xs.length : Int) - 1
        case neg =>
          rw [decide_eq_false g1, if_pos (by simp), Option.bind_some, if_pos (by simp), Option.bind_some, if_pos rfl]
          exact Ret.pure ⟨rfl, hno⟩
        rw [decide_eq_true g1, if_neg (by simp), l1In_eq, Option.bind_some]
        by_cases g2 : 0 ≤ (ps.getD k default).2.1 ∧ (ps.getD k default).2.1 ≤ (xs.length : Int) - 1
        case neg =>
          rw [decide_eq_false g2, Option.bind_some, if_pos (by simp), Option.bind_some, if_pos rfl]
          exact Ret.pure ⟨rfl, hno⟩
        rw [decide_eq_true g2, Option.bind_some]
        by_cases g4 : (ps.getD k default).1 = (ps.getD k default).2.1
        case pos =>
          rw [if_pos (by simp only [Bool.not_true, Bool.false_or, beq_iff_eq]; exact g4), Option.bind_some, if_pos rfl]
          exact Ret.pure ⟨rfl, hno⟩
        rw [if_neg (by simp only [Bool.not_true, Bool.false_or, beq_iff_eq]; exact g4), l1In_eq, Option.bind_some, decide_eq_false (fun g3 => hg ⟨by omega, by omega, g4, g3.1, g3.2⟩), Option.bind_some, if_pos (by simp)]
        exact Ret.pure ⟨rfl, hno⟩
    · have : k = ps.length := by omega
      subst this
      rw [if_neg (by simp)]
      rw [List.take_length] at hall
      exact Ret.pure ⟨rfl, hall⟩
  · rintro (l | ⟨b, l⟩) hr
    · obtain ⟨rfl, hg⟩ := hr
      dsimp only
      rw [final_check xs ps hl, Option.bind_some]
      exact ⟨_, pays_end h hg, rfl⟩
    · obtain ⟨rfl, hno⟩ := hr
      rw [paysOk_false (fun k => hno k.2.1)]
      exact Ret.pure rfl
/-- what is told of payments makes them settle -/
theorem paysOk_of {xs : List Int} {ps : PayL} (h : OwedOk xs) (hf : ∀ q ∈ ps, ∃ f t : Nat, q = ((f : Int), (t : Int), q.2.2) ∧ f < xs.length ∧ t < xs.length ∧ at0 xs f < 0 ∧ 0 < at0 xs t ∧ 1 ≤ q.2.2 ∧ q.2.2 ≤ 9999) (hz : ∀ i : Nat, at0 xs i + flow ps i = 0) : PaysOk xs ps := by
  refine ⟨h, fun p hp => ?_, fun i _ => hz i⟩
  obtain ⟨f, t, e, h1, h2, h3, h4, h5, h6⟩ := hf p hp
  have hne : f ≠ t := fun e => by subst e; omega
  rw [e]
  exact ⟨⟨by simp, by simp; omega⟩, ⟨by simp, by simp; omega⟩, by simp; omega, h5, h6⟩
theorem pl_FnSettleFast (x : List Int) (hw : ∀ n ∈ x, InK .u8 n) : laws_FnSettleFastS x = some true := by
  unfold laws_FnSettleFastS
  by_cases hl : (x.length : Int) > 1048576
  · rw [if_pos (by simp; omega)]
  rw [if_neg (by simp; omega)]
  obtain ⟨xs, hd, hr⟩ := drawOwed (f := spec_DrawSettleFastS) (fun x => rfl) x (u8_of hw)
  have hl8 := hr.1
  rw [hd, Option.bind_some]
  by_cases h : OwedOk xs
  · obtain ⟨p, e1, e2, hF⟩ := fast_both h
    have hlen := hF.len
    have hn := nzc_le xs
    have hpl : p.length ≤ 8 := by
      rcases hlen with ⟨_, rfl⟩ | h1
      · simp
      · omega
    obtain ⟨f1, f2⟩ := hF.facts h.2.1
    rw [e1, Option.bind_some, e2, Option.bind_some, samePays_eq _ _ (by omega), Option.bind_some, if_neg (by simp), specOwedValid_eq _ (by omega), Option.bind_some, decide_eq_true h, if_neg (by simp), peopleLoop (by omega), Option.bind_some]
    rw [implPaysOk_eq _ _ (by omega) (by omega), Option.bind_some, paysOk_true (paysOk_of h f1 f2)]
    rcases hlen with ⟨h1, rfl⟩ | h1
    · simp [h1]
    · simp [h1]
  · obtain ⟨e1, e2⟩ := fast_not (by omega) h
    rw [e1, Option.bind_some, e2, Option.bind_some, samePays_eq _ _ (by simp), Option.bind_some, if_neg (by simp), specOwedValid_eq _ (by omega), Option.bind_some, decide_eq_false h, if_pos (by simp)]
    rfl
end Go.Proofs.YtohhaladggoglaaDoor
