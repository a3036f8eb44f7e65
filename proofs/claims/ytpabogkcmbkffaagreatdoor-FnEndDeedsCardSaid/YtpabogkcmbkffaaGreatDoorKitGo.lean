/- A kitchen in which something is left goes on, by one step less each time. Own work; no program in sight. -/
import Derived.Test.YtpabogkcmbkffaaGreatDoorDoLaw
set_option linter.unusedVariables false
namespace Go.Proofs.YtpabogkcmbkffaaGreatDoor
open Go Go.RowKit
theorem firstOf_no {ρ : Type} {p : Nat → Option ρ} : ∀ {n k : Nat}, firstOf p k n = none → ∀ i, k ≤ i → i < k + n → p i = none
  | 0, k, _, i, h1, h2 => by omega
  | n + 1, k, h, i, h1, h2 => by
    unfold firstOf at h
    cases hp : p k with
    | some r => rw [hp] at h; cases h
    | none =>
      rw [hp] at h
      rcases Nat.lt_or_ge k i with h3 | h3
      · exact firstOf_no h i (by omega) (by omega)
      · obtain rfl : i = k := by omega
        exact hp
theorem kitF_no {ks : List Tick} {p : Int} (h : kitF ks p = none) {i j : Nat} (hi : i < ks.length) (hj : j < ks[i].length) : ks[i][j].2 ≠ p := fun e => by
  have h1 := firstOf_no h i (by omega) (by omega)
  unfold kitP at h1
  rw [List.getElem?_eq_getElem hi] at h1
  dsimp only at h1
  have h2 : rowF ks[i] p = none := by
    cases hr : rowF ks[i] p with
    | none => rfl
    | some q => rw [hr] at h1; cases h1
  have h3 := firstOf_no h2 j (by omega) (by omega)
  unfold rowP at h3
  rw [List.getElem?_eq_getElem hj] at h3
  dsimp only at h3
  rw [if_pos e] at h3
  cases h3
theorem mayTo_has {t : Tick} {k : Nat} (h : (tdo t (k : Int) 0).2 = true) : ∀ {n : Nat}, k < n → (k : Int) ∈ mayTo t n
  | n + 1, hn => by
    unfold mayTo
    rcases Nat.lt_or_ge k n with h1 | h1
    · have := mayTo_has h h1
      split
      · exact List.mem_append_left _ this
      · exact this
    · obtain rfl : k = n := by omega
      rw [if_pos h]; simp
theorem fire_yes {ks : List Tick} (hk : kitB ks = true) {i j : Nat} (hi : i < ks.length) (hj : j < ks[i].length) (h : (tdo ks[i] (j : Int) 0).2 = true) : ¬ (fireZ ks).1 < 0 := by
  have hm := mayTo_has h hj
  unfold fireZ
  rw [if_pos hk]
  cases hf : firstOf (fireP ks) 0 ks.length with
  | none =>
    have h1 := firstOf_no hf i (by omega) (by omega)
    unfold fireP at h1
    rw [List.getElem?_eq_getElem hi] at h1
    dsimp only at h1
    cases hl : mayTo ks[i] ks[i].length with
    | nil => rw [hl] at hm; cases hm
    | cons q l => rw [hl] at h1; cases h1
  | some r =>
    obtain ⟨k, _, h2, h3⟩ := firstOf_some hf
    rw [Nat.zero_add] at h2
    unfold fireP at h3
    rw [List.getElem?_eq_getElem h2] at h3
    dsimp only at h3
    cases hl : mayTo ks[k] ks[k].length with
    | nil => rw [hl] at h3; cases h3
    | cons q l =>
      rw [hl] at h3
      obtain rfl := Option.some.inj h3
      show ¬ ((k : Int) < 0)
      omega
theorem min_course {t : Tick} (hv : ticketB t = true) (h : ∃ o ∈ t, o.2 < 3) : ∃ j, ∃ hj : j < t.length, t[j].2 < 3 ∧ ∀ y ∈ t, y.2 < 3 → t[j].1 ≤ y.1 := by
  have hin := fun o ho => ticket_in hv (o := o) ho
  have pick : ∀ c : Int, (∃ o ∈ t, o.2 < 3 ∧ o.1 = c) → (∀ y ∈ t, y.2 < 3 → c ≤ y.1) → ∃ j, ∃ hj : j < t.length, t[j].2 < 3 ∧ ∀ y ∈ t, y.2 < 3 → t[j].1 ≤ y.1 := by
    rintro c ⟨o, ho, h1, h2⟩ hc
    obtain ⟨j, hj, rfl⟩ := List.mem_iff_getElem.1 ho
    exact ⟨j, hj, h1, fun y hy hy3 => by have := hc y hy hy3; omega⟩
  by_cases h0 : ∃ o ∈ t, o.2 < 3 ∧ o.1 = 0
  · exact pick 0 h0 fun y hy _ => (hin y hy).1.1
  by_cases h1 : ∃ o ∈ t, o.2 < 3 ∧ o.1 = 1
  · refine pick 1 h1 fun y hy h3 => ?_
    have := (hin y hy).1
    have : y.1 ≠ 0 := fun e => h0 ⟨y, hy, h3, e⟩
    omega
  · obtain ⟨o, ho, h3⟩ := h
    have two : ∀ y ∈ t, y.2 < 3 → y.1 = 2 := fun y hy h3 => by
      have := (hin y hy).1
      have : y.1 ≠ 0 := fun e => h0 ⟨y, hy, h3, e⟩
      have : y.1 ≠ 1 := fun e => h1 ⟨y, hy, h3, e⟩
      omega
    exact pick 2 ⟨o, ho, h3, two o ho h3⟩ fun y hy h => by rw [two y hy h]; omega
theorem ticket_fire {t : Tick} (hv : ticketB t = true) (hno : ∀ o ∈ t, o.2 ≠ 1 ∧ o.2 ≠ 2) (h : ∃ o ∈ t, o.2 < 3) : ∃ j, j < t.length ∧ (tdo t (j : Int) 0).2 = true := by
  obtain ⟨j, hj, h3, hmin⟩ := min_course hv h
  refine ⟨j, hj, ?_⟩
  have hin := ticket_in hv (List.getElem_mem hj)
  have h12 := hno t[j] (List.getElem_mem hj)
  have h0 : t[j].2 = 0 := by omega
  have hnew : ticketB (t.set j (t[j].1, 1)) = true := by
    have hv' := hv
    unfold ticketB at hv' ⊢
    rw [Bool.and_eq_true, Bool.and_eq_true] at hv' ⊢
    obtain ⟨a1, a2, a3⟩ := hv'
    rw [List.all_eq_true] at a2 a3
    refine ⟨by rw [List.length_set]; exact a1, List.all_eq_true.2 fun x hx => ?_, List.all_eq_true.2 fun x hx => ?_⟩
    · rcases List.mem_or_eq_of_mem_set hx with h | rfl
      · exact a2 x h
      · exact inB_true.2 ⟨hin.1, by simp only; omega⟩
    · have ready : ∀ c, (∀ y ∈ t, y.2 < 3 → c ≤ y.1) → readyB (t.set j (t[j].1, 1)) c = true := fun c hc => by
        unfold readyB
        rw [List.all_eq_true]
        intro y hy
        simp only [Bool.not_eq_true', Bool.and_eq_false_iff, decide_eq_false_iff_not]
        rcases List.mem_or_eq_of_mem_set hy with h | rfl
        · by_cases hy3 : y.2 < 3
          · exact .inl (by have := hc y h hy3; omega)
          · exact .inr hy3
        · exact .inl (by have := hc t[j] (List.getElem_mem hj) h3; show ¬ t[j].1 < c; omega)
      unfold rdyB
      rw [Bool.or_eq_true]
      rcases List.mem_or_eq_of_mem_set hx with h | rfl
      · by_cases hs : 1 ≤ x.2 ∧ x.2 ≤ 3
        · right
          have hr := a3 x h
          unfold rdyB at hr
          rw [decide_eq_true hs, Bool.not_true, Bool.false_or] at hr
          unfold readyB at hr
          rw [List.all_eq_true] at hr
          refine ready x.1 fun y hy hy3 => ?_
          have := hr y hy
          simp only [Bool.not_eq_true', Bool.and_eq_false_iff, decide_eq_false_iff_not] at this
          omega
        · left; rw [decide_eq_false hs]; rfl
      · right; exact ready _ fun y hy hy3 => hmin y hy hy3
  unfold tdo
  rw [if_pos hv, geti_lt' hj]
  dsimp only
  rw [h0, show nextS 0 0 = some 1 from rfl]
  dsimp only
  rw [show ((j : Int)).toNat = j from rfl, if_pos hnew]
theorem leftN_pos : ∀ {t : Tick}, 0 < leftN t → ∃ o ∈ t, o.2 < 3
  | [], h => by simp [leftN] at h
  | o :: t, h => by
    by_cases h3 : o.2 < 3
    · exact ⟨o, by simp, h3⟩
    · have : leftO o = 0 := by unfold leftO; omega
      unfold leftN at h
      rw [this, Nat.zero_add] at h
      obtain ⟨x, hx, hx3⟩ := leftN_pos h
      exact ⟨x, by simp [hx], hx3⟩
theorem leftK_pos : ∀ {ks : List Tick}, 0 < leftK ks → ∃ t ∈ ks, ∃ o ∈ t, o.2 < 3
  | [], h => by simp [leftK] at h
  | t :: ks, h => by
    by_cases h0 : 0 < leftN t
    · exact ⟨t, by simp, leftN_pos h0⟩
    · unfold leftK at h
      obtain ⟨u, hu, x⟩ := leftK_pos (ks := ks) (by omega)
      exact ⟨u, by simp [hu], x⟩
theorem step_yes {ks : List Tick} (hk : kitB ks = true) (h : 0 < leftK ks) : (stepK ks).2 = true := by
  unfold stepK
  rw [if_pos hk]
  cases h2 : kitF ks 2 with
  | some p => obtain ⟨i, j⟩ := p; rfl
  | none =>
    dsimp only
    cases h1 : kitF ks 1 with
    | some p => obtain ⟨i, j⟩ := p; rfl
    | none =>
      dsimp only
      obtain ⟨t, ht, ho⟩ := leftK_pos h
      obtain ⟨i, hi, rfl⟩ := List.mem_iff_getElem.1 ht
      obtain ⟨j, hj, hd⟩ := ticket_fire (kitB_at hk ht) (fun o ho => by
        obtain ⟨j, hj, rfl⟩ := List.mem_iff_getElem.1 ho
        exact ⟨kitF_no h1 hi hj, kitF_no h2 hi hj⟩) ho
      rw [if_neg (fire_yes hk hi hj hd)]
theorem step_at {ks : List Tick} (h : (stepK ks).2 = true) : ∃ i j, ∃ hi : i < ks.length, ∃ hj : j < ks[i].length, (0 ≤ ks[i][j].2 ∧ ks[i][j].2 ≤ 2) ∧ (stepK ks).1 = setTk ks i j (ks[i][j].2 + 1) ∧ ticketB (ks[i].set j (ks[i][j].1, ks[i][j].2 + 1)) = true := by
  have hk := stepK_ok h
  unfold stepK at h ⊢
  rw [if_pos hk] at h ⊢
  cases h2 : kitF ks 2 with
  | some p =>
    obtain ⟨i, j⟩ := p
    obtain ⟨hi, hj, hs⟩ := kitF_some h2
    refine ⟨i, j, hi, hj, by omega, by rw [hs]; rfl, ?_⟩
    exact ticketB_step (kitB_at hk (List.getElem_mem hi)) hj rfl (.inr hs) rfl
  | none =>
    rw [h2] at h
    dsimp only at h ⊢
    cases h1 : kitF ks 1 with
    | some p =>
      obtain ⟨i, j⟩ := p
      obtain ⟨hi, hj, hs⟩ := kitF_some h1
      refine ⟨i, j, hi, hj, by omega, by rw [hs]; rfl, ?_⟩
      exact ticketB_step (kitB_at hk (List.getElem_mem hi)) hj rfl (.inl hs) rfl
    | none =>
      rw [h1] at h
      dsimp only at h ⊢
      by_cases hf : (fireZ ks).1 < 0
      · rw [if_pos hf] at h; cases h
      · rw [if_neg hf]
        obtain ⟨i, j, hi, hj, he, ht⟩ := fire_at hf
        have h0 := tdo_fire0 hj (by rw [ht])
        refine ⟨i, j, hi, hj, by omega, by rw [he, h0]; rfl, ?_⟩
        rw [h0]
        unfold tdo at ht
        rw [if_pos (kitB_at hk (List.getElem_mem hi)), geti_lt' hj] at ht
        dsimp only at ht
        rw [h0, show nextS 0 0 = some 1 from rfl] at ht
        dsimp only at ht
        rw [show ((j : Int)).toNat = j from rfl] at ht
        split at ht
        · rename_i hb; exact hb
        · exact absurd (congrArg Prod.snd ht) (by simp)
theorem split_at {α : Type} {l : List α} {j : Nat} (hj : j < l.length) : l = l.take j ++ l[j] :: l.drop (j + 1) := by rw [← List.drop_eq_getElem_cons hj, List.take_append_drop]
theorem set_split {α : Type} {l : List α} {j : Nat} (hj : j < l.length) (x : α) : l.set j x = l.take j ++ x :: l.drop (j + 1) := by
  rw [List.set_eq_take_append_cons_drop, if_pos hj]
theorem left_set {t : Tick} {j : Nat} (hj : j < t.length) (h : 0 ≤ t[j].2 ∧ t[j].2 ≤ 2) : leftN (t.set j (t[j].1, t[j].2 + 1)) + 1 = leftN t := by
  have e : leftN t = leftN (t.take j) + (leftO t[j] + leftN (t.drop (j + 1))) := by
    conv => lhs; rw [split_at hj]
    rw [leftN_app]; rfl
  rw [set_split hj, leftN_app, e]
  show leftN (t.take j) + (leftO (t[j].1, t[j].2 + 1) + leftN (t.drop (j + 1))) + 1 = _
  unfold leftO
  dsimp only
  omega
theorem step_left {ks : List Tick} (h : (stepK ks).2 = true) : leftK (stepK ks).1 + 1 = leftK ks ∧ kitB (stepK ks).1 = true := by
  obtain ⟨i, j, hi, hj, hs, he, ht⟩ := step_at h
  have hk := stepK_ok h
  rw [he, setTk_at hi hj]
  constructor
  · have e : leftK ks = leftK (ks.take i) + (leftN ks[i] + leftK (ks.drop (i + 1))) := by
      conv => lhs; rw [split_at hi]
      rw [leftK_app]; rfl
    rw [set_split hi, leftK_app, e]
    show leftK (ks.take i) + (leftN (ks[i].set j (ks[i][j].1, ks[i][j].2 + 1)) + leftK (ks.drop (i + 1))) + 1 = _
    have := left_set hj hs
    omega
  · unfold kitB at hk ⊢
    rw [Bool.and_eq_true, List.all_eq_true] at hk ⊢
    refine ⟨by rw [List.length_set]; exact hk.1, fun t hx => ?_⟩
    rcases List.mem_or_eq_of_mem_set hx with hx | rfl
    · exact hk.2 t hx
    · exact ht
theorem left_done {t : Tick} (hv : ticketB t = true) (h : leftN t = 0) : (∀ o ∈ t, 3 ≤ o.2) ∧ doneB t = true := by
  have h3 : ∀ o ∈ t, 3 ≤ o.2 := by
    intro o ho
    obtain ⟨j, hj, rfl⟩ := List.mem_iff_getElem.1 ho
    have e : leftN t = leftN (t.take j) + (leftO t[j] + leftN (t.drop (j + 1))) := by
      conv => lhs; rw [split_at hj]
      rw [leftN_app]; rfl
    have : leftO t[j] = 0 := by omega
    unfold leftO at this
    omega
  refine ⟨h3, ?_⟩
  have hc : ∀ k, courseTo t k = -1 := by
    intro k
    induction k with
    | zero => rfl
    | succ k ih =>
      unfold courseTo
      split
      · exact ih
      · rename_i o ho
        have := h3 o (List.mem_of_getElem? ho)
        rw [if_neg (by omega), ih]
  unfold doneB
  rw [hv, hc]; rfl
end Go.Proofs.YtpabogkcmbkffaaGreatDoor
