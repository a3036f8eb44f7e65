/- Tickets: what may be done to them, and the kitchen's next step. Own work; no program in sight. -/
import Derived.Test.YtpabogkcmbkffaaGreatDoorWork
set_option linter.unusedVariables false
namespace Go.Proofs.YtpabogkcmbkffaaGreatDoor
open Go Go.RowKit
theorem l1In_idx (j : Int) (n : Nat) (hn : n ≤ 4611686018427387904) : spec_l1InS j 0 (IntKind.wrap .i64 ((n : Int) - 1)) = some (decide (0 ≤ j ∧ j < (n : Int))) := by
  unfold spec_l1InS
  rw [wr ⟨by omega, by omega⟩, ← Bool.decide_and]
  congr 1
  exact decide_eq_decide.2 ⟨fun h => ⟨h.1, by omega⟩, fun h => ⟨h.1, by omega⟩⟩
theorem geti_out {α : Type} {xs : List α} {j : Int} (h : ¬(0 ≤ j ∧ j < (xs.length : Int))) : geti xs j = none := by
  unfold geti
  split
  · rename_i h0
    exact List.getElem?_eq_none (by omega)
  · rfl
theorem in_nat {j : Int} {n : Nat} (h : 0 ≤ j ∧ j < (n : Int)) : ∃ k : Nat, j = (k : Int) ∧ k < n := ⟨j.toNat, by omega, by omega⟩
def nextS (s a : Int) : Option Int := if a = 0 ∧ s = 0 then some 1 else if a = 1 ∧ s = 1 then some 2 else if a = 2 ∧ s = 2 then some 3 else if a = 3 ∧ s < 3 then some 4 else none
theorem specNext_eq (s a : Int) : spec_l4NextS s a = some ((nextS s a).getD (-1)) := by
  unfold spec_l4NextS nextS
  by_cases h0 : a = 0 ∧ s = 0
  · simp [h0]
  · by_cases h1 : a = 1 ∧ s = 1
    · simp [h1]
    · by_cases h2 : a = 2 ∧ s = 2
      · simp [h2]
      · by_cases h3 : a = 3 ∧ s < 3
        · simp [h3]
        · simp [h0, h1, h2, h3]
theorem nextS_pos {s a r : Int} (h : nextS s a = some r) : 0 ≤ r := by
  unfold nextS at h
  split at h
  · simp at h; omega
  · split at h
    · simp at h; omega
    · split at h
      · simp at h; omega
      · split at h
        · simp at h; omega
        · cases h
theorem implNext_eq {s : Int} (hs : 0 ≤ s) (a : Int) : impl_stateAfterS s a = some (match nextS s a with | some r => (r, true) | none => (0, false)) := by
  unfold impl_stateAfterS nextS
  by_cases h0 : a = 0
  · subst h0; by_cases h : s = 0 <;> simp [h]
  · by_cases h1 : a = 1
    · subst h1; by_cases h : s = 1 <;> simp [h]
    · by_cases h2 : a = 2
      · subst h2; by_cases h : s = 2 <;> simp [h]
      · by_cases h3 : a = 3
        · subst h3
          by_cases h : s < 3
          · have : s = 0 ∨ s = 1 ∨ s = 2 := by omega
            rcases this with rfl | rfl | rfl <;> simp
          · have e0 : ¬ s = 0 := by omega
            have e1 : ¬ s = 1 := by omega
            have e2 : ¬ s = 2 := by omega
            simp [h, e0, e1, e2]
        · simp [h0, h1, h2, h3]
def tdo (t : Tick) (j a : Int) : Tick × Bool :=
  if ticketB t = true then
    match geti t j with
    | none => (t, false)
    | some o => match nextS o.2 a with
      | none => (t, false)
      | some r => if ticketB (t.set j.toNat (o.1, r)) = true then (t.set j.toNat (o.1, r), true) else (t, false)
  else ([], false)
theorem specTdo_eq (t : Tick) (h : t.length ≤ 1048576) (j a : Int) : spec_TicketDoS t j a = some (tdo t j a) := by
  unfold spec_TicketDoS tdo
  rw [specTicket_eq t (by omega), Option.bind_some]
  by_cases hv : ticketB t = true
  · rw [hv, if_neg (by simp), if_pos rfl, appO_le (by simp; omega), Option.bind_some, List.nil_append, l1In_idx j t.length (by omega), Option.bind_some]
    by_cases hj : 0 ≤ j ∧ j < (t.length : Int)
    · obtain ⟨k, rfl, hk⟩ := in_nat hj
      rw [decide_eq_true hj, if_neg (by simp), geti_lt' hk, Option.bind_some, specNext_eq, Option.bind_some]
      dsimp only
      cases hn : nextS t[k].2 a with
      | none => rfl
      | some r =>
        have := nextS_pos hn
        dsimp only [Option.getD]
        rw [if_neg (by simp; omega), Option.bind_some, specTicket_eq _ (by rw [List.length_set]; omega), Option.bind_some]
        cases ticketB (t.set (Int.toNat (k : Int)) (t[k].1, r)) <;> simp
    · rw [decide_eq_false hj, if_pos (by simp), geti_out hj]
  · rw [if_pos (by simpa using hv), if_neg hv]
theorem implTdo_eq (t : Tick) (h : t.length ≤ 1048576) (j a : Int) : impl_TicketDoS t j a = some (tdo t j a) := by
  unfold impl_TicketDoS tdo
  rw [implTicket_eq t (by omega), Option.bind_some]
  by_cases hv : ticketB t = true
  · rw [hv, if_neg (by simp), if_pos rfl, copyTick_id t h, Option.bind_some]
    by_cases hj : 0 ≤ j ∧ j < (t.length : Int)
    · obtain ⟨k, rfl, hk⟩ := in_nat hj
      rw [if_neg (by simp; omega), geti_lt' hk, Option.bind_some, implNext_eq (ticket_in hv (List.getElem_mem hk)).2.1, Option.bind_some]
      dsimp only
      cases hn : nextS t[k].2 a with
      | none => rfl
      | some r =>
        dsimp only
        rw [if_neg (by simp), Option.bind_some, implTicket_eq _ (by rw [List.length_set]; omega), Option.bind_some]
        cases ticketB (t.set (Int.toNat (k : Int)) (t[k].1, r)) <;> simp
    · rw [if_pos (by simp; omega), geti_out hj]
  · rw [if_pos (by simpa using hv), if_neg hv]
/-! ### what may be fired -/
def mayTo (t : Tick) : Nat → List Int
  | 0 => []
  | k + 1 => if (tdo t (k : Int) 0).2 = true then mayTo t k ++ [(k : Int)] else mayTo t k
theorem mayTo_len (t : Tick) : ∀ k, (mayTo t k).length ≤ k
  | 0 => Nat.le_refl _
  | k + 1 => by
    have := mayTo_len t k
    unfold mayTo
    split
    · rw [List.length_append]; simp; omega
    · omega
theorem mayTo_nil {t : Tick} (h : ¬ ticketB t = true) : ∀ k, mayTo t k = []
  | 0 => rfl
  | k + 1 => by
    unfold mayTo
    rw [if_neg (by unfold tdo; rw [if_neg h]; simp), mayTo_nil h k]
theorem mayTo_mem {t : Tick} {j : Int} : ∀ {k}, j ∈ mayTo t k → (tdo t j 0).2 = true
  | 0, h => by cases h
  | k + 1, h => by
    unfold mayTo at h
    split at h
    · rename_i h1
      rcases List.mem_append.1 h with h | h
      · exact mayTo_mem h
      · simp at h; subst h; exact h1
    · exact mayTo_mem h
theorem specMay_eq (t : Tick) (h : t.length ≤ 1048576) : spec_TicketMayS t = some (mayTo t t.length) := by
  unfold spec_TicketMayS
  rw [loopDet (s := (([] : List Int), (0 : Int))) (fun k => (mayTo t k, (k : Int))) t.length (mayTo t t.length) rfl]
  · rfl
  · intro k hk
    have hl := mayTo_len t k
    (try dsimp only)
    rw [if_pos (lt_dec hk), specTdo_eq t h, Option.bind_some, wr_succ (n := t.length) (by omega) hk, appO_le (by simp; omega), Option.bind_some]
    simp only [mayTo]
    cases (tdo t (k : Int) 0).2 <;> rfl
  · (try dsimp only)
    rw [if_neg (by simp)]
theorem implMay_eq (t : Tick) (h : t.length ≤ 1048576) : impl_TicketMayS t = some (mayTo t t.length) := by
  unfold impl_TicketMayS
  rw [implTicket_eq t (by omega), Option.bind_some]
  by_cases hv : ticketB t = true
  · rw [hv, if_neg (by simp), loopDet (s := (([] : List Int), (0 : Int))) (fun k => (mayTo t k, (k : Int))) t.length (mayTo t t.length) rfl]
    · rfl
    · intro k hk
      have hl := mayTo_len t k
      (try dsimp only)
      rw [if_pos (lt_dec hk), implTdo_eq t h, Option.bind_some, wr_succ (n := t.length) (by omega) hk, appO_le (by simp; omega), Option.bind_some]
      simp only [mayTo]
      cases (tdo t (k : Int) 0).2 <;> rfl
    · (try dsimp only)
      rw [if_neg (by simp)]
  · rw [if_pos (by simpa using hv), mayTo_nil hv]
def fireP (ks : List Tick) (k : Nat) : Option (Unit ⊕ (Int × Int)) := match ks[k]? with
  | none => none
  | some t => match mayTo t t.length with
    | [] => none
    | j :: _ => some (.inr ((k : Int), j))
def fireZ (ks : List Tick) : Int × Int := if kitB ks = true then (match (firstOf (fireP ks) 0 ks.length).getD (.inl ()) with | .inl _ => (-1, -1) | .inr p => p) else (-1, -1)
theorem specFire_eq {ks : List Tick} (h : SmallK ks) : spec_NextFireS ks = some (fireZ ks) := by
  have hl := h.1
  unfold spec_NextFireS fireZ
  by_cases hv : kitB ks = true
  · rw [loopExit (s := (0 : Int)) (fun k => (k : Int)) ks.length (fireP ks) (.inl ()) rfl]
    · rw [if_pos hv, Option.bind_some]
      cases (firstOf (fireP ks) 0 ks.length).getD (.inl ()) <;> rfl
    · intro k hk
      (try dsimp only)
      rw [if_pos (lt_dec hk), specKit_eq h, Option.bind_some, Option.bind_some, hv, if_pos rfl, geti_lt' hk, Option.bind_some, specMay_eq _ (h.at hk), Option.bind_some, wr_succ (n := ks.length) (by omega) hk]
      unfold fireP
      rw [List.getElem?_eq_getElem hk]
      dsimp only
      cases mayTo ks[k] ks[k].length with
      | nil => rfl
      | cons j l =>
        rw [if_pos (by simp)]
        try rfl
    · (try dsimp only)
      rw [if_neg (by simp), Option.bind_some, if_neg (by simp)]
  · rw [if_neg hv, loop_eq]
    (try dsimp only)
    by_cases hk : 0 < ks.length
    · rw [if_pos (by simpa using hk), specKit_eq h, Option.bind_some, Option.bind_some, if_neg hv]; rfl
    · rw [if_neg (by simpa using hk), Option.bind_some, if_neg (by simp)]; rfl
theorem implFire_eq {ks : List Tick} (h : SmallK ks) : impl_NextFireS ks = some (fireZ ks) := by
  have hl := h.1
  unfold impl_NextFireS fireZ
  rw [implKit_eq h, Option.bind_some]
  by_cases hv : kitB ks = true
  · rw [hv, if_neg (by simp), loopExit (s := (0 : Int)) (fun k => (k : Int)) ks.length (fireP ks) (.inl ()) rfl]
    · rw [if_pos rfl, Option.bind_some]
      cases (firstOf (fireP ks) 0 ks.length).getD (.inl ()) <;> rfl
    · intro k hk
      (try dsimp only)
      rw [if_pos (lt_dec hk), geti_lt' hk, Option.bind_some, implMay_eq _ (h.at hk), Option.bind_some, wr_succ (n := ks.length) (by omega) hk]
      unfold fireP
      rw [List.getElem?_eq_getElem hk]
      dsimp only
      cases mayTo ks[k] ks[k].length with
      | nil => rfl
      | cons j l =>
        rw [if_pos (by simp)]
        try rfl
    · (try dsimp only)
      rw [if_neg (by simp)]
  · rw [if_pos (by simpa using hv), if_neg hv]
/-! ### what is nearest to be done -/
def setTk (ks : List Tick) (i j : Nat) (s : Int) : List Tick := match ks[i]? with
  | none => ks
  | some t => match t[j]? with
    | none => ks
    | some o => ks.set i (t.set j (o.1, s))
theorem setTk_at {ks : List Tick} {i j : Nat} (hi : i < ks.length) (hj : j < ks[i].length) (s : Int) : setTk ks i j s = ks.set i (ks[i].set j (ks[i][j].1, s)) := by
  unfold setTk
  rw [List.getElem?_eq_getElem hi]
  dsimp only
  rw [List.getElem?_eq_getElem hj]
theorem setTk_len (ks : List Tick) (i j : Nat) (s : Int) : (setTk ks i j s).length = ks.length := by
  unfold setTk
  split
  · rfl
  · split
    · rfl
    · rw [List.length_set]
theorem setTk_small {ks : List Tick} (h : SmallK ks) (i j : Nat) (s : Int) : SmallK (setTk ks i j s) := by
  refine ⟨by rw [setTk_len]; exact h.1, fun t ht => ?_⟩
  unfold setTk at ht
  split at ht
  · exact h.2 t ht
  · rename_i u hu
    split at ht
    · exact h.2 t ht
    · rcases List.mem_or_eq_of_mem_set ht with h1 | rfl
      · exact h.2 t h1
      · rw [List.length_set]; exact h.2 u (List.mem_of_getElem? hu)
def rowP (t : Tick) (p : Int) (j : Nat) : Option Nat := match t[j]? with
  | none => none
  | some o => if o.2 = p then some j else none
def rowF (t : Tick) (p : Int) : Option Nat := firstOf (rowP t p) 0 t.length
def kitP (ks : List Tick) (p : Int) (i : Nat) : Option (Nat × Nat) := match ks[i]? with
  | none => none
  | some t => (rowF t p).map fun j => (i, j)
def kitF (ks : List Tick) (p : Int) : Option (Nat × Nat) := firstOf (kitP ks p) 0 ks.length
theorem firstOf_some {ρ : Type} {p : Nat → Option ρ} {r : ρ} : ∀ {n k : Nat}, firstOf p k n = some r → ∃ i, k ≤ i ∧ i < k + n ∧ p i = some r
  | 0, k, h => by cases h
  | n + 1, k, h => by
    unfold firstOf at h
    cases hp : p k with
    | some r' => rw [hp] at h; exact ⟨k, Nat.le_refl _, by omega, by rw [hp]; exact h⟩
    | none => rw [hp] at h; obtain ⟨i, h1, h2, h3⟩ := firstOf_some h; exact ⟨i, by omega, by omega, h3⟩
theorem firstOf_map {ρ ρ' : Type} {p : Nat → Option ρ} {q : Nat → Option ρ'} {f : ρ → ρ'} : ∀ {n k : Nat}, (∀ i, k ≤ i → i < k + n → q i = (p i).map f) → firstOf q k n = (firstOf p k n).map f
  | 0, k, _ => rfl
  | n + 1, k, h => by
    unfold firstOf
    rw [h k (Nat.le_refl _) (by omega)]
    cases p k with
    | some r => rfl
    | none => exact firstOf_map fun i h1 h2 => h i (by omega) (by omega)
theorem rowF_some {t : Tick} {p : Int} {j : Nat} (h : rowF t p = some j) : ∃ hj : j < t.length, t[j].2 = p := by
  obtain ⟨i, _, h2, h3⟩ := firstOf_some h
  rw [Nat.zero_add] at h2
  unfold rowP at h3
  rw [List.getElem?_eq_getElem h2] at h3
  dsimp only at h3
  split at h3
  · rename_i h4
    obtain rfl := Option.some.inj h3
    exact ⟨h2, h4⟩
  · cases h3
theorem kitF_some {ks : List Tick} {p : Int} {i j : Nat} (h : kitF ks p = some (i, j)) : ∃ hi : i < ks.length, ∃ hj : j < ks[i].length, ks[i][j].2 = p := by
  obtain ⟨k, _, h2, h3⟩ := firstOf_some h
  rw [Nat.zero_add] at h2
  unfold kitP at h3
  rw [List.getElem?_eq_getElem h2] at h3
  dsimp only at h3
  cases hr : rowF ks[k] p with
  | none => rw [hr] at h3; cases h3
  | some q =>
    rw [hr] at h3
    simp only [Option.map_some, Option.some.injEq, Prod.mk.injEq] at h3
    obtain ⟨rfl, rfl⟩ := h3
    exact ⟨h2, rowF_some hr⟩
theorem implFirst_eq {ks : List Tick} (h : SmallK ks) (p : Int) : impl_firstInS ks p = some (match kitF ks p with | none => (-1, -1) | some (i, j) => ((i : Int), (j : Int))) := by
  have hl := h.1
  unfold impl_firstInS
  rw [loopExit (s := (0 : Int)) (fun k => (k : Int)) ks.length (fun i => (kitP ks p i).map fun x : Nat × Nat => (.inr ((x.1 : Int), (x.2 : Int)) : Unit ⊕ (Int × Int))) (.inl ()) rfl]
  · rw [Option.bind_some, firstOf_map (p := kitP ks p) (fun i _ _ => rfl)]
    unfold kitF
    cases firstOf (kitP ks p) 0 ks.length <;> rfl
  · intro i hi
    (try dsimp only)
    have hli := h.at hi
    rw [if_pos (lt_dec hi), geti_lt' hi, Option.bind_some, loopExit (s := (0 : Int)) (fun k => (k : Int)) ks[i].length (fun j => (rowP ks[i] p j).map fun x : Nat => (.inr ((i : Int), (x : Int)) : Unit ⊕ (Int × Int))) (.inl ()) rfl]
    · rw [Option.bind_some, firstOf_map (p := rowP ks[i] p) (fun i _ _ => rfl)]
      unfold kitP
      rw [List.getElem?_eq_getElem hi]
      dsimp only
      unfold rowF
      rw [wr_succ (n := ks.length) (by omega) hi]
      cases firstOf (rowP ks[i] p) 0 ks[i].length <;> rfl
    · intro j hj
      (try dsimp only)
      rw [if_pos (lt_dec hj), geti_lt' hj, Option.bind_some, wr_succ (n := ks[i].length) (by omega) hj]
      unfold rowP
      rw [List.getElem?_eq_getElem hj]
      dsimp only
      by_cases hp : ks[i][j].2 = p
      · rw [if_pos (by simpa using hp), if_pos hp]; rfl
      · rw [if_neg (by simpa using hp), if_neg hp]; rfl
    · (try dsimp only)
      rw [if_neg (by simp)]
  · (try dsimp only)
    rw [if_neg (by simp)]
theorem copyKit_id {ks : List Tick} (h : SmallK ks) : impl_copyKitchenS ks = some ks := by
  have hl := h.1
  unfold impl_copyKitchenS
  by_cases h0 : ks = []
  · subst h0; rfl
  · rw [if_neg (by simpa using h0), mkO_nat _ (by omega), Option.bind_some, copyLoop ks (fun t => t)]
    · rw [Option.bind_some, List.map_id']
    · intro k hk ys hys
      (try dsimp only)
      rw [if_pos (lt_dec hk), geti_lt' hk, Option.bind_some, copyTick_id _ (h.at hk), Option.bind_some, geti_lt' (show k < ys.length by omega), Option.bind_some, wr_succ (n := ks.length) (by omega) hk]
      rfl
    · intro ys hys
      (try dsimp only)
      rw [if_neg (by simp)]
theorem specCopyK_id {ks : List Tick} (h : SmallK ks) : spec_l4CopyS ks = some ks := by
  have hl := h.1
  unfold spec_l4CopyS
  rw [loopDet (s := (([] : List Tick), (0 : Int))) (fun k => (ks.take k, (k : Int))) ks.length ks (by simp)]
  · rfl
  · intro k hk
    have hk2 := h.at hk
    (try dsimp only)
    rw [if_pos (lt_dec hk), geti_lt' hk, Option.bind_some, appO_le (by simp; omega), Option.bind_some, List.nil_append, appO_le (by simp; omega), Option.bind_some, wr_succ (n := ks.length) (by omega) hk, List.take_succ_eq_append_getElem hk]
  · (try dsimp only)
    rw [if_neg (by simp), List.take_length]
theorem ticketB_step {t : Tick} (hv : ticketB t = true) {j : Nat} (hj : j < t.length) {p r : Int} (hp : t[j].2 = p) (h1 : p = 1 ∨ p = 2) (hr : r = p + 1) : ticketB (t.set j (t[j].1, r)) = true := by
  have hin := ticket_in hv (List.getElem_mem hj)
  unfold ticketB at hv ⊢
  rw [Bool.and_eq_true, Bool.and_eq_true] at hv ⊢
  obtain ⟨h2, h3, h4⟩ := hv
  rw [List.all_eq_true] at h3 h4
  refine ⟨by rw [List.length_set]; exact h2, List.all_eq_true.2 fun x hx => ?_, List.all_eq_true.2 fun x hx => ?_⟩
  · rcases List.mem_or_eq_of_mem_set hx with h | rfl
    · exact h3 x h
    · exact inB_true.2 ⟨hin.1, by simp only; omega⟩
  · have key : ∀ c, readyB t c = true → readyB (t.set j (t[j].1, r)) c = true := fun c hc => by
      unfold readyB at hc ⊢
      rw [List.all_eq_true] at hc ⊢
      intro y hy
      rcases List.mem_or_eq_of_mem_set hy with h | rfl
      · exact hc y h
      · have := hc t[j] (List.getElem_mem hj)
        simp only [Bool.not_eq_true', Bool.and_eq_false_iff, decide_eq_false_iff_not] at this ⊢
        rcases this with h | h
        · exact .inl h
        · exact .inr (by omega)
    rcases List.mem_or_eq_of_mem_set hx with h | rfl
    · have := h4 x h
      unfold rdyB at this ⊢
      rw [Bool.or_eq_true] at this ⊢
      exact this.imp id (key x.1)
    · have := h4 t[j] (List.getElem_mem hj)
      unfold rdyB at this ⊢
      rw [Bool.or_eq_true] at this ⊢
      rcases this with h | h
      · simp only [Bool.not_eq_true', decide_eq_false_iff_not] at h
        omega
      · exact .inr (key _ h)
theorem tdo_step {t : Tick} (hv : ticketB t = true) {j : Nat} (hj : j < t.length) {p : Int} (h1 : p = 1 ∨ p = 2) : tdo t (j : Int) p = if t[j].2 = p then (t.set j (t[j].1, p + 1), true) else (t, false) := by
  unfold tdo
  rw [if_pos hv, geti_lt' hj]
  dsimp only
  by_cases hp : t[j].2 = p
  · have hn : nextS t[j].2 p = some (p + 1) := by
      rw [hp]
      rcases h1 with rfl | rfl <;> decide
    rw [hn, if_pos hp]
    dsimp only
    rw [if_pos]
    · rfl
    · exact ticketB_step hv hj hp h1 rfl
  · have hn : nextS t[j].2 p = none := by
      unfold nextS
      rcases h1 with rfl | rfl <;> simp [hp]
    rw [hn, if_neg hp]
theorem fireZ_some {ks : List Tick} {i j : Int} (h : fireZ ks = (i, j)) (h0 : 0 ≤ i) : kitB ks = true ∧ ∃ k : Nat, i = (k : Int) ∧ ∃ hk : k < ks.length, (tdo ks[k] j 0).2 = true := by
  unfold fireZ at h
  split at h
  · rename_i hv
    refine ⟨hv, ?_⟩
    cases hf : firstOf (fireP ks) 0 ks.length with
    | none => rw [hf] at h; simp only [Option.getD, Prod.mk.injEq] at h; omega
    | some o =>
      obtain ⟨k, _, h2, h3⟩ := firstOf_some hf
      rw [Nat.zero_add] at h2
      unfold fireP at h3
      rw [List.getElem?_eq_getElem h2] at h3
      dsimp only at h3
      cases hm : mayTo ks[k] ks[k].length with
      | nil => rw [hm] at h3; cases h3
      | cons q l =>
        rw [hm] at h3
        obtain rfl := Option.some.inj h3
        rw [hf] at h
        simp only [Option.getD, Prod.mk.injEq] at h
        obtain ⟨rfl, rfl⟩ := h
        exact ⟨k, rfl, h2, mayTo_mem (k := ks[k].length) (by rw [hm]; exact List.mem_cons_self)⟩
  · simp only [Prod.mk.injEq] at h; omega
theorem tdo_fire {t : Tick} {j : Int} (h : (tdo t j 0).2 = true) : ∃ k : Nat, j = (k : Int) ∧ ∃ hk : k < t.length, tdo t j 0 = (t.set k (t[k].1, 1), true) := by
  unfold tdo at h ⊢
  split at h
  · rename_i hv
    rw [if_pos hv]
    by_cases hj : 0 ≤ j ∧ j < (t.length : Int)
    · obtain ⟨k, rfl, hk⟩ := in_nat hj
      refine ⟨k, rfl, hk, ?_⟩
      rw [geti_lt' hk] at h ⊢
      dsimp only at h ⊢
      cases hn : nextS t[k].2 0 with
      | none => rw [hn] at h; cases h
      | some r =>
        rw [hn] at h
        dsimp only at h ⊢
        have hr : r = 1 := by
          unfold nextS at hn
          split at hn
          · exact (Option.some.inj hn).symm
          · simp at hn
        subst hr
        split at h
        · rename_i h5; rw [if_pos h5]; rfl
        · cases h
    · rw [geti_out hj] at h; cases h
  · cases h
def stepK (ks : List Tick) : List Tick × Bool :=
  if kitB ks = true then
    match kitF ks 2 with
    | some (i, j) => (setTk ks i j 3, true)
    | none => match kitF ks 1 with
      | some (i, j) => (setTk ks i j 2, true)
      | none => if (fireZ ks).1 < 0 then (ks, false) else (setTk ks (fireZ ks).1.toNat (fireZ ks).2.toNat 1, true)
  else ([], false)
theorem stepK_ok {ks : List Tick} (h : (stepK ks).2 = true) : kitB ks = true := by
  unfold stepK at h
  split at h
  · assumption
  · cases h
theorem stepK_len {ks : List Tick} (h : (stepK ks).2 = true) : (stepK ks).1.length = ks.length := by
  have hk := stepK_ok h
  unfold stepK
  rw [if_pos hk]
  split
  · exact setTk_len _ _ _ _
  · split
    · exact setTk_len _ _ _ _
    · split
      · rfl
      · exact setTk_len _ _ _ _
theorem stepK_small {ks : List Tick} (h : SmallK ks) : SmallK (stepK ks).1 := by
  unfold stepK
  split
  · split
    · exact setTk_small h _ _ _
    · split
      · exact setTk_small h _ _ _
      · split
        · exact h
        · exact setTk_small h _ _ _
  · exact ⟨by simp, fun t ht => by cases ht⟩
theorem fire_at {ks : List Tick} (h0 : ¬ (fireZ ks).1 < 0) : ∃ (i j : Nat) (hi : i < ks.length) (hj : j < ks[i].length), fireZ ks = ((i : Int), (j : Int)) ∧ tdo ks[i] (j : Int) 0 = (ks[i].set j (ks[i][j].1, 1), true) := by
  obtain ⟨_, i, h1, hi, h2⟩ := fireZ_some (ks := ks) (i := (fireZ ks).1) (j := (fireZ ks).2) rfl (by omega)
  obtain ⟨j, h3, hj, h4⟩ := tdo_fire h2
  exact ⟨i, j, hi, hj, by rw [← h1, ← h3], by rw [← h3]; exact h4⟩
theorem implStep_eq {ks : List Tick} (h : SmallK ks) : impl_WorkStepS ks = some (stepK ks) := by
  unfold impl_WorkStepS stepK
  rw [implKit_eq h, Option.bind_some]
  by_cases hv : kitB ks = true
  · rw [hv, if_neg (by simp), if_pos rfl, copyKit_id h, Option.bind_some, implFirst_eq h, Option.bind_some]
    cases h2 : kitF ks 2 with
    | some x =>
      obtain ⟨i, j⟩ := x
      obtain ⟨hi, hj, _⟩ := kitF_some h2
      dsimp only
      rw [if_pos (by simp), geti_lt' hi, Option.bind_some, geti_lt' hj, Option.bind_some, setTk_at hi hj]
      rfl
    | none =>
      dsimp only
      rw [if_neg (by decide), implFirst_eq h, Option.bind_some]
      cases h1 : kitF ks 1 with
      | some x =>
        obtain ⟨i, j⟩ := x
        obtain ⟨hi, hj, _⟩ := kitF_some h1
        dsimp only
        rw [if_pos (by simp), geti_lt' hi, Option.bind_some, geti_lt' hj, Option.bind_some, setTk_at hi hj]
        rfl
      | none =>
        dsimp only
        rw [if_neg (by decide), implFire_eq h, Option.bind_some]
        by_cases h0 : (fireZ ks).1 < 0
        · rw [if_neg (by simpa using h0), if_pos h0]
        · obtain ⟨i, j, hi, hj, he, _⟩ := fire_at h0
          rw [he] at h0 ⊢
          rw [if_pos (by simp), if_neg h0, geti_lt' hi, Option.bind_some, geti_lt' hj, Option.bind_some]
          dsimp only
          rw [show Int.toNat (i : Int) = i from rfl, show Int.toNat (j : Int) = j from rfl, setTk_at hi hj]
  · rw [if_pos (by simpa using hv), if_neg hv]
theorem scan_eq {ks : List Tick} (h : SmallK ks) (hv : kitB ks = true) {p : Int} (h1 : p = 1 ∨ p = 2) :
    (loop (σ := Int × List Tick) (ρ := (List Tick) ⊕ (List Tick × Bool × List Tick)) (fun (s : Int × List Tick) => match s with | (s20, s21) => (if (decide (s20 < (List.length ks : Int))) then ((loop (σ := Int × List Tick) (ρ := (List Tick) ⊕ (List Tick × Bool × List Tick)) (fun (s : Int × List Tick) => match s with | (s23, s24) => ((geti ks s20).bind fun x25 => (if (decide (s23 < (List.length x25 : Int))) then ((geti ks s20).bind fun x38 => ((spec_TicketDoS x38 s23 p).bind fun x50 => (if x50.2 then ((geti s24 s20).bind fun x57 => (some (.inr (.inr ((List.set s24 (Int.toNat s20) x50.1), true, (List.set s24 (Int.toNat s20) x50.1)))))) else (some (.inl (IntKind.wrap .i64 (s23 + 1), s24)))))) else (some (.inr (.inl s24)))))) (0, s21)).bind fun o => match o with | .inl p70 => (some (.inl (IntKind.wrap .i64 (s20 + 1), p70))) | .inr (p71, p72, p73) => (some (.inr (.inr (p71, p72, p73))))) else (some (.inr (.inl s21))))) (0, ks)) =
    some (match kitF ks p with | none => .inl ks | some (i, j) => .inr (setTk ks i j (p + 1), true, setTk ks i j (p + 1))) := by
  have hl := h.1
  rw [loopExit (s := ((0 : Int), ks)) (fun k => ((k : Int), ks)) ks.length (fun i => (kitP ks p i).map fun x : Nat × Nat => (.inr (setTk ks x.1 x.2 (p + 1), true, setTk ks x.1 x.2 (p + 1)) : (List Tick) ⊕ (List Tick × Bool × List Tick))) (.inl ks) rfl]
  · rw [firstOf_map (p := kitP ks p) (fun i _ _ => rfl)]
    unfold kitF
    cases firstOf (kitP ks p) 0 ks.length <;> rfl
  · intro i hi
    (try dsimp only)
    have hli := h.at hi
    have hti := kitB_at hv (List.getElem_mem hi)
    rw [if_pos (lt_dec hi), loopExit (s := ((0 : Int), ks)) (fun k => ((k : Int), ks)) ks[i].length (fun j => (rowP ks[i] p j).map fun x : Nat => (.inr (setTk ks i x (p + 1), true, setTk ks i x (p + 1)) : (List Tick) ⊕ (List Tick × Bool × List Tick))) (.inl ks) rfl]
    · rw [Option.bind_some, firstOf_map (p := rowP ks[i] p) (fun i _ _ => rfl)]
      unfold kitP
      rw [List.getElem?_eq_getElem hi]
      dsimp only
      unfold rowF
      rw [wr_succ (n := ks.length) (by omega) hi]
      cases firstOf (rowP ks[i] p) 0 ks[i].length <;> rfl
    · intro j hj
      (try dsimp only)
      rw [geti_lt' hi, Option.bind_some, if_pos (lt_dec hj), Option.bind_some, specTdo_eq _ hli, Option.bind_some, Option.bind_some, wr_succ (n := ks[i].length) (by omega) hj, tdo_step hti hj h1]
      unfold rowP
      rw [List.getElem?_eq_getElem hj]
      dsimp only
      by_cases hp : ks[i][j].2 = p
      · rw [if_pos hp, if_pos hp, if_pos rfl, Option.map_some, setTk_at hi hj]; rfl
      · rw [if_neg hp, if_neg hp, if_neg (by simp)]; rfl
    · (try dsimp only)
      rw [geti_lt' hi, Option.bind_some, if_neg (by simp)]
  · (try dsimp only)
    rw [if_neg (by simp)]
theorem specStep_eq {ks : List Tick} (h : SmallK ks) : spec_WorkStepS ks = some (stepK ks) := by
  unfold spec_WorkStepS stepK
  rw [specKit_eq h, Option.bind_some]
  by_cases hv : kitB ks = true
  · rw [hv, if_neg (by simp), if_pos rfl, specCopyK_id h, Option.bind_some,
      loopExit (s := ((2 : Int), ks)) (fun k => ((2 : Int) - (k : Int), ks)) 2 (fun k => (kitF ks ((2 : Int) - (k : Int))).map fun x : Nat × Nat => (.inr (setTk ks x.1 x.2 ((2 : Int) - (k : Int) + 1), true, setTk ks x.1 x.2 ((2 : Int) - (k : Int) + 1)) : (List Tick) ⊕ (List Tick × Bool × List Tick))) (.inl ks) (by simp)]
    · rw [Option.bind_some]
      unfold firstOf
      rw [show (2 : Int) - ((0 : Nat) : Int) = 2 from rfl]
      cases h2 : kitF ks 2 with
      | some x => rfl
      | none =>
        rw [Option.map_none]
        unfold firstOf
        rw [show (2 : Int) - ((0 + 1 : Nat) : Int) = 1 from rfl]
        cases h1 : kitF ks 1 with
        | some x => rfl
        | none =>
          rw [Option.map_none]
          unfold firstOf
          dsimp only [Option.getD]
          rw [specFire_eq h, Option.bind_some]
          by_cases h0 : (fireZ ks).1 < 0
          · rw [if_pos (by simpa using h0), if_pos h0]
          · obtain ⟨i, j, hi, hj, he, ht⟩ := fire_at h0
            rw [he] at h0 ⊢
            rw [if_neg (by simp), if_neg h0, geti_lt' hi, Option.bind_some, specTdo_eq _ (h.at hi), ht, Option.bind_some, Option.bind_some]
            dsimp only
            rw [show Int.toNat (i : Int) = i from rfl, show Int.toNat (j : Int) = j from rfl, setTk_at hi hj]
    · intro k hk
      show (if decide ((2 : Int) - (k : Int) ≥ 1) = true then _ else _) = _
      rw [if_pos (decide_eq_true (by omega))]
      refine (congrArg (fun o => Option.bind o _) (scan_eq h hv (p := (2 : Int) - (k : Int)) (by omega))).trans ?_
      rw [Option.bind_some]
      have hw : IntKind.wrap .i64 ((2 : Int) - (k : Int) - 1) = (2 : Int) - ((k + 1 : Nat) : Int) := by rw [wr ⟨by omega, by omega⟩]; omega
      rw [hw]
      cases kitF ks ((2 : Int) - (k : Int)) <;> rfl
    · show (if decide ((2 : Int) - ((2 : Nat) : Int) ≥ 1) = true then _ else _) = _
      rw [if_neg (by decide)]
  · rw [if_pos (by simpa using hv), if_neg hv]
/-! ### all is done -/
def courseTo (t : Tick) : Nat → Int
  | 0 => -1
  | k + 1 => match t[k]? with
    | none => courseTo t k
    | some o => if o.2 < 3 ∧ (courseTo t k < 0 ∨ o.1 < courseTo t k) then o.1 else courseTo t k
def doneB (t : Tick) : Bool := ticketB t && decide (courseTo t t.length < 0)
theorem specDone_eq (t : Tick) (h : t.length ≤ 1048576) : spec_TicketDoneS t = some (doneB t) := by
  unfold spec_TicketDoneS doneB
  rw [specTicket_eq t (by omega), Option.bind_some]
  by_cases hv : ticketB t = true
  · unfold spec_TicketCourseS
    rw [loopDet (s := ((-1 : Int), (0 : Int))) (fun k => (courseTo t k, (k : Int))) t.length (courseTo t t.length) rfl]
    · rw [hv]; rfl
    · intro k hk
      (try dsimp only)
      rw [if_pos (lt_dec hk), specTicket_eq t (by omega), Option.bind_some, Option.bind_some, hv, if_pos rfl, geti_lt' hk, Option.bind_some, Option.bind_some, Option.bind_some, wr_succ (n := t.length) (by omega) hk]
      simp only [courseTo, List.getElem?_eq_getElem hk]
      by_cases h1 : t[k].2 < 3
      · by_cases h2 : courseTo t k < 0
        · simp [h1, h2]
        · by_cases h3 : t[k].1 < courseTo t k <;> simp [h1, h2, h3]
      · simp [h1]
    · (try dsimp only)
      rw [if_neg (by simp)]; rfl
  · rw [if_neg hv, Bool.not_eq_true] at *
    rw [hv]; rfl
theorem implDone_eq (t : Tick) (h : t.length ≤ 1048576) : impl_TicketDoneS t = some (doneB t) := by
  unfold impl_TicketDoneS doneB
  rw [implTicket_eq t (by omega), Option.bind_some]
  by_cases hv : ticketB t = true
  · unfold impl_TicketCourseS
    rw [implTicket_eq t (by omega), Option.bind_some, hv, if_pos rfl, if_neg (by simp), loopDet (s := ((-1 : Int), (0 : Int))) (fun k => (courseTo t k, (k : Int))) t.length (courseTo t t.length) rfl]
    · rfl
    · intro k hk
      have hin := ticket_in hv (List.getElem_mem hk)
      (try dsimp only)
      unfold impl_finishedS
      rw [if_pos (lt_dec hk), geti_lt' hk, Option.bind_some, Option.bind_some, wr_succ (n := t.length) (by omega) hk]
      simp only [courseTo, List.getElem?_eq_getElem hk]
      by_cases h1 : t[k].2 < 3
      · have e3 : ¬ t[k].2 = 3 := by omega
        have e4 : ¬ t[k].2 = 4 := by omega
        by_cases h2 : courseTo t k < 0
        · simp [h1, h2, e3, e4]
        · by_cases h3 : t[k].1 < courseTo t k <;> simp [h1, h2, h3, e3, e4]
      · have e3 : t[k].2 = 3 ∨ t[k].2 = 4 := by omega
        rcases e3 with e3 | e3 <;> simp [h1, e3]
    · (try dsimp only)
      rw [if_neg (by simp)]
  · rw [Bool.not_eq_true] at hv
    rw [hv]; rfl
end Go.Proofs.YtpabogkcmbkffaaGreatDoor
