import Derived.Test.YtkhnponakhabdaaGreatDoorMPl
import Derived.Test.YtkhnponakhabdaaGreatDoorMHs
set_option linter.unusedVariables false
namespace Go.Proofs.YtkhnponakhabdaaGreatDoor
open Go Go.RowKit
abbrev HDeed := Int × Int × Int × Int
end Go.Proofs.YtkhnponakhabdaaGreatDoor
set_option linter.unusedVariables false
namespace Go.Proofs.YtkhnponakhabdaaGreatDoor
open Go Go.RowKit
abbrev Tick := List (Int × Int)
def ticksOf (tb : List HTab) : List Tick := tb.map (fun t => t.2.1)
def SmallK (ks : List Tick) : Prop := ks.length ≤ 1048576 ∧ ∀ t ∈ ks, t.length ≤ 1048576
theorem TabsL.ticks {tb : List HTab} (h : TabsL tb) : SmallK (ticksOf tb) := ⟨by unfold ticksOf; rw [List.length_map]; exact h.1, fun t ht => by
 obtain ⟨x, hx, rfl⟩ := List.mem_map.1 ht
 exact (h.2 x hx).1⟩
theorem SmallK.at {ks : List Tick} (h : SmallK ks) {k : Nat} (hk : k < ks.length) : ks[k].length ≤ 1048576 := h.2 _ (List.getElem_mem hk)
theorem specTicks_eq {it : List HItem} {pr st : List Int} (cash : Int) {tb : List HTab} (h : TabsL tb) : spec_l7TicketsS it pr st cash tb = some (ticksOf tb) := by
 have hl := h.1
 unfold spec_l7TicketsS
 rw [loopDet (s := (([] : List Tick), (0 : Int))) (fun k => ((tb.take k).map (fun t => t.2.1), (k : Int))) tb.length (ticksOf tb) (by simp)]
 ·rfl
 ·intro k hk
  (try dsimp only)
  rw [if_pos (lt_dec hk), geti_lt' hk, Option.bind_some, appO_le (by simp; omega), Option.bind_some, wr_succ (n := tb.length) (by omega) hk, List.take_succ_eq_append_getElem hk, List.map_append]
  rfl
 ·(try dsimp only)
  rw [if_neg (by simp), List.take_length]; rfl
theorem copyTick_id (ps : Tick) (h : ps.length ≤ 1048576) : impl_copyTicketS ps = some ps := by
 unfold impl_copyTicketS
 by_cases h0 : ps = []
 ·subst h0; rfl
 ·rw [if_neg (by simpa using h0), mkO_nat _ (by omega), Option.bind_some]
  simp
theorem implTicks_eq {it : List HItem} {pr st : List Int} (cash : Int) {tb : List HTab} (h : TabsL tb) : impl_kitchenOfS it pr st cash tb = some (ticksOf tb) := by
 have hl := h.1
 unfold impl_kitchenOfS
 rw [mkO_nat _ (by omega), Option.bind_some, copyLoop tb (fun t => t.2.1)]
 ·rfl
 ·intro k hk ys hys
  (try dsimp only)
  rw [if_pos (lt_dec hk), geti_lt' hk, Option.bind_some, copyTick_id _ (h.2 _ (List.getElem_mem hk)).1, Option.bind_some, geti_lt' (show k < ys.length by omega), Option.bind_some, wr_succ (n := tb.length) (by omega) hk]
  rfl
 ·intro ys hys
  (try dsimp only)
  rw [if_neg (by simp)]
def kitB (ks : List Tick) : Bool := decide (ks.length ≤ 4) && ks.all ticketB
theorem kitB_len {ks : List Tick} (h : kitB ks = true) : ks.length ≤ 4 := by unfold kitB at h; rw [Bool.and_eq_true] at h; exact of_decide_eq_true h.1
theorem kitB_at {ks : List Tick} (h : kitB ks = true) {t : Tick} (ht : t ∈ ks) : ticketB t = true := by unfold kitB at h; rw [Bool.and_eq_true] at h; exact List.all_eq_true.1 h.2 t ht
theorem specKit_eq {ks : List Tick} (h : SmallK ks) : spec_KitchenValidS ks = some (kitB ks) := by
 have hl := h.1
 unfold spec_KitchenValidS kitB
 rw [loopList ks (fun _ t => ticketB t)]
 ·rw [Option.bind_some, allI_all]
  cases ks.all ticketB
  ·simp
  ·simp; omega
 ·intro k hk
  (try dsimp only)
  rw [if_pos (lt_dec hk), geti_lt' hk, Option.bind_some, specTicket_eq _ (by have := h.at hk; omega), Option.bind_some, wr_succ (n := ks.length) (by omega) hk]
  cases ticketB ks[k] <;> rfl
 ·(try dsimp only)
  rw [if_neg (by simp)]
theorem implKit_eq {ks : List Tick} (h : SmallK ks) : impl_KitchenValidS ks = some (kitB ks) := by
 have hl := h.1
 unfold impl_KitchenValidS kitB
 by_cases h4 : ks.length ≤ 4
 ·rw [if_neg (by simp; omega), decide_eq_true h4, loopList ks (fun _ t => ticketB t)]
  ·rw [Option.bind_some, allI_all]
   cases ks.all ticketB <;> rfl
  ·intro k hk
   (try dsimp only)
   rw [if_pos (lt_dec hk), geti_lt' hk, Option.bind_some, implTicket_eq _ (by have := h.at hk; omega), Option.bind_some, wr_succ (n := ks.length) (by omega) hk]
   cases ticketB ks[k] <;> rfl
  ·(try dsimp only)
   rw [if_neg (by simp)]
 ·rw [if_pos (by simp; omega), decide_eq_false h4]; rfl
def leftO (o : Int × Int) : Nat := (3 - o.2).toNat
def leftN : Tick → Nat
 | [] => 0
 | o :: t => leftO o + leftN t
def leftK : List Tick → Nat
 | [] => 0
 | t :: ks => leftN t + leftK ks
theorem leftN_app (a b : Tick) : leftN (a ++ b) = leftN a + leftN b := by
 induction a with
 | nil => simp [leftN]
 | cons o a ih => simp [leftN, ih]; omega
theorem leftK_app (a b : List Tick) : leftK (a ++ b) = leftK a + leftK b := by
 induction a with
 | nil => simp [leftK]
 | cons t a ih => simp [leftK, ih]; omega
theorem leftN_take {t : Tick} {k : Nat} (h : k < t.length) : leftN (t.take (k + 1)) = leftN (t.take k) + leftO t[k] := by
 rw [List.take_succ_eq_append_getElem h, leftN_app]; rfl
theorem leftK_take {t : List Tick} {k : Nat} (h : k < t.length) : leftK (t.take (k + 1)) = leftK (t.take k) + leftN t[k] := by
 rw [List.take_succ_eq_append_getElem h, leftK_app]; simp [leftK]
theorem ticket_in {t : Tick} (h : ticketB t = true) {o : Int × Int} (ho : o ∈ t) : (0 ≤ o.1 ∧ o.1 ≤ 2) ∧ 0 ≤ o.2 ∧ o.2 ≤ 4 := by
 unfold ticketB at h
 simp only [Bool.and_eq_true] at h
 exact inB_true.1 (List.all_eq_true.1 h.2.1 o ho)
theorem leftO_le {o : Int × Int} (h : 0 ≤ o.2) : leftO o ≤ 3 := by unfold leftO; omega
theorem leftN_le : ∀ {t : Tick}, (∀ o ∈ t, 0 ≤ o.2) → leftN t ≤ 3 * t.length
 | [], _ => Nat.le_refl _
 | o :: t, h => by
  have h1 := leftO_le (h o (by simp))
  have h2 := leftN_le (t := t) fun x hx => h x (by simp [hx])
  simp only [leftN, List.length_cons]; omega
theorem ticket_left {t : Tick} (h : ticketB t = true) : leftN t ≤ 18 := by
 have h1 := leftN_le (t := t) (fun o ho => (ticket_in h ho).2.1)
 have := ticket_len h
 omega
theorem leftK_le : ∀ {ks : List Tick}, (∀ t ∈ ks, ticketB t = true) → leftK ks ≤ 18 * ks.length
 | [], _ => Nat.le_refl _
 | t :: ks, h => by
  have h1 := ticket_left (h t (by simp))
  have h2 := leftK_le (ks := ks) fun x hx => h x (by simp [hx])
  simp only [leftK, List.length_cons]; omega
theorem kit_left {ks : List Tick} (h : kitB ks = true) : leftK ks ≤ 72 := by
 have h1 := leftK_le (ks := ks) (fun t ht => kitB_at h ht)
 have := kitB_len h
 omega
theorem kit_left_take {ks : List Tick} (h : kitB ks = true) (k : Nat) : leftK (ks.take k) ≤ 72 := by
 have h1 := leftK_le (ks := ks.take k) (fun t ht => kitB_at h (List.mem_of_mem_take ht))
 have := kitB_len h
 have : (ks.take k).length ≤ ks.length := by simp; omega
 omega
theorem left_take {t : Tick} (h : ticketB t = true) (k : Nat) : leftN (t.take k) ≤ 18 := by
 have h1 := leftN_le (t := t.take k) (fun o ho => (ticket_in h (List.mem_of_mem_take ho)).2.1)
 have := ticket_len h
 have : (t.take k).length ≤ t.length := by simp; omega
 omega
def leftZ (ks : List Tick) : Int := if kitB ks = true then ((leftK ks : Nat) : Int) else -1
theorem implLeft_eq {ks : List Tick} (h : SmallK ks) : impl_WorkLeftS ks = some (leftZ ks) := by
 unfold impl_WorkLeftS leftZ
 rw [implKit_eq h, Option.bind_some]
 by_cases hk : kitB ks = true
 ·have h4 := kitB_len hk
  rw [hk, if_neg (by simp), if_pos rfl]
  rw [loopDet (s := ((0 : Int), (0 : Int))) (fun k => (((leftK (ks.take k) : Nat) : Int), (k : Int))) ks.length ((leftK ks : Nat) : Int) (by simp [leftK])]
  ·rfl
  ·intro k hkk
   have ht := kitB_at hk (List.getElem_mem hkk)
   have hb := kit_left_take hk k
   have h6 := ticket_len ht
   (try dsimp only)
   rw [if_pos (lt_dec hkk), geti_lt' hkk, Option.bind_some]
   rw [loopDet (s := (((leftK (ks.take k) : Nat) : Int), (0 : Int))) (fun j => (((leftK (ks.take k) + leftN (ks[k].take j) : Nat) : Int), (j : Int))) ks[k].length (((leftK (ks.take k) + leftN ks[k] : Nat)) : Int) (by simp [leftN])]
   ·rw [Option.bind_some, wr_succ (n := ks.length) (by omega) hkk, leftK_take hkk]
   ·intro j hj
    have hin := ticket_in ht (List.getElem_mem hj)
    have hb2 := left_take ht j
    have hlo := leftO_le hin.2.1
    (try dsimp only)
    unfold impl_finishedS
    rw [if_pos (lt_dec hj), geti_lt' hj, Option.bind_some, Option.bind_some, wr_succ (n := ks[k].length) (by omega) hj, leftN_take hj, wr (x := (3 : Int) - ks[k][j].2) ⟨by omega, by omega⟩]
    by_cases hf : ks[k][j].2 < 3
    ·rw [if_pos (by simp; omega), wr (x := ((leftK (ks.take k) + leftN (ks[k].take j) : Nat) : Int) + (3 - ks[k][j].2)) ⟨by omega, by omega⟩]
     congr 3
     unfold leftO
     omega
    ·rw [if_neg (by simp; omega)]
     congr 3
     unfold leftO
     omega
   ·(try dsimp only)
    rw [if_neg (by simp), List.take_length]
  ·(try dsimp only)
   rw [if_neg (by simp), List.take_length]
 ·rw [Bool.not_eq_true] at hk
  rw [hk]; rfl
theorem houseB_kit {it : List HItem} {pr st : List Int} {cash : Int} {tb : List HTab} (h : houseB it pr st cash tb = true) : kitB (ticksOf tb) = true := by
 obtain ⟨h1, h2⟩ := houseB_tables h
 unfold kitB ticksOf
 rw [Bool.and_eq_true, List.length_map]
 refine ⟨decide_eq_true h1, List.all_eq_true.2 fun t ht => ?_⟩
 obtain ⟨x, hx, rfl⟩ := List.mem_map.1 ht
 exact (tableB_true.1 (h2 x hx)).2.1
abbrev Deed4 := Int × Int × Int × Int
def endDeeds (tb : List HTab) : List Deed4 := List.replicate (leftK (ticksOf tb)) (4, 0, 0, 0) ++ List.replicate tb.length (5, 0, 0, 0)
def endZ (it : List HItem) (pr st : List Int) (cash : Int) (tb : List HTab) : List Deed4 := if houseB it pr st cash tb = true then endDeeds tb else []
theorem rep_succ {α : Type} (k : Nat) (x : α) : List.replicate (k + 1) x = List.replicate k x ++ [x] := by
 rw [List.replicate_succ']
theorem closeLoop (n : Nat) (hn : n ≤ 4) (L : List Deed4) (hL : L.length ≤ 1000) (s : List Deed4 × Int) (hs : s = (L, 0)) {step : List Deed4 × Int → Option ((List Deed4 × Int) ⊕ List Deed4)}
  (h1 : ∀ (k : Nat) (l : List Deed4), k < n → step (l, (k : Int)) = ((appO l [(5, 0, 0, 0)]).bind fun x => some (.inl (x, IntKind.wrap .i64 ((k : Int) + 1))))) (h2 : ∀ l : List Deed4, step (l, (n : Int)) = some (.inr l)) :
  loop (σ := List Deed4 × Int) (ρ := List Deed4) step s = some (L ++ List.replicate n (5, 0, 0, 0)) := by
 refine loopDet (fun k => (L ++ List.replicate k (5, 0, 0, 0), (k : Int))) n _ (by simp [hs]) (fun k hk => ?_) (h2 _)
 rw [h1 k _ hk, appO_le (by simp; omega), Option.bind_some, wr_succ (n := n) (by omega) hk, rep_succ, List.append_assoc]
theorem implEnd_eq {it : List HItem} {pr st : List Int} (cash : Int) {tb : List HTab} (h : HouseL it pr st tb) : impl_EndDeedsS it pr st cash tb = some (endZ it pr st cash tb) := by
 unfold impl_EndDeedsS endZ
 rw [implHouse_eq cash h, Option.bind_some]
 by_cases hv : houseB it pr st cash tb = true
 ·have hk := houseB_kit hv
  have h72 := kit_left hk
  have h4 := (houseB_tables hv).1
  rw [hv, if_neg (by simp), if_pos rfl, implTicks_eq cash h.2.2.2, Option.bind_some, implLeft_eq h.2.2.2.ticks, Option.bind_some]
  unfold leftZ
  rw [if_pos hk]
  unfold endDeeds
  generalize leftK (ticksOf tb) = m at h72 ⊢
  rw [loopDet (s := (([] : List Deed4), (0 : Int))) (fun k => (List.replicate k (4, 0, 0, 0), (k : Int))) m (List.replicate m (4, 0, 0, 0)) (by simp)]
  ·rw [Option.bind_some]
   (try dsimp only)
   rw [closeLoop tb.length h4 (List.replicate m (4, 0, 0, 0)) (by simp; omega) _ rfl]
   ·rfl
   ·intro k l hkk
    (try dsimp only)
    rw [if_pos (lt_dec hkk)]
   ·intro l
    (try dsimp only)
    rw [if_neg (by simp)]
  ·intro k hkk
   (try dsimp only)
   rw [if_pos (lt_dec hkk), appO_le (by simp; omega), Option.bind_some, wr_succ (n := m) (by omega) hkk, rep_succ]
  ·(try dsimp only)
   rw [if_neg (by simp)]
 ·rw [Bool.not_eq_true] at hv
  rw [hv]; rfl
end Go.Proofs.YtkhnponakhabdaaGreatDoor
set_option linter.unusedVariables false
namespace Go.Proofs.YtkhnponakhabdaaGreatDoor
open Go Go.RowKit
theorem l1In_idx (j : Int) (n : Nat) (hn : n ≤ 4611686018427387904) : spec_l1InS j 0 (IntKind.wrap .i64 ((n : Int) - 1)) = some (decide (0 ≤ j ∧ j < (n : Int))) := by
 unfold spec_l1InS
 rw [wr ⟨by omega, by omega⟩, ← Bool.decide_and]
 congr 1
 exact decide_eq_decide.2 ⟨fun h => ⟨h.1, by omega⟩, fun h => ⟨h.1, by omega⟩⟩
theorem geti_out {α : Type} {xs : List α} {j : Int} (h : ¬(0 ≤ j ∧ j < (xs.length : Int))) : geti xs j = none := by
 unfold geti
 split
 ·rename_i h0
  exact List.getElem?_eq_none (by omega)
 ·rfl
theorem in_nat {j : Int} {n : Nat} (h : 0 ≤ j ∧ j < (n : Int)) : ∃ k : Nat, j = (k : Int) ∧ k < n := ⟨j.toNat, by omega, by omega⟩
def nextS (s a : Int) : Option Int := if a = 0 ∧ s = 0 then some 1 else if a = 1 ∧ s = 1 then some 2 else if a = 2 ∧ s = 2 then some 3 else if a = 3 ∧ s < 3 then some 4 else none
theorem specNext_eq (s a : Int) : spec_l4NextS s a = some ((nextS s a).getD (-1)) := by
 unfold spec_l4NextS nextS
 by_cases h0 : a = 0 ∧ s = 0
 ·simp [h0]
 ·by_cases h1 : a = 1 ∧ s = 1
  ·simp [h1]
  ·by_cases h2 : a = 2 ∧ s = 2
   ·simp [h2]
   ·by_cases h3 : a = 3 ∧ s < 3
    ·simp [h3]
    ·simp [h0, h1, h2, h3]
theorem nextS_pos {s a r : Int} (h : nextS s a = some r) : 0 ≤ r := by
 unfold nextS at h
 split at h
 ·simp at h; omega
 ·split at h
  ·simp at h; omega
  ·split at h
   ·simp at h; omega
   ·split at h
    ·simp at h; omega
    ·cases h
theorem implNext_eq {s : Int} (hs : 0 ≤ s) (a : Int) : impl_stateAfterS s a = some (match nextS s a with | some r => (r, true) | none => (0, false)) := by
 unfold impl_stateAfterS nextS
 by_cases h0 : a = 0
 ·subst h0; by_cases h : s = 0 <;> simp [h]
 ·by_cases h1 : a = 1
  ·subst h1; by_cases h : s = 1 <;> simp [h]
  ·by_cases h2 : a = 2
   ·subst h2; by_cases h : s = 2 <;> simp [h]
   ·by_cases h3 : a = 3
    ·subst h3
     by_cases h : s < 3
     ·have : s = 0 ∨ s = 1 ∨ s = 2 := by omega
      rcases this with rfl | rfl | rfl <;> simp
     ·have e0 : ¬ s = 0 := by omega
      have e1 : ¬ s = 1 := by omega
      have e2 : ¬ s = 2 := by omega
      simp [h, e0, e1, e2]
    ·simp [h0, h1, h2, h3]
def tdo (t : Tick) (j a : Int) : Tick × Bool :=
 if ticketB t = true then
  match geti t j with
  | none => (t, false)
  | some o => match nextS o.2 a with
   | none => (t, false)
   | some r => if ticketB (t.set j.toNat (o.1, r)) = true then (t.set j.toNat (o.1, r), true) else (t, false)
 else ([], false)
theorem specTdo_eq (t : Tick) (h : t.length ≤ 1048576) (j a : Int) : spec_TicketDoS t j a = some (tdo t j a) := by
 unfold spec_TicketDoS tdo
 rw [specTicket_eq t (by omega), Option.bind_some]
 by_cases hv : ticketB t = true
 ·rw [hv, if_neg (by simp), if_pos rfl, appO_le (by simp; omega), Option.bind_some, List.nil_append, l1In_idx j t.length (by omega), Option.bind_some]
  by_cases hj : 0 ≤ j ∧ j < (t.length : Int)
  ·obtain ⟨k, rfl, hk⟩ := in_nat hj
   rw [decide_eq_true hj, if_neg (by simp), geti_lt' hk, Option.bind_some, specNext_eq, Option.bind_some]
   dsimp only
   cases hn : nextS t[k].2 a with
   | none => rfl
   | some r =>
    have := nextS_pos hn
    dsimp only [Option.getD]
    rw [if_neg (by simp; omega), Option.bind_some, specTicket_eq _ (by rw [List.length_set]; omega), Option.bind_some]
    cases ticketB (t.set (Int.toNat (k : Int)) (t[k].1, r)) <;> simp
  ·rw [decide_eq_false hj, if_pos (by simp), geti_out hj]
 ·rw [if_pos (by simpa using hv), if_neg hv]
theorem implTdo_eq (t : Tick) (h : t.length ≤ 1048576) (j a : Int) : impl_TicketDoS t j a = some (tdo t j a) := by
 unfold impl_TicketDoS tdo
 rw [implTicket_eq t (by omega), Option.bind_some]
 by_cases hv : ticketB t = true
 ·rw [hv, if_neg (by simp), if_pos rfl, copyTick_id t h, Option.bind_some]
  by_cases hj : 0 ≤ j ∧ j < (t.length : Int)
  ·obtain ⟨k, rfl, hk⟩ := in_nat hj
   rw [if_neg (by simp; omega), geti_lt' hk, Option.bind_some, implNext_eq (ticket_in hv (List.getElem_mem hk)).2.1, Option.bind_some]
   dsimp only
   cases hn : nextS t[k].2 a with
   | none => rfl
   | some r =>
    dsimp only
    rw [if_neg (by simp), Option.bind_some, implTicket_eq _ (by rw [List.length_set]; omega), Option.bind_some]
    cases ticketB (t.set (Int.toNat (k : Int)) (t[k].1, r)) <;> simp
  ·rw [if_pos (by simp; omega), geti_out hj]
 ·rw [if_pos (by simpa using hv), if_neg hv]
def mayTo (t : Tick) : Nat → List Int
 | 0 => []
 | k + 1 => if (tdo t (k : Int) 0).2 = true then mayTo t k ++ [(k : Int)] else mayTo t k
theorem mayTo_len (t : Tick) : ∀ k, (mayTo t k).length ≤ k
 | 0 => Nat.le_refl _
 | k + 1 => by
  have := mayTo_len t k
  unfold mayTo
  split
  ·rw [List.length_append]; simp; omega
  ·omega
theorem mayTo_nil {t : Tick} (h : ¬ ticketB t = true) : ∀ k, mayTo t k = []
 | 0 => rfl
 | k + 1 => by
  unfold mayTo
  rw [if_neg (by unfold tdo; rw [if_neg h]; simp), mayTo_nil h k]
theorem mayTo_mem {t : Tick} {j : Int} : ∀ {k}, j ∈ mayTo t k → (tdo t j 0).2 = true
 | 0, h => by cases h
 | k + 1, h => by
  unfold mayTo at h
  split at h
  ·rename_i h1
   rcases List.mem_append.1 h with h | h
   ·exact mayTo_mem h
   ·simp at h; subst h; exact h1
  ·exact mayTo_mem h
theorem specMay_eq (t : Tick) (h : t.length ≤ 1048576) : spec_TicketMayS t = some (mayTo t t.length) := by
 unfold spec_TicketMayS
 rw [loopDet (s := (([] : List Int), (0 : Int))) (fun k => (mayTo t k, (k : Int))) t.length (mayTo t t.length) rfl]
 ·rfl
 ·intro k hk
  have hl := mayTo_len t k
  (try dsimp only)
  rw [if_pos (lt_dec hk), specTdo_eq t h, Option.bind_some, wr_succ (n := t.length) (by omega) hk, appO_le (by simp; omega), Option.bind_some]
  simp only [mayTo]
  cases (tdo t (k : Int) 0).2 <;> rfl
 ·(try dsimp only)
  rw [if_neg (by simp)]
theorem implMay_eq (t : Tick) (h : t.length ≤ 1048576) : impl_TicketMayS t = some (mayTo t t.length) := by
 unfold impl_TicketMayS
 rw [implTicket_eq t (by omega), Option.bind_some]
 by_cases hv : ticketB t = true
 ·rw [hv, if_neg (by simp), loopDet (s := (([] : List Int), (0 : Int))) (fun k => (mayTo t k, (k : Int))) t.length (mayTo t t.length) rfl]
  ·rfl
  ·intro k hk
   have hl := mayTo_len t k
   (try dsimp only)
   rw [if_pos (lt_dec hk), implTdo_eq t h, Option.bind_some, wr_succ (n := t.length) (by omega) hk, appO_le (by simp; omega), Option.bind_some]
   simp only [mayTo]
   cases (tdo t (k : Int) 0).2 <;> rfl
  ·(try dsimp only)
   rw [if_neg (by simp)]
 ·rw [if_pos (by simpa using hv), mayTo_nil hv]
def fireP (ks : List Tick) (k : Nat) : Option (Unit ⊕ (Int × Int)) := match ks[k]? with
 | none => none
 | some t => match mayTo t t.length with
  | [] => none
  | j :: _ => some (.inr ((k : Int), j))
def fireZ (ks : List Tick) : Int × Int := if kitB ks = true then (match (firstOf (fireP ks) 0 ks.length).getD (.inl ()) with | .inl _ => (-1, -1) | .inr p => p) else (-1, -1)
theorem specFire_eq {ks : List Tick} (h : SmallK ks) : spec_NextFireS ks = some (fireZ ks) := by
 have hl := h.1
 unfold spec_NextFireS fireZ
 by_cases hv : kitB ks = true
 ·rw [loopExit (s := (0 : Int)) (fun k => (k : Int)) ks.length (fireP ks) (.inl ()) rfl]
  ·rw [if_pos hv, Option.bind_some]
   cases (firstOf (fireP ks) 0 ks.length).getD (.inl ()) <;> rfl
  ·intro k hk
   (try dsimp only)
   rw [if_pos (lt_dec hk), specKit_eq h, Option.bind_some, Option.bind_some, hv, if_pos rfl, geti_lt' hk, Option.bind_some, specMay_eq _ (h.at hk), Option.bind_some, wr_succ (n := ks.length) (by omega) hk]
   unfold fireP
   rw [List.getElem?_eq_getElem hk]
   dsimp only
   cases mayTo ks[k] ks[k].length with
   | nil => rfl
   | cons j l =>
    rw [if_pos (by simp)]
    try rfl
  ·(try dsimp only)
   rw [if_neg (by simp), Option.bind_some, if_neg (by simp)]
 ·rw [if_neg hv, loop_eq]
  (try dsimp only)
  by_cases hk : 0 < ks.length
  ·rw [if_pos (by simpa using hk), specKit_eq h, Option.bind_some, Option.bind_some, if_neg hv]; rfl
  ·rw [if_neg (by simpa using hk), Option.bind_some, if_neg (by simp)]; rfl
theorem implFire_eq {ks : List Tick} (h : SmallK ks) : impl_NextFireS ks = some (fireZ ks) := by
 have hl := h.1
 unfold impl_NextFireS fireZ
 rw [implKit_eq h, Option.bind_some]
 by_cases hv : kitB ks = true
 ·rw [hv, if_neg (by simp), loopExit (s := (0 : Int)) (fun k => (k : Int)) ks.length (fireP ks) (.inl ()) rfl]
  ·rw [if_pos rfl, Option.bind_some]
   cases (firstOf (fireP ks) 0 ks.length).getD (.inl ()) <;> rfl
  ·intro k hk
   (try dsimp only)
   rw [if_pos (lt_dec hk), geti_lt' hk, Option.bind_some, implMay_eq _ (h.at hk), Option.bind_some, wr_succ (n := ks.length) (by omega) hk]
   unfold fireP
   rw [List.getElem?_eq_getElem hk]
   dsimp only
   cases mayTo ks[k] ks[k].length with
   | nil => rfl
   | cons j l =>
    rw [if_pos (by simp)]
    try rfl
  ·(try dsimp only)
   rw [if_neg (by simp)]
 ·rw [if_pos (by simpa using hv), if_neg hv]
def setTk (ks : List Tick) (i j : Nat) (s : Int) : List Tick := match ks[i]? with
 | none => ks
 | some t => match t[j]? with
  | none => ks
  | some o => ks.set i (t.set j (o.1, s))
theorem setTk_at {ks : List Tick} {i j : Nat} (hi : i < ks.length) (hj : j < ks[i].length) (s : Int) : setTk ks i j s = ks.set i (ks[i].set j (ks[i][j].1, s)) := by
 unfold setTk
 rw [List.getElem?_eq_getElem hi]
 dsimp only
 rw [List.getElem?_eq_getElem hj]
theorem setTk_len (ks : List Tick) (i j : Nat) (s : Int) : (setTk ks i j s).length = ks.length := by
 unfold setTk
 split
 ·rfl
 ·split
  ·rfl
  ·rw [List.length_set]
theorem setTk_small {ks : List Tick} (h : SmallK ks) (i j : Nat) (s : Int) : SmallK (setTk ks i j s) := by
 refine ⟨by rw [setTk_len]; exact h.1, fun t ht => ?_⟩
 unfold setTk at ht
 split at ht
 ·exact h.2 t ht
 ·rename_i u hu
  split at ht
  ·exact h.2 t ht
  ·rcases List.mem_or_eq_of_mem_set ht with h1 | rfl
   ·exact h.2 t h1
   ·rw [List.length_set]; exact h.2 u (List.mem_of_getElem? hu)
def rowP (t : Tick) (p : Int) (j : Nat) : Option Nat := match t[j]? with
 | none => none
 | some o => if o.2 = p then some j else none
def rowF (t : Tick) (p : Int) : Option Nat := firstOf (rowP t p) 0 t.length
def kitP (ks : List Tick) (p : Int) (i : Nat) : Option (Nat × Nat) := match ks[i]? with
 | none => none
 | some t => (rowF t p).map fun j => (i, j)
def kitF (ks : List Tick) (p : Int) : Option (Nat × Nat) := firstOf (kitP ks p) 0 ks.length
theorem firstOf_some {ρ : Type} {p : Nat → Option ρ} {r : ρ} : ∀ {n k : Nat}, firstOf p k n = some r → ∃ i, k ≤ i ∧ i < k + n ∧ p i = some r
 | 0, k, h => by cases h
 | n + 1, k, h => by
  unfold firstOf at h
  cases hp : p k with
  | some r' => rw [hp] at h; exact ⟨k, Nat.le_refl _, by omega, by rw [hp]; exact h⟩
  | none => rw [hp] at h; obtain ⟨i, h1, h2, h3⟩ := firstOf_some h; exact ⟨i, by omega, by omega, h3⟩
theorem firstOf_map {ρ ρ' : Type} {p : Nat → Option ρ} {q : Nat → Option ρ'} {f : ρ → ρ'} : ∀ {n k : Nat}, (∀ i, k ≤ i → i < k + n → q i = (p i).map f) → firstOf q k n = (firstOf p k n).map f
 | 0, k, _ => rfl
 | n + 1, k, h => by
  unfold firstOf
  rw [h k (Nat.le_refl _) (by omega)]
  cases p k with
  | some r => rfl
  | none => exact firstOf_map fun i h1 h2 => h i (by omega) (by omega)
theorem rowF_some {t : Tick} {p : Int} {j : Nat} (h : rowF t p = some j) : ∃ hj : j < t.length, t[j].2 = p := by
 obtain ⟨i, _, h2, h3⟩ := firstOf_some h
 rw [Nat.zero_add] at h2
 unfold rowP at h3
 rw [List.getElem?_eq_getElem h2] at h3
 dsimp only at h3
 split at h3
 ·rename_i h4
  obtain rfl := Option.some.inj h3
  exact ⟨h2, h4⟩
 ·cases h3
theorem kitF_some {ks : List Tick} {p : Int} {i j : Nat} (h : kitF ks p = some (i, j)) : ∃ hi : i < ks.length, ∃ hj : j < ks[i].length, ks[i][j].2 = p := by
 obtain ⟨k, _, h2, h3⟩ := firstOf_some h
 rw [Nat.zero_add] at h2
 unfold kitP at h3
 rw [List.getElem?_eq_getElem h2] at h3
 dsimp only at h3
 cases hr : rowF ks[k] p with
 | none => rw [hr] at h3; cases h3
 | some q =>
  rw [hr] at h3
  simp only [Option.map_some, Option.some.injEq, Prod.mk.injEq] at h3
  obtain ⟨rfl, rfl⟩ := h3
  exact ⟨h2, rowF_some hr⟩
theorem implFirst_eq {ks : List Tick} (h : SmallK ks) (p : Int) : impl_firstInS ks p = some (match kitF ks p with | none => (-1, -1) | some (i, j) => ((i : Int), (j : Int))) := by
 have hl := h.1
 unfold impl_firstInS
 rw [loopExit (s := (0 : Int)) (fun k => (k : Int)) ks.length (fun i => (kitP ks p i).map fun x : Nat × Nat => (.inr ((x.1 : Int), (x.2 : Int)) : Unit ⊕ (Int × Int))) (.inl ()) rfl]
 ·rw [Option.bind_some, firstOf_map (p := kitP ks p) (fun i _ _ => rfl)]
  unfold kitF
  cases firstOf (kitP ks p) 0 ks.length <;> rfl
 ·intro i hi
  (try dsimp only)
  have hli := h.at hi
  rw [if_pos (lt_dec hi), geti_lt' hi, Option.bind_some, loopExit (s := (0 : Int)) (fun k => (k : Int)) ks[i].length (fun j => (rowP ks[i] p j).map fun x : Nat => (.inr ((i : Int), (x : Int)) : Unit ⊕ (Int × Int))) (.inl ()) rfl]
  ·rw [Option.bind_some, firstOf_map (p := rowP ks[i] p) (fun i _ _ => rfl)]
   unfold kitP
   rw [List.getElem?_eq_getElem hi]
   dsimp only
   unfold rowF
   rw [wr_succ (n := ks.length) (by omega) hi]
   cases firstOf (rowP ks[i] p) 0 ks[i].length <;> rfl
  ·intro j hj
   (try dsimp only)
   rw [if_pos (lt_dec hj), geti_lt' hj, Option.bind_some, wr_succ (n := ks[i].length) (by omega) hj]
   unfold rowP
   rw [List.getElem?_eq_getElem hj]
   dsimp only
   by_cases hp : ks[i][j].2 = p
   ·rw [if_pos (by simpa using hp), if_pos hp]; rfl
   ·rw [if_neg (by simpa using hp), if_neg hp]; rfl
  ·(try dsimp only)
   rw [if_neg (by simp)]
 ·(try dsimp only)
  rw [if_neg (by simp)]
theorem copyKit_id {ks : List Tick} (h : SmallK ks) : impl_copyKitchenS ks = some ks := by
 have hl := h.1
 unfold impl_copyKitchenS
 by_cases h0 : ks = []
 ·subst h0; rfl
 ·rw [if_neg (by simpa using h0), mkO_nat _ (by omega), Option.bind_some, copyLoop ks (fun t => t)]
  ·rw [Option.bind_some, List.map_id']
  ·intro k hk ys hys
   (try dsimp only)
   rw [if_pos (lt_dec hk), geti_lt' hk, Option.bind_some, copyTick_id _ (h.at hk), Option.bind_some, geti_lt' (show k < ys.length by omega), Option.bind_some, wr_succ (n := ks.length) (by omega) hk]
   rfl
  ·intro ys hys
   (try dsimp only)
   rw [if_neg (by simp)]
theorem specCopyK_id {ks : List Tick} (h : SmallK ks) : spec_l4CopyS ks = some ks := by
 have hl := h.1
 unfold spec_l4CopyS
 rw [loopDet (s := (([] : List Tick), (0 : Int))) (fun k => (ks.take k, (k : Int))) ks.length ks (by simp)]
 ·rfl
 ·intro k hk
  have hk2 := h.at hk
  (try dsimp only)
  rw [if_pos (lt_dec hk), geti_lt' hk, Option.bind_some, appO_le (by simp; omega), Option.bind_some, List.nil_append, appO_le (by simp; omega), Option.bind_some, wr_succ (n := ks.length) (by omega) hk, List.take_succ_eq_append_getElem hk]
 ·(try dsimp only)
  rw [if_neg (by simp), List.take_length]
theorem ticketB_step {t : Tick} (hv : ticketB t = true) {j : Nat} (hj : j < t.length) {p r : Int} (hp : t[j].2 = p) (h1 : p = 1 ∨ p = 2) (hr : r = p + 1) : ticketB (t.set j (t[j].1, r)) = true := by
 have hin := ticket_in hv (List.getElem_mem hj)
 unfold ticketB at hv ⊢
 rw [Bool.and_eq_true, Bool.and_eq_true] at hv ⊢
 obtain ⟨h2, h3, h4⟩ := hv
 rw [List.all_eq_true] at h3 h4
 refine ⟨by rw [List.length_set]; exact h2, List.all_eq_true.2 fun x hx => ?_, List.all_eq_true.2 fun x hx => ?_⟩
 ·rcases List.mem_or_eq_of_mem_set hx with h | rfl
  ·exact h3 x h
  ·exact inB_true.2 ⟨hin.1, by simp only; omega⟩
 ·have key : ∀ c, readyB t c = true → readyB (t.set j (t[j].1, r)) c = true := fun c hc => by
   unfold readyB at hc ⊢
   rw [List.all_eq_true] at hc ⊢
   intro y hy
   rcases List.mem_or_eq_of_mem_set hy with h | rfl
   ·exact hc y h
   ·have := hc t[j] (List.getElem_mem hj)
    simp only [Bool.not_eq_true', Bool.and_eq_false_iff, decide_eq_false_iff_not] at this ⊢
    rcases this with h | h
    ·exact .inl h
    ·exact .inr (by omega)
  rcases List.mem_or_eq_of_mem_set hx with h | rfl
  ·have := h4 x h
   unfold rdyB at this ⊢
   rw [Bool.or_eq_true] at this ⊢
   exact this.imp id (key x.1)
  ·have := h4 t[j] (List.getElem_mem hj)
   unfold rdyB at this ⊢
   rw [Bool.or_eq_true] at this ⊢
   rcases this with h | h
   ·simp only [Bool.not_eq_true', decide_eq_false_iff_not] at h
    omega
   ·exact .inr (key _ h)
theorem tdo_step {t : Tick} (hv : ticketB t = true) {j : Nat} (hj : j < t.length) {p : Int} (h1 : p = 1 ∨ p = 2) : tdo t (j : Int) p = if t[j].2 = p then (t.set j (t[j].1, p + 1), true) else (t, false) := by
 unfold tdo
 rw [if_pos hv, geti_lt' hj]
 dsimp only
 by_cases hp : t[j].2 = p
 ·have hn : nextS t[j].2 p = some (p + 1) := by
   rw [hp]
   rcases h1 with rfl | rfl <;> decide
  rw [hn, if_pos hp]
  dsimp only
  rw [if_pos]
  ·rfl
  ·exact ticketB_step hv hj hp h1 rfl
 ·have hn : nextS t[j].2 p = none := by
   unfold nextS
   rcases h1 with rfl | rfl <;> simp [hp]
  rw [hn, if_neg hp]
theorem fireZ_some {ks : List Tick} {i j : Int} (h : fireZ ks = (i, j)) (h0 : 0 ≤ i) : kitB ks = true ∧ ∃ k : Nat, i = (k : Int) ∧ ∃ hk : k < ks.length, (tdo ks[k] j 0).2 = true := by
 unfold fireZ at h
 split at h
 ·rename_i hv
  refine ⟨hv, ?_⟩
  cases hf : firstOf (fireP ks) 0 ks.length with
  | none => rw [hf] at h; simp only [Option.getD, Prod.mk.injEq] at h; omega
  | some o =>
   obtain ⟨k, _, h2, h3⟩ := firstOf_some hf
   rw [Nat.zero_add] at h2
   unfold fireP at h3
   rw [List.getElem?_eq_getElem h2] at h3
   dsimp only at h3
   cases hm : mayTo ks[k] ks[k].length with
   | nil => rw [hm] at h3; cases h3
   | cons q l =>
    rw [hm] at h3
    obtain rfl := Option.some.inj h3
    rw [hf] at h
    simp only [Option.getD, Prod.mk.injEq] at h
    obtain ⟨rfl, rfl⟩ := h
    exact ⟨k, rfl, h2, mayTo_mem (k := ks[k].length) (by rw [hm]; exact List.mem_cons_self)⟩
 ·simp only [Prod.mk.injEq] at h; omega
theorem tdo_fire {t : Tick} {j : Int} (h : (tdo t j 0).2 = true) : ∃ k : Nat, j = (k : Int) ∧ ∃ hk : k < t.length, tdo t j 0 = (t.set k (t[k].1, 1), true) := by
 unfold tdo at h ⊢
 split at h
 ·rename_i hv
  rw [if_pos hv]
  by_cases hj : 0 ≤ j ∧ j < (t.length : Int)
  ·obtain ⟨k, rfl, hk⟩ := in_nat hj
   refine ⟨k, rfl, hk, ?_⟩
   rw [geti_lt' hk] at h ⊢
   dsimp only at h ⊢
   cases hn : nextS t[k].2 0 with
   | none => rw [hn] at h; cases h
   | some r =>
    rw [hn] at h
    dsimp only at h ⊢
    have hr : r = 1 := by
     unfold nextS at hn
     split at hn
     ·exact (Option.some.inj hn).symm
     ·simp at hn
    subst hr
    split at h
    ·rename_i h5; rw [if_pos h5]; rfl
    ·cases h
  ·rw [geti_out hj] at h; cases h
 ·cases h
def stepK (ks : List Tick) : List Tick × Bool :=
 if kitB ks = true then
  match kitF ks 2 with
  | some (i, j) => (setTk ks i j 3, true)
  | none => match kitF ks 1 with
   | some (i, j) => (setTk ks i j 2, true)
   | none => if (fireZ ks).1 < 0 then (ks, false) else (setTk ks (fireZ ks).1.toNat (fireZ ks).2.toNat 1, true)
 else ([], false)
theorem stepK_ok {ks : List Tick} (h : (stepK ks).2 = true) : kitB ks = true := by
 unfold stepK at h
 split at h
 ·assumption
 ·cases h
theorem stepK_len {ks : List Tick} (h : (stepK ks).2 = true) : (stepK ks).1.length = ks.length := by
 have hk := stepK_ok h
 unfold stepK
 rw [if_pos hk]
 split
 ·exact setTk_len _ _ _ _
 ·split
  ·exact setTk_len _ _ _ _
  ·split
   ·rfl
   ·exact setTk_len _ _ _ _
theorem stepK_small {ks : List Tick} (h : SmallK ks) : SmallK (stepK ks).1 := by
 unfold stepK
 split
 ·split
  ·exact setTk_small h _ _ _
  ·split
   ·exact setTk_small h _ _ _
   ·split
    ·exact h
    ·exact setTk_small h _ _ _
 ·exact ⟨by simp, fun t ht => by cases ht⟩
theorem fire_at {ks : List Tick} (h0 : ¬ (fireZ ks).1 < 0) : ∃ (i j : Nat) (hi : i < ks.length) (hj : j < ks[i].length), fireZ ks = ((i : Int), (j : Int)) ∧ tdo ks[i] (j : Int) 0 = (ks[i].set j (ks[i][j].1, 1), true) := by
 obtain ⟨_, i, h1, hi, h2⟩ := fireZ_some (ks := ks) (i := (fireZ ks).1) (j := (fireZ ks).2) rfl (by omega)
 obtain ⟨j, h3, hj, h4⟩ := tdo_fire h2
 exact ⟨i, j, hi, hj, by rw [← h1, ← h3], by rw [← h3]; exact h4⟩
theorem implStep_eq {ks : List Tick} (h : SmallK ks) : impl_WorkStepS ks = some (stepK ks) := by
 unfold impl_WorkStepS stepK
 rw [implKit_eq h, Option.bind_some]
 by_cases hv : kitB ks = true
 ·rw [hv, if_neg (by simp), if_pos rfl, copyKit_id h, Option.bind_some, implFirst_eq h, Option.bind_some]
  cases h2 : kitF ks 2 with
  | some x =>
   obtain ⟨i, j⟩ := x
   obtain ⟨hi, hj, _⟩ := kitF_some h2
   dsimp only
   rw [if_pos (by simp), geti_lt' hi, Option.bind_some, geti_lt' hj, Option.bind_some, setTk_at hi hj]
   rfl
  | none =>
   dsimp only
   rw [if_neg (by decide), implFirst_eq h, Option.bind_some]
   cases h1 : kitF ks 1 with
   | some x =>
    obtain ⟨i, j⟩ := x
    obtain ⟨hi, hj, _⟩ := kitF_some h1
    dsimp only
    rw [if_pos (by simp), geti_lt' hi, Option.bind_some, geti_lt' hj, Option.bind_some, setTk_at hi hj]
    rfl
   | none =>
    dsimp only
    rw [if_neg (by decide), implFire_eq h, Option.bind_some]
    by_cases h0 : (fireZ ks).1 < 0
    ·rw [if_neg (by simpa using h0), if_pos h0]
    ·obtain ⟨i, j, hi, hj, he, _⟩ := fire_at h0
     rw [he] at h0 ⊢
     rw [if_pos (by simp), if_neg h0, geti_lt' hi, Option.bind_some, geti_lt' hj, Option.bind_some]
     dsimp only
     rw [show Int.toNat (i : Int) = i from rfl, show Int.toNat (j : Int) = j from rfl, setTk_at hi hj]
 ·rw [if_pos (by simpa using hv), if_neg hv]
theorem scan_eq {ks : List Tick} (h : SmallK ks) (hv : kitB ks = true) {p : Int} (h1 : p = 1 ∨ p = 2) :
  (loop (σ := Int × List Tick) (ρ := (List Tick) ⊕ (List Tick × Bool × List Tick)) (fun (s : Int × List Tick) => match s with | (s20, s21) => (if (decide (s20 < (List.length ks : Int))) then ((loop (σ := Int × List Tick) (ρ := (List Tick) ⊕ (List Tick × Bool × List Tick)) (fun (s : Int × List Tick) => match s with | (s23, s24) => ((geti ks s20).bind fun x25 => (if (decide (s23 < (List.length x25 : Int))) then ((geti ks s20).bind fun x38 => ((spec_TicketDoS x38 s23 p).bind fun x50 => (if x50.2 then ((geti s24 s20).bind fun x57 => (some (.inr (.inr ((List.set s24 (Int.toNat s20) x50.1), true, (List.set s24 (Int.toNat s20) x50.1)))))) else (some (.inl (IntKind.wrap .i64 (s23 + 1), s24)))))) else (some (.inr (.inl s24)))))) (0, s21)).bind fun o => match o with | .inl p70 => (some (.inl (IntKind.wrap .i64 (s20 + 1), p70))) | .inr (p71, p72, p73) => (some (.inr (.inr (p71, p72, p73))))) else (some (.inr (.inl s21))))) (0, ks)) =
  some (match kitF ks p with | none => .inl ks | some (i, j) => .inr (setTk ks i j (p + 1), true, setTk ks i j (p + 1))) := by
 have hl := h.1
 rw [loopExit (s := ((0 : Int), ks)) (fun k => ((k : Int), ks)) ks.length (fun i => (kitP ks p i).map fun x : Nat × Nat => (.inr (setTk ks x.1 x.2 (p + 1), true, setTk ks x.1 x.2 (p + 1)) : (List Tick) ⊕ (List Tick × Bool × List Tick))) (.inl ks) rfl]
 ·rw [firstOf_map (p := kitP ks p) (fun i _ _ => rfl)]
  unfold kitF
  cases firstOf (kitP ks p) 0 ks.length <;> rfl
 ·intro i hi
  (try dsimp only)
  have hli := h.at hi
  have hti := kitB_at hv (List.getElem_mem hi)
  rw [if_pos (lt_dec hi), loopExit (s := ((0 : Int), ks)) (fun k => ((k : Int), ks)) ks[i].length (fun j => (rowP ks[i] p j).map fun x : Nat => (.inr (setTk ks i x (p + 1), true, setTk ks i x (p + 1)) : (List Tick) ⊕ (List Tick × Bool × List Tick))) (.inl ks) rfl]
  ·rw [Option.bind_some, firstOf_map (p := rowP ks[i] p) (fun i _ _ => rfl)]
   unfold kitP
   rw [List.getElem?_eq_getElem hi]
   dsimp only
   unfold rowF
   rw [wr_succ (n := ks.length) (by omega) hi]
   cases firstOf (rowP ks[i] p) 0 ks[i].length <;> rfl
  ·intro j hj
   (try dsimp only)
   rw [geti_lt' hi, Option.bind_some, if_pos (lt_dec hj), Option.bind_some, specTdo_eq _ hli, Option.bind_some, Option.bind_some, wr_succ (n := ks[i].length) (by omega) hj, tdo_step hti hj h1]
   unfold rowP
   rw [List.getElem?_eq_getElem hj]
   dsimp only
   by_cases hp : ks[i][j].2 = p
   ·rw [if_pos hp, if_pos hp, if_pos rfl, Option.map_some, setTk_at hi hj]; rfl
   ·rw [if_neg hp, if_neg hp, if_neg (by simp)]; rfl
  ·(try dsimp only)
   rw [geti_lt' hi, Option.bind_some, if_neg (by simp)]
 ·(try dsimp only)
  rw [if_neg (by simp)]
theorem specStep_eq {ks : List Tick} (h : SmallK ks) : spec_WorkStepS ks = some (stepK ks) := by
 unfold spec_WorkStepS stepK
 rw [specKit_eq h, Option.bind_some]
 by_cases hv : kitB ks = true
 ·rw [hv, if_neg (by simp), if_pos rfl, specCopyK_id h, Option.bind_some,
   loopExit (s := ((2 : Int), ks)) (fun k => ((2 : Int) - (k : Int), ks)) 2 (fun k => (kitF ks ((2 : Int) - (k : Int))).map fun x : Nat × Nat => (.inr (setTk ks x.1 x.2 ((2 : Int) - (k : Int) + 1), true, setTk ks x.1 x.2 ((2 : Int) - (k : Int) + 1)) : (List Tick) ⊕ (List Tick × Bool × List Tick))) (.inl ks) (by simp)]
  ·rw [Option.bind_some]
   unfold firstOf
   rw [show (2 : Int) - ((0 : Nat) : Int) = 2 from rfl]
   cases h2 : kitF ks 2 with
   | some x => rfl
   | none =>
    rw [Option.map_none]
    unfold firstOf
    rw [show (2 : Int) - ((0 + 1 : Nat) : Int) = 1 from rfl]
    cases h1 : kitF ks 1 with
    | some x => rfl
    | none =>
     rw [Option.map_none]
     unfold firstOf
     dsimp only [Option.getD]
     rw [specFire_eq h, Option.bind_some]
     by_cases h0 : (fireZ ks).1 < 0
     ·rw [if_pos (by simpa using h0), if_pos h0]
     ·obtain ⟨i, j, hi, hj, he, ht⟩ := fire_at h0
      rw [he] at h0 ⊢
      rw [if_neg (by simp), if_neg h0, geti_lt' hi, Option.bind_some, specTdo_eq _ (h.at hi), ht, Option.bind_some, Option.bind_some]
      dsimp only
      rw [show Int.toNat (i : Int) = i from rfl, show Int.toNat (j : Int) = j from rfl, setTk_at hi hj]
  ·intro k hk
   show (if decide ((2 : Int) - (k : Int) ≥ 1) = true then _ else _) = _
   rw [if_pos (decide_eq_true (by omega))]
   refine (congrArg (fun o => Option.bind o _) (scan_eq h hv (p := (2 : Int) - (k : Int)) (by omega))).trans ?_
   rw [Option.bind_some]
   have hw : IntKind.wrap .i64 ((2 : Int) - (k : Int) - 1) = (2 : Int) - ((k + 1 : Nat) : Int) := by rw [wr ⟨by omega, by omega⟩]; omega
   rw [hw]
   cases kitF ks ((2 : Int) - (k : Int)) <;> rfl
  ·show (if decide ((2 : Int) - ((2 : Nat) : Int) ≥ 1) = true then _ else _) = _
   rw [if_neg (by decide)]
 ·rw [if_pos (by simpa using hv), if_neg hv]
def courseTo (t : Tick) : Nat → Int
 | 0 => -1
 | k + 1 => match t[k]? with
  | none => courseTo t k
  | some o => if o.2 < 3 ∧ (courseTo t k < 0 ∨ o.1 < courseTo t k) then o.1 else courseTo t k
def doneB (t : Tick) : Bool := ticketB t && decide (courseTo t t.length < 0)
theorem specDone_eq (t : Tick) (h : t.length ≤ 1048576) : spec_TicketDoneS t = some (doneB t) := by
 unfold spec_TicketDoneS doneB
 rw [specTicket_eq t (by omega), Option.bind_some]
 by_cases hv : ticketB t = true
 ·unfold spec_TicketCourseS
  rw [loopDet (s := ((-1 : Int), (0 : Int))) (fun k => (courseTo t k, (k : Int))) t.length (courseTo t t.length) rfl]
  ·rw [hv]; rfl
  ·intro k hk
   (try dsimp only)
   rw [if_pos (lt_dec hk), specTicket_eq t (by omega), Option.bind_some, Option.bind_some, hv, if_pos rfl, geti_lt' hk, Option.bind_some, Option.bind_some, Option.bind_some, wr_succ (n := t.length) (by omega) hk]
   simp only [courseTo, List.getElem?_eq_getElem hk]
   by_cases h1 : t[k].2 < 3
   ·by_cases h2 : courseTo t k < 0
    ·simp [h1, h2]
    ·by_cases h3 : t[k].1 < courseTo t k <;> simp [h1, h2, h3]
   ·simp [h1]
  ·(try dsimp only)
   rw [if_neg (by simp)]; rfl
 ·rw [if_neg hv, Bool.not_eq_true] at *
  rw [hv]; rfl
theorem implDone_eq (t : Tick) (h : t.length ≤ 1048576) : impl_TicketDoneS t = some (doneB t) := by
 unfold impl_TicketDoneS doneB
 rw [implTicket_eq t (by omega), Option.bind_some]
 by_cases hv : ticketB t = true
 ·unfold impl_TicketCourseS
  rw [implTicket_eq t (by omega), Option.bind_some, hv, if_pos rfl, if_neg (by simp), loopDet (s := ((-1 : Int), (0 : Int))) (fun k => (courseTo t k, (k : Int))) t.length (courseTo t t.length) rfl]
  ·rfl
  ·intro k hk
   have hin := ticket_in hv (List.getElem_mem hk)
   (try dsimp only)
   unfold impl_finishedS
   rw [if_pos (lt_dec hk), geti_lt' hk, Option.bind_some, Option.bind_some, wr_succ (n := t.length) (by omega) hk]
   simp only [courseTo, List.getElem?_eq_getElem hk]
   by_cases h1 : t[k].2 < 3
   ·have e3 : ¬ t[k].2 = 3 := by omega
    have e4 : ¬ t[k].2 = 4 := by omega
    by_cases h2 : courseTo t k < 0
    ·simp [h1, h2, e3, e4]
    ·by_cases h3 : t[k].1 < courseTo t k <;> simp [h1, h2, h3, e3, e4]
   ·have e3 : t[k].2 = 3 ∨ t[k].2 = 4 := by omega
    rcases e3 with e3 | e3 <;> simp [h1, e3]
  ·(try dsimp only)
   rw [if_neg (by simp)]
 ·rw [Bool.not_eq_true] at hv
  rw [hv]; rfl
end Go.Proofs.YtkhnponakhabdaaGreatDoor
set_option linter.unusedVariables false
namespace Go.Proofs.YtkhnponakhabdaaGreatDoor
open Go Go.RowKit
theorem loop_both {σ ρ β : Type} {f g : σ → Option (σ ⊕ ρ)} {s : σ} {F G : ρ → Option β} {Q : β → Prop} (I : σ → Prop) (μ : σ → Nat) (R : ρ → Prop) (h0 : I s)
  (hs : ∀ s, I s → ∃ o, f s = some o ∧ g s = some o ∧ (match o with | .inl s' => I s' ∧ μ s' < μ s | .inr r => R r))
  (hF : ∀ r, R r → ∃ v, F r = some v ∧ G r = some v ∧ Q v) : ∃ v, (loop (σ := σ) (ρ := ρ) f s).bind F = some v ∧ (loop (σ := σ) (ρ := ρ) g s).bind G = some v ∧ Q v := by
 have key : ∀ n s, μ s < n → I s → ∃ r, Proofs.YtkhnponakhabdaaGreatDoor.loop f s = some r ∧ Proofs.YtkhnponakhabdaaGreatDoor.loop g s = some r ∧ R r := by
  intro n
  induction n with
  | zero => intro s h; omega
  | succ n ih =>
   intro s hlt hI
   obtain ⟨o, h1, h2, h3⟩ := hs s hI
   rw [loop_eq, loop_eq, h1, h2]
   cases o with
   | inl s' => exact ih s' (by have := h3.2; omega) h3.1
   | inr r => exact ⟨r, rfl, rfl, h3⟩
 obtain ⟨r, h1, h2, h3⟩ := key (μ s + 1) s (by omega) h0
 obtain ⟨v, h4, h5, h6⟩ := hF r h3
 exact ⟨v, by rw [h1]; exact h4, by rw [h2]; exact h5, h6⟩
theorem copyInts_id (ps : List Int) (h : ps.length ≤ 1048576) : impl_copyIntsS ps = some ps := by
 unfold impl_copyIntsS
 by_cases h0 : ps = []
 ·subst h0; rfl
 ·rw [if_neg (by simpa using h0), mkO_nat _ (by omega), Option.bind_some]
  simp
theorem amounts_len {xs : List HItem} {m : Int} {ps : List Int} (h : amountsB xs m ps = true) : ps.length = xs.length ∧ ∀ x ∈ ps, 0 ≤ x ∧ x ≤ m := by
 unfold amountsB rangeB at h
 rw [Bool.and_eq_true, decide_eq_true_eq, beq_iff_eq] at h
 exact ⟨by omega, h.1⟩
theorem amounts_of {xs : List HItem} {m : Int} {ps : List Int} (h1 : ps.length = xs.length) (h2 : ∀ x ∈ ps, 0 ≤ x ∧ x ≤ m) : amountsB xs m ps = true := by
 unfold amountsB rangeB
 rw [Bool.and_eq_true, decide_eq_true_eq, beq_iff_eq]
 exact ⟨h2, by omega⟩
theorem makeRun_eq {xs : List HItem} {st plan : List Int} (h : ItemsL xs) (hI : itemsB xs = true) (hs : amountsB xs 50 st = true) (hp : amountsB xs 9999999 plan = true) :
  ∃ r : List Int × Bool, spec_MakeRunS xs st plan [] = some r ∧ impl_MakeRunS xs st plan [] = some r ∧ (r.2 = true → r.1.length = xs.length) := by
 have hn := itemsB_len hI
 obtain ⟨hsl, hsr⟩ := amounts_len hs
 obtain ⟨hpl, hpr⟩ := amounts_len hp
 unfold spec_MakeRunS impl_MakeRunS
 rw [specItems_eq h, implItems_eq h, hI, Option.bind_some, Option.bind_some, if_neg (by simp), if_neg (by simp), specAmounts_eq xs st (by omega), implAmounts_eq xs 50 st (by omega), implAmounts_eq xs 9999999 plan (by omega), hs, hp]
 dsimp only [Option.bind_some]
 rw [if_neg (by simp; omega), appO_le (by simp; omega), List.nil_append]
 simp only [Option.bind_some, Bool.not_true, Bool.false_eq_true, if_false]
 rw [copyInts_id st (by omega), Option.bind_some]
 have hI0 : (0 : Int) ≤ 0 ∧ (0 : Int) ≤ (xs.length : Int) ∧ st.length = xs.length := ⟨by omega, by omega, hsl⟩
 refine loop_both (fun s : Int × List Int => 0 ≤ s.1 ∧ s.1 ≤ (xs.length : Int) ∧ s.2.length = xs.length) (fun s => ((xs.length : Int) - s.1).toNat)
  (fun o => match o with | .inl l => l.length = xs.length | .inr (_, b, _) => b = false) hI0 ?_ ?_
 ·rintro ⟨i, l⟩ ⟨hi0, hi1, hl⟩
  replace hi0 : 0 ≤ i := hi0
  replace hi1 : i ≤ (xs.length : Int) := hi1
  replace hl : l.length = xs.length := hl
  show ∃ o, (if decide (i < (xs.length : Int)) = true then _ else _) = some o ∧ (if decide (i < (xs.length : Int)) = true then _ else _) = some o ∧ _
  by_cases hi : i < (xs.length : Int)
  ·obtain ⟨k, rfl, hk⟩ := in_nat ⟨hi0, hi⟩
   have hkp : k < plan.length := by omega
   have hpk := hpr _ (List.getElem_mem hkp)
   have hpart := itemsB_part hI hk
   have hmin : 0 ≤ xs[k].1 ∧ xs[k].1 ≤ 6 := by
    have := itemsB_at hI hk
    unfold itemB at this
    simp only [Bool.and_eq_true, decide_eq_true_eq] at this
    exact this.1.1.1.1
   have hml := h.2 _ (List.getElem_mem hk)
   rw [if_pos (decide_eq_true hi), if_pos (decide_eq_true hi), geti_lt' hkp, geti_lt' hk, Option.bind_some, Option.bind_some, l1In_eq, Option.bind_some, decide_eq_true hpk]
   simp only [Bool.not_true, Bool.false_eq_true, if_false]
   refine loop_both (fun s : Int × List Int => 0 ≤ s.1 ∧ s.1 ≤ (xs[k].2.1.length : Int) ∧ s.2.length = xs.length) (fun s => ((xs[k].2.1.length : Int) - s.1).toNat)
    (fun o => match o with | .inl l => l.length = xs.length | .inr (_, b, _) => b = false) ⟨by omega, by simp, hl⟩ ?_ ?_
   ·rintro ⟨j, m⟩ ⟨hj0, hj1, hm⟩
    replace hj0 : 0 ≤ j := hj0
    replace hj1 : j ≤ (xs[k].2.1.length : Int) := hj1
    replace hm : m.length = xs.length := hm
    show ∃ o, (Option.bind _ _) = some o ∧ (if decide (j < (xs[k].2.1.length : Int)) = true then _ else _) = some o ∧ _
    rw [Option.bind_some]
    by_cases hj : j < (xs[k].2.1.length : Int)
    ·obtain ⟨q, rfl, hq⟩ := in_nat ⟨hj0, hj⟩
     have hy := hpart _ (List.getElem_mem hq)
     obtain ⟨y, hye, hyk⟩ : ∃ y : Nat, xs[k].2.1[q].1 = (y : Int) ∧ y < k := ⟨xs[k].2.1[q].1.toNat, by omega, by omega⟩
     rw [if_pos (decide_eq_true hj), if_pos (decide_eq_true hj), geti_lt' hq]
     simp only [Option.bind_some]
     rw [geti_lt' (show q < xs[k].2.1.length from hq)]
     simp only [Option.bind_some, hye]
     have hym : y < m.length := by omega
     rw [geti_lt' hym]
     simp only [Option.bind_some]
     rw [geti_lt' (show y < (List.set m (Int.toNat (y : Int)) (IntKind.wrap .i64 (m[y] - IntKind.wrap .i64 (plan[k] * xs[k].2.1[q].2)))).length by rw [List.length_set]; exact hym)]
     simp only [Option.bind_some]
     split
     ·exact ⟨_, rfl, rfl, rfl⟩
     ·have hw := wr_succ (n := xs[k].2.1.length) (by omega) hq
      refine ⟨_, rfl, rfl, ⟨?_, ?_, ?_⟩, ?_⟩
      ·show 0 ≤ IntKind.wrap .i64 ((q : Int) + 1)
       omega
      ·show IntKind.wrap .i64 ((q : Int) + 1) ≤ _
       omega
      ·show (List.set _ _ _).length = _
       rw [List.length_set]; exact hm
      ·show ((xs[k].2.1.length : Int) - IntKind.wrap .i64 ((q : Int) + 1)).toNat < ((xs[k].2.1.length : Int) - (q : Int)).toNat
       omega
    ·rw [if_neg (by simpa using hj), if_neg (by simpa using hj)]
     exact ⟨_, rfl, rfl, hm⟩
   ·rintro (m | ⟨a, b, c⟩) hR
    ·dsimp only at hR ⊢
     have hkm : k < m.length := by omega
     rw [geti_lt' hkm]
     simp only [Option.bind_some]
     unfold impl_runMakesS
     have hmx : (if 1 > xs[k].1 then (1 : Int) else xs[k].1) = if (xs[k].1 == 0) = true then 1 else xs[k].1 := by
      by_cases h0 : xs[k].1 = 0
      ·rw [h0]; rfl
      ·rw [if_neg (by omega), if_neg (by simpa using h0)]
     rw [hmx]
     refine ⟨_, rfl, ?_, ?_⟩
     ·split <;> rfl
     ·have hw := wr_succ (n := xs.length) (by omega) hk
      refine ⟨⟨?_, ?_, ?_⟩, ?_⟩
      ·show 0 ≤ IntKind.wrap .i64 ((k : Int) + 1)
       omega
      ·show IntKind.wrap .i64 ((k : Int) + 1) ≤ _
       omega
      ·show (List.set _ _ _).length = _
       rw [List.length_set]; exact hR
      ·show ((xs.length : Int) - IntKind.wrap .i64 ((k : Int) + 1)).toNat < ((xs.length : Int) - (k : Int)).toNat
       omega
    ·exact ⟨_, rfl, rfl, hR⟩
  ·rw [if_neg (by simpa using hi), if_neg (by simpa using hi)]
   exact ⟨_, rfl, rfl, hl⟩
 ·rintro (m | ⟨a, b, c⟩) hR
  ·exact ⟨_, rfl, rfl, fun _ => hR⟩
  ·exact ⟨_, rfl, rfl, fun hb => by dsimp only at hR hb; rw [hR] at hb; cases hb⟩
end Go.Proofs.YtkhnponakhabdaaGreatDoor
