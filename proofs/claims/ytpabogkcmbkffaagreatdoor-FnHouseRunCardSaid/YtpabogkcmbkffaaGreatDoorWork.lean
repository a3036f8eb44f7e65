/- Kitchens: the tickets of all tables, what is left to be done; the deeds by which a house is closed. Own work; no program in sight. -/
import Derived.Test.YtpabogkcmbkffaaGreatDoorMHs
set_option linter.unusedVariables false
namespace Go.Proofs.YtpabogkcmbkffaaGreatDoor
open Go Go.RowKit
abbrev Tick := List (Int × Int)
def ticksOf (tb : List HTab) : List Tick := tb.map (fun t => t.2.1)
def SmallK (ks : List Tick) : Prop := ks.length ≤ 1048576 ∧ ∀ t ∈ ks, t.length ≤ 1048576
theorem TabsL.ticks {tb : List HTab} (h : TabsL tb) : SmallK (ticksOf tb) := ⟨by unfold ticksOf; rw [List.length_map]; exact h.1, fun t ht => by
  obtain ⟨x, hx, rfl⟩ := List.mem_map.1 ht
  exact (h.2 x hx).1⟩
theorem SmallK.at {ks : List Tick} (h : SmallK ks) {k : Nat} (hk : k < ks.length) : ks[k].length ≤ 1048576 := h.2 _ (List.getElem_mem hk)
theorem specTicks_eq {it : List HItem} {pr st : List Int} (cash : Int) {tb : List HTab} (h : TabsL tb) : spec_l7TicketsS it pr st cash tb = some (ticksOf tb) := by
  have hl := h.1
  unfold spec_l7TicketsS
  rw [loopDet (s := (([] : List Tick), (0 : Int))) (fun k => ((tb.take k).map (fun t => t.2.1), (k : Int))) tb.length (ticksOf tb) (by simp)]
  · rfl
  · intro k hk
    (try dsimp only)
    rw [if_pos (lt_dec hk), geti_lt' hk, Option.bind_some, appO_le (by simp; omega), Option.bind_some, wr_succ (n := tb.length) (by omega) hk, List.take_succ_eq_append_getElem hk, List.map_append]
    rfl
  · (try dsimp only)
    rw [if_neg (by simp), List.take_length]; rfl
theorem copyTick_id (ps : Tick) (h : ps.length ≤ 1048576) : impl_copyTicketS ps = some ps := by
  unfold impl_copyTicketS
  by_cases h0 : ps = []
  · subst h0; rfl
  · rw [if_neg (by simpa using h0), mkO_nat _ (by omega), Option.bind_some]
    simp
theorem implTicks_eq {it : List HItem} {pr st : List Int} (cash : Int) {tb : List HTab} (h : TabsL tb) : impl_kitchenOfS it pr st cash tb = some (ticksOf tb) := by
  have hl := h.1
  unfold impl_kitchenOfS
  rw [mkO_nat _ (by omega), Option.bind_some, copyLoop tb (fun t => t.2.1)]
  · rfl
  · intro k hk ys hys
    (try dsimp only)
    rw [if_pos (lt_dec hk), geti_lt' hk, Option.bind_some, copyTick_id _ (h.2 _ (List.getElem_mem hk)).1, Option.bind_some, geti_lt' (show k < ys.length by omega), Option.bind_some, wr_succ (n := tb.length) (by omega) hk]
    rfl
  · intro ys hys
    (try dsimp only)
    rw [if_neg (by simp)]
def kitB (ks : List Tick) : Bool := decide (ks.length ≤ 4) && ks.all ticketB
theorem kitB_at {ks : List Tick} (h : kitB ks = true) {t : Tick} (ht : t ∈ ks) : ticketB t = true := by unfold kitB at h; rw [Bool.and_eq_true] at h; exact List.all_eq_true.1 h.2 t ht
theorem specKit_eq {ks : List Tick} (h : SmallK ks) : spec_KitchenValidS ks = some (kitB ks) := by
  have hl := h.1
  unfold spec_KitchenValidS kitB
  rw [loopList ks (fun _ t => ticketB t)]
  · rw [Option.bind_some, allI_all]
    cases ks.all ticketB
    · simp
    · simp; omega
  · intro k hk
    (try dsimp only)
    rw [if_pos (lt_dec hk), geti_lt' hk, Option.bind_some, specTicket_eq _ (by have := h.at hk; omega), Option.bind_some, wr_succ (n := ks.length) (by omega) hk]
    cases ticketB ks[k] <;> rfl
  · (try dsimp only)
    rw [if_neg (by simp)]
theorem implKit_eq {ks : List Tick} (h : SmallK ks) : impl_KitchenValidS ks = some (kitB ks) := by
  have hl := h.1
  unfold impl_KitchenValidS kitB
  by_cases h4 : ks.length ≤ 4
  · rw [if_neg (by simp; omega), decide_eq_true h4, loopList ks (fun _ t => ticketB t)]
    · rw [Option.bind_some, allI_all]
      cases ks.all ticketB <;> rfl
    · intro k hk
      (try dsimp only)
      rw [if_pos (lt_dec hk), geti_lt' hk, Option.bind_some, implTicket_eq _ (by have := h.at hk; omega), Option.bind_some, wr_succ (n := ks.length) (by omega) hk]
      cases ticketB ks[k] <;> rfl
    · (try dsimp only)
      rw [if_neg (by simp)]
  · rw [if_pos (by simp; omega), decide_eq_false h4]; rfl
theorem ticket_in {t : Tick} (h : ticketB t = true) {o : Int × Int} (ho : o ∈ t) : (0 ≤ o.1 ∧ o.1 ≤ 2) ∧ 0 ≤ o.2 ∧ o.2 ≤ 4 := by
  unfold ticketB at h
  simp only [Bool.and_eq_true] at h
  exact inB_true.1 (List.all_eq_true.1 h.2.1 o ho)
end Go.Proofs.YtpabogkcmbkffaaGreatDoor
