/- Kitchens: the tickets of all tables, what is left to be done; the deeds by which a house is closed. Own work; no program in sight. -/
import Derived.Test.YtpabogkcmbkffaaGreatDoorMHs
set_option linter.unusedVariables false
namespace Go.Proofs.YtpabogkcmbkffaaGreatDoor
open Go Go.RowKit
abbrev Tick := List (Int × Int)
def ticksOf (tb : List HTab) : List Tick := tb.map (fun t => t.2.1)
def SmallK (ks : List Tick) : Prop := ks.length ≤ 1048576 ∧ ∀ t ∈ ks, t.length ≤ 1048576
theorem TabsL.ticks {tb : List HTab} (h : TabsL tb) : SmallK (ticksOf tb) := ⟨by unfold ticksOf; rw [List.length_map]; exact h.1, fun t ht => by
  obtain ⟨x, hx, rfl⟩ := List.mem_map.1 ht
  exact (h.2 x hx).1⟩
theorem SmallK.at {ks : List Tick} (h : SmallK ks) {k : Nat} (hk : k < ks.length) : ks[k].length ≤ 1048576 := h.2 _ (List.getElem_mem hk)
theorem specTicks_eq {it : List HItem} {pr st : List Int} (cash : Int) {tb : List HTab} (h : TabsL tb) : spec_l7TicketsS it pr st cash tb = some (ticksOf tb) := by
  have hl := h.1
  unfold spec_l7TicketsS
  rw [loopDet (s := (([] : List Tick), (0 : Int))) (fun k => ((tb.take k).map (fun t => t.2.1), (k : Int))) tb.length (ticksOf tb) (by simp)]
  · rfl
  · intro k hk
    (try dsimp only)
    rw [if_pos (lt_dec hk), geti_lt' hk, Option.bind_some, appO_le (by simp; omega), Option.bind_some, wr_succ (n := tb.length) (by omega) hk, List.take_succ_eq_append_getElem hk, List.map_append]
    rfl
  · (try dsimp only)
    rw [if_neg (by simp), List.take_length]; rfl
theorem copyTick_id (ps : Tick) (h : ps.length ≤ 1048576) : impl_copyTicketS ps = some ps := by
  unfold impl_copyTicketS
  by_cases h0 : ps = []
  · subst h0; rfl
  · rw [if_neg (by simpa using h0), mkO_nat _ (by omega), Option.bind_some]
    simp
theorem implTicks_eq {it : List HItem} {pr st : List Int} (cash : Int) {tb : List HTab} (h : TabsL tb) : impl_kitchenOfS it pr st cash tb = some (ticksOf tb) := by
  have hl := h.1
  unfold impl_kitchenOfS
  rw [mkO_nat _ (by omega), Option.bind_some, copyLoop tb (fun t => t.2.1)]
  · rfl
  · intro k hk ys hys
    (try dsimp only)
    rw [if_pos (lt_dec hk), geti_lt' hk, Option.bind_some, copyTick_id _ (h.2 _ (List.getElem_mem hk)).1, Option.bind_some, geti_lt' (show k < ys.length by omega), Option.bind_some, wr_succ (n := tb.length) (by omega) hk]
    rfl
  · intro ys hys
    (try dsimp only)
    rw [if_neg (by simp)]
def kitB (ks : List Tick) : Bool := decide (ks.length ≤ 4) && ks.all ticketB
theorem kitB_len {ks : List Tick} (h : kitB ks = true) : ks.length ≤ 4 := by unfold kitB at h; rw [Bool.and_eq_true] at h; exact of_decide_eq_true h.1
theorem kitB_at {ks : List Tick} (h : kitB ks = true) {t : Tick} (ht : t ∈ ks) : ticketB t = true := by unfold kitB at h; rw [Bool.and_eq_true] at h; exact List.all_eq_true.1 h.2 t ht
theorem specKit_eq {ks : List Tick} (h : SmallK ks) : spec_KitchenValidS ks = some (kitB ks) := by
  have hl := h.1
  unfold spec_KitchenValidS kitB
  rw [loopList ks (fun _ t => ticketB t)]
  · rw [Option.bind_some, allI_all]
    cases ks.all ticketB
    · simp
    · simp; omega
  · intro k hk
    (try dsimp only)
    rw [if_pos (lt_dec hk), geti_lt' hk, Option.bind_some, specTicket_eq _ (by have := h.at hk; omega), Option.bind_some, wr_succ (n := ks.length) (by omega) hk]
    cases ticketB ks[k] <;> rfl
  · (try dsimp only)
    rw [if_neg (by simp)]
theorem implKit_eq {ks : List Tick} (h : SmallK ks) : impl_KitchenValidS ks = some (kitB ks) := by
  have hl := h.1
  unfold impl_KitchenValidS kitB
  by_cases h4 : ks.length ≤ 4
  · rw [if_neg (by simp; omega), decide_eq_true h4, loopList ks (fun _ t => ticketB t)]
    · rw [Option.bind_some, allI_all]
      cases ks.all ticketB <;> rfl
    · intro k hk
      (try dsimp only)
      rw [if_pos (lt_dec hk), geti_lt' hk, Option.bind_some, implTicket_eq _ (by have := h.at hk; omega), Option.bind_some, wr_succ (n := ks.length) (by omega) hk]
      cases ticketB ks[k] <;> rfl
    · (try dsimp only)
      rw [if_neg (by simp)]
  · rw [if_pos (by simp; omega), decide_eq_false h4]; rfl
/-! ### what is left -/
def leftO (o : Int × Int) : Nat := (3 - o.2).toNat
def leftN : Tick → Nat
  | [] => 0
  | o :: t => leftO o + leftN t
def leftK : List Tick → Nat
  | [] => 0
  | t :: ks => leftN t + leftK ks
theorem leftN_app (a b : Tick) : leftN (a ++ b) = leftN a + leftN b := by
  induction a with
  | nil => simp [leftN]
  | cons o a ih => simp [leftN, ih]; omega
theorem leftK_app (a b : List Tick) : leftK (a ++ b) = leftK a + leftK b := by
  induction a with
  | nil => simp [leftK]
  | cons t a ih => simp [leftK, ih]; omega
theorem leftN_take {t : Tick} {k : Nat} (h : k < t.length) : leftN (t.take (k + 1)) = leftN (t.take k) + leftO t[k] := by
  rw [List.take_succ_eq_append_getElem h, leftN_app]; rfl
theorem leftK_take {t : List Tick} {k : Nat} (h : k < t.length) : leftK (t.take (k + 1)) = leftK (t.take k) + leftN t[k] := by
  rw [List.take_succ_eq_append_getElem h, leftK_app]; simp [leftK]
theorem ticket_in {t : Tick} (h : ticketB t = true) {o : Int × Int} (ho : o ∈ t) : (0 ≤ o.1 ∧ o.1 ≤ 2) ∧ 0 ≤ o.2 ∧ o.2 ≤ 4 := by
  unfold ticketB at h
  simp only [Bool.and_eq_true] at h
  exact inB_true.1 (List.all_eq_true.1 h.2.1 o ho)
theorem leftO_le {o : Int × Int} (h : 0 ≤ o.2) : leftO o ≤ 3 := by unfold leftO; omega
theorem leftN_le : ∀ {t : Tick}, (∀ o ∈ t, 0 ≤ o.2) → leftN t ≤ 3 * t.length
  | [], _ => Nat.le_refl _
  | o :: t, h => by
    have h1 := leftO_le (h o (by simp))
    have h2 := leftN_le (t := t) fun x hx => h x (by simp [hx])
    simp only [leftN, List.length_cons]; omega
theorem ticket_left {t : Tick} (h : ticketB t = true) : leftN t ≤ 18 := by
  have h1 := leftN_le (t := t) (fun o ho => (ticket_in h ho).2.1)
  have := ticket_len h
  omega
theorem leftK_le : ∀ {ks : List Tick}, (∀ t ∈ ks, ticketB t = true) → leftK ks ≤ 18 * ks.length
  | [], _ => Nat.le_refl _
  | t :: ks, h => by
    have h1 := ticket_left (h t (by simp))
    have h2 := leftK_le (ks := ks) fun x hx => h x (by simp [hx])
    simp only [leftK, List.length_cons]; omega
theorem kit_left {ks : List Tick} (h : kitB ks = true) : leftK ks ≤ 72 := by
  have h1 := leftK_le (ks := ks) (fun t ht => kitB_at h ht)
  have := kitB_len h
  omega
theorem kit_left_take {ks : List Tick} (h : kitB ks = true) (k : Nat) : leftK (ks.take k) ≤ 72 := by
  have h1 := leftK_le (ks := ks.take k) (fun t ht => kitB_at h (List.mem_of_mem_take ht))
  have := kitB_len h
  have : (ks.take k).length ≤ ks.length := by simp; omega
  omega
theorem left_take {t : Tick} (h : ticketB t = true) (k : Nat) : leftN (t.take k) ≤ 18 := by
  have h1 := leftN_le (t := t.take k) (fun o ho => (ticket_in h (List.mem_of_mem_take ho)).2.1)
  have := ticket_len h
  have : (t.take k).length ≤ t.length := by simp; omega
  omega
def leftZ (ks : List Tick) : Int := if kitB ks = true then ((leftK ks : Nat) : Int) else -1
theorem specLeft_eq {ks : List Tick} (h : SmallK ks) : spec_WorkLeftS ks = some (leftZ ks) := by
  unfold spec_WorkLeftS leftZ
  rw [specKit_eq h, Option.bind_some]
  by_cases hk : kitB ks = true
  · have h4 := kitB_len hk
    rw [hk, if_neg (by simp), if_pos rfl]
    rw [loopDet (s := ((0 : Int), (0 : Int))) (fun k => (((leftK (ks.take k) : Nat) : Int), (k : Int))) ks.length ((leftK ks : Nat) : Int) (by simp [leftK])]
    · rfl
    · intro k hkk
      have ht := kitB_at hk (List.getElem_mem hkk)
      have hb := kit_left_take hk k
      have h6 := ticket_len ht
      (try dsimp only)
      rw [if_pos (lt_dec hkk)]
      rw [loopDet (s := (((leftK (ks.take k) : Nat) : Int), (0 : Int))) (fun j => (((leftK (ks.take k) + leftN (ks[k].take j) : Nat) : Int), (j : Int))) ks[k].length (((leftK (ks.take k) + leftN ks[k] : Nat)) : Int) (by simp [leftN])]
      · rw [Option.bind_some, wr_succ (n := ks.length) (by omega) hkk, leftK_take hkk]
      · intro j hj
        have hin := ticket_in ht (List.getElem_mem hj)
        have hb2 := left_take ht j
        (try dsimp only)
        rw [geti_lt' hkk, Option.bind_some, if_pos (lt_dec hj), Option.bind_some, geti_lt' hj, Option.bind_some, wr_succ (n := ks[k].length) (by omega) hj, leftN_take hj, wr (x := (3 : Int) - ks[k][j].2) ⟨by omega, by omega⟩]
        have e : (if (0 : Int) > 3 - ks[k][j].2 then 0 else 3 - ks[k][j].2) = ((leftO ks[k][j] : Nat) : Int) := by
          unfold leftO
          split <;> omega
        have hlo := leftO_le hin.2.1
        rw [e, wr (x := ((leftK (ks.take k) + leftN (ks[k].take j) : Nat) : Int) + ((leftO ks[k][j] : Nat) : Int)) ⟨by omega, by omega⟩]
        congr 3
        omega
      · (try dsimp only)
        rw [geti_lt' hkk, Option.bind_some, if_neg (by simp), List.take_length]
    · (try dsimp only)
      rw [if_neg (by simp), List.take_length]
  · rw [Bool.not_eq_true] at hk
    rw [hk]; rfl
theorem implLeft_eq {ks : List Tick} (h : SmallK ks) : impl_WorkLeftS ks = some (leftZ ks) := by
  unfold impl_WorkLeftS leftZ
  rw [implKit_eq h, Option.bind_some]
  by_cases hk : kitB ks = true
  · have h4 := kitB_len hk
    rw [hk, if_neg (by simp), if_pos rfl]
    rw [loopDet (s := ((0 : Int), (0 : Int))) (fun k => (((leftK (ks.take k) : Nat) : Int), (k : Int))) ks.length ((leftK ks : Nat) : Int) (by simp [leftK])]
    · rfl
    · intro k hkk
      have ht := kitB_at hk (List.getElem_mem hkk)
      have hb := kit_left_take hk k
      have h6 := ticket_len ht
      (try dsimp only)
      rw [if_pos (lt_dec hkk), geti_lt' hkk, Option.bind_some]
      rw [loopDet (s := (((leftK (ks.take k) : Nat) : Int), (0 : Int))) (fun j => (((leftK (ks.take k) + leftN (ks[k].take j) : Nat) : Int), (j : Int))) ks[k].length (((leftK (ks.take k) + leftN ks[k] : Nat)) : Int) (by simp [leftN])]
      · rw [Option.bind_some, wr_succ (n := ks.length) (by omega) hkk, leftK_take hkk]
      · intro j hj
        have hin := ticket_in ht (List.getElem_mem hj)
        have hb2 := left_take ht j
        have hlo := leftO_le hin.2.1
        (try dsimp only)
        unfold impl_finishedS
        rw [if_pos (lt_dec hj), geti_lt' hj, Option.bind_some, Option.bind_some, wr_succ (n := ks[k].length) (by omega) hj, leftN_take hj, wr (x := (3 : Int) - ks[k][j].2) ⟨by omega, by omega⟩]
        by_cases hf : ks[k][j].2 < 3
        · rw [if_pos (by simp; omega), wr (x := ((leftK (ks.take k) + leftN (ks[k].take j) : Nat) : Int) + (3 - ks[k][j].2)) ⟨by omega, by omega⟩]
          congr 3
          unfold leftO
          omega
        · rw [if_neg (by simp; omega)]
          congr 3
          unfold leftO
          omega
      · (try dsimp only)
        rw [if_neg (by simp), List.take_length]
    · (try dsimp only)
      rw [if_neg (by simp), List.take_length]
  · rw [Bool.not_eq_true] at hk
    rw [hk]; rfl
theorem houseB_kit {it : List HItem} {pr st : List Int} {cash : Int} {tb : List HTab} (h : houseB it pr st cash tb = true) : kitB (ticksOf tb) = true := by
  obtain ⟨h1, h2⟩ := houseB_tables h
  unfold kitB ticksOf
  rw [Bool.and_eq_true, List.length_map]
  refine ⟨decide_eq_true h1, List.all_eq_true.2 fun t ht => ?_⟩
  obtain ⟨x, hx, rfl⟩ := List.mem_map.1 ht
  exact (tableB_true.1 (h2 x hx)).2.1
/-! ### the deeds by which a house is closed -/
abbrev Deed4 := Int × Int × Int × Int
def endDeeds (tb : List HTab) : List Deed4 := List.replicate (leftK (ticksOf tb)) (4, 0, 0, 0) ++ List.replicate tb.length (5, 0, 0, 0)
def endZ (it : List HItem) (pr st : List Int) (cash : Int) (tb : List HTab) : List Deed4 := if houseB it pr st cash tb = true then endDeeds tb else []
theorem rep_succ {α : Type} (k : Nat) (x : α) : List.replicate (k + 1) x = List.replicate k x ++ [x] := by
  rw [List.replicate_succ']
theorem closeLoop (n : Nat) (hn : n ≤ 4) (L : List Deed4) (hL : L.length ≤ 1000) (s : List Deed4 × Int) (hs : s = (L, 0)) {step : List Deed4 × Int → Option ((List Deed4 × Int) ⊕ List Deed4)}
    (h1 : ∀ (k : Nat) (l : List Deed4), k < n → step (l, (k : Int)) = ((appO l [(5, 0, 0, 0)]).bind fun x => some (.inl (x, IntKind.wrap .i64 ((k : Int) + 1))))) (h2 : ∀ l : List Deed4, step (l, (n : Int)) = some (.inr l)) :
    loop (σ := List Deed4 × Int) (ρ := List Deed4) step s = some (L ++ List.replicate n (5, 0, 0, 0)) := by
  refine loopDet (fun k => (L ++ List.replicate k (5, 0, 0, 0), (k : Int))) n _ (by simp [hs]) (fun k hk => ?_) (h2 _)
  rw [h1 k _ hk, appO_le (by simp; omega), Option.bind_some, wr_succ (n := n) (by omega) hk, rep_succ, List.append_assoc]
theorem specEnd_eq {it : List HItem} {pr st : List Int} (cash : Int) {tb : List HTab} (h : HouseL it pr st tb) : spec_EndDeedsS it pr st cash tb = some (endZ it pr st cash tb) := by
  unfold spec_EndDeedsS endZ
  rw [specHouse_eq cash h, Option.bind_some]
  by_cases hv : houseB it pr st cash tb = true
  · have hk := houseB_kit hv
    have h72 := kit_left hk
    have h4 := (houseB_tables hv).1
    rw [hv, if_neg (by simp), if_pos rfl, specTicks_eq cash h.2.2.2, Option.bind_some, specLeft_eq h.2.2.2.ticks, Option.bind_some]
    unfold leftZ
    rw [if_pos hk]
    unfold endDeeds
    generalize leftK (ticksOf tb) = m at h72 ⊢
    rw [loopDet (s := (([] : List Deed4), (m : Int))) (fun k => (List.replicate k (4, 0, 0, 0), (m : Int) - k)) m (List.replicate m (4, 0, 0, 0)) (by simp)]
    · rw [Option.bind_some]
      (try dsimp only)
      rw [closeLoop tb.length h4 (List.replicate m (4, 0, 0, 0)) (by simp; omega) _ rfl]
      · rfl
      · intro k l hkk
        (try dsimp only)
        rw [if_pos (lt_dec hkk)]
      · intro l
        (try dsimp only)
        rw [if_neg (by simp)]
    · intro k hkk
      (try dsimp only)
      rw [if_pos (decide_eq_true (by omega)), appO_le (by simp; omega), Option.bind_some, wr (x := (m : Int) - k - 1) ⟨by omega, by omega⟩, rep_succ]
      congr 3
      omega
    · (try dsimp only)
      rw [if_neg (by simp)]
  · rw [Bool.not_eq_true] at hv
    rw [hv]; rfl
theorem implEnd_eq {it : List HItem} {pr st : List Int} (cash : Int) {tb : List HTab} (h : HouseL it pr st tb) : impl_EndDeedsS it pr st cash tb = some (endZ it pr st cash tb) := by
  unfold impl_EndDeedsS endZ
  rw [implHouse_eq cash h, Option.bind_some]
  by_cases hv : houseB it pr st cash tb = true
  · have hk := houseB_kit hv
    have h72 := kit_left hk
    have h4 := (houseB_tables hv).1
    rw [hv, if_neg (by simp), if_pos rfl, implTicks_eq cash h.2.2.2, Option.bind_some, implLeft_eq h.2.2.2.ticks, Option.bind_some]
    unfold leftZ
    rw [if_pos hk]
    unfold endDeeds
    generalize leftK (ticksOf tb) = m at h72 ⊢
    rw [loopDet (s := (([] : List Deed4), (0 : Int))) (fun k => (List.replicate k (4, 0, 0, 0), (k : Int))) m (List.replicate m (4, 0, 0, 0)) (by simp)]
    · rw [Option.bind_some]
      (try dsimp only)
      rw [closeLoop tb.length h4 (List.replicate m (4, 0, 0, 0)) (by simp; omega) _ rfl]
      · rfl
      · intro k l hkk
        (try dsimp only)
        rw [if_pos (lt_dec hkk)]
      · intro l
        (try dsimp only)
        rw [if_neg (by simp)]
    · intro k hkk
      (try dsimp only)
      rw [if_pos (lt_dec hkk), appO_le (by simp; omega), Option.bind_some, wr_succ (n := m) (by omega) hkk, rep_succ]
    · (try dsimp only)
      rw [if_neg (by simp)]
  · rw [Bool.not_eq_true] at hv
    rw [hv]; rfl
end Go.Proofs.YtpabogkcmbkffaaGreatDoor
