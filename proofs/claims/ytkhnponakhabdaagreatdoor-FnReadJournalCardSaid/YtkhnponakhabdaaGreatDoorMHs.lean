import Derived.Test.YtkhnponakhabdaaGreatDoorMPl
set_option linter.unusedVariables false
namespace Go.Proofs.YtkhnponakhabdaaGreatDoor
open Go Go.RowKit
abbrev HItem := Int × List (Int × Int) × Int
abbrev HTab := Int × List (Int × Int) × List Int
def prevOf (ps : List (Int × Int)) : Nat → Int
  | 0 => -1
  | k + 1 => match ps[k]? with | some x => x.1 | none => 0
theorem prevOf_succ {ps : List (Int × Int)} {k : Nat} (h : k < ps.length) : prevOf ps (k + 1) = ps[k].1 := by simp only [prevOf, List.getElem?_eq_getElem h]
def partP (ps : List (Int × Int)) (n : Nat) (k : Nat) (x : Int × Int) : Bool := decide (0 ≤ x.1 ∧ x.1 ≤ (n : Int) - 1) && (decide (1 ≤ x.2 ∧ x.2 ≤ 6) && (decide (k = 0) || decide (prevOf ps k < x.1)))
def partQ (ps : List (Int × Int)) (n : Nat) (k : Nat) (x : Int × Int) : Bool := decide (prevOf ps k < x.1 ∧ x.1 < n ∧ 1 ≤ x.2 ∧ x.2 ≤ 6)
theorem partQ_true {ps : List (Int × Int)} {n k : Nat} {x : Int × Int} : partQ ps n k x = true ↔ prevOf ps k < x.1 ∧ x.1 < n ∧ 1 ≤ x.2 ∧ x.2 ≤ 6 := decide_eq_true_iff
theorem partP_true {ps : List (Int × Int)} {n k : Nat} {x : Int × Int} : partP ps n k x = true ↔ (0 ≤ x.1 ∧ x.1 ≤ (n : Int) - 1) ∧ (1 ≤ x.2 ∧ x.2 ≤ 6) ∧ (k = 0 ∨ prevOf ps k < x.1) := by
  unfold partP; simp only [Bool.and_eq_true, Bool.or_eq_true, decide_eq_true_eq]
theorem parts_eq (ps : List (Int × Int)) (n : Nat) : allI ps (partQ ps n) = allI ps (partP ps n) := by
  rw [Bool.eq_iff_iff, allI_true, allI_true]
  constructor
  · intro h
    have h0 : ∀ k (hk : k < ps.length), 0 ≤ ps[k].1 := by
      intro k
      induction k with
      | zero =>
        intro hk
        have := (partQ_true.1 (h 0 hk)).1
        simp only [prevOf] at this; omega
      | succ k ih =>
        intro hk
        have := (partQ_true.1 (h (k + 1) hk)).1
        rw [prevOf_succ (show k < ps.length by omega)] at this
        have h2 := ih (by omega)
        omega
    intro k hk
    have h1 := partQ_true.1 (h k hk)
    have h2 := h0 k hk
    exact partP_true.2 ⟨⟨h2, by omega⟩, h1.2.2, .inr h1.1⟩
  · intro h k hk
    have h1 := partP_true.1 (h k hk)
    refine partQ_true.2 ⟨?_, by omega, h1.2.1⟩
    rcases h1.2.2 with h2 | h2
    · subst h2; show -1 < _; omega
    · exact h2
def itemB (it : HItem) (n : Nat) : Bool := (((decide (0 ≤ it.1 ∧ it.1 ≤ 6) && decide ((it.2.1.length : Int) ≤ 3)) && (decide (it.1 > 0) == decide ((it.2.1.length : Int) > 0))) && decide (0 ≤ it.2.2 ∧ it.2.2 ≤ 31)) && allI it.2.1 (partP it.2.1 n)
theorem specItem_eq (m : Int) (ps : List (Int × Int)) (g : Int) (n : Nat) (hn : n ≤ 4611686018427387904) (hl : ps.length ≤ 4611686018427387904) : spec_l1ItemS m ps g n = some (itemB (m, ps, g) n) := by
  unfold spec_l1ItemS
  rw [loopList ps (partP ps n)]
  · rw [Option.bind_some]
    by_cases ha : allI ps (partP ps n) = true
    · rw [if_pos ha]
      dsimp only
      rw [l1In_eq, Option.bind_some, l1In_eq]
      unfold itemB
      dsimp only
      rw [ha]
      generalize ((decide (0 ≤ m ∧ m ≤ 6) && decide ((ps.length : Int) ≤ 3)) && (decide (m > 0) == decide ((ps.length : Int) > 0))) = b
      cases b
      · rfl
      · simp
    · rw [if_neg ha]
      unfold itemB
      dsimp only
      rw [Bool.not_eq_true] at ha
      rw [ha, Bool.and_false]
  · intro k hk
    dsimp only
    rw [if_pos (lt_dec hk), geti_lt' hk]
    simp only [Option.bind_some, l1In_eq]
    rw [wr (x := (n : Int) - 1) ⟨by omega, by omega⟩, wr_succ hl hk]
    have hp : (if decide ((k : Int) > 0) = true then ((geti ps (IntKind.wrap .i64 ((k : Int) - 1))).bind fun x26 => some (decide (x26.1 ≥ ps[k].1))) else some false) = some (!(decide (k = 0) || decide (prevOf ps k < ps[k].1))) := by
      cases k with
      | zero => rfl
      | succ j =>
        rw [if_pos (decide_eq_true (by omega)), wr (x := ((j + 1 : Nat) : Int) - 1) ⟨by omega, by omega⟩, show ((j + 1 : Nat) : Int) - 1 = (j : Int) by omega, geti_lt' (show j < ps.length by omega), Option.bind_some, prevOf_succ (show j < ps.length by omega)]
        congr 1
        by_cases h : ps[j].1 < ps[j + 1].1
        · rw [decide_eq_true h, decide_eq_false (by omega)]; simp
        · rw [decide_eq_false h, decide_eq_true (by omega)]; simp
    rw [hp]
    unfold partP
    generalize (decide (k = 0) || decide (prevOf ps k < ps[k].1)) = b1
    generalize decide (1 ≤ ps[k].2 ∧ ps[k].2 ≤ 6) = b2
    generalize decide (0 ≤ ps[k].1 ∧ ps[k].1 ≤ (n : Int) - 1) = b3
    cases b1 <;> cases b2 <;> cases b3 <;> rfl
  · (try dsimp only); rw [if_neg (by simp)]
theorem implParts_eq (ps : List (Int × Int)) (n : Nat) (hl : ps.length ≤ 4611686018427387904) : impl_partsValidS ps n = some (decide (1 ≤ ps.length ∧ ps.length ≤ 3) && allI ps (partP ps n)) := by
  unfold impl_partsValidS
  by_cases h13 : 1 ≤ ps.length ∧ ps.length ≤ 3
  · rw [if_neg (by simp only [Bool.or_eq_true, decide_eq_true_eq]; omega), decide_eq_true h13]
    rw [loopListF (s := ((-1 : Int), (0 : Int))) (fun k => (prevOf ps k, (k : Int))) ps (partQ ps n) rfl]
    · rw [Option.bind_some, ← parts_eq]; cases allI ps (partQ ps n) <;> rfl
    · intro k hk
      (try dsimp only)
      rw [if_pos (lt_dec hk), geti_lt' hk, Option.bind_some, wr_succ hl hk, prevOf_succ hk]
      by_cases h : prevOf ps k < ps[k].1 ∧ ps[k].1 < n ∧ 1 ≤ ps[k].2 ∧ ps[k].2 ≤ 6
      · rw [if_neg (by simp only [Bool.or_eq_true, decide_eq_true_eq]; omega), if_pos (partQ_true.2 h)]
      · rw [if_pos (by simp only [Bool.or_eq_true, decide_eq_true_eq]; omega), if_neg (fun hq => h (partQ_true.1 hq))]
    · (try dsimp only); rw [if_neg (by simp)]
  · rw [if_pos (by simp only [Bool.or_eq_true, decide_eq_true_eq]; omega), decide_eq_false h13]; rfl
theorem implItem_eq (m : Int) (ps : List (Int × Int)) (g : Int) (n : Nat) (hl : ps.length ≤ 4611686018427387904) : impl_itemValidS m ps g n = some (itemB (m, ps, g) n) := by
  unfold impl_itemValidS itemB
  dsimp only
  by_cases hg : 0 ≤ g ∧ g ≤ 31
  · rw [if_neg (by simp only [Bool.or_eq_true, decide_eq_true_eq]; omega), decide_eq_true hg]
    by_cases hm : m = 0
    · subst hm
      rw [if_pos (show ((0 : Int) == 0) = true from rfl)]
      cases ps with
      | nil => rfl
      | cons x ps =>
        congr 1
        rw [show decide ((0 : Int) > 0) = false from rfl, decide_eq_true (show (((x :: ps).length : Nat) : Int) > 0 by simp)]
        simp
        omega
    · rw [if_neg (by simpa using hm)]
      by_cases h16 : 1 ≤ m ∧ m ≤ 6
      · rw [if_pos (by simp only [Bool.and_eq_true, decide_eq_true_eq]; omega), implParts_eq ps n hl, Option.bind_some, Option.bind_some, decide_eq_true (show 0 ≤ m ∧ m ≤ 6 by omega), decide_eq_true (show m > 0 by omega)]
        congr 2
        by_cases h : 1 ≤ ps.length ∧ ps.length ≤ 3
        · rw [decide_eq_true h, decide_eq_true (show (ps.length : Int) ≤ 3 by omega), decide_eq_true (show (ps.length : Int) > 0 by omega)]; rfl
        · rw [decide_eq_false h]
          by_cases h3 : (ps.length : Int) ≤ 3
          · rw [decide_eq_false (show ¬ ((ps.length : Int) > 0) by omega)]; simp
          · rw [decide_eq_false h3]; rfl
      · rw [if_neg (by simp only [Bool.and_eq_true, decide_eq_true_eq]; omega), decide_eq_false (show ¬ (0 ≤ m ∧ m ≤ 6) by omega)]; rfl
  · rw [if_pos (by simp only [Bool.or_eq_true, decide_eq_true_eq]; omega), decide_eq_false hg]; simp
def itemsB (xs : List HItem) : Bool := decide (xs.length ≤ 6) && allI xs (fun k it => itemB it k)
def ItemsL (xs : List HItem) : Prop := xs.length ≤ 1048576 ∧ ∀ x ∈ xs, x.2.1.length ≤ 1048576
theorem ItemsL.at {xs : List HItem} (h : ItemsL xs) {k : Nat} (hk : k < xs.length) : xs[k].2.1.length ≤ 4611686018427387904 := by have := h.2 _ (List.getElem_mem hk); omega
theorem specItems_eq {xs : List HItem} (h : ItemsL xs) : spec_ItemsValidS xs = some (itemsB xs) := by
  have hl := h.1
  unfold spec_ItemsValidS
  rw [loopList xs (fun k it => itemB it k)]
  · rw [Option.bind_some]
    unfold itemsB
    cases allI xs (fun k it => itemB it k)
    · simp
    · simp; omega
  · intro k hk
    dsimp only
    rw [if_pos (lt_dec hk), geti_lt' hk, Option.bind_some, specItem_eq _ _ _ k (by omega) (h.at hk), Option.bind_some, wr_succ (n := xs.length) (by omega) hk]
    show (if (!itemB xs[k] k) = true then _ else _) = _
    cases itemB xs[k] k <;> rfl
  · (try dsimp only); rw [if_neg (by simp)]
theorem implItems_eq {xs : List HItem} (h : ItemsL xs) : impl_ItemsValidS xs = some (itemsB xs) := by
  have hl := h.1
  unfold impl_ItemsValidS itemsB
  by_cases h6 : xs.length ≤ 6
  · rw [if_neg (by simp; omega), loopList xs (fun k it => itemB it k)]
    · rw [Option.bind_some, decide_eq_true h6]; cases allI xs (fun k it => itemB it k) <;> rfl
    · intro k hk
      (try dsimp only)
      rw [if_pos (lt_dec hk), geti_lt' hk, Option.bind_some, implItem_eq _ _ _ k (h.at hk), Option.bind_some, wr_succ (n := xs.length) (by omega) hk]
      show (if (!itemB xs[k] k) = true then _ else _) = _
      cases itemB xs[k] k <;> rfl
    · (try dsimp only); rw [if_neg (by simp)]
  · rw [if_pos (by simp; omega), decide_eq_false h6]; rfl
theorem itemsB_len {xs : List HItem} (h : itemsB xs = true) : xs.length ≤ 6 := by
  unfold itemsB at h; rw [Bool.and_eq_true] at h; exact of_decide_eq_true h.1
theorem itemsB_at {xs : List HItem} (h : itemsB xs = true) {k : Nat} (hk : k < xs.length) : itemB xs[k] k = true := by
  unfold itemsB at h; rw [Bool.and_eq_true] at h; exact allI_true.1 h.2 k hk
theorem itemsB_part {xs : List HItem} (h : itemsB xs = true) {k : Nat} (hk : k < xs.length) : ∀ x ∈ xs[k].2.1, 0 ≤ x.1 ∧ x.1 < k := by
  intro x hx
  have h1 := itemsB_at h hk
  unfold itemB at h1
  rw [Bool.and_eq_true] at h1
  obtain ⟨i, hi, rfl⟩ := List.mem_iff_getElem.1 hx
  have := (partP_true.1 (allI_true.1 h1.2 i hi)).1
  omega
theorem itemsB_marks {xs : List HItem} (h : itemsB xs = true) {k : Nat} (hk : k < xs.length) : 0 ≤ xs[k].2.2 ∧ xs[k].2.2 ≤ 31 := by
  have h1 := itemsB_at h hk
  unfold itemB at h1
  rw [Bool.and_eq_true, Bool.and_eq_true] at h1
  exact of_decide_eq_true h1.1.2
def rangeB (m : Int) (ps : List Int) : Bool := decide (∀ x ∈ ps, 0 ≤ x ∧ x ≤ m)
theorem allI_range (m : Int) (ps : List Int) : allI ps (fun _ x => decide (0 ≤ x ∧ x ≤ m)) = rangeB m ps := by
  rw [allI_all, Bool.eq_iff_iff, List.all_eq_true]
  unfold rangeB
  rw [decide_eq_true_eq]
  exact ⟨fun h x hx => of_decide_eq_true (h x hx), fun h x hx => decide_eq_true (h x hx)⟩
def amountsB (xs : List HItem) (m : Int) (ps : List Int) : Bool := rangeB m ps && ((ps.length : Int) == (xs.length : Int))
theorem implAmounts_eq (xs : List HItem) (m : Int) (ps : List Int) (hl : ps.length ≤ 4611686018427387904) : impl_amountsOkS ps (xs.length : Int) m = some (amountsB xs m ps) := by
  rw [amountsOk_eq _ _ _ hl]
  unfold amountsB rangeB
  congr 1
  rw [Bool.eq_iff_iff, Bool.and_eq_true, decide_eq_true_eq, decide_eq_true_eq, beq_iff_eq]
  exact ⟨fun h => ⟨h.2, h.1⟩, fun h => ⟨h.2, h.1⟩⟩
def pricesB (xs : List HItem) (ps : List Int) : Bool := itemsB xs && amountsB xs 20 ps
theorem implPrices_eq {xs : List HItem} (h : ItemsL xs) (ps : List Int) (hl : ps.length ≤ 4611686018427387904) : impl_PricesValidS xs ps = some (pricesB xs ps) := by
  unfold impl_PricesValidS pricesB
  rw [implItems_eq h, Option.bind_some, implAmounts_eq xs 20 ps hl]
  cases itemsB xs <;> rfl
theorem specPrices_eq {xs : List HItem} (h : ItemsL xs) (ps : List Int) (hl : ps.length ≤ 4611686018427387904) : spec_PricesValidS xs ps = some (pricesB xs ps) := by
  unfold spec_PricesValidS pricesB amountsB
  rw [loopList ps (fun _ x => decide (0 ≤ x ∧ x ≤ 20))]
  · rw [Option.bind_some, allI_range, specItems_eq h]
    cases rangeB 20 ps
    · simp
    · simp
  · intro k hk
    dsimp only
    rw [if_pos (lt_dec hk), geti_lt' hk, Option.bind_some, l1In_eq, Option.bind_some, wr_succ hl hk]
    cases decide (0 ≤ ps[k] ∧ ps[k] ≤ 20) <;> rfl
  · (try dsimp only); rw [if_neg (by simp)]
theorem specAmounts_eq (xs : List HItem) (ps : List Int) (hl : ps.length ≤ 4611686018427387904) : spec_l1AmountsS xs ps = some (amountsB xs 50 ps) := by
  unfold spec_l1AmountsS amountsB
  rw [loopList ps (fun _ x => decide (0 ≤ x ∧ x ≤ 50))]
  · rw [Option.bind_some, allI_range]
    cases rangeB 50 ps
    · simp
    · simp
  · intro k hk
    dsimp only
    rw [if_pos (lt_dec hk), geti_lt' hk, Option.bind_some, l1In_eq, Option.bind_some, wr_succ hl hk]
    cases decide (0 ≤ ps[k] ∧ ps[k] ≤ 50) <;> rfl
  · (try dsimp only); rw [if_neg (by simp)]
def inB (x : Int × Int) : Bool := decide (0 ≤ x.1 ∧ x.1 ≤ 2) && decide (0 ≤ x.2 ∧ x.2 ≤ 4)
def readyB (ps : List (Int × Int)) (c : Int) : Bool := ps.all (fun y => !(decide (y.1 < c) && decide (y.2 < 3)))
def rdyB (ps : List (Int × Int)) (x : Int × Int) : Bool := !decide (1 ≤ x.2 ∧ x.2 ≤ 3) || readyB ps x.1
def ticketB (ps : List (Int × Int)) : Bool := decide (ps.length ≤ 6) && (ps.all inB && ps.all (rdyB ps))
theorem specReady_eq (ps : List (Int × Int)) (c : Int) (hl : ps.length ≤ 4611686018427387904) : spec_l4ReadyS ps c = some (readyB ps c) := by
  unfold spec_l4ReadyS readyB
  rw [loopList ps (fun _ y => !(decide (y.1 < c) && decide (y.2 < 3)))]
  · rw [Option.bind_some, allI_all]
    generalize (ps.all fun y => !(decide (y.1 < c) && decide (y.2 < 3))) = b
    cases b <;> rfl
  · intro k hk
    dsimp only
    rw [if_pos (lt_dec hk), geti_lt' hk, Option.bind_some, Option.bind_some, wr_succ hl hk]
    cases decide (ps[k].1 < c) <;> cases decide (ps[k].2 < 3) <;> rfl
  · (try dsimp only); rw [if_neg (by simp)]
theorem specTicket_eq (ps : List (Int × Int)) (hl : ps.length ≤ 4611686018427387904) : spec_TicketValidS ps = some (ticketB ps) := by
  unfold spec_TicketValidS ticketB
  rw [loopList ps (fun _ x => inB x && rdyB ps x)]
  · rw [Option.bind_some, allI_and ps (fun _ x => inB x) (fun _ x => rdyB ps x), allI_all, allI_all]
    cases (ps.all inB && ps.all (rdyB ps))
    · simp
    · simp; omega
  · intro k hk
    dsimp only
    rw [if_pos (lt_dec hk), geti_lt' hk]
    simp only [Option.bind_some, l1In_eq, specReady_eq ps _ hl]
    rw [wr_succ hl hk]
    unfold inB rdyB
    generalize readyB ps ps[k].1 = b1
    generalize decide (1 ≤ ps[k].2 ∧ ps[k].2 ≤ 3) = b2
    generalize decide (0 ≤ ps[k].2 ∧ ps[k].2 ≤ 4) = b3
    generalize decide (0 ≤ ps[k].1 ∧ ps[k].1 ≤ 2) = b4
    cases b1 <;> cases b2 <;> cases b3 <;> cases b4 <;> rfl
  · (try dsimp only); rw [if_neg (by simp)]
def reachB (ps : List (Int × Int)) (c : Int) : Bool := ps.all (fun y => !(decide (y.1 < c) && !(y.2 == 3 || y.2 == 4)))
theorem implReached_eq (ps : List (Int × Int)) (c : Int) (hl : ps.length ≤ 4611686018427387904) : impl_reachedS ps c = some (reachB ps c) := by
  unfold impl_reachedS reachB
  rw [loopList ps (fun _ y => !(decide (y.1 < c) && !(y.2 == 3 || y.2 == 4)))]
  · rw [Option.bind_some, allI_all]
    generalize (ps.all fun y => !(decide (y.1 < c) && !(y.2 == 3 || y.2 == 4))) = b
    cases b <;> rfl
  · intro k hk
    dsimp only
    rw [if_pos (lt_dec hk), geti_lt' hk, Option.bind_some, wr_succ hl hk]
    unfold impl_finishedS
    rw [Option.bind_some]
    generalize (ps[k].2 == 3 || ps[k].2 == 4) = b1
    generalize decide (ps[k].1 < c) = b2
    cases b1 <;> cases b2 <;> rfl
  · (try dsimp only); rw [if_neg (by simp)]
theorem inB_true {x : Int × Int} : inB x = true ↔ (0 ≤ x.1 ∧ x.1 ≤ 2) ∧ 0 ≤ x.2 ∧ x.2 ≤ 4 := by unfold inB; rw [Bool.and_eq_true, decide_eq_true_eq, decide_eq_true_eq]
theorem reach_ready {ps : List (Int × Int)} (h : ps.all inB = true) (c : Int) : reachB ps c = readyB ps c := by
  unfold reachB readyB
  rw [Bool.eq_iff_iff, List.all_eq_true, List.all_eq_true]
  have key : ∀ y ∈ ps, (!(y.2 == 3 || y.2 == 4)) = decide (y.2 < 3) := by
    intro y hy
    have h1 := inB_true.1 (List.all_eq_true.1 h y hy)
    rw [Bool.eq_iff_iff, Bool.not_eq_true', decide_eq_true_eq, Bool.or_eq_false_iff, beq_eq_false_iff_ne, beq_eq_false_iff_ne]
    omega
  constructor
  · intro hh y hy; rw [← key y hy]; exact hh y hy
  · intro hh y hy; rw [key y hy]; exact hh y hy
theorem implTicket_eq (ps : List (Int × Int)) (hl : ps.length ≤ 4611686018427387904) : impl_TicketValidS ps = some (ticketB ps) := by
  unfold impl_TicketValidS ticketB
  by_cases h6 : ps.length ≤ 6
  · rw [if_neg (by simp; omega), loopList ps (fun _ x => inB x)]
    · rw [Option.bind_some, allI_all, decide_eq_true h6]
      by_cases ha : ps.all inB = true
      · rw [if_pos ha]
        dsimp only
        rw [loopList ps (fun _ x => rdyB ps x)]
        · rw [Option.bind_some, allI_all, ha]; cases ps.all (rdyB ps) <;> rfl
        · intro k hk
          (try dsimp only)
          rw [if_pos (lt_dec hk), geti_lt' hk, Option.bind_some, implReached_eq ps _ hl, Option.bind_some, wr_succ hl hk, reach_ready ha]
          have h1 := inB_true.1 (List.all_eq_true.1 ha _ (List.getElem_mem hk))
          have h2 : (ps[k].2 != 0 && ps[k].2 != 4) = decide (1 ≤ ps[k].2 ∧ ps[k].2 ≤ 3) := by
            rw [Bool.eq_iff_iff, Bool.and_eq_true, bne_iff_ne, bne_iff_ne, decide_eq_true_eq]; omega
          rw [h2]
          unfold rdyB
          generalize readyB ps ps[k].1 = b1
          generalize decide (1 ≤ ps[k].2 ∧ ps[k].2 ≤ 3) = b2
          cases b1 <;> cases b2 <;> rfl
        · (try dsimp only); rw [if_neg (by simp)]
      · rw [if_neg ha]
        rw [Bool.not_eq_true] at ha
        rw [ha]; rfl
    · intro k hk
      (try dsimp only)
      rw [if_pos (lt_dec hk), geti_lt' hk, Option.bind_some, wr_succ hl hk]
      by_cases h : (0 ≤ ps[k].1 ∧ ps[k].1 ≤ 2) ∧ 0 ≤ ps[k].2 ∧ ps[k].2 ≤ 4
      · rw [if_neg (by simp only [Bool.or_eq_true, decide_eq_true_eq]; omega), if_pos (inB_true.2 h)]
      · rw [if_pos (by simp only [Bool.or_eq_true, decide_eq_true_eq]; omega), if_neg (fun hq => h (inB_true.1 hq))]
    · (try dsimp only); rw [if_neg (by simp)]
  · rw [if_pos (by simp; omega), decide_eq_false h6]; rfl
end Go.Proofs.YtkhnponakhabdaaGreatDoor
set_option linter.unusedVariables false
namespace Go.Proofs.YtkhnponakhabdaaGreatDoor
open Go Go.RowKit
def partsOr (u : Nat) (ps : List (Int × Int)) : Nat := ps.foldl (fun u p => u ||| 2 ^ p.1.toNat) u
theorem partsOr_take {u : Nat} {ps : List (Int × Int)} {k : Nat} (h : k < ps.length) : partsOr u (ps.take (k + 1)) = partsOr u (ps.take k) ||| 2 ^ ps[k].1.toNat := by
  unfold partsOr; rw [List.take_succ_eq_append_getElem h, List.foldl_append]; rfl
theorem partsOr_lt {n : Nat} : ∀ {ps : List (Int × Int)} {u : Nat}, (∀ x ∈ ps, 0 ≤ x.1 ∧ x.1 < n) → u < 2 ^ n → partsOr u ps < 2 ^ n
  | [], u, _, hu => hu
  | p :: ps, u, h, hu => by
    have hp := h p (by simp)
    refine partsOr_lt (ps := ps) (fun x hx => h x (by simp [hx])) (Nat.or_lt_two_pow hu (Nat.pow_lt_pow_right (by omega) (by omega)))
theorem partsOr_bit {n : Nat} : ∀ {ps : List (Int × Int)} {u : Nat}, (∀ x ∈ ps, 0 ≤ x.1 ∧ x.1 < n) → (partsOr u ps).testBit n = u.testBit n
  | [], u, _ => rfl
  | p :: ps, u, h => by
    have hp := h p (by simp)
    refine (partsOr_bit (ps := ps) (u := u ||| 2 ^ p.1.toNat) (fun x hx => h x (by simp [hx]))).trans ?_
    rw [Nat.testBit_or, Nat.testBit_two_pow_of_ne (by omega), Bool.or_false]
def partsAt (xs : List HItem) (i : Nat) : List (Int × Int) := match xs[i]? with | some it => it.2.1 | none => []
theorem partsAt_lt {xs : List HItem} {i : Nat} (h : i < xs.length) : partsAt xs i = xs[i].2.1 := by unfold partsAt; rw [List.getElem?_eq_getElem h]
def U (xs : List HItem) (p : Nat) : Nat → Nat
  | 0 => 2 ^ p
  | j + 1 => if (U xs p j).testBit (p - j) then partsOr (U xs p j) (partsAt xs (p - j)) else U xs p j
theorem parts_bound {xs : List HItem} (h : itemsB xs = true) {p i : Nat} (hi : i ≤ p) (hp : p < xs.length) : ∀ x ∈ partsAt xs i, 0 ≤ x.1 ∧ x.1 < (i : Int) := by
  rw [partsAt_lt (show i < xs.length by omega)]
  exact itemsB_part h _
theorem U_lt {xs : List HItem} (h : itemsB xs = true) {p : Nat} (hp : p < xs.length) : ∀ j, U xs p j < 2 ^ (p + 1)
  | 0 => Nat.pow_lt_pow_right (by omega) (by omega)
  | j + 1 => by
    have ih := U_lt h hp j
    unfold U
    split
    · refine partsOr_lt (fun x hx => ?_) ih
      have := parts_bound h (show p - j ≤ p by omega) hp x hx
      omega
    · exact ih
theorem p7 {xs : List HItem} (h : itemsB xs = true) {p : Nat} (hp : p < xs.length) : 2 ^ (p + 1) ≤ 64 := by
  have := itemsB_len h
  exact Nat.pow_le_pow_right (n := 2) (i := p + 1) (j := 6) (by omega) (by omega)
def usesZ (xs : List HItem) (p : Int) : Int := if itemsB xs = true ∧ 0 ≤ p ∧ p < xs.length then ((U xs p.toNat (p.toNat + 1) : Nat) : Int) else -1
theorem pow_small {i : Nat} (h : i ≤ 61) : 2 ^ i < 9223372036854775808 := by have := pow61 h; omega
theorem U_step {xs : List HItem} {p j : Nat} : U xs p (j + 1) = if (U xs p j).testBit (p - j) then partsOr (U xs p j) (partsAt xs (p - j)) else U xs p j := rfl
theorem implUses_eq {xs : List HItem} (h : ItemsL xs) (p : Int) : impl_UsesOfS xs p = some (usesZ xs p) := by
  unfold impl_UsesOfS usesZ
  rw [implItems_eq h, Option.bind_some]
  by_cases hv : itemsB xs = true ∧ 0 ≤ p ∧ p < xs.length
  · obtain ⟨hI, h0, hp⟩ := hv
    obtain ⟨q, rfl⟩ : ∃ q : Nat, p = q := ⟨p.toNat, by omega⟩
    have hq : q < xs.length := by omega
    have h6 := itemsB_len hI
    have h64 := p7 hI hq
    rw [hI, if_neg (by simp; omega), if_pos ⟨rfl, h0, hp⟩, ishlO_nat (by omega), Option.bind_some]
    rw [loopDet (fun j => (((U xs q j : Nat) : Int), (q : Int) - j)) (q + 1) ((U xs q (q + 1) : Nat) : Int)]
    · rfl
    · simp [U]
    · intro j hj
      have hu := U_lt hI hq j
      (try dsimp only)
      rw [show (q : Int) - (j : Int) = ((q - j : Nat) : Int) by omega, if_pos (decide_eq_true (by omega)), ishlO_nat (by omega), Option.bind_some, iand_nat (by omega) (pow_small (by omega)), and_pow_eq]
      rw [U_step, wr (x := ((q - j : Nat) : Int) - 1) ⟨by omega, by omega⟩, show ((q - j : Nat) : Int) - 1 = (q : Int) - ((j + 1 : Nat) : Int) by omega]
      cases hb : (U xs q j).testBit (q - j)
      · rfl
      · rw [if_neg (by simp), geti_lt' (show q - j < xs.length by omega), Option.bind_some]
        have hps := parts_bound hI (show q - j ≤ q by omega) hq
        rw [partsAt_lt (show q - j < xs.length by omega)] at hps ⊢
        have hl := h.at (show q - j < xs.length by omega)
        revert hps hl
        generalize xs[q - j].2.1 = ps
        intro hps hl
        rw [loopDet (fun k => (((partsOr (U xs q j) (ps.take k) : Nat) : Int), (k : Int))) ps.length ((partsOr (U xs q j) ps : Nat) : Int)]
        · rfl
        · simp [partsOr]
        · intro k hk
          have hx := hps _ (List.getElem_mem hk)
          have hlt : partsOr (U xs q j) (ps.take k) < 2 ^ (q + 1) := partsOr_lt (fun x hx => by have := hps x (List.mem_of_mem_take hx); omega) hu
          (try dsimp only)
          rw [if_pos (lt_dec hk), geti_lt' hk, Option.bind_some, show ps[k].1 = ((ps[k].1.toNat : Nat) : Int) by omega, ishlO_nat (by omega), Option.bind_some, ior_nat (by omega) (pow_small (by omega)), wr_succ hl hk, partsOr_take hk]
        · (try dsimp only)
          rw [if_neg (by simp), List.take_length]
    · (try dsimp only)
      rw [if_neg (by simp; omega)]
  · rw [if_neg hv, if_pos]
    simp only [Bool.or_eq_true, Bool.not_eq_true', decide_eq_true_eq]
    by_cases hI : itemsB xs = true
    · by_cases h0 : p < 0
      · exact .inl (.inr h0)
      · exact .inr (by have : ¬ p < xs.length := fun hp => hv ⟨hI, by omega, hp⟩
                       omega)
    · exact .inl (.inl (by simpa using hI))
theorem specUses_eq {xs : List HItem} (h : ItemsL xs) (p : Int) : spec_UsesOfS xs p = some (usesZ xs p) := by
  unfold spec_UsesOfS usesZ
  rw [specItems_eq h, Option.bind_some]
  have hlen := h.1
  rw [wr (x := (xs.length : Int) - 1) ⟨by omega, by omega⟩, l1In_eq, Option.bind_some]
  by_cases hv : itemsB xs = true ∧ 0 ≤ p ∧ p < xs.length
  · obtain ⟨hI, h0, hp⟩ := hv
    obtain ⟨q, rfl⟩ : ∃ q : Nat, p = q := ⟨p.toNat, by omega⟩
    have hq : q < xs.length := by omega
    have h6 := itemsB_len hI
    have h64 := p7 hI hq
    rw [hI, if_neg (by simp), Option.bind_some, decide_eq_true (show 0 ≤ (q : Int) ∧ (q : Int) ≤ (xs.length : Int) - 1 by omega), if_neg (by simp), if_pos ⟨rfl, h0, hp⟩, ishlO_nat (by omega), Option.bind_some]
    rw [loopDet (fun j => (((U xs q j : Nat) : Int), (q : Int) - j)) (q + 1) ((U xs q (q + 1) : Nat) : Int)]
    · rfl
    · simp [U]
    · intro j hj
      have hu := U_lt hI hq j
      (try dsimp only)
      rw [show (q : Int) - (j : Int) = ((q - j : Nat) : Int) by omega, if_pos (decide_eq_true (by omega))]
      have hps := parts_bound hI (show q - j ≤ q by omega) hq
      rw [U_step, wr (x := ((q - j : Nat) : Int) - 1) ⟨by omega, by omega⟩, show ((q - j : Nat) : Int) - 1 = (q : Int) - ((j + 1 : Nat) : Int) by omega]
      rw [geti_lt' (show q - j < xs.length by omega)]
      rw [partsAt_lt (show q - j < xs.length by omega)] at hps ⊢
      have hl := h.at (show q - j < xs.length by omega)
      simp only [Option.bind_some]
      revert hps hl
      generalize xs[q - j].2.1 = ps
      intro hps hl
      cases hb : (U xs q j).testBit (q - j)
      · rw [loopDet (fun k => (((U xs q j : Nat) : Int), (k : Int))) 0 ((U xs q j : Nat) : Int)]
        · rfl
        · rfl
        · intro k hk; omega
        · (try dsimp only)
          rw [ishrO_nat (by omega), Option.bind_some, shr_bit, hb]
          cases decide (((0 : Nat) : Int) < (ps.length : Int)) <;> rfl
      · rw [loopDet (fun k => (((partsOr (U xs q j) (ps.take k) : Nat) : Int), (k : Int))) ps.length ((partsOr (U xs q j) ps : Nat) : Int)]
        · rfl
        · simp [partsOr]
        · intro k hk
          have hx := hps _ (List.getElem_mem hk)
          have hpt : ∀ x ∈ ps.take k, 0 ≤ x.1 ∧ x.1 < ((q - j : Nat) : Int) := fun x hx => hps x (List.mem_of_mem_take hx)
          have hlt : partsOr (U xs q j) (ps.take k) < 2 ^ (q + 1) := partsOr_lt (fun x hx => by have := hpt x hx; omega) hu
          (try dsimp only)
          have hpw : 2 ^ ps[k].1.toNat < 2305843009213693952 := Nat.lt_of_lt_of_le (Nat.pow_lt_pow_right (by omega) (show ps[k].1.toNat < 6 by omega)) (by decide)
          rw [if_pos (lt_dec hk), ishrO_nat (by omega), Option.bind_some, shr_bit, partsOr_bit hpt, hb, Option.bind_some, if_pos rfl, geti_lt' hk, Option.bind_some, show ps[k].1 = ((ps[k].1.toNat : Nat) : Int) by omega, ishlO_nat (by omega), Option.bind_some, l1Join_eq (by omega) hpw, Option.bind_some, wr_succ hl hk, partsOr_take hk]
        · (try dsimp only)
          rw [if_neg (by simp)]
          rw [Option.bind_some, if_neg (by simp), List.take_length]
    · (try dsimp only)
      rw [if_neg (by simp; omega)]
  · rw [if_neg hv]
    by_cases hI : itemsB xs = true
    · rw [hI, if_neg (by simp), Option.bind_some, decide_eq_false (show ¬ (0 ≤ p ∧ p ≤ (xs.length : Int) - 1) from fun hp => hv ⟨hI, hp.1, by omega⟩)]; rfl
    · rw [Bool.not_eq_true] at hI
      rw [hI]; rfl
def marksAt (xs : List HItem) (i : Nat) : Nat := match xs[i]? with | some it => it.2.2.toNat | none => 0
theorem marksAt_lt {xs : List HItem} {i : Nat} (h : i < xs.length) : marksAt xs i = xs[i].2.2.toNat := by unfold marksAt; rw [List.getElem?_eq_getElem h]
def MA (xs : List HItem) (u : Nat) : Nat → Nat
  | 0 => 0
  | k + 1 => if u.testBit k then MA xs u k ||| marksAt xs k else MA xs u k
theorem marksAt_32 {xs : List HItem} (h : itemsB xs = true) (i : Nat) : marksAt xs i < 2 ^ 5 := by
  rcases Nat.lt_or_ge i xs.length with hi | hi
  · rw [marksAt_lt hi]
    have := itemsB_marks h hi
    omega
  · unfold marksAt; rw [List.getElem?_eq_none hi]; decide
theorem MA_lt {xs : List HItem} (h : itemsB xs = true) (u : Nat) : ∀ k, MA xs u k < 2 ^ 5
  | 0 => by show 0 < 2 ^ 5; decide
  | k + 1 => by
    unfold MA
    split
    · exact Nat.or_lt_two_pow (MA_lt h u k) (marksAt_32 h k)
    · exact MA_lt h u k
theorem MA_stable {xs : List HItem} {u n : Nat} (hu : u < 2 ^ n) : ∀ d, MA xs u (n + d) = MA xs u n
  | 0 => rfl
  | d + 1 => by
    show (if u.testBit (n + d) then _ else _) = _
    rw [Nat.testBit_lt_two_pow (Nat.lt_of_lt_of_le hu (Nat.pow_le_pow_right (by omega) (by omega)))]
    exact MA_stable hu d
def marksN (xs : List HItem) (p : Nat) : Nat := MA xs (U xs p (p + 1)) xs.length
theorem marksN_lt {xs : List HItem} (h : itemsB xs = true) (p : Nat) : marksN xs p < 32 := MA_lt h _ _
def marksZ (xs : List HItem) (p : Int) : Int := if itemsB xs = true ∧ 0 ≤ p ∧ p < xs.length then ((marksN xs p.toNat : Nat) : Int) else -1
theorem MA_step {xs : List HItem} {u k : Nat} : MA xs u (k + 1) = if u.testBit k then MA xs u k ||| marksAt xs k else MA xs u k := rfl
theorem implMarks_eq {xs : List HItem} (h : ItemsL xs) (p : Int) : impl_MarksOfS xs p = some (marksZ xs p) := by
  unfold impl_MarksOfS marksZ
  rw [implUses_eq h, Option.bind_some]
  unfold usesZ
  by_cases hv : itemsB xs = true ∧ 0 ≤ p ∧ p < xs.length
  · obtain ⟨hI, h0, hp⟩ := hv
    obtain ⟨q, rfl⟩ : ∃ q : Nat, p = q := ⟨p.toNat, by omega⟩
    have hq : q < xs.length := by omega
    have h6 := itemsB_len hI
    have h64 := p7 hI hq
    have hu := U_lt hI hq (q + 1)
    simp only [if_pos (show itemsB xs = true ∧ (0 : Int) ≤ (q : Int) ∧ (q : Int) < (xs.length : Int) from ⟨hI, h0, hp⟩)]
    rw [show ((q : Nat) : Int).toNat = q by omega]
    unfold marksN
    generalize U xs q (q + 1) = u at hu ⊢
    rw [if_neg (by simp), loopDet (s := ((0 : Int), (0 : Int))) (fun k => (((MA xs u k : Nat) : Int), (k : Int))) xs.length ((MA xs u xs.length : Nat) : Int) rfl]
    · rfl
    · intro k hk
      have hm := itemsB_marks hI hk
      have hM := MA_lt hI u k
      (try dsimp only)
      rw [if_pos (lt_dec hk), geti_lt' hk, Option.bind_some, ishlO_nat (by omega), Option.bind_some, iand_nat (by omega) (pow_small (by omega)), and_pow_ne, wr_succ (n := xs.length) (by omega) hk, MA_step, marksAt_lt hk]
      cases u.testBit k
      · rfl
      · rw [if_pos rfl, if_pos rfl]
        have e : ior .i64 ((MA xs u k : Nat) : Int) xs[k].2.2 = ((MA xs u k ||| xs[k].2.2.toNat : Nat) : Int) := by
          obtain ⟨m, e1⟩ : ∃ m : Nat, xs[k].2.2 = (m : Int) := ⟨xs[k].2.2.toNat, by omega⟩
          rw [e1, ior_nat (by omega) (by omega)]; rfl
        rw [e]
    · (try dsimp only)
      rw [if_neg (by simp)]
  · simp only [if_neg hv]; rfl
theorem specMarks_eq {xs : List HItem} (h : ItemsL xs) (p : Int) : spec_MarksOfS xs p = some (marksZ xs p) := by
  unfold spec_MarksOfS marksZ
  rw [specUses_eq h, Option.bind_some]
  unfold usesZ
  by_cases hv : itemsB xs = true ∧ 0 ≤ p ∧ p < xs.length
  · obtain ⟨hI, h0, hp⟩ := hv
    obtain ⟨q, rfl⟩ : ∃ q : Nat, p = q := ⟨p.toNat, by omega⟩
    have hq : q < xs.length := by omega
    have h6 := itemsB_len hI
    have h64 := p7 hI hq
    have hu := U_lt hI hq (q + 1)
    simp only [if_pos (show itemsB xs = true ∧ (0 : Int) ≤ (q : Int) ∧ (q : Int) < (xs.length : Int) from ⟨hI, h0, hp⟩)]
    rw [show ((q : Nat) : Int).toNat = q by omega]
    unfold marksN
    generalize U xs q (q + 1) = u at hu ⊢
    have hst : MA xs u xs.length = MA xs u (q + 1) := by
      have := MA_stable (xs := xs) hu (xs.length - (q + 1))
      rwa [show q + 1 + (xs.length - (q + 1)) = xs.length by omega] at this
    rw [if_neg (by simp), hst, loopDet (s := ((0 : Int), (0 : Int))) (fun k => (((MA xs u k : Nat) : Int), (k : Int))) (q + 1) ((MA xs u (q + 1) : Nat) : Int) rfl]
    · rfl
    · intro k hk
      have hkl : k < xs.length := by omega
      have hm := itemsB_marks hI hkl
      have hM := MA_lt hI u k
      (try dsimp only)
      rw [if_pos (decide_eq_true (by omega)), ishrO_nat (by omega), Option.bind_some, shr_bit, wr_succ (n := xs.length) (by omega) hkl, MA_step, marksAt_lt hkl]
      cases u.testBit k
      · rfl
      · rw [if_pos rfl, if_pos rfl, geti_lt' hkl, Option.bind_some]
        have e : spec_l1JoinS ((MA xs u k : Nat) : Int) xs[k].2.2 = some ((MA xs u k ||| xs[k].2.2.toNat : Nat) : Int) := by
          obtain ⟨m, e1⟩ : ∃ m : Nat, xs[k].2.2 = (m : Int) := ⟨xs[k].2.2.toNat, by omega⟩
          rw [e1, l1Join_eq (by omega) (by omega)]; rfl
        rw [e]; rfl
    · (try dsimp only)
      rw [if_neg (by simp; omega)]
  · simp only [if_neg hv]; rfl
theorem marksZ_at {xs : List HItem} (hI : itemsB xs = true) {k : Nat} (hk : k < xs.length) : marksZ xs (k : Int) = ((marksN xs k : Nat) : Int) := by
  unfold marksZ; rw [if_pos ⟨hI, by omega, by omega⟩]; rfl
def minsAt (xs : List HItem) (i : Nat) : Int := match xs[i]? with | some it => it.1 | none => 0
theorem minsAt_lt {xs : List HItem} {i : Nat} (h : i < xs.length) : minsAt xs i = xs[i].1 := by unfold minsAt; rw [List.getElem?_eq_getElem h]
def isFree (xs : List HItem) (a k : Nat) : Bool := decide (minsAt xs k > 0) && ((((marksN xs k &&& a : Nat) : Int)) == 0)
def freeTo (xs : List HItem) (a : Nat) : Nat → List Int
  | 0 => []
  | k + 1 => freeTo xs a k ++ (if isFree xs a k then [(k : Int)] else [])
theorem freeTo_len (xs : List HItem) (a : Nat) : ∀ k, (freeTo xs a k).length ≤ k
  | 0 => Nat.le_refl _
  | k + 1 => by
    have := freeTo_len xs a k
    unfold freeTo
    split <;> simp <;> omega
theorem mem_freeTo {xs : List HItem} {a : Nat} {v : Int} : ∀ {n : Nat}, v ∈ freeTo xs a n ↔ ∃ k : Nat, k < n ∧ v = (k : Int) ∧ isFree xs a k = true
  | 0 => by simp [freeTo]
  | n + 1 => by
    unfold freeTo
    rw [List.mem_append, mem_freeTo]
    constructor
    · rintro (⟨k, h1, h2, h3⟩ | h)
      · exact ⟨k, by omega, h2, h3⟩
      · split at h
        · rename_i hf
          exact ⟨n, by omega, by simpa using h, hf⟩
        · cases h
    · rintro ⟨k, h1, h2, h3⟩
      rcases Nat.lt_or_ge k n with hk | hk
      · exact .inl ⟨k, hk, h2, h3⟩
      · have : k = n := by omega
        subst this
        right; rw [if_pos h3]; simp [h2]
def free (xs : List HItem) (a : Int) : List Int := if itemsB xs = true ∧ 0 ≤ a ∧ a ≤ 31 then freeTo xs a.toNat xs.length else []
theorem implFree_eq {xs : List HItem} (h : ItemsL xs) (a : Int) : impl_FreeOfS xs a = some (free xs a) := by
  unfold impl_FreeOfS free
  rw [implItems_eq h, Option.bind_some]
  by_cases hv : itemsB xs = true ∧ 0 ≤ a ∧ a ≤ 31
  · obtain ⟨hI, h0, ha⟩ := hv
    have h6 := itemsB_len hI
    obtain ⟨b, rfl⟩ : ∃ b : Nat, a = b := ⟨a.toNat, by omega⟩
    rw [hI, if_neg (by simp; omega), if_pos ⟨rfl, h0, ha⟩, loopDet (s := (([] : List Int), (0 : Int))) (fun k => (freeTo xs b k, (k : Int))) xs.length (freeTo xs b xs.length) rfl]
    · rfl
    · intro k hk
      have hlen := freeTo_len xs b k
      have hM := marksN_lt hI k
      (try dsimp only)
      rw [if_pos (lt_dec hk), geti_lt' hk, Option.bind_some, implMarks_eq h, Option.bind_some, wr_succ (n := xs.length) (by omega) hk]
      rw [marksZ_at hI hk, iand_nat (by omega) (by omega)]
      rw [show freeTo xs b (k + 1) = freeTo xs b k ++ (if isFree xs b k then [(k : Int)] else []) from rfl]
      unfold isFree
      rw [minsAt_lt hk]
      cases decide (xs[k].1 > 0)
      · simp
      · rw [if_pos rfl, Option.bind_some, Bool.true_and]
        cases (((marksN xs k &&& b : Nat) : Int) == 0)
        · simp
        · rw [if_pos rfl, appO_le (by simp; omega), Option.bind_some, if_pos rfl]
    · (try dsimp only)
      rw [if_neg (by simp)]
  · rw [if_neg hv, if_pos]
    simp only [Bool.or_eq_true, Bool.not_eq_true', decide_eq_true_eq]
    by_cases hI : itemsB xs = true
    · by_cases h0 : a < 0
      · exact .inl (.inr h0)
      · exact .inr (by have : ¬ a ≤ 31 := fun hp => hv ⟨hI, by omega, hp⟩
                       omega)
    · exact .inl (.inl (by simpa using hI))
theorem specFree_eq {xs : List HItem} (h : ItemsL xs) (a : Int) : spec_FreeOfS xs a = some (free xs a) := by
  have hlen := h.1
  unfold spec_FreeOfS free
  by_cases hv : itemsB xs = true ∧ 0 ≤ a ∧ a ≤ 31
  · obtain ⟨hI, h0, ha⟩ := hv
    have h6 := itemsB_len hI
    obtain ⟨b, rfl⟩ : ∃ b : Nat, a = b := ⟨a.toNat, by omega⟩
    rw [if_pos ⟨hI, h0, ha⟩, loopDet (s := (([] : List Int), (0 : Int))) (fun k => (freeTo xs b k, (k : Int))) xs.length (freeTo xs b xs.length) rfl]
    · rfl
    · intro k hk
      have hlen := freeTo_len xs b k
      have hM := marksN_lt hI k
      (try dsimp only)
      rw [if_pos (lt_dec hk), specItems_eq h, Option.bind_some, hI, Option.bind_some, if_pos rfl, l1In_eq, Option.bind_some, decide_eq_true (show 0 ≤ (b : Int) ∧ (b : Int) ≤ 31 by omega), Option.bind_some, if_pos rfl]
      rw [geti_lt' hk, Option.bind_some, specMarks_eq h, Option.bind_some, wr_succ (n := xs.length) (by omega) hk]
      rw [marksZ_at hI hk, l1Meet_eq (by omega) (by omega), Option.bind_some]
      rw [show freeTo xs b (k + 1) = freeTo xs b k ++ (if isFree xs b k then [(k : Int)] else []) from rfl]
      unfold isFree
      rw [minsAt_lt hk]
      cases decide (xs[k].1 > 0)
      · simp
      · rw [if_pos rfl, Option.bind_some, Bool.true_and]
        cases (((marksN xs k &&& b : Nat) : Int) == 0)
        · simp
        · rw [if_pos rfl, appO_le (by simp; omega), Option.bind_some, if_pos rfl]
    · (try dsimp only)
      rw [if_neg (by simp)]
      rfl
  · rw [if_neg hv, loopDet (s := (([] : List Int), (0 : Int))) (fun k => (([] : List Int), (k : Int))) 0 [] rfl]
    · rfl
    · intro k hk; omega
    · (try dsimp only)
      rw [specItems_eq h, l1In_eq]
      cases decide (((0 : Nat) : Int) < (xs.length : Int))
      · rfl
      · rw [if_pos rfl, Option.bind_some, Option.bind_some]
        by_cases hI : itemsB xs = true
        · rw [hI, if_pos rfl, decide_eq_false (show ¬ (0 ≤ a ∧ a ≤ 31) from fun hp => hv ⟨hI, hp.1, hp.2⟩)]; rfl
        · rw [Bool.not_eq_true] at hI
          rw [hI]; rfl
theorem specHas_eq (xs : List Int) (v : Int) (hl : xs.length ≤ 4611686018427387904) : spec_l1HasS xs v = some (decide (v ∈ xs)) := by
  unfold spec_l1HasS
  refine Ret.eq (Ret.loopb (fun s => ∃ k : Nat, s = k ∧ k ≤ xs.length ∧ v ∉ xs.take k) (fun s => xs.length - s.toNat) (fun r => match r with | .inl _ => v ∉ xs | .inr b => v ∈ xs ∧ b = true) ⟨0, rfl, by omega, by simp⟩ ?_ (fun r hr => ?_))
  · rintro s ⟨k, rfl, hle, ht⟩
    (try dsimp only)
    by_cases hk : k < xs.length
    · rw [if_pos (lt_dec hk), geti_lt' hk, Option.bind_some, wr_succ hl hk]
      by_cases he : xs[k] = v
      · rw [if_pos (by simpa using he)]
        exact Ret.pure ⟨he ▸ List.getElem_mem hk, rfl⟩
      · rw [if_neg (by simpa using he)]
        exact Ret.pure ⟨⟨k + 1, rfl, by omega, fun hm => by rcases (mem_take_succ hk).1 hm with h | h; exact ht h; exact he h.symm⟩, by simp; omega⟩
    · rw [if_neg (by simp; omega)]
      rw [List.take_of_length_le (by omega)] at ht
      exact Ret.pure ht
  · cases r with
    | inl u => exact Ret.pure (decide_eq_false hr).symm
    | inr b => exact Ret.pure (by rw [hr.2, decide_eq_true hr.1])
theorem contains_eq (xs : List Int) (v : Int) (hl : xs.length ≤ 4611686018427387904) : slices_Contains___int_intS xs v = some (decide (v ∈ xs)) := by
  unfold slices_Contains___int_intS slices_Index___int_intS
  refine Ret.eq (Ret.bind (Q := fun i => decide (i ≥ 0) = decide (v ∈ xs)) ?_ (fun a ha => Ret.pure ha))
  refine Ret.loopb (fun s => ∃ k : Nat, s = k ∧ k ≤ xs.length ∧ v ∉ xs.take k) (fun s => xs.length - s.toNat) (fun r => match r with | .inl _ => v ∉ xs | .inr b => v ∈ xs ∧ 0 ≤ b) ⟨0, rfl, by omega, by simp⟩ ?_ (fun r hr => ?_)
  · rintro s ⟨k, rfl, hle, ht⟩
    (try dsimp only)
    by_cases hk : k < xs.length
    · rw [if_pos (lt_dec hk), geti_lt' hk, Option.bind_some, wr_succ hl hk]
      by_cases he : v = xs[k]
      · rw [if_pos (by simpa using he)]
        exact Ret.pure ⟨he ▸ List.getElem_mem hk, by omega⟩
      · rw [if_neg (by simpa using he)]
        exact Ret.pure ⟨⟨k + 1, rfl, by omega, fun hm => by rcases (mem_take_succ hk).1 hm with h | h; exact ht h; exact he h⟩, by simp; omega⟩
    · rw [if_neg (by simp; omega)]
      rw [List.take_of_length_le (by omega)] at ht
      exact Ret.pure ht
  · cases r with
    | inl u => exact Ret.pure (by rw [decide_eq_false hr]; rfl)
    | inr b => exact Ret.pure (by rw [decide_eq_true hr.1, decide_eq_true hr.2])
end Go.Proofs.YtkhnponakhabdaaGreatDoor
set_option linter.unusedVariables false
namespace Go.Proofs.YtkhnponakhabdaaGreatDoor
open Go Go.RowKit
theorem free_len (xs : List HItem) (a : Int) : (free xs a).length ≤ xs.length := by
  unfold free
  split
  · exact freeTo_len _ _ _
  · simp
def TabsL (ts : List HTab) : Prop := ts.length ≤ 1048576 ∧ ∀ t ∈ ts, t.2.1.length ≤ 1048576 ∧ t.2.2.length ≤ 1048576
def tableB (xs : List HItem) (t : HTab) : Bool := (decide (0 ≤ t.1 ∧ t.1 ≤ 31) && ticketB t.2.1) && (decide (t.2.2.length = t.2.1.length) && t.2.2.all (fun v => decide (v ∈ free xs t.1)))
theorem ne_len (m n : Nat) : ((m : Int) != (n : Int)) = !decide (m = n) := by
  rw [Bool.eq_iff_iff, bne_iff_ne, Bool.not_eq_true', decide_eq_false_iff_not]; omega
theorem implTable_eq {xs : List HItem} (h : ItemsL xs) (a : Int) (os : List (Int × Int)) (ds : List Int) (ho : os.length ≤ 1048576) (hd : ds.length ≤ 1048576) : impl_tableValidS xs a os ds = some (tableB xs (a, os, ds)) := by
  unfold impl_tableValidS tableB
  rw [implTicket_eq os (by omega), Option.bind_some, ne_len]
  dsimp only
  by_cases ha : 0 ≤ a ∧ a ≤ 31
  · rw [if_neg (by simp only [Bool.or_eq_true, decide_eq_true_eq]; omega), decide_eq_true ha, Option.bind_some]
    cases ticketB os
    · rfl
    · cases hb : decide (ds.length = os.length)
      · rfl
      · rw [if_neg (by simp), implFree_eq h, Option.bind_some]
        rw [loopList ds (fun _ v => decide (v ∈ free xs a))]
        · rw [Option.bind_some, allI_all]
          cases (ds.all fun v => decide (v ∈ free xs a)) <;> rfl
        · intro k hk
          (try dsimp only)
          have hf := free_len xs a
          have hxl := h.1
          rw [if_pos (lt_dec hk), geti_lt' hk, Option.bind_some, contains_eq _ _ (by omega), Option.bind_some, wr_succ (n := ds.length) (by omega) hk]
          cases decide (ds[k] ∈ free xs a) <;> rfl
        · (try dsimp only)
          rw [if_neg (by simp)]
  · rw [if_pos (by simp only [Bool.or_eq_true, decide_eq_true_eq]; omega), decide_eq_false ha, Option.bind_some]; rfl
def houseB (it : List HItem) (pr st : List Int) (cash : Int) (tb : List HTab) : Bool := ((pricesB it pr && amountsB it 50 st) && decide (0 ≤ cash ∧ cash ≤ 99999)) && (decide (tb.length ≤ 4) && tb.all (tableB it))
def HouseL (it : List HItem) (pr st : List Int) (tb : List HTab) : Prop := ItemsL it ∧ pr.length ≤ 1048576 ∧ st.length ≤ 1048576 ∧ TabsL tb
theorem implHouse_eq {it : List HItem} {pr st : List Int} (cash : Int) {tb : List HTab} (h : HouseL it pr st tb) : impl_HouseValidS it pr st cash tb = some (houseB it pr st cash tb) := by
  obtain ⟨hi, hp, hs, ht⟩ := h
  unfold impl_HouseValidS houseB
  rw [implPrices_eq hi pr (by omega), Option.bind_some, implAmounts_eq it 50 st (by omega)]
  cases pricesB it pr
  · rfl
  · rw [if_neg (by simp), Option.bind_some, Option.bind_some]
    cases amountsB it 50 st
    · rfl
    · rw [if_neg (by simp)]
      by_cases hc : 0 ≤ cash ∧ cash ≤ 99999
      · rw [decide_eq_true hc]
        by_cases h4 : tb.length ≤ 4
        · rw [if_neg (by simp only [Bool.or_eq_true, decide_eq_true_eq]; omega), decide_eq_true h4]
          rw [loopList tb (fun _ t => tableB it t)]
          · rw [Option.bind_some, allI_all]
            generalize tb.all (tableB it) = b
            cases b <;> rfl
          · intro k hk
            have hm := ht.2 _ (List.getElem_mem hk)
            (try dsimp only)
            rw [if_pos (lt_dec hk), geti_lt' hk, Option.bind_some, implTable_eq hi _ _ _ hm.1 hm.2, Option.bind_some, wr_succ (n := tb.length) (by omega) hk]
            show (if (!tableB it tb[k]) = true then _ else _) = _
            cases tableB it tb[k] <;> rfl
          · (try dsimp only)
            rw [if_neg (by simp)]
        · rw [if_pos (by simp only [Bool.or_eq_true, decide_eq_true_eq]; omega), decide_eq_false h4]; rfl
      · rw [if_pos (by simp only [Bool.or_eq_true, decide_eq_true_eq]; omega), decide_eq_false hc]; rfl
theorem specHouse_eq {it : List HItem} {pr st : List Int} (cash : Int) {tb : List HTab} (h : HouseL it pr st tb) : spec_HouseValidS it pr st cash tb = some (houseB it pr st cash tb) := by
  obtain ⟨hi, hp, hs, ht⟩ := h
  unfold spec_HouseValidS houseB
  rw [specPrices_eq hi pr (by omega), Option.bind_some, specAmounts_eq it st (by omega), l1In_eq]
  cases pricesB it pr
  · rfl
  · rw [if_neg (by simp), Option.bind_some, Option.bind_some]
    cases amountsB it 50 st
    · rfl
    · rw [if_neg (by simp), Option.bind_some, Option.bind_some]
      by_cases hc : 0 ≤ cash ∧ cash ≤ 99999
      · rw [decide_eq_true hc]
        by_cases h4 : tb.length ≤ 4
        · rw [if_neg (by simp only [Bool.or_eq_true, decide_eq_true_eq, Bool.not_true]; simp; omega), decide_eq_true h4]
          rw [loopList tb (fun _ t => tableB it t)]
          · rw [Option.bind_some, allI_all]
            generalize tb.all (tableB it) = b
            cases b <;> rfl
          · intro k hk
            have hm := ht.2 _ (List.getElem_mem hk)
            (try dsimp only)
            rw [if_pos (lt_dec hk), geti_lt' hk, Option.bind_some, l1In_eq, Option.bind_some, specTicket_eq _ (by omega), Option.bind_some, ne_len, specFree_eq hi, wr_succ (n := tb.length) (by omega) hk]
            unfold tableB
            generalize hq : tb[k] = t at hm ⊢
            cases decide (0 ≤ t.1 ∧ t.1 ≤ 31)
            · rfl
            · rw [if_neg (by simp), Option.bind_some]
              cases ticketB t.2.1
              · rfl
              · cases decide (t.2.2.length = t.2.1.length)
                · rfl
                · rw [if_neg (by simp), Option.bind_some]
                  rw [loopList t.2.2 (fun _ v => decide (v ∈ free it t.1))]
                  · rw [Option.bind_some, allI_all]
                    cases (t.2.2.all fun v => decide (v ∈ free it t.1)) <;> rfl
                  · intro j hj
                    (try dsimp only)
                    have hf := free_len it t.1
                    have hxl := hi.1
                    rw [if_pos (lt_dec hj), geti_lt' hj, Option.bind_some, specHas_eq _ _ (by omega), Option.bind_some, wr_succ (n := t.2.2.length) (by omega) hj]
                    cases decide (t.2.2[j] ∈ free it t.1) <;> rfl
                  · (try dsimp only)
                    rw [if_neg (by simp)]
          · (try dsimp only)
            rw [if_neg (by simp)]
        · rw [if_pos (by simp; omega), decide_eq_false h4]; rfl
      · rw [decide_eq_false hc]; rfl
theorem houseB_items {it : List HItem} {pr st : List Int} {cash : Int} {tb : List HTab} (h : houseB it pr st cash tb = true) : itemsB it = true := by
  unfold houseB pricesB at h
  simp only [Bool.and_eq_true] at h
  exact h.1.1.1.1
theorem houseB_prices {it : List HItem} {pr st : List Int} {cash : Int} {tb : List HTab} (h : houseB it pr st cash tb = true) : pr.length = it.length ∧ ∀ x ∈ pr, 0 ≤ x ∧ x ≤ 20 := by
  unfold houseB pricesB amountsB rangeB at h
  simp only [Bool.and_eq_true, decide_eq_true_eq, beq_iff_eq] at h
  exact ⟨by omega, h.1.1.1.2.1⟩
theorem houseB_cash {it : List HItem} {pr st : List Int} {cash : Int} {tb : List HTab} (h : houseB it pr st cash tb = true) : 0 ≤ cash ∧ cash ≤ 99999 := by
  unfold houseB at h
  simp only [Bool.and_eq_true] at h
  exact of_decide_eq_true h.1.2
theorem houseB_tables {it : List HItem} {pr st : List Int} {cash : Int} {tb : List HTab} (h : houseB it pr st cash tb = true) : tb.length ≤ 4 ∧ ∀ t ∈ tb, tableB it t = true := by
  unfold houseB at h
  simp only [Bool.and_eq_true] at h
  exact ⟨of_decide_eq_true h.2.1, List.all_eq_true.1 h.2.2⟩
theorem tableB_true {it : List HItem} {t : HTab} : tableB it t = true ↔ (0 ≤ t.1 ∧ t.1 ≤ 31) ∧ ticketB t.2.1 = true ∧ t.2.2.length = t.2.1.length ∧ ∀ v ∈ t.2.2, v ∈ free it t.1 := by
  unfold tableB
  simp only [Bool.and_eq_true, decide_eq_true_eq, List.all_eq_true]
  exact ⟨fun h => ⟨h.1.1, h.1.2, h.2.1, h.2.2⟩, fun h => ⟨⟨h.1, h.2.1⟩, h.2.2.1, h.2.2.2⟩⟩
theorem mem_free {it : List HItem} {a v : Int} (h : v ∈ free it a) : itemsB it = true ∧ (0 ≤ a ∧ a ≤ 31) ∧ ∃ k : Nat, k < it.length ∧ v = (k : Int) ∧ isFree it a.toNat k = true := by
  unfold free at h
  split at h
  · rename_i hv
    exact ⟨hv.1, hv.2, mem_freeTo.1 h⟩
  · cases h
def stateAt (t : HTab) (k : Nat) : Int := match t.2.1[k]? with | some o => o.2 | none => 0
theorem stateAt_lt {t : HTab} {k : Nat} (h : k < t.2.1.length) : stateAt t k = t.2.1[k].2 := by unfold stateAt; rw [List.getElem?_eq_getElem h]
def priceAt (pr : List Int) (t : HTab) (k : Nat) : Int := match t.2.2[k]? with | some d => pr.getD d.toNat 0 | none => 0
def billTo (pr : List Int) (t : HTab) : Nat → Int
  | 0 => 0
  | k + 1 => billTo pr t k + (if stateAt t k == 3 then priceAt pr t k else 0)
def billOf (pr : List Int) (tb : List HTab) (i : Nat) : Int := match tb[i]? with | some t => billTo pr t t.2.1.length | none => 0
theorem billOf_lt {pr : List Int} {tb : List HTab} {i : Nat} (h : i < tb.length) : billOf pr tb i = billTo pr tb[i] tb[i].2.1.length := by unfold billOf; rw [List.getElem?_eq_getElem h]
theorem getD_range {pr : List Int} (h : ∀ x ∈ pr, 0 ≤ x ∧ x ≤ 20) (i : Nat) : 0 ≤ pr.getD i 0 ∧ pr.getD i 0 ≤ 20 := by
  rcases Nat.lt_or_ge i pr.length with hi | hi
  · rw [getD_lt hi]; exact h _ (List.getElem_mem hi)
  · rw [List.getD_eq_getElem?_getD, List.getElem?_eq_none hi]; decide
theorem billTo_range {pr : List Int} (h : ∀ x ∈ pr, 0 ≤ x ∧ x ≤ 20) (t : HTab) : ∀ k : Nat, 0 ≤ billTo pr t k ∧ billTo pr t k ≤ 20 * k
  | 0 => by unfold billTo; omega
  | k + 1 => by
    have ih := billTo_range h t k
    unfold billTo
    have hp : 0 ≤ priceAt pr t k ∧ priceAt pr t k ≤ 20 := by
      unfold priceAt
      split
      · exact getD_range h _
      · decide
    split <;> omega
theorem ticket_len {ps : List (Int × Int)} (h : ticketB ps = true) : ps.length ≤ 6 := by
  unfold ticketB at h; rw [Bool.and_eq_true] at h; exact of_decide_eq_true h.1
theorem billOf_range {it : List HItem} {pr st : List Int} {cash : Int} {tb : List HTab} (h : houseB it pr st cash tb = true) (i : Nat) : 0 ≤ billOf pr tb i ∧ billOf pr tb i ≤ 120 := by
  rcases Nat.lt_or_ge i tb.length with hi | hi
  · rw [billOf_lt hi]
    have h1 := billTo_range (houseB_prices h).2 tb[i] tb[i].2.1.length
    have h2 := ticket_len (tableB_true.1 ((houseB_tables h).2 _ (List.getElem_mem hi))).2.1
    omega
  · unfold billOf; rw [List.getElem?_eq_none hi]; show (0 : Int) ≤ 0 ∧ (0 : Int) ≤ 120; omega
def billZ (it : List HItem) (pr st : List Int) (cash : Int) (tb : List HTab) (p : Int) : Int := if houseB it pr st cash tb = true ∧ 0 ≤ p ∧ p < tb.length then billOf pr tb p.toNat else -1
theorem dish_lt {it : List HItem} {pr st : List Int} {cash : Int} {tb : List HTab} (h : houseB it pr st cash tb = true) {t : HTab} (ht : t ∈ tb) {k : Nat} (hk : k < t.2.2.length) : ∃ d : Nat, t.2.2[k] = (d : Int) ∧ d < pr.length := by
  obtain ⟨_, _, d, h1, h2, _⟩ := mem_free ((tableB_true.1 ((houseB_tables h).2 _ ht)).2.2.2 _ (List.getElem_mem hk))
  exact ⟨d, h2, by rw [(houseB_prices h).1]; exact h1⟩
theorem implBill_eq {it : List HItem} {pr st : List Int} (cash : Int) {tb : List HTab} (h : HouseL it pr st tb) (p : Int) : impl_TableBillS it pr st cash tb p = some (billZ it pr st cash tb p) := by
  unfold impl_TableBillS billZ
  rw [implHouse_eq cash h, Option.bind_some]
  by_cases hv : houseB it pr st cash tb = true ∧ 0 ≤ p ∧ p < tb.length
  · obtain ⟨hH, h0, hp⟩ := hv
    obtain ⟨q, rfl⟩ : ∃ q : Nat, p = q := ⟨p.toNat, by omega⟩
    have hq : q < tb.length := by omega
    rw [hH, if_neg (by simp; omega), if_pos ⟨rfl, h0, hp⟩, geti_lt' hq, Option.bind_some, show ((q : Nat) : Int).toNat = q from rfl, billOf_lt hq]
    have htb := List.getElem_mem hq
    have ht := tableB_true.1 ((houseB_tables hH).2 _ htb)
    have h6 := ticket_len ht.2.1
    rw [loopDet (s := ((0 : Int), (0 : Int))) (fun k => (billTo pr tb[q] k, (k : Int))) tb[q].2.1.length (billTo pr tb[q] tb[q].2.1.length) rfl]
    · rfl
    · intro k hk
      have hkd : k < tb[q].2.2.length := by rw [ht.2.2.1]; exact hk
      obtain ⟨d, hd, hdl⟩ := dish_lt hH htb hkd
      have hr := billTo_range (houseB_prices hH).2 tb[q] (k + 1)
      have hstep : billTo pr tb[q] (k + 1) = billTo pr tb[q] k + (if stateAt tb[q] k == 3 then priceAt pr tb[q] k else 0) := rfl
      (try dsimp only)
      rw [if_pos (lt_dec hk), geti_lt' hk, Option.bind_some, Option.bind_some, geti_lt' hkd, Option.bind_some, hd, geti_getD hdl, Option.bind_some, wr_succ (n := tb[q].2.1.length) (by omega) hk]
      have hpa : priceAt pr tb[q] k = pr.getD d 0 := by
        unfold priceAt; rw [List.getElem?_eq_getElem hkd]; dsimp only; rw [hd]; rfl
      rw [hpa, stateAt_lt hk] at hstep
      cases hs : (tb[q].2.1[k].2 == 3)
      · rw [hs, if_neg (by simp)] at hstep
        rw [if_neg (by simp), hstep, Int.add_zero]
      · rw [hs, if_pos rfl] at hstep
        rw [if_pos rfl, wr (x := billTo pr tb[q] k + pr.getD d 0) ⟨by omega, by omega⟩, hstep]
    · (try dsimp only)
      rw [if_neg (by simp)]
  · rw [if_neg hv, if_pos]
    simp only [Bool.or_eq_true, Bool.not_eq_true', decide_eq_true_eq]
    by_cases hI : houseB it pr st cash tb = true
    · by_cases h0 : p < 0
      · exact .inl (.inr h0)
      · exact .inr (by have : ¬ p < tb.length := fun hp => hv ⟨hI, by omega, hp⟩
                       omega)
    · exact .inl (.inl (by simpa using hI))
theorem specBill_eq {it : List HItem} {pr st : List Int} (cash : Int) {tb : List HTab} (h : HouseL it pr st tb) (p : Int) : spec_TableBillS it pr st cash tb p = some (billZ it pr st cash tb p) := by
  have hlt := h.2.2.2.1
  unfold spec_TableBillS billZ
  rw [specHouse_eq cash h, Option.bind_some, wr (x := (tb.length : Int) - 1) ⟨by omega, by omega⟩, l1In_eq, Option.bind_some]
  by_cases hv : houseB it pr st cash tb = true ∧ 0 ≤ p ∧ p < tb.length
  · obtain ⟨hH, h0, hp⟩ := hv
    obtain ⟨q, rfl⟩ : ∃ q : Nat, p = q := ⟨p.toNat, by omega⟩
    have hq : q < tb.length := by omega
    rw [hH, if_neg (by simp), Option.bind_some, decide_eq_true (show 0 ≤ (q : Int) ∧ (q : Int) ≤ (tb.length : Int) - 1 by omega), if_neg (by simp), if_pos ⟨rfl, h0, hp⟩, show ((q : Nat) : Int).toNat = q from rfl, billOf_lt hq]
    have htb := List.getElem_mem hq
    have ht := tableB_true.1 ((houseB_tables hH).2 _ htb)
    have h6 := ticket_len ht.2.1
    rw [loopDet (s := ((0 : Int), (0 : Int))) (fun k => (billTo pr tb[q] k, (k : Int))) tb[q].2.1.length (billTo pr tb[q] tb[q].2.1.length) rfl]
    · rfl
    · intro k hk
      have hkd : k < tb[q].2.2.length := by rw [ht.2.2.1]; exact hk
      obtain ⟨d, hd, hdl⟩ := dish_lt hH htb hkd
      have hr := billTo_range (houseB_prices hH).2 tb[q] (k + 1)
      have hstep : billTo pr tb[q] (k + 1) = billTo pr tb[q] k + (if stateAt tb[q] k == 3 then priceAt pr tb[q] k else 0) := rfl
      (try dsimp only)
      rw [geti_lt' hq, Option.bind_some, if_pos (lt_dec hk), Option.bind_some, geti_lt' hk, Option.bind_some, Option.bind_some, geti_lt' hkd, Option.bind_some, hd, geti_getD hdl, Option.bind_some, wr_succ (n := tb[q].2.1.length) (by omega) hk]
      have hpa : priceAt pr tb[q] k = pr.getD d 0 := by
        unfold priceAt; rw [List.getElem?_eq_getElem hkd]; dsimp only; rw [hd]; rfl
      rw [hpa, stateAt_lt hk] at hstep
      cases hs : (tb[q].2.1[k].2 == 3)
      · rw [hs, if_neg (by simp)] at hstep
        rw [if_neg (by simp), hstep, Int.add_zero]
      · rw [hs, if_pos rfl] at hstep
        rw [if_pos rfl, wr (x := billTo pr tb[q] k + pr.getD d 0) ⟨by omega, by omega⟩, hstep]
    · (try dsimp only)
      rw [geti_lt' hq, Option.bind_some, if_neg (by simp)]
  · rw [if_neg hv]
    by_cases hI : houseB it pr st cash tb = true
    · rw [hI, if_neg (by simp), Option.bind_some, decide_eq_false (show ¬ (0 ≤ p ∧ p ≤ (tb.length : Int) - 1) from fun hp => hv ⟨hI, hp.1, by omega⟩)]; rfl
    · rw [Bool.not_eq_true] at hI
      rw [hI]; rfl
theorem billZ_at {it : List HItem} {pr st : List Int} {cash : Int} {tb : List HTab} (h : houseB it pr st cash tb = true) {k : Nat} (hk : k < tb.length) : billZ it pr st cash tb (k : Int) = billOf pr tb k := by
  unfold billZ; rw [if_pos ⟨h, by omega, by omega⟩]; rfl
end Go.Proofs.YtkhnponakhabdaaGreatDoor
set_option linter.unusedVariables false
namespace Go.Proofs.YtkhnponakhabdaaGreatDoor
open Go Go.RowKit
def SzOk (o : Option Int) (b : Int) (P : Prop) : Prop := Ret o (fun r => r < 0 ∨ (0 ≤ r ∧ r ≤ b ∧ P))
theorem SzOk.step {o : Option Int} {b : Int} {P Q : Prop} {f : Int → Option Int} (h : SzOk o b P) (hf : P → ∀ r, 0 ≤ r → r ≤ b → SzOk (f r) b Q) : SzOk (o.bind fun r => if decide (r < 0) then some (-1) else f r) b Q := by
  refine Ret.bind h (fun r hr => Ret.ite (fun h1 => Ret.pure (.inl (by omega))) (fun h1 => ?_))
  have := of_decide_eq_false h1
  rcases hr with hr | hr
  · omega
  · exact hf hr.2.2 r hr.1 hr.2.1
theorem SzOk.mono {o : Option Int} {b c : Int} {P Q : Prop} (h : SzOk o b P) (hbc : b ≤ c) (hp : P → Q) : SzOk o c Q := Ret.mono h fun r hr => hr.imp id fun h => ⟨h.1, by omega, hp h.2.2⟩
theorem SzOk.ret {b r : Int} {P : Prop} (h0 : 0 ≤ r) (h1 : r ≤ b) (hp : P) : SzOk (some r) b P := Ret.pure (.inr ⟨h0, h1, hp⟩)
end Go.Proofs.YtkhnponakhabdaaGreatDoor
