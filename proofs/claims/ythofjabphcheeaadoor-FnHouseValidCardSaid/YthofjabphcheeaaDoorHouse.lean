/- Houses: items, prices, tickets, what is free of an allergen, in plain words. Own work; no program in sight. -/
import Derived.Test.YthofjabphcheeaaDoorMPl
set_option linter.unusedVariables false
namespace Go.Proofs.YthofjabphcheeaaDoor
open Go Go.RowKit
abbrev HItem := Int × List (Int × Int) × Int
abbrev HTab := Int × List (Int × Int) × List Int
/-! ### items -/
def prevOf (ps : List (Int × Int)) : Nat → Int
  | 0 => -1
  | k + 1 => match ps[k]? with | some x => x.1 | none => 0
theorem prevOf_succ {ps : List (Int × Int)} {k : Nat} (h : k < ps.length) : prevOf ps (k + 1) = ps[k].1 := by simp only [prevOf, List.getElem?_eq_getElem h]
def partP (ps : List (Int × Int)) (n : Nat) (k : Nat) (x : Int × Int) : Bool := decide (0 ≤ x.1 ∧ x.1 ≤ (n : Int) - 1) && (decide (1 ≤ x.2 ∧ x.2 ≤ 6) && (decide (k = 0) || decide (prevOf ps k < x.1)))
def partQ (ps : List (Int × Int)) (n : Nat) (k : Nat) (x : Int × Int) : Bool := decide (prevOf ps k < x.1 ∧ x.1 < n ∧ 1 ≤ x.2 ∧ x.2 ≤ 6)
theorem partQ_true {ps : List (Int × Int)} {n k : Nat} {x : Int × Int} : partQ ps n k x = true ↔ prevOf ps k < x.1 ∧ x.1 < n ∧ 1 ≤ x.2 ∧ x.2 ≤ 6 := decide_eq_true_iff
theorem partP_true {ps : List (Int × Int)} {n k : Nat} {x : Int × Int} : partP ps n k x = true ↔ (0 ≤ x.1 ∧ x.1 ≤ (n : Int) - 1) ∧ (1 ≤ x.2 ∧ x.2 ≤ 6) ∧ (k = 0 ∨ prevOf ps k < x.1) := by
  unfold partP; simp only [Bool.and_eq_true, Bool.or_eq_true, decide_eq_true_eq]
theorem parts_eq (ps : List (Int × Int)) (n : Nat) : allI ps (partQ ps n) = allI ps (partP ps n) := by
  rw [Bool.eq_iff_iff, allI_true, allI_true]
  constructor
  · intro h
    have h0 : ∀ k (hk : k < ps.length), 0 ≤ ps[k].1 := by
      intro k
      induction k with
      | zero =>
        intro hk
        have := (partQ_true.1 (h 0 hk)).1
        simp only [prevOf] at this; omega
      | succ k ih =>
        intro hk
        have := (partQ_true.1 (h (k + 1) hk)).1
        rw [prevOf_succ (show k < ps.length by omega)] at this
        have h2 := ih (by omega)
        omega
    intro k hk
    have h1 := partQ_true.1 (h k hk)
    have h2 := h0 k hk
    exact partP_true.2 ⟨⟨h2, by omega⟩, h1.2.2, .inr h1.1⟩
  · intro h k hk
    have h1 := partP_true.1 (h k hk)
    refine partQ_true.2 ⟨?_, by omega, h1.2.1⟩
    rcases h1.2.2 with h2 | h2
    · subst h2; show -1 < _; omega
    · exact h2
def itemB (it : HItem) (n : Nat) : Bool := (((decide (0 ≤ it.1 ∧ it.1 ≤ 6) && decide ((it.2.1.length : Int) ≤ 3)) && (decide (it.1 > 0) == decide ((it.2.1.length : Int) > 0))) && decide (0 ≤ it.2.2 ∧ it.2.2 ≤ 31)) && allI it.2.1 (partP it.2.1 n)
theorem specItem_eq (m : Int) (ps : List (Int × Int)) (g : Int) (n : Nat) (hn : n ≤ 4611686018427387904) (hl : ps.length ≤ 4611686018427387904) : spec_l1ItemS m ps g n = some (itemB (m, ps, g) n) := by
  unfold spec_l1ItemS
  rw [loopList ps (partP ps n)]
  · rw [Option.bind_some]
    by_cases ha : allI ps (partP ps n) = true
    · rw [if_pos ha]
      dsimp only
      rw [l1In_eq, Option.bind_some, l1In_eq]
      unfold itemB
      dsimp only
      rw [ha]
      generalize ((decide (0 ≤ m ∧ m ≤ 6) && decide ((ps.length : Int) ≤ 3)) && (decide (m > 0) == decide ((ps.length : Int) > 0))) = b
      cases b
      · rfl
      · simp
    · rw [if_neg ha]
      unfold itemB
      dsimp only
      rw [Bool.not_eq_true] at ha
      rw [ha, Bool.and_false]
  · intro k hk
    dsimp only
    rw [if_pos (lt_dec hk), geti_lt' hk]
    simp only [Option.bind_some, l1In_eq]
    rw [wr (x := (n : Int) - 1) ⟨by omega, by omega⟩, wr_succ hl hk]
    have hp : (if decide ((k : Int) > 0) = true then ((geti ps (IntKind.wrap .i64 ((k : Int) - 1))).bind fun x26 => some (decide (x26.1 ≥ ps[k].1))) else some false) = some (!(decide (k = 0) || decide (prevOf ps k < ps[k].1))) := by
      cases k with
      | zero => rfl
      | succ j =>
        rw [if_pos (decide_eq_true (by omega)), wr (x := ((j + 1 : Nat) : Int) - 1) ⟨by omega, by omega⟩, show ((j + 1 : Nat) : Int) - 1 = (j : Int) by omega, geti_lt' (show j < ps.length by omega), Option.bind_some, prevOf_succ (show j < ps.length by omega)]
        congr 1
        by_cases h : ps[j].1 < ps[j + 1].1
        · rw [decide_eq_true h, decide_eq_false (by omega)]; simp
        · rw [decide_eq_false h, decide_eq_true (by omega)]; simp
    rw [hp]
    unfold partP
    generalize (decide (k = 0) || decide (prevOf ps k < ps[k].1)) = b1
    generalize decide (1 ≤ ps[k].2 ∧ ps[k].2 ≤ 6) = b2
    generalize decide (0 ≤ ps[k].1 ∧ ps[k].1 ≤ (n : Int) - 1) = b3
    cases b1 <;> cases b2 <;> cases b3 <;> rfl
  · (try dsimp only); rw [if_neg (by simp)]
theorem implParts_eq (ps : List (Int × Int)) (n : Nat) (hl : ps.length ≤ 4611686018427387904) : impl_partsValidS ps n = some (decide (1 ≤ ps.length ∧ ps.length ≤ 3) && allI ps (partP ps n)) := by
  unfold impl_partsValidS
  by_cases h13 : 1 ≤ ps.length ∧ ps.length ≤ 3
  · rw [if_neg (by simp only [Bool.or_eq_true, decide_eq_true_eq]; omega), decide_eq_true h13]
    rw [loopListF (s := ((-1 : Int), (0 : Int))) (fun k => (prevOf ps k, (k : Int))) ps (partQ ps n) rfl]
    · rw [Option.bind_some, ← parts_eq]; cases allI ps (partQ ps n) <;> rfl
    · intro k hk
      (try dsimp only)
      rw [if_pos (lt_dec hk), geti_lt' hk, Option.bind_some, wr_succ hl hk, prevOf_succ hk]
      by_cases h : prevOf ps k < ps[k].1 ∧ ps[k].1 < n ∧ 1 ≤ ps[k].2 ∧ ps[k].2 ≤ 6
      · rw [if_neg (by simp only [Bool.or_eq_true, decide_eq_true_eq]; omega), if_pos (partQ_true.2 h)]
      · rw [if_pos (by simp only [Bool.or_eq_true, decide_eq_true_eq]; omega), if_neg (fun hq => h (partQ_true.1 hq))]
    · (try dsimp only); rw [if_neg (by simp)]
  · rw [if_pos (by simp only [Bool.or_eq_true, decide_eq_true_eq]; omega), decide_eq_false h13]; rfl
theorem implItem_eq (m : Int) (ps : List (Int × Int)) (g : Int) (n : Nat) (hl : ps.length ≤ 4611686018427387904) : impl_itemValidS m ps g n = some (itemB (m, ps, g) n) := by
  unfold impl_itemValidS itemB
  dsimp only
  by_cases hg : 0 ≤ g ∧ g ≤ 31
  · rw [if_neg (by simp only [Bool.or_eq_true, decide_eq_true_eq]; omega), decide_eq_true hg]
    by_cases hm : m = 0
    · subst hm
      rw [if_pos (show ((0 : Int) == 0) = true from rfl)]
      cases ps with
      | nil => rfl
      | cons x ps =>
        congr 1
        rw [show decide ((0 : Int) > 0) = false from rfl, decide_eq_true (show (((x :: ps).length : Nat) : Int) > 0 by simp)]
        simp
        omega
    · rw [if_neg (by simpa using hm)]
      by_cases h16 : 1 ≤ m ∧ m ≤ 6
      · rw [if_pos (by simp only [Bool.and_eq_true, decide_eq_true_eq]; omega), implParts_eq ps n hl, Option.bind_some, Option.bind_some, decide_eq_true (show 0 ≤ m ∧ m ≤ 6 by omega), decide_eq_true (show m > 0 by omega)]
        congr 2
        by_cases h : 1 ≤ ps.length ∧ ps.length ≤ 3
        · rw [decide_eq_true h, decide_eq_true (show (ps.length : Int) ≤ 3 by omega), decide_eq_true (show (ps.length : Int) > 0 by omega)]; rfl
        · rw [decide_eq_false h]
          by_cases h3 : (ps.length : Int) ≤ 3
          · rw [decide_eq_false (show ¬ ((ps.length : Int) > 0) by omega)]; simp
          · rw [decide_eq_false h3]; rfl
      · rw [if_neg (by simp only [Bool.and_eq_true, decide_eq_true_eq]; omega), decide_eq_false (show ¬ (0 ≤ m ∧ m ≤ 6) by omega)]; rfl
  · rw [if_pos (by simp only [Bool.or_eq_true, decide_eq_true_eq]; omega), decide_eq_false hg]; simp
def itemsB (xs : List HItem) : Bool := decide (xs.length ≤ 6) && allI xs (fun k it => itemB it k)
def ItemsL (xs : List HItem) : Prop := xs.length ≤ 1048576 ∧ ∀ x ∈ xs, x.2.1.length ≤ 1048576
theorem ItemsL.at {xs : List HItem} (h : ItemsL xs) {k : Nat} (hk : k < xs.length) : xs[k].2.1.length ≤ 4611686018427387904 := by have := h.2 _ (List.getElem_mem hk); omega
theorem specItems_eq {xs : List HItem} (h : ItemsL xs) : spec_ItemsValidS xs = some (itemsB xs) := by
  have hl := h.1
  unfold spec_ItemsValidS
  rw [loopList xs (fun k it => itemB it k)]
  · rw [Option.bind_some]
    unfold itemsB
    cases allI xs (fun k it => itemB it k)
    · simp
    · simp; omega
  · intro k hk
    dsimp only
    rw [if_pos (lt_dec hk), geti_lt' hk, Option.bind_some, specItem_eq _ _ _ k (by omega) (h.at hk), Option.bind_some, wr_succ (n := xs.length) (by omega) hk]
    show (if (!itemB xs[k] k) = true then _ else _) = _
    cases itemB xs[k] k <;> rfl
  · (try dsimp only); rw [if_neg (by simp)]
theorem implItems_eq {xs : List HItem} (h : ItemsL xs) : impl_ItemsValidS xs = some (itemsB xs) := by
  have hl := h.1
  unfold impl_ItemsValidS itemsB
  by_cases h6 : xs.length ≤ 6
  · rw [if_neg (by simp; omega), loopList xs (fun k it => itemB it k)]
    · rw [Option.bind_some, decide_eq_true h6]; cases allI xs (fun k it => itemB it k) <;> rfl
    · intro k hk
      (try dsimp only)
      rw [if_pos (lt_dec hk), geti_lt' hk, Option.bind_some, implItem_eq _ _ _ k (h.at hk), Option.bind_some, wr_succ (n := xs.length) (by omega) hk]
      show (if (!itemB xs[k] k) = true then _ else _) = _
      cases itemB xs[k] k <;> rfl
    · (try dsimp only); rw [if_neg (by simp)]
  · rw [if_pos (by simp; omega), decide_eq_false h6]; rfl
theorem itemsB_len {xs : List HItem} (h : itemsB xs = true) : xs.length ≤ 6 := by
  unfold itemsB at h; rw [Bool.and_eq_true] at h; exact of_decide_eq_true h.1
theorem itemsB_at {xs : List HItem} (h : itemsB xs = true) {k : Nat} (hk : k < xs.length) : itemB xs[k] k = true := by
  unfold itemsB at h; rw [Bool.and_eq_true] at h; exact allI_true.1 h.2 k hk
theorem itemsB_part {xs : List HItem} (h : itemsB xs = true) {k : Nat} (hk : k < xs.length) : ∀ x ∈ xs[k].2.1, 0 ≤ x.1 ∧ x.1 < k := by
  intro x hx
  have h1 := itemsB_at h hk
  unfold itemB at h1
  rw [Bool.and_eq_true] at h1
  obtain ⟨i, hi, rfl⟩ := List.mem_iff_getElem.1 hx
  have := (partP_true.1 (allI_true.1 h1.2 i hi)).1
  omega
theorem itemsB_marks {xs : List HItem} (h : itemsB xs = true) {k : Nat} (hk : k < xs.length) : 0 ≤ xs[k].2.2 ∧ xs[k].2.2 ≤ 31 := by
  have h1 := itemsB_at h hk
  unfold itemB at h1
  rw [Bool.and_eq_true, Bool.and_eq_true] at h1
  exact of_decide_eq_true h1.1.2
/-! ### prices and amounts -/
def rangeB (m : Int) (ps : List Int) : Bool := decide (∀ x ∈ ps, 0 ≤ x ∧ x ≤ m)
theorem allI_range (m : Int) (ps : List Int) : allI ps (fun _ x => decide (0 ≤ x ∧ x ≤ m)) = rangeB m ps := by
  rw [allI_all, Bool.eq_iff_iff, List.all_eq_true]
  unfold rangeB
  rw [decide_eq_true_eq]
  exact ⟨fun h x hx => of_decide_eq_true (h x hx), fun h x hx => decide_eq_true (h x hx)⟩
def amountsB (xs : List HItem) (m : Int) (ps : List Int) : Bool := rangeB m ps && ((ps.length : Int) == (xs.length : Int))
theorem implAmounts_eq (xs : List HItem) (m : Int) (ps : List Int) (hl : ps.length ≤ 4611686018427387904) : impl_amountsOkS ps (xs.length : Int) m = some (amountsB xs m ps) := by
  rw [amountsOk_eq _ _ _ hl]
  unfold amountsB rangeB
  congr 1
  rw [Bool.eq_iff_iff, Bool.and_eq_true, decide_eq_true_eq, decide_eq_true_eq, beq_iff_eq]
  exact ⟨fun h => ⟨h.2, h.1⟩, fun h => ⟨h.2, h.1⟩⟩
def pricesB (xs : List HItem) (ps : List Int) : Bool := itemsB xs && amountsB xs 20 ps
theorem implPrices_eq {xs : List HItem} (h : ItemsL xs) (ps : List Int) (hl : ps.length ≤ 4611686018427387904) : impl_PricesValidS xs ps = some (pricesB xs ps) := by
  unfold impl_PricesValidS pricesB
  rw [implItems_eq h, Option.bind_some, implAmounts_eq xs 20 ps hl]
  cases itemsB xs <;> rfl
theorem specPrices_eq {xs : List HItem} (h : ItemsL xs) (ps : List Int) (hl : ps.length ≤ 4611686018427387904) : spec_PricesValidS xs ps = some (pricesB xs ps) := by
  unfold spec_PricesValidS pricesB amountsB
  rw [loopList ps (fun _ x => decide (0 ≤ x ∧ x ≤ 20))]
  · rw [Option.bind_some, allI_range, specItems_eq h]
    cases rangeB 20 ps
    · simp
    · simp
  · intro k hk
    dsimp only
    rw [if_pos (lt_dec hk), geti_lt' hk, Option.bind_some, l1In_eq, Option.bind_some, wr_succ hl hk]
    cases decide (0 ≤ ps[k] ∧ ps[k] ≤ 20) <;> rfl
  · (try dsimp only); rw [if_neg (by simp)]
theorem specAmounts_eq (xs : List HItem) (ps : List Int) (hl : ps.length ≤ 4611686018427387904) : spec_l1AmountsS xs ps = some (amountsB xs 50 ps) := by
  unfold spec_l1AmountsS amountsB
  rw [loopList ps (fun _ x => decide (0 ≤ x ∧ x ≤ 50))]
  · rw [Option.bind_some, allI_range]
    cases rangeB 50 ps
    · simp
    · simp
  · intro k hk
    dsimp only
    rw [if_pos (lt_dec hk), geti_lt' hk, Option.bind_some, l1In_eq, Option.bind_some, wr_succ hl hk]
    cases decide (0 ≤ ps[k] ∧ ps[k] ≤ 50) <;> rfl
  · (try dsimp only); rw [if_neg (by simp)]
/-! ### tickets -/
def inB (x : Int × Int) : Bool := decide (0 ≤ x.1 ∧ x.1 ≤ 2) && decide (0 ≤ x.2 ∧ x.2 ≤ 4)
def readyB (ps : List (Int × Int)) (c : Int) : Bool := ps.all (fun y => !(decide (y.1 < c) && decide (y.2 < 3)))
def rdyB (ps : List (Int × Int)) (x : Int × Int) : Bool := !decide (1 ≤ x.2 ∧ x.2 ≤ 3) || readyB ps x.1
def ticketB (ps : List (Int × Int)) : Bool := decide (ps.length ≤ 6) && (ps.all inB && ps.all (rdyB ps))
theorem specReady_eq (ps : List (Int × Int)) (c : Int) (hl : ps.length ≤ 4611686018427387904) : spec_l4ReadyS ps c = some (readyB ps c) := by
  unfold spec_l4ReadyS readyB
  rw [loopList ps (fun _ y => !(decide (y.1 < c) && decide (y.2 < 3)))]
  · rw [Option.bind_some, allI_all]
    generalize (ps.all fun y => !(decide (y.1 < c) && decide (y.2 < 3))) = b
    cases b <;> rfl
  · intro k hk
    dsimp only
    rw [if_pos (lt_dec hk), geti_lt' hk, Option.bind_some, Option.bind_some, wr_succ hl hk]
    cases decide (ps[k].1 < c) <;> cases decide (ps[k].2 < 3) <;> rfl
  · (try dsimp only); rw [if_neg (by simp)]
theorem specTicket_eq (ps : List (Int × Int)) (hl : ps.length ≤ 4611686018427387904) : spec_TicketValidS ps = some (ticketB ps) := by
  unfold spec_TicketValidS ticketB
  rw [loopList ps (fun _ x => inB x && rdyB ps x)]
  · rw [Option.bind_some, allI_and ps (fun _ x => inB x) (fun _ x => rdyB ps x), allI_all, allI_all]
    cases (ps.all inB && ps.all (rdyB ps))
    · simp
    · simp; omega
  · intro k hk
    dsimp only
    rw [if_pos (lt_dec hk), geti_lt' hk]
    simp only [Option.bind_some, l1In_eq, specReady_eq ps _ hl]
    rw [wr_succ hl hk]
    unfold inB rdyB
    generalize readyB ps ps[k].1 = b1
    generalize decide (1 ≤ ps[k].2 ∧ ps[k].2 ≤ 3) = b2
    generalize decide (0 ≤ ps[k].2 ∧ ps[k].2 ≤ 4) = b3
    generalize decide (0 ≤ ps[k].1 ∧ ps[k].1 ≤ 2) = b4
    cases b1 <;> cases b2 <;> cases b3 <;> cases b4 <;> rfl
  · (try dsimp only); rw [if_neg (by simp)]
def reachB (ps : List (Int × Int)) (c : Int) : Bool := ps.all (fun y => !(decide (y.1 < c) && !(y.2 == 3 || y.2 == 4)))
theorem implReached_eq (ps : List (Int × Int)) (c : Int) (hl : ps.length ≤ 4611686018427387904) : impl_reachedS ps c = some (reachB ps c) := by
  unfold impl_reachedS reachB
  rw [loopList ps (fun _ y => !(decide (y.1 < c) && !(y.2 == 3 || y.2 == 4)))]
  · rw [Option.bind_some, allI_all]
    generalize (ps.all fun y => !(decide (y.1 < c) && !(y.2 == 3 || y.2 == 4))) = b
    cases b <;> rfl
  · intro k hk
    dsimp only
    rw [if_pos (lt_dec hk), geti_lt' hk, Option.bind_some, wr_succ hl hk]
    unfold impl_finishedS
    rw [Option.bind_some]
    generalize (ps[k].2 == 3 || ps[k].2 == 4) = b1
    generalize decide (ps[k].1 < c) = b2
    cases b1 <;> cases b2 <;> rfl
  · (try dsimp only); rw [if_neg (by simp)]
theorem inB_true {x : Int × Int} : inB x = true ↔ (0 ≤ x.1 ∧ x.1 ≤ 2) ∧ 0 ≤ x.2 ∧ x.2 ≤ 4 := by unfold inB; rw [Bool.and_eq_true, decide_eq_true_eq, decide_eq_true_eq]
theorem reach_ready {ps : List (Int × Int)} (h : ps.all inB = true) (c : Int) : reachB ps c = readyB ps c := by
  unfold reachB readyB
  rw [Bool.eq_iff_iff, List.all_eq_true, List.all_eq_true]
  have key : ∀ y ∈ ps, (!(y.2 == 3 || y.2 == 4)) = decide (y.2 < 3) := by
    intro y hy
    have h1 := inB_true.1 (List.all_eq_true.1 h y hy)
    rw [Bool.eq_iff_iff, Bool.not_eq_true', decide_eq_true_eq, Bool.or_eq_false_iff, beq_eq_false_iff_ne, beq_eq_false_iff_ne]
    omega
  constructor
  · intro hh y hy; rw [← key y hy]; exact hh y hy
  · intro hh y hy; rw [key y hy]; exact hh y hy
theorem implTicket_eq (ps : List (Int × Int)) (hl : ps.length ≤ 4611686018427387904) : impl_TicketValidS ps = some (ticketB ps) := by
  unfold impl_TicketValidS ticketB
  by_cases h6 : ps.length ≤ 6
  · rw [if_neg (by simp; omega), loopList ps (fun _ x => inB x)]
    · rw [Option.bind_some, allI_all, decide_eq_true h6]
      by_cases ha : ps.all inB = true
      · rw [if_pos ha]
        dsimp only
        rw [loopList ps (fun _ x => rdyB ps x)]
        · rw [Option.bind_some, allI_all, ha]; cases ps.all (rdyB ps) <;> rfl
        · intro k hk
          (try dsimp only)
          rw [if_pos (lt_dec hk), geti_lt' hk, Option.bind_some, implReached_eq ps _ hl, Option.bind_some, wr_succ hl hk, reach_ready ha]
          have h1 := inB_true.1 (List.all_eq_true.1 ha _ (List.getElem_mem hk))
          have h2 : (ps[k].2 != 0 && ps[k].2 != 4) = decide (1 ≤ ps[k].2 ∧ ps[k].2 ≤ 3) := by
            rw [Bool.eq_iff_iff, Bool.and_eq_true, bne_iff_ne, bne_iff_ne, decide_eq_true_eq]; omega
          rw [h2]
          unfold rdyB
          generalize readyB ps ps[k].1 = b1
          generalize decide (1 ≤ ps[k].2 ∧ ps[k].2 ≤ 3) = b2
          cases b1 <;> cases b2 <;> rfl
        · (try dsimp only); rw [if_neg (by simp)]
      · rw [if_neg ha]
        rw [Bool.not_eq_true] at ha
        rw [ha]; rfl
    · intro k hk
      (try dsimp only)
      rw [if_pos (lt_dec hk), geti_lt' hk, Option.bind_some, wr_succ hl hk]
      by_cases h : (0 ≤ ps[k].1 ∧ ps[k].1 ≤ 2) ∧ 0 ≤ ps[k].2 ∧ ps[k].2 ≤ 4
      · rw [if_neg (by simp only [Bool.or_eq_true, decide_eq_true_eq]; omega), if_pos (inB_true.2 h)]
      · rw [if_pos (by simp only [Bool.or_eq_true, decide_eq_true_eq]; omega), if_neg (fun hq => h (inB_true.1 hq))]
    · (try dsimp only); rw [if_neg (by simp)]
  · rw [if_pos (by simp; omega), decide_eq_false h6]; rfl
end Go.Proofs.YthofjabphcheeaaDoor
