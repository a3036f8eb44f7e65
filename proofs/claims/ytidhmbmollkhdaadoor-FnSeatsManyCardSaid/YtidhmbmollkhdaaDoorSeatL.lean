/- Chapter 6: the fewest tables. Own work; no program in sight. -/
import Derived.Test.YtidhmbmollkhdaaDoorSeatF
set_option linter.unusedVariables false
namespace Go.Proofs.YtidhmbmollkhdaaDoor
open Go Go.RowKit
/-- the least of b and of f i for those i in 1..k for which p holds -/
def minTo (b : Nat) (p : Nat → Bool) (f : Nat → Nat) : Nat → Nat
  | 0 => b
  | k + 1 => if p (k + 1) then min (minTo b p f k) (f (k + 1)) else minTo b p f k
theorem minTo_le_b {b : Nat} {p : Nat → Bool} {f : Nat → Nat} : ∀ k, minTo b p f k ≤ b
  | 0 => Nat.le_refl _
  | k + 1 => by
    have := minTo_le_b (b := b) (p := p) (f := f) k
    unfold minTo; split <;> omega
theorem minTo_le {b : Nat} {p : Nat → Bool} {f : Nat → Nat} : ∀ {k i : Nat}, 0 < i → i ≤ k → p i = true → minTo b p f k ≤ f i
  | 0, i, h0, h, hp => by omega
  | k + 1, i, h0, h, hp => by
    unfold minTo
    rcases Nat.lt_or_ge k i with h1 | h1
    · have : i = k + 1 := by omega
      subst this; rw [if_pos hp]; omega
    · have := minTo_le (b := b) (f := f) h0 h1 hp
      split <;> omega
theorem minTo_at {b : Nat} {p : Nat → Bool} {f : Nat → Nat} : ∀ k, minTo b p f k = b ∨ ∃ i, 0 < i ∧ i ≤ k ∧ p i = true ∧ minTo b p f k = f i
  | 0 => .inl rfl
  | k + 1 => by
    unfold minTo
    split
    · rename_i hp
      rcases Nat.lt_or_ge (f (k + 1)) (minTo b p f k) with h | h
      · exact .inr ⟨k + 1, by omega, by omega, hp, by omega⟩
      · rcases minTo_at (b := b) (p := p) (f := f) k with h1 | ⟨i, h1, h2, h3, h4⟩
        · exact .inl (by omega)
        · exact .inr ⟨i, h1, by omega, h3, by omega⟩
    · rcases minTo_at (b := b) (p := p) (f := f) k with h1 | ⟨i, h1, h2, h3, h4⟩
      · exact .inl h1
      · exact .inr ⟨i, h1, by omega, h3, h4⟩
theorem minTo_skip {b : Nat} {p : Nat → Bool} {f : Nat → Nat} {k' : Nat} : ∀ {k : Nat}, k' ≤ k → (∀ i, k' < i → i ≤ k → p i = false) → minTo b p f k = minTo b p f k'
  | 0, h, _ => by have : k' = 0 := by omega
                  subst this; rfl
  | k + 1, h, hn => by
    rcases Nat.lt_or_ge k k' with h1 | h1
    · have : k' = k + 1 := by omega
      subst this; rfl
    · rw [← minTo_skip h1 (fun i h2 h3 => hn i h2 (by omega))]
      show (if p (k + 1) then _ else _) = _
      rw [if_neg (by rw [hn (k + 1) (by omega) (by omega)]; simp)]
theorem minTo_congr {b : Nat} {p p' : Nat → Bool} {f f' : Nat → Nat} : ∀ {k : Nat}, (∀ i, 0 < i → i ≤ k → p i = p' i ∧ f i = f' i) → minTo b p f k = minTo b p' f' k
  | 0, _ => rfl
  | k + 1, h => by
    unfold minTo
    rw [minTo_congr (k := k) (fun i h0 hi => h i h0 (by omega)), (h (k + 1) (by omega) (by omega)).1, (h (k + 1) (by omega) (by omega)).2]
/-- no two of the set quarrel -/
def freeAt (qs : List Nat) (x : Nat) : Bool := (List.range qs.length).all fun k => !(x.testBit k && !(nth qs k &&& x == 0))
def partOk (qs : List Nat) (x part : Nat) : Bool := (part &&& x == part) && freeAt qs part
def tabL (qs : List Nat) : Nat → List Nat
  | 0 => [0]
  | m + 1 => tabL qs m ++ [minTo qs.length (partOk qs (m + 1)) (fun part => nth (tabL qs m) (m + 1 - part) + 1) (m + 1)]
def tab (qs : List Nat) (m : Nat) : Nat := nth (tabL qs m) m
theorem tabL_length (qs : List Nat) : ∀ m, (tabL qs m).length = m + 1
  | 0 => rfl
  | m + 1 => by simp [tabL, tabL_length qs m]
theorem tabL_eq (qs : List Nat) : ∀ m, tabL qs m = (List.range (m + 1)).map (tab qs)
  | 0 => rfl
  | m + 1 => by
    rw [List.range_succ, List.map_append, ← tabL_eq qs m]
    show tabL qs m ++ _ = _
    congr 1
    simp only [List.map_cons, List.map_nil]
    congr 1
    unfold tab
    rw [nth_lt (by rw [tabL_length]; omega)]
    simp only [tabL]
    rw [List.getElem_append_right (by rw [tabL_length]; omega)]
    simp [tabL_length]
theorem nth_tabL (qs : List Nat) {m j : Nat} (h : j ≤ m) : nth (tabL qs m) j = tab qs j := by
  rw [tabL_eq, nth_lt (by simp; omega)]; simp
theorem tab_zero (qs : List Nat) : tab qs 0 = 0 := rfl
theorem tab_succ (qs : List Nat) (m : Nat) : tab qs (m + 1) = minTo qs.length (partOk qs (m + 1)) (fun part => tab qs (m + 1 - part) + 1) (m + 1) := by
  have h : tab qs (m + 1) = minTo qs.length (partOk qs (m + 1)) (fun part => nth (tabL qs m) (m + 1 - part) + 1) (m + 1) := by
    unfold tab
    rw [nth_lt (by rw [tabL_length]; omega)]
    simp only [tabL]
    rw [List.getElem_append_right (by rw [tabL_length]; omega)]
    simp [tabL_length]
  rw [h]
  exact minTo_congr fun i h0 hi => ⟨rfl, by rw [nth_tabL qs (by omega)]⟩
theorem tab_le (qs : List Nat) : ∀ m, tab qs m ≤ qs.length
  | 0 => Nat.zero_le _
  | m + 1 => by rw [tab_succ]; exact minTo_le_b _
theorem l6Free_eq {qs : List Nat} {x : Nat} (hn : qs.length ≤ 6) (hx : ∀ y ∈ qs, y < 2 ^ qs.length) (hx6 : x < 64) : spec_l6FreeS (castL qs) (x : Int) = some (freeAt qs x) := by
  unfold spec_l6FreeS
  rw [loopAll qs.length (fun k => !(x.testBit k && !(nth qs k &&& x == 0)))]
  · rw [Option.bind_some]; exact fin2 _
  · intro k hk
    have hqk := p6 hn (hx _ (nth_mem hk))
    simp only [castL, List.length_map]
    rw [if_pos (by simp only [decide_eq_true_eq]; omega), ishrO_nat (by omega), Option.bind_some, shr_bit, geti_nth hk, Option.bind_some, l1Meet_eq (by omega) (by omega), Option.bind_some, wr_succ (n := qs.length) (by omega) hk]
    cases x.testBit k
    · rfl
    · by_cases hz : nth qs k &&& x = 0
      · rw [hz]; rfl
      · have : decide (((nth qs k &&& x : Nat) : Int) > 0) = true := by simp only [decide_eq_true_eq]; omega
        simp [this, hz]
  · simp [castL]
theorem atPeace_eq {qs : List Nat} {x : Nat} (hn : qs.length ≤ 6) (hx : ∀ y ∈ qs, y < 2 ^ qs.length) (hx6 : x < 2 ^ qs.length) : impl_atPeaceS (castL qs) (x : Int) = some (freeAt qs x) := by
  unfold impl_atPeaceS
  have h64 := p6 hn hx6
  rw [membersOf_eq _ (by omega), Option.bind_some]
  rw [loopAll (members x).length (fun k => nth qs (nth (members x) k) &&& x == 0)]
  · rw [Option.bind_some]
    refine (fin2 _).trans (congrArg some ?_)
    rw [range_all_nth _ (fun j => nth qs j &&& x == 0)]
    unfold freeAt
    rw [Bool.eq_iff_iff, List.all_eq_true, List.all_eq_true]
    constructor
    · intro h k hk
      cases hb : x.testBit k
      · rfl
      · rw [h k ((mem_members (by omega)).2 hb)]; rfl
    · intro h k hk
      have hb := (mem_members (by omega)).1 hk
      have := h k (List.mem_range.2 (bit_lt hx6 hb))
      rw [hb] at this
      simpa using this
  · intro k hk
    have hb := (mem_members (by omega)).1 (nth_mem hk)
    have hj := bit_lt hx6 hb
    have hqk := p6 hn (hx _ (nth_mem hj))
    have hml : (members x).length ≤ 64 := membersTo_length _ 64
    simp only [List.length_map]
    rw [if_pos (by simp only [decide_eq_true_eq]; omega), geti_nth hk, Option.bind_some, geti_cast hj, Option.bind_some, iand_nat (by omega) (by omega), wr_succ (n := (members x).length) (by omega) hk]
    by_cases hz : nth qs (nth (members x) k) &&& x = 0
    · rw [hz]; rfl
    · rw [if_pos (by simp only [bne_iff_ne, ne_eq]; omega), if_neg (by simpa using hz)]
  · simp
def seatsLeast (qs : List Nat) : Nat := tab qs (2 ^ qs.length - 1)
theorem specSeatsLeast_eq (g : Int) (q : List Int) (h : q.length ≤ 4611686018427387904) : spec_SeatsLeastS g q = some (if quarValid g q then ((seatsLeast (q.map Int.toNat) : Nat) : Int) else -1) := by
  unfold spec_SeatsLeastS
  rw [specQuarrelsValid_eq g q h, Option.bind_some]
  cases hv : quarValid g q
  · rfl
  · obtain ⟨qs, rfl, rfl, hn, hx, hq⟩ := quarValid_nat hv
    rw [map_toNat, if_neg (by simp), if_pos rfl, show (qs.map fun x : Nat => (x : Int)) = castL qs from rfl]
    have hp : 2 ^ qs.length ≤ 64 := Nat.pow_le_pow_right (n := 2) (by omega) hn
    have hp1 : 1 ≤ 2 ^ qs.length := Nat.one_le_two_pow
    have hsh : ishlO .i64 1 (qs.length : Int) = some ((2 ^ qs.length : Nat) : Int) := ishlO_nat (by omega)
    simp only [hsh, Option.bind_some]
    rw [loopDet (fun k => (castL (tabL qs k), ((k + 1 : Nat) : Int))) (2 ^ qs.length - 1) (castL (tabL qs (2 ^ qs.length - 1)))]
    · rw [Option.bind_some]
      have hlen : ((castL (tabL qs (2 ^ qs.length - 1))).length : Int) = ((2 ^ qs.length : Nat) : Int) := by simp only [castL, List.length_map, tabL_length]; omega
      rw [hlen, wr (x := ((2 ^ qs.length : Nat) : Int) - 1) ⟨by omega, by omega⟩, show ((2 ^ qs.length : Nat) : Int) - 1 = ((2 ^ qs.length - 1 : Nat) : Int) from by omega, geti_cast (by rw [tabL_length]; omega), Option.bind_some]
      rfl
    · rfl
    · intro k hk
      simp only
      rw [if_pos (by simp only [decide_eq_true_eq]; omega)]
      rw [loopDet (fun i => (((minTo qs.length (partOk qs (k + 1)) (fun part => tab qs (k + 1 - part) + 1) i : Nat) : Int), ((i + 1 : Nat) : Int))) (k + 1) ((tab qs (k + 1) : Nat) : Int)]
      · rw [Option.bind_some, appO_cast _ _ (by rw [tabL_length]; omega), Option.bind_some, wr_succ (n := 100) (k := k + 1) (by omega) (by omega)]
        congr 3
        rw [tabL_eq, tabL_eq, List.range_succ (n := k + 1), List.map_append]; rfl
      · rfl
      · intro i hi
        simp only
        rw [if_pos (by simp only [decide_eq_true_eq]; omega), l1Meet_eq (by omega) (by omega), Option.bind_some, l6Free_eq hn hx (by omega), Option.bind_some]
        rw [wr (x := ((k + 1 : Nat) : Int) - ((i + 1 : Nat) : Int)) ⟨by omega, by omega⟩, show ((k + 1 : Nat) : Int) - ((i + 1 : Nat) : Int) = ((k + 1 - (i + 1) : Nat) : Int) from by omega, geti_cast (by rw [tabL_length]; omega), Option.bind_some, nth_tabL qs (by omega)]
        have ht := tab_le qs (k + 1 - (i + 1))
        rw [wr_succ (n := 100) (k := tab qs (k + 1 - (i + 1))) (by omega) (by omega), min_cast, wr_succ (n := 100) (k := i + 1) (by omega) (by omega)]
        have he : ((((i + 1) &&& (k + 1) : Nat) : Int) == ((i + 1 : Nat) : Int)) = ((i + 1) &&& (k + 1) == (i + 1)) := by
          rw [Bool.eq_iff_iff, beq_iff_eq, beq_iff_eq]; omega
        rw [he]
        simp only [minTo, partOk]
        by_cases hb : ((i + 1) &&& (k + 1) == (i + 1)) = true
        · rw [if_pos hb]
          by_cases hf : freeAt qs (i + 1) = true <;> simp [hb, hf]
        · rw [if_neg hb]
          simp [hb]
      · simp only
        rw [if_neg (by simp only [decide_eq_true_eq]; omega), tab_succ]
    · simp only
      rw [if_neg (by simp only [decide_eq_true_eq]; omega)]
theorem sub_step : ∀ s, s < 64 → ∀ p, p < 64 → p &&& s = p → ∀ q, q < p → q &&& s = q → q ≤ (p - 1) &&& s := by decide +kernel
theorem implSeatsLeast_eq (g : Int) (q : List Int) (h : q.length ≤ 4611686018427387904) : impl_SeatsLeastS g q = some (if quarValid g q then ((seatsLeast (q.map Int.toNat) : Nat) : Int) else -1) := by
  unfold impl_SeatsLeastS
  rw [implQuarrelsValid_eq g q h, Option.bind_some]
  cases hv : quarValid g q
  · rfl
  · obtain ⟨qs, rfl, rfl, hn, hx, hq⟩ := quarValid_nat hv
    rw [map_toNat, if_neg (by simp), if_pos rfl, show (qs.map fun x : Nat => (x : Int)) = castL qs from rfl]
    have hp : 2 ^ qs.length ≤ 64 := Nat.pow_le_pow_right (n := 2) (by omega) hn
    have hp1 : 1 ≤ 2 ^ qs.length := Nat.one_le_two_pow
    have hsh : ishlO .i64 1 (qs.length : Int) = some ((2 ^ qs.length : Nat) : Int) := ishlO_nat (by omega)
    rw [hsh, Option.bind_some, mkO_arr (by omega), Option.bind_some]
    have hev := everybody_eq (g := (qs.length : Int)) (by omega) (by omega)
    rw [hev]
    simp only [Option.bind_some]
    rw [loopDet (fun k => (arr (2 ^ qs.length) (fun j => if j ≤ k then ((tab qs j : Nat) : Int) else 0), ((k + 1 : Nat) : Int))) (2 ^ qs.length - 1) (arr (2 ^ qs.length) (fun j => ((tab qs j : Nat) : Int)))]
    · have he2 : (2 : Int) ^ ((qs.length : Int)).toNat - 1 = ((2 ^ qs.length - 1 : Nat) : Int) := by rw [Int.toNat_natCast, two_pow_cast]; omega
      rw [Option.bind_some, he2, arr_geti _ (by omega), Option.bind_some]; rfl
    · congr 1
      apply arr_ext
      intro j hj
      by_cases h0 : j = 0
      · subst h0; simp [tab_zero]
      · rw [if_neg (by omega)]
    · intro k hk
      simp only [arr_length]
      rw [if_pos (by simp only [decide_eq_true_eq]; omega), arr_geti _ (by omega), Option.bind_some]
      let base : Nat → Nat → Int := fun v j => if j = k + 1 then (v : Int) else if j ≤ k then ((tab qs j : Nat) : Int) else 0
      have hin : loop (σ := (List Int) × Int) (ρ := List Int) (fun s => match s with
          | (s44, s45) => (if (decide (s45 > 0)) then ((impl_atPeaceS (castL qs) s45).bind fun x47 => (if x47 then ((geti s44 ((k + 1 : Nat) : Int)).bind fun x60 => ((geti s44 (iandNot .i64 ((k + 1 : Nat) : Int) s45)).bind fun x71 => ((geti s44 ((k + 1 : Nat) : Int)).bind fun x82 => (some (.inl ((List.set s44 (Int.toNat ((k + 1 : Nat) : Int)) (if (IntKind.wrap .i64 (1 + x71)) < x60 then IntKind.wrap .i64 (1 + x71) else x60)), iand .i64 (IntKind.wrap .i64 (s45 - 1)) ((k + 1 : Nat) : Int))))))) else (some (.inl (s44, iand .i64 (IntKind.wrap .i64 (s45 - 1)) ((k + 1 : Nat) : Int)))))) else (some (.inr s44)))) (arr (2 ^ qs.length) (base qs.length), ((k + 1 : Nat) : Int)) = some (arr (2 ^ qs.length) (base (tab qs (k + 1)))) := by
        apply Ret.eq
        refine Ret.loop (fun s => ∃ v part : Nat, s = (arr (2 ^ qs.length) (base v), (part : Int)) ∧ part ≤ k + 1 ∧ part &&& (k + 1) = part ∧ v ≤ qs.length ∧ min v (minTo qs.length (partOk qs (k + 1)) (fun part => tab qs (k + 1 - part) + 1) part) = tab qs (k + 1)) (fun s => s.2.toNat) ⟨qs.length, k + 1, rfl, by omega, by rw [Nat.and_self], by omega, by rw [tab_succ]; have := minTo_le_b (b := qs.length) (p := partOk qs (k + 1)) (f := fun part => tab qs (k + 1 - part) + 1) (k + 1); omega⟩ ?_
        rintro s ⟨v, part, rfl, hpl, hsub, hvn, hmin⟩
        simp only
        rcases Nat.eq_zero_or_pos part with h0 | hpos
        · subst h0
          rw [if_neg (by simp)]
          refine Ret.pure ?_
          simp only [minTo] at hmin
          rw [show v = tab qs (k + 1) from by omega]
        · have hdec : IntKind.wrap .i64 ((part : Int) - 1) = ((part - 1 : Nat) : Int) := by rw [wr ⟨by omega, by omega⟩]; omega
          have hnext : (part - 1) &&& (k + 1) < part := Nat.lt_of_le_of_lt Nat.and_le_left (by omega)
          have hnsub : (part - 1) &&& (k + 1) &&& (k + 1) = (part - 1) &&& (k + 1) := by rw [Nat.and_assoc, Nat.and_self]
          have hskip : minTo qs.length (partOk qs (k + 1)) (fun part => tab qs (k + 1 - part) + 1) (part - 1) = minTo qs.length (partOk qs (k + 1)) (fun part => tab qs (k + 1 - part) + 1) ((part - 1) &&& (k + 1)) := by
            refine minTo_skip Nat.and_le_left fun i h1 h2 => ?_
            unfold partOk
            cases hb : (i &&& (k + 1) == i)
            · rfl
            · have := sub_step (k + 1) (by omega) part (by omega) hsub i (by omega) (by simpa using hb)
              omega
          have hstep : minTo qs.length (partOk qs (k + 1)) (fun part => tab qs (k + 1 - part) + 1) part = if partOk qs (k + 1) part then min (minTo qs.length (partOk qs (k + 1)) (fun part => tab qs (k + 1 - part) + 1) (part - 1)) (tab qs (k + 1 - part) + 1) else minTo qs.length (partOk qs (k + 1)) (fun part => tab qs (k + 1 - part) + 1) (part - 1) := by
            obtain ⟨m, rfl⟩ : ∃ m, part = m + 1 := ⟨part - 1, by omega⟩
            rfl
          have hpo : partOk qs (k + 1) part = freeAt qs part := by unfold partOk; rw [hsub]; simp
          rw [hpo, hskip] at hstep
          rw [if_pos (by simp only [decide_eq_true_eq]; omega), atPeace_eq hn hx (by omega), Option.bind_some, hdec, iand_nat (by omega) (by omega)]
          cases hf : freeAt qs part
          · rw [hf] at hstep
            simp only [Bool.false_eq_true, if_false] at hstep ⊢
            exact Ret.pure ⟨⟨v, _, rfl, by omega, hnsub, hvn, by rw [← hstep]; exact hmin⟩, by simp only [Int.toNat_natCast]; exact hnext⟩
          · rw [hf] at hstep
            simp only [if_true] at hstep ⊢
            have hmn : minus (k + 1) part = k + 1 - part := by
              have h1 := or_and_add (64 + k) (minus (k + 1) part) part (Nat.lt_of_le_of_lt (minus_le _ _) (Nat.lt_of_lt_of_le (show k + 1 < 2 ^ 64 by omega) (Nat.pow_le_pow_right (by omega) (by omega)))) (Nat.lt_of_lt_of_le (show part < 2 ^ 64 by omega) (Nat.pow_le_pow_right (by omega) (by omega)))
              have h2 : minus (k + 1) part ||| part = k + 1 := by
                apply Nat.eq_of_testBit_eq
                intro i
                have := congrArg (fun y => y.testBit i) hsub
                simp only [Nat.testBit_and] at this
                rw [Nat.testBit_or, testBit_minus]
                cases h3 : (k + 1).testBit i <;> cases h4 : part.testBit i <;> simp_all
              have h3 : minus (k + 1) part &&& part = 0 := by
                apply Nat.eq_of_testBit_eq
                intro i
                rw [Nat.testBit_and, testBit_minus, Nat.zero_testBit]
                cases (k + 1).testBit i <;> cases part.testBit i <;> rfl
              rw [h2, h3] at h1; omega
            have ht := tab_le qs (k + 1 - part)
            rw [arr_geti _ (by omega), Option.bind_some, iandNot_nat (by omega) (by omega), hmn, arr_geti _ (by omega), Option.bind_some, Option.bind_some, arr_set]
            have hb1 : base v (k + 1) = (v : Int) := if_pos rfl
            have hb2 : base v (k + 1 - part) = ((tab qs (k + 1 - part) : Nat) : Int) := by
              show (if _ then _ else _) = _
              rw [if_neg (by omega), if_pos (by omega)]
            rw [hb1, hb2, Int.add_comm 1 _, wr_succ (n := 100) (k := tab qs (k + 1 - part)) (by omega) (by omega), min_cast]
            refine Ret.pure ⟨⟨min v (tab qs (k + 1 - part) + 1), _, ?_, by omega, hnsub, by omega, ?_⟩, by simp only [Int.toNat_natCast]; exact hnext⟩
            · congr 1
              apply arr_ext
              intro j hj
              show _ = (if _ then _ else _)
              by_cases hjk : j = k + 1
              · rw [if_pos hjk, if_pos hjk]
              · rw [if_neg hjk, if_neg hjk]
                show (if _ then _ else _) = _
                rw [if_neg hjk]
            · omega
      have harr : List.set (arr (2 ^ qs.length) (fun j => if j ≤ k then ((tab qs j : Nat) : Int) else 0)) (Int.toNat ((k + 1 : Nat) : Int)) (qs.length : Int) = arr (2 ^ qs.length) (base qs.length) := arr_set _ _ _ _
      rw [harr]
      refine Eq.trans (congrArg (fun o => Option.bind o _) hin) ?_
      rw [Option.bind_some, wr_succ (n := 100) (k := k + 1) (by omega) (by omega)]
      congr 3
      apply arr_ext
      intro j hj
      show (if _ then _ else _) = _
      by_cases hjk : j = k + 1
      · rw [if_pos hjk, if_pos (by omega), hjk]
      · rw [if_neg hjk]
        by_cases h2 : j ≤ k
        · rw [if_pos h2, if_pos (by omega)]
        · rw [if_neg h2, if_neg (by omega)]
    · simp only [arr_length]
      rw [if_neg (by simp only [decide_eq_true_eq]; omega)]
      congr 2
      apply arr_ext
      intro j hj
      rw [if_pos (by omega)]
end Go.Proofs.YtidhmbmollkhdaaDoor
