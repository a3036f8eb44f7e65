/- Chapter 6: the dish for the most first. Own work; no program in sight. -/
import Derived.Test.YtidhmbmollkhdaaDoorApartM
set_option linter.unusedVariables false
namespace Go.Proofs.YtidhmbmollkhdaaDoor
open Go Go.RowKit
theorem membersTo_split (x y : Nat) : ∀ k, (membersTo x k).length = (membersTo (x &&& y) k).length + (membersTo (minus x y) k).length
  | 0 => rfl
  | k + 1 => by
    rw [membersTo_succ, membersTo_succ, membersTo_succ, List.length_append, List.length_append, List.length_append, membersTo_split x y k, Nat.testBit_and, testBit_minus]
    cases x.testBit k <;> cases y.testBit k <;> simp <;> omega
theorem pc_split {x : Nat} (hx : x < 18446744073709551616) (y : Nat) : pc x = pc (x &&& y) + pc (minus x y) := by
  rw [← members_length hx, ← members_length (Nat.lt_of_le_of_lt Nat.and_le_left hx), ← members_length (Nat.lt_of_le_of_lt (minus_le x y) hx)]
  exact membersTo_split x y 64
/-- how many new guests dish k feeds -/
def gain (ms : List Nat) (fed k : Nat) : Nat := pc (minus (nth ms k) fed)
def pickTo (ms : List Nat) (fed : Nat) : Nat → Int × Nat
  | 0 => (-1, 0)
  | k + 1 => if gain ms fed k > (pickTo ms fed k).2 then ((k : Int), gain ms fed k) else pickTo ms fed k
theorem pickTo_succ (ms : List Nat) (fed k : Nat) : pickTo ms fed (k + 1) = if gain ms fed k > (pickTo ms fed k).2 then ((k : Int), gain ms fed k) else pickTo ms fed k := rfl
theorem pickTo_spec (ms : List Nat) (fed : Nat) : ∀ k, ((pickTo ms fed k).1 = -1 ∧ (pickTo ms fed k).2 = 0 ∧ ∀ j, j < k → gain ms fed j = 0) ∨ ∃ b, b < k ∧ (pickTo ms fed k).1 = ((b : Nat) : Int) ∧ (pickTo ms fed k).2 = gain ms fed b ∧ 0 < gain ms fed b ∧ (∀ j, j < k → gain ms fed j ≤ gain ms fed b) ∧ ∀ j, j < b → gain ms fed j < gain ms fed b
  | 0 => .inl ⟨rfl, rfl, fun j hj => by omega⟩
  | k + 1 => by
    unfold pickTo
    rcases pickTo_spec ms fed k with ⟨h1, h2, h3⟩ | ⟨b, hb, h1, h2, h3, h4, h5⟩
    · by_cases hg : gain ms fed k > (pickTo ms fed k).2
      · rw [if_pos hg]
        refine .inr ⟨k, by omega, rfl, rfl, by omega, fun j hj => ?_, fun j hj => by rw [h3 j hj]; omega⟩
        rcases Nat.lt_or_ge j k with h | h
        · rw [h3 j h]; omega
        · have : j = k := by omega
          subst this; exact Nat.le_refl _
      · rw [if_neg hg]
        refine .inl ⟨h1, h2, fun j hj => ?_⟩
        rcases Nat.lt_or_ge j k with h | h
        · exact h3 j h
        · have : j = k := by omega
          subst this; omega
    · by_cases hg : gain ms fed k > (pickTo ms fed k).2
      · rw [if_pos hg]
        refine .inr ⟨k, by omega, rfl, rfl, by omega, fun j hj => ?_, fun j hj => by have := h4 j hj; omega⟩
        rcases Nat.lt_or_ge j k with h | h
        · have := h4 j h; omega
        · have : j = k := by omega
          subst this; exact Nat.le_refl _
      · rw [if_neg hg]
        refine .inr ⟨b, by omega, h1, h2, h3, fun j hj => ?_, h5⟩
        rcases Nat.lt_or_ge j k with h | h
        · exact h4 j h
        · have : j = k := by omega
          subst this; omega
def greedy (ms : List Nat) : Nat → Nat → List Nat
  | 0, _ => []
  | f + 1, fd => if (pickTo ms fd ms.length).1 < 0 then [] else (pickTo ms fd ms.length).1.toNat :: greedy ms f (fd ||| nth ms (pickTo ms fd ms.length).1.toNat)
theorem gain_le {n : Nat} {ms : List Nat} (hn : n ≤ 6) (hx : ∀ x ∈ ms, x < 2 ^ n) (fd : Nat) {k : Nat} (hk : k < ms.length) : gain ms fd k ≤ 64 := pc_le _
/-- how many guests of n are not fed -/
def unfed (n fd : Nat) : Nat := pc (minus (2 ^ n - 1) fd)
theorem testBit_all (n i : Nat) : (2 ^ n - 1).testBit i = decide (i < n) := Nat.testBit_two_pow_sub_one n i
theorem unfed_or {n fd : Nat} (hn : n ≤ 6) {x : Nat} (hx : x < 2 ^ n) : unfed n fd = unfed n (fd ||| x) + pc (minus x fd) := by
  unfold unfed
  have h64 : 2 ^ n ≤ 64 := Nat.pow_le_pow_right (n := 2) (by omega) hn
  have hlt : minus (2 ^ n - 1) fd < 18446744073709551616 := Nat.lt_of_le_of_lt (minus_le _ _) (by omega)
  have e1 : minus (minus (2 ^ n - 1) fd) x = minus (2 ^ n - 1) (fd ||| x) := by
    apply Nat.eq_of_testBit_eq
    intro i
    rw [testBit_minus, testBit_minus, testBit_minus, Nat.testBit_or]
    cases (2 ^ n - 1).testBit i <;> cases fd.testBit i <;> cases x.testBit i <;> rfl
  have e2 : minus (2 ^ n - 1) fd &&& x = minus x fd := by
    apply Nat.eq_of_testBit_eq
    intro i
    rw [Nat.testBit_and, testBit_minus, testBit_minus, testBit_all]
    cases hb : x.testBit i
    · simp
    · have := bit_lt hx hb
      simp [this]
  rw [pc_split hlt x, e1, e2, Nat.add_comm]
theorem unfed_le {n : Nat} (hn : n ≤ 6) (fd : Nat) : unfed n fd ≤ n := by
  have h64 : 2 ^ n ≤ 64 := Nat.pow_le_pow_right (n := 2) (by omega) hn
  unfold unfed
  have hlt : minus (2 ^ n - 1) fd < 2 ^ n := Nat.lt_of_le_of_lt (minus_le _ _) (by have := Nat.two_pow_pos n; omega)
  rw [← members_length (by omega)]
  unfold members
  have : membersTo (minus (2 ^ n - 1) fd) 64 = membersTo (minus (2 ^ n - 1) fd) (n + (64 - n)) := by congr 1; omega
  rw [this, membersTo_zero (by rw [Nat.shiftRight_eq_div_pow]; exact Nat.div_eq_of_lt hlt)]
  exact membersTo_length _ _
theorem greedy_length {ms : List Nat} : ∀ f fd, (greedy ms f fd).length ≤ f
  | 0, _ => Nat.le_refl _
  | f + 1, fd => by
    unfold greedy
    split
    · exact Nat.zero_le _
    · have := greedy_length (ms := ms) f (fd ||| nth ms (pickTo ms fd ms.length).1.toNat)
      simp only [List.length_cons]; omega
/-- a loop that does as greedy does -/
theorem greedy_loop {ρ τ : Type} {n : Nat} {ms : List Nat} (hn : n ≤ 6) (hx : ∀ x ∈ ms, x < 2 ^ n) (S : List Nat → Nat → τ) (O : List Nat → ρ) (step : τ → Option (τ ⊕ ρ))
    (h : ∀ out fd, fd < 2 ^ n → out.length ≤ 1000 → step (S out fd) = some (if (pickTo ms fd ms.length).1 < 0 then .inr (O out) else .inl (S (out ++ [(pickTo ms fd ms.length).1.toNat]) (fd ||| nth ms (pickTo ms fd ms.length).1.toNat)))) :
    ∀ f out fd, fd < 2 ^ n → unfed n fd < f → out.length + f ≤ 1000 → loop (σ := τ) (ρ := ρ) step (S out fd) = some (O (out ++ greedy ms f fd)) := by
  intro f
  induction f with
  | zero => intro out fd _ h1; omega
  | succ f ih =>
    intro out fd hfd hu hl
    rw [loop_eq, h out fd hfd (by omega)]
    unfold greedy
    rcases pickTo_spec ms fd ms.length with ⟨h1, _⟩ | ⟨b, hb, h1, h2, h3, h4, h5⟩
    · rw [h1]; simp
    · rw [h1, if_neg (by omega), if_neg (by omega)]
      simp only [Int.toNat_natCast]
      have hbx := hx _ (nth_mem hb)
      have := unfed_or (fd := fd) hn hbx
      unfold gain at h3
      rw [ih (out ++ [b]) (fd ||| nth ms b) (Nat.or_lt_two_pow hfd hbx) (by omega) (by simp; omega), List.append_assoc]
      rfl
def dishesGreedy (n : Nat) (ms : List Nat) : List Nat := greedy ms 7 0
theorem unfed_zero {n : Nat} (hn : n ≤ 6) : unfed n 0 < 7 := by have := unfed_le hn 0; omega
theorem specGreedy_eq (g : Int) (m : List Int) (h : m.length ≤ 4611686018427387904) : spec_DishesGreedyS g m = some (if decide (MenuOk g m) then castL (dishesGreedy g.toNat (m.map Int.toNat)) else []) := by
  unfold spec_DishesGreedyS
  simp only [specMenuValid_eq g m h, Option.bind_some]
  by_cases hm : MenuOk g m
  · obtain ⟨n, ms, rfl, hn, rfl, hl, hx⟩ := menu_nat hm
    simp only [decide_eq_true hm, if_true, map_toNat]
    have := greedy_loop (ρ := List Int ⊕ List Int) (n := n) (ms := ms) hn hx (fun out fd => (castL out, (fd : Int))) (fun out => .inr (castL out)) (fun (s : (List Int) × Int) => match s with
      | (s16, s17) => ((loop (σ := Int × Int × Int) (ρ := (Int)) (fun (s : Int × Int × Int) => match s with | (s26, s27, s28) => (if (decide (s28 < (List.length (ms.map (fun x : Nat => (x : Int))) : Int))) then ((geti (ms.map (fun x : Nat => (x : Int))) s28).bind fun x30 => ((spec_l6CountS x30).bind fun x38 => ((geti (ms.map (fun x : Nat => (x : Int))) s28).bind fun x40 => ((spec_l1MeetS x40 s17).bind fun x48 => ((spec_l6CountS x48).bind fun x50 => (if (decide ((IntKind.wrap .i64 (x38 - x50)) > s27)) then (some (.inl (s28, IntKind.wrap .i64 (x38 - x50), IntKind.wrap .i64 (s28 + 1)))) else (some (.inl (s26, s27, IntKind.wrap .i64 (s28 + 1)))))))))) else (some (.inr s26)))) ((-1), 0, 0)).bind fun o => match o with | p58 => (if (decide (p58 < 0)) then (some (.inr (.inr s16))) else ((appO s16 ([p58])).bind fun x73 => ((geti (ms.map (fun x : Nat => (x : Int))) p58).bind fun x90 => ((spec_l1JoinS s17 x90).bind fun x98 => (some (.inl (x73, x98)))))))))
      ?_ 7 [] 0 (Nat.two_pow_pos n) (unfed_zero hn) (by simp)
    · refine (congrArg (fun o => Option.bind o _) this).trans ?_
      rw [Option.bind_some]; rfl
    · intro out fd hfd hol
      have hf6 := p6 hn hfd
      simp only
      rw [loopDet (fun k => ((pickTo ms fd k).1, ((pickTo ms fd k).2 : Int), (k : Int))) ms.length (pickTo ms fd ms.length).1]
      · rw [Option.bind_some]
        rcases pickTo_spec ms fd ms.length with ⟨h1, _⟩ | ⟨b, hb, h1, h2, h3, h4, h5⟩
        · rw [h1]; rfl
        · have hb6 := p6 hn (hx _ (nth_mem hb))
          rw [h1, if_neg (by simp), if_neg (by omega), appO_cast _ _ (by omega), Option.bind_some, geti_nth hb, Option.bind_some, l1Join_eq (by omega) (by omega)]
          rfl
      · rfl
      · intro k hk
        have hk6 := p6 hn (hx _ (nth_mem hk))
        have hand : nth ms k &&& fd < 64 := and_lt hk6
        have hsp := pc_split (x := nth ms k) (by omega) fd
        have hp1 := pc_le (nth ms k)
        simp only
        rw [if_pos (by simp only [List.length_map, decide_eq_true_eq]; omega), geti_nth hk, Option.bind_some, count_eq _ (by omega), Option.bind_some, Option.bind_some, l1Meet_eq (by omega) (by omega), Option.bind_some, count_eq _ (by omega), Option.bind_some, wr_succ (n := ms.length) (by omega) hk]
        have hg : IntKind.wrap .i64 (((pc (nth ms k) : Nat) : Int) - ((pc (nth ms k &&& fd) : Nat) : Int)) = ((gain ms fd k : Nat) : Int) := by
          rw [wr ⟨by omega, by omega⟩]; unfold gain; omega
        rw [hg]
        rw [pickTo_succ]
        by_cases hgt : gain ms fd k > (pickTo ms fd k).2
        · rw [if_pos hgt, if_pos (by simp only [decide_eq_true_eq]; omega)]
        · rw [if_neg hgt, if_neg (by simp only [decide_eq_true_eq]; omega)]
      · simp only [List.length_map]
        rw [if_neg (by simp)]
  · simp only [decide_eq_false hm, Bool.false_eq_true, if_false]
    rw [loop_eq]; rfl
theorem implGreedy_eq (g : Int) (m : List Int) (h : m.length ≤ 4611686018427387904) : impl_DishesGreedyS g m = some (if decide (MenuOk g m) then castL (dishesGreedy g.toNat (m.map Int.toNat)) else []) := by
  unfold impl_DishesGreedyS
  rw [implMenuValid_eq g m h, Option.bind_some]
  by_cases hm : MenuOk g m
  · obtain ⟨n, ms, rfl, hn, rfl, hl, hx⟩ := menu_nat hm
    have h64 : 2 ^ n ≤ 64 := Nat.pow_le_pow_right (n := 2) (by omega) hn
    have hp1 : 1 ≤ 2 ^ n := Nat.one_le_two_pow
    simp only [decide_eq_true hm, if_true, map_toNat, Bool.not_true, Bool.false_eq_true, if_false]
    rw [everybody_eq (by omega) (by omega), Option.bind_some]
    have := greedy_loop (ρ := List Int) (n := n) (ms := ms) hn hx (fun out fd => (((minus (2 ^ n - 1) fd : Nat) : Int), castL out)) (fun out => castL out) (fun (s : Int × (List Int)) => match s with
      | (s20, s21) => ((loop (σ := Int × Int × Int) (ρ := (Int)) (fun (s : Int × Int × Int) => match s with | (s22, s23, s24) => (if (decide (s24 < (List.length (ms.map (fun x : Nat => (x : Int))) : Int))) then ((geti (ms.map (fun x : Nat => (x : Int))) s24).bind fun x26 => ((bits_OnesCountS (IntKind.wrap .u64 (iand .i64 x26 s20))).bind fun x34 => (if (decide (x34 > s23)) then (some (.inl (s24, x34, IntKind.wrap .i64 (s24 + 1)))) else (some (.inl (s22, s23, IntKind.wrap .i64 (s24 + 1))))))) else (some (.inr s22)))) ((-1), 0, 0)).bind fun o => match o with | p42 => (if (decide (p42 < 0)) then (some (.inr s21)) else ((appO s21 ([p42])).bind fun x57 => ((geti (ms.map (fun x : Nat => (x : Int))) p42).bind fun x74 => (some (.inl (iandNot .i64 s20 x74, x57))))))))
      ?_ 7 [] 0 (Nat.two_pow_pos n) (unfed_zero hn) (by simp)
    · have h0 : (2 : Int) ^ ((n : Int)).toNat - 1 = ((minus (2 ^ n - 1) 0 : Nat) : Int) := by
        have hm0 : minus (2 ^ n - 1) 0 = 2 ^ n - 1 := by unfold minus; simp
        rw [Int.toNat_natCast, two_pow_cast, hm0]
        generalize 2 ^ n = z at hp1 ⊢
        omega
      rw [h0]
      refine (congrArg (fun o => Option.bind o _) this).trans ?_
      rw [Option.bind_some]; rfl
    · intro out fd hfd hol
      have hf6 := p6 hn hfd
      have hh6 : minus (2 ^ n - 1) fd < 64 := Nat.lt_of_le_of_lt (minus_le _ _) (by omega)
      simp only
      rw [loopDet (fun k => ((pickTo ms fd k).1, ((pickTo ms fd k).2 : Int), (k : Int))) ms.length (pickTo ms fd ms.length).1]
      · rw [Option.bind_some]
        rcases pickTo_spec ms fd ms.length with ⟨h1, _⟩ | ⟨b, hb, h1, h2, h3, h4, h5⟩
        · rw [h1]; rfl
        · have hb6 := p6 hn (hx _ (nth_mem hb))
          rw [h1, if_neg (by simp), if_neg (by omega), appO_cast _ _ (by omega), Option.bind_some, geti_nth hb, Option.bind_some, iandNot_nat (by omega) (by omega)]
          simp only [Int.toNat_natCast]
          congr 3
          congr 1
          apply Nat.eq_of_testBit_eq
          intro i
          rw [testBit_minus, testBit_minus, testBit_minus, Nat.testBit_or]
          cases (2 ^ n - 1).testBit i <;> cases fd.testBit i <;> cases (nth ms b).testBit i <;> rfl
      · rfl
      · intro k hk
        have hkx := hx _ (nth_mem hk)
        have hk6 := p6 hn hkx
        have hand : nth ms k &&& minus (2 ^ n - 1) fd < 64 := and_lt hk6
        have he : nth ms k &&& minus (2 ^ n - 1) fd = minus (nth ms k) fd := by
          apply Nat.eq_of_testBit_eq
          intro i
          rw [Nat.testBit_and, testBit_minus, testBit_minus, testBit_all]
          cases hb : (nth ms k).testBit i
          · rfl
          · simp [bit_lt hkx hb]
        simp only
        rw [if_pos (by simp only [List.length_map, decide_eq_true_eq]; omega), geti_nth hk, Option.bind_some, iand_nat (by omega) (by omega), wu (by omega), onesCount_eq _ (by omega), Option.bind_some, wr_succ (n := ms.length) (by omega) hk, he]
        rw [show pc (minus (nth ms k) fd) = gain ms fd k from rfl, pickTo_succ]
        by_cases hgt : gain ms fd k > (pickTo ms fd k).2
        · rw [if_pos hgt, if_pos (by simp only [decide_eq_true_eq]; omega)]
        · rw [if_neg hgt, if_neg (by simp only [decide_eq_true_eq]; omega)]
      · simp only [List.length_map]
        rw [if_neg (by simp)]
  · simp only [decide_eq_false hm, Bool.false_eq_true, if_false, Bool.not_false, if_true]
end Go.Proofs.YtidhmbmollkhdaaDoor
