/- ApartValid. Own work; no program in sight. -/
import Derived.Test.YtidhmbmollkhdaaDoorDraw8
set_option linter.unusedVariables false
namespace Go.Proofs.YtidhmbmollkhdaaDoor
open Go Go.RowKit
theorem drawApartValid (x : List Int) (hx : ∀ n ∈ x, 0 ≤ n ∧ n ≤ 255) : Ret (spec_DrawApartValidS x) (fun r => DG (r.1, r.2.1) ∧ r.2.2.length ≤ 8) := by
  unfold spec_DrawApartValidS
  refine Ret.bind (open_spec x hx) (fun r hr => ?_)
  refine Ret.bind (menu_ret hr.1 (by omega) (by omega)) (fun v hv => ?_)
  have hp0 := hv.1.1
  have hp1 := hv.1.2
  refine Ret.loopb (fun s => ∃ (l : List Int) (i : Nat) (p : Int), s = (l, (i : Int), p) ∧ l.length ≤ i ∧ i ≤ 7 ∧ 0 ≤ p ∧ p ≤ 20 + (i : Int)) (fun s => 7 - s.2.1.toNat) (fun r => r.1.length ≤ 7 ∧ 0 ≤ r.2 ∧ r.2 ≤ 27) ⟨[], 0, v.1, rfl, by simp, by omega, by omega, by omega⟩ ?_ (fun q hq => ?_)
  · rintro s ⟨l, i, p, rfl, hl, hi, hp0, hp1⟩
    dsimp only
    refine Ret.ite (fun h => ?_) (fun h => Ret.pure ⟨by show l.length ≤ 7; omega, hp0, by show p ≤ 27; omega⟩)
    have hi7 : i < 7 := by
      rw [Bool.and_eq_true, decide_eq_true_iff, decide_eq_true_iff] at h; omega
    have e1 : IntKind.wrap .i64 ((i : Int) + 1) = ((i + 1 : Nat) : Int) := wr_succ (n := 40) (by omega) (by omega)
    rw [e1]
    refine Ret.bind (pick_ret hr.1 hp0 (by omega)) (fun u hu => ?_)
    refine Ret.ite (fun h => ?_) (fun h => Ret.pure ⟨⟨l, i + 1, u.1, rfl, by omega, by omega, by omega, by omega⟩, by simp; omega⟩)
    rw [appO_ret (by simp only [List.length_cons, List.length_nil]; omega), Option.bind_some]
    exact Ret.pure ⟨⟨l ++ [(i : Int)], i + 1, u.1, rfl, by simp; omega, by omega, by omega, by omega⟩, by simp; omega⟩
  · obtain ⟨l, p⟩ := q
    obtain ⟨hl, hq0, hq1⟩ := hq
    dsimp only at hl hq0 hq1 ⊢
    refine Ret.bind (odd_ret hr.1 hq0 (by omega)) (fun o ho => ?_)
    refine Ret.bind (Q := fun j : List Int => j.length ≤ 8) ?_ (fun j hj => Ret.pure ⟨hv.2, hj⟩)
    refine Ret.ite (fun h => ?_) (fun h => Ret.pure (by omega))
    refine Ret.bind (pick_ret hr.1 (by omega) (by omega)) (fun u hu => ?_)
    rw [appO_ret (by simp only [List.length_cons, List.length_nil]; omega), Option.bind_some]
    exact Ret.pure (by simp; omega)
theorem apartS_iff {n : Nat} {ms : List Nat} {a : List Int} : apartS n ms a = true ↔ (∀ i, i < a.length → upAt (n : Int) a i = true) ∧ ∀ i j k, i < a.length → j < i → k < ms.length → (nth ms k).testBit (a.getD i 0).toNat = true → (nth ms k).testBit (a.getD j 0).toNat = true → False := by
  unfold apartS
  rw [List.all_eq_true]
  constructor
  · intro h
    refine ⟨fun i hi => ?_, fun i j k hi hj hk h1 h2 => ?_⟩
    · have := h i (List.mem_range.2 hi)
      rw [Bool.and_eq_true] at this
      exact this.1
    · have h3 := h i (List.mem_range.2 hi)
      rw [Bool.and_eq_true, List.all_eq_true] at h3
      have h4 := h3.2 j (List.mem_range.2 hj)
      rw [List.all_eq_true] at h4
      have h5 := h4 k (List.mem_range.2 hk)
      rw [h1, h2] at h5
      cases h5
  · rintro ⟨h1, h2⟩ i hi
    have hi := List.mem_range.1 hi
    rw [Bool.and_eq_true, List.all_eq_true]
    refine ⟨h1 i hi, fun j hj => ?_⟩
    rw [List.all_eq_true]
    intro k hk
    cases hb : (nth ms k).testBit (a.getD i 0).toNat with
    | false => rfl
    | true =>
      cases hb2 : (nth ms k).testBit (a.getD j 0).toNat with
      | false => rfl
      | true => exact (h2 i j k hi (List.mem_range.1 hj) (List.mem_range.1 hk) hb hb2).elim
theorem drop_getD (a : List Int) (i : Nat) : (a.drop 1).getD i 0 = a.getD (i + 1) 0 := by
  rw [List.getD_eq_getElem?_getD, List.getD_eq_getElem?_getD, List.getElem?_drop, Nat.add_comm]
theorem apartS_tail {n : Nat} {ms : List Nat} {a : List Int} (h : apartS n ms a = true) : apartS n ms (a.drop 1) = true := by
  rw [apartS_iff] at h ⊢
  obtain ⟨h1, h2⟩ := h
  have hl : (a.drop 1).length = a.length - 1 := by simp
  refine ⟨fun i hi => ?_, fun i j k hi hj hk hb hb2 => ?_⟩
  · have h3 := h1 (i + 1) (by omega)
    unfold upAt at h3 ⊢
    rw [drop_getD]
    rw [Bool.and_eq_true] at h3 ⊢
    refine ⟨h3.1, ?_⟩
    have h4 := h3.2
    cases i with
    | zero => simp
    | succ i =>
      have e : i + 1 - 1 = i := by omega
      have e2 : i + 1 + 1 - 1 = i + 1 := by omega
      rw [e, drop_getD]
      rw [e2] at h4
      simpa using h4
  · rw [drop_getD] at hb hb2
    exact h2 (i + 1) (j + 1) k (by omega) (by omega) hk hb hb2
theorem pc_setTo {n : Nat} {a : List Int} (hn : n ≤ 6) (h : (List.range a.length).all (upAt (n : Int) a) = true) : ∀ k, k ≤ a.length → pc (setTo a k) = k := by
  intro k
  induction k with
  | zero => intro _; exact pc_zero
  | succ k ih =>
    intro hk
    have ih := ih (by omega)
    have hin := up_in h (show k < a.length by omega)
    have hs : (setTo a k).testBit (a.getD k 0).toNat = false := by
      cases hb : (setTo a k).testBit (a.getD k 0).toNat with
      | false => rfl
      | true =>
        obtain ⟨i, hi, he⟩ := (setTo_bit a _ k).1 hb
        have h1 := up_lt h (show k < a.length by omega) hi
        have h2 := up_in h (show i < a.length by omega)
        omega
    have hlt : setTo a k < 2 ^ n := by
      have hall : (List.range k).all (upAt (n : Int) a) = true := by
        rw [List.all_eq_true] at h ⊢
        intro i hi
        exact h i (List.mem_range.2 (by have := List.mem_range.1 hi; omega))
      exact setTo_lt hall
    have h6 := p6 hn hlt
    show pc (setTo a k ||| 2 ^ (a.getD k 0).toNat) = k + 1
    generalize hc : (a.getD k 0).toNat = c at *
    have hc6 : c < 6 := by omega
    have hp64 : 2 ^ c < 64 := by
      have : 2 ^ c ≤ 2 ^ 5 := Nat.pow_le_pow_right (by omega) (by omega)
      omega
    have h64 : setTo a k ||| 2 ^ c < 9223372036854775808 := or_lt63 (by omega) (by omega)
    have h1 := pc_split (x := setTo a k ||| 2 ^ c) (by omega) (setTo a k)
    have e1 : (setTo a k ||| 2 ^ c) &&& setTo a k = setTo a k := by
      apply Nat.eq_of_testBit_eq; intro t
      rw [Nat.testBit_and, Nat.testBit_or]; cases (setTo a k).testBit t <;> simp
    have e2 : minus (setTo a k ||| 2 ^ c) (setTo a k) = 2 ^ c := by
      apply Nat.eq_of_testBit_eq; intro t
      rw [testBit_minus, Nat.testBit_or, Nat.testBit_two_pow]
      by_cases ht : c = t
      · subst ht; simp [hs]
      · simp [ht]
    rw [e1, e2, ih, pcPow c (by omega)] at h1
    exact h1
theorem members_sorted (x : Nat) : (members x).Pairwise (· < ·) := by
  unfold members membersTo
  exact (List.pairwise_lt_range).filter _
theorem apart_most_ge {n : Nat} {ms : List Nat} {a : List Int} (hn : n ≤ 6) (hms : ∀ y ∈ ms, y < 2 ^ n) (hm : MenuOk (n : Int) (castL ms)) (h : apartS n ms a = true) : a.length ≤ apartMost (n : Int) (castL ms) := by
  have hI := h
  rw [← apart_eq a hn hms] at hI
  unfold apartI at hI
  rw [Bool.and_eq_true] at hI
  obtain ⟨hu, hp⟩ := hI
  have hlt := setTo_lt hu
  generalize hx : setTo a a.length = x at *
  have hx6 := p6 hn hlt
  have hpc : pc x = a.length := by rw [← hx]; exact pc_setTo hn hu a.length (Nat.le_refl _)
  have hml := members_length (x := x) (by omega)
  have hcl : (castL (members x)).length = (members x).length := castL_length _
  have hg : ∀ i, i < (members x).length → (castL (members x)).getD i 0 = ((nth (members x) i : Nat) : Int) := by
    intro i hi
    rw [getD_lt (by rw [hcl]; exact hi), nth_lt hi]
    simp [castL]
  have hmb : ∀ i, i < (members x).length → x.testBit (nth (members x) i) = true := fun i hi => (mem_members (by omega)).1 (nth_mem hi)
  have hv : apartS n ms (castL (members x)) = true := by
    rw [← apart_eq _ hn hms]
    unfold apartI
    rw [Bool.and_eq_true]
    constructor
    · rw [List.all_eq_true]
      intro i hi
      have hi := List.mem_range.1 hi
      rw [hcl] at hi
      have hin := bit_lt hlt (hmb i hi)
      unfold upAt
      rw [Bool.and_eq_true, hg i hi]
      refine ⟨decide_eq_true ⟨by omega, by omega⟩, ?_⟩
      cases i with
      | zero => rfl
      | succ i =>
        have hs := List.pairwise_iff_getElem.1 (members_sorted x) i (i + 1) (by omega) hi (by omega)
        rw [← nth_lt, ← nth_lt] at hs
        have e : i + 1 - 1 = i := by omega
        rw [e, hg i (by omega)]
        simp only [gt_iff_lt, Nat.zero_lt_succ, decide_true, Bool.true_and, Bool.not_eq_true', decide_eq_false_iff_not]
        omega
    · have hset : setTo (castL (members x)) (castL (members x)).length = x := by
        apply Nat.eq_of_testBit_eq
        intro t
        rw [Bool.eq_iff_iff, setTo_bit]
        constructor
        · rintro ⟨i, hi, he⟩
          rw [hcl] at hi
          rw [hg i hi, Int.toNat_natCast] at he
          rw [← he]; exact hmb i hi
        · intro ht
          obtain ⟨i, hi, he⟩ := List.getElem_of_mem ((mem_members (x := x) (by omega)).2 ht)
          refine ⟨i, by rw [hcl]; exact hi, ?_⟩
          rw [hg i hi, Int.toNat_natCast, nth_lt hi, he]
      rw [hset]
      exact hp
  have hav : apartValid (n : Int) (castL ms) (castL (members x)) = true := by
    unfold apartValid
    rw [decide_eq_true hm, Int.toNat_natCast, show (castL ms).map Int.toNat = ms from map_toNat ms, hv]
    rfl
  have := le_maxTo (p := fun x => apartValid (n : Int) (castL ms) (castL (members x))) (f := fun x => (members x).length) hlt hav
  unfold apartMost
  rw [Int.toNat_natCast]
  have h2 : (members x).length ≤ maxTo (fun x => apartValid (n : Int) (castL ms) (castL (members x))) (fun x => (members x).length) (2 ^ n) := this
  omega
theorem pl_FnApartValid (x : List Int) (hw : ∀ n ∈ x, InK .u8 n) : laws_FnApartValidS x = some true := by
  unfold laws_FnApartValidS
  by_cases hl : (x.length : Int) > 1048576
  · rw [if_pos (by simp; omega)]
  rw [if_neg (by simp; omega)]
  obtain ⟨⟨g, m, a⟩, hd, ⟨⟨hg0, hg1⟩, hm⟩, hal⟩ := drawApartValid x (u8_of hw)
  dsimp only at hg0 hg1 hm hal
  rw [hd, Option.bind_some]
  dsimp only
  rw [implApartValid_eq g m a (by omega) (by omega), Option.bind_some, specApartValid_eq g m a (by omega) (by omega), Option.bind_some, if_neg (by simp)]
  cases hv : apartValid g m a with
  | false => simp [alive_eq]
  | true =>
    by_cases hz : a.length = 0
    · rw [if_pos (by simp [hz])]; simp [alive_eq]
    · rw [if_neg (by simp; exact fun h => hz (by rw [h]; rfl))]
      have hv0 := hv
      unfold apartValid at hv0
      rw [Bool.and_eq_true, decide_eq_true_iff] at hv0
      obtain ⟨hk, hs⟩ := hv0
      obtain ⟨n, ms, rfl, hn, hms, hl6, hx⟩ := menu_nat hk
      have hms : m = castL ms := hms
      subst hms
      rw [Int.toNat_natCast, show (castL ms).map Int.toNat = ms from map_toNat ms] at hs
      have hcl : (castL ms).length = ms.length := castL_length ms
      obtain ⟨hup, htwo⟩ := apartS_iff.1 hs
      have hup2 : (List.range a.length).all (upAt (n : Int) a) = true := by
        rw [List.all_eq_true]; exact fun i hi => hup i (List.mem_range.1 hi)
      apply Ret.eq
      refine Ret.loopb (fun s => ∃ i : Nat, s = (i : Int) ∧ i ≤ ms.length) (fun s => ms.length - s.toNat) (fun r => r = .inl ()) ⟨0, rfl, by omega⟩ ?_ (fun r hr => ?_)
      · rintro s ⟨i, rfl, hi⟩
        refine Ret.ite (fun h => ?_) (fun h => Ret.pure rfl)
        have hil : i < ms.length := by have := of_decide_eq_true h; omega
        have e1 : IntKind.wrap .i64 ((i : Int) + 1) = ((i + 1 : Nat) : Int) := wr_succ (n := 40) (by omega) (by omega)
        have hms6 := p6 hn (hx _ (nth_mem hil))
        refine Ret.loopb (fun s => ∃ (c j : Nat), s = ((c : Int), (j : Int)) ∧ j ≤ a.length ∧ c ≤ 1 ∧ (c = 1 → ∃ j', j' < j ∧ (nth ms i).testBit (a.getD j' 0).toNat = true)) (fun s => a.length - s.2.toNat) (fun r => r ≤ 1) ⟨0, 0, rfl, by omega, by omega, fun h => by omega⟩ ?_ (fun r hr => ?_)
        · rintro s ⟨c, j, rfl, hj, hc, hc1⟩
          dsimp only
          refine Ret.ite (fun h => ?_) (fun h => Ret.pure (by show (c : Int) ≤ 1; omega))
          have hjl : j < a.length := by have := of_decide_eq_true h; omega
          have e2 : IntKind.wrap .i64 ((j : Int) + 1) = ((j + 1 : Nat) : Int) := wr_succ (n := 40) (by omega) (by omega)
          have hin := up_in hup2 hjl
          rw [geti_cast hil, Option.bind_some, geti_getD hjl, Option.bind_some]
          obtain ⟨b, hb⟩ := Int.eq_ofNat_of_zero_le hin.1
          have hbt : (a.getD j 0).toNat = b := by rw [hb]; rfl
          rw [hb, ishrO_nat (by omega), Option.bind_some, e2, tmod2]
          have hsb := shr_bit (nth ms i) b
          rw [tmod2] at hsb
          have hmod : (nth ms i) >>> b % 2 < 2 := Nat.mod_lt _ (by omega)
          generalize (nth ms i) >>> b % 2 = z at *
          rw [show (c : Int) + (z : Int) = ((c + z : Nat) : Int) from by omega, wrn (by omega)]
          have hz1 : z = 1 → (nth ms i).testBit b = true := fun h => by rw [← hsb, h]; rfl
          refine Ret.pure ⟨⟨c + z, j + 1, rfl, by omega, ?_, ?_⟩, by simp; omega⟩
          · rcases Nat.lt_or_ge z 1 with h0 | h0
            · omega
            · have hbit := hz1 (by omega)
              have : ¬ c = 1 := fun hc2 => by
                obtain ⟨j', hj', hb'⟩ := hc1 hc2
                exact htwo j j' i hjl hj' hil (by rw [hbt]; exact hbit) hb'
              omega
          · intro hcz
            rcases Nat.lt_or_ge z 1 with h0 | h0
            · obtain ⟨j', hj', hb'⟩ := hc1 (by omega)
              exact ⟨j', by omega, hb'⟩
            · exact ⟨j, by omega, by rw [hbt]; exact hz1 (by omega)⟩
        · have hr : r ≤ 1 := hr
          rw [if_neg (by simp; omega), e1]
          exact Ret.pure ⟨⟨i + 1, rfl, by omega⟩, by simp; omega⟩
      · subst hr
        have hsub : subO a 1 (a.length : Int) = some (a.drop 1) := by
          unfold subO
          rw [if_pos (by simp; omega)]
          simp
        have hval : apartValid (n : Int) (castL ms) (a.drop 1) = true := by
          unfold apartValid
          rw [decide_eq_true hk, Int.toNat_natCast, show (castL ms).map Int.toNat = ms from map_toNat ms, apartS_tail hs]
          rfl
        have hge := apart_most_ge hn hx hk hs
        have hdl : (a.drop 1).length ≤ 8 := by simp; omega
        rw [hsub]
        simp only [Option.bind_some]
        rw [implApartValid_eq _ _ _ (by omega) (by omega), Option.bind_some, hval, if_pos rfl, implApartMost_eq _ _ (by omega), decide_eq_true hk, if_pos rfl]
        simp only [Option.bind_some]
        exact Ret.pure (decide_eq_true (by omega))
end Go.Proofs.YtidhmbmollkhdaaDoor
