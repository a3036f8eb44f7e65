/- Guests who share no dish, against the dishes that feed all. Own work; no program in sight. -/
import Derived.Test.YtidhmbmollkhdaaDoorDraw7
set_option linter.unusedVariables false
namespace Go.Proofs.YtidhmbmollkhdaaDoor
open Go Go.RowKit
theorem feedsAll_nat {n : Nat} {ms : List Nat} {e : Nat} (hm : MenuOk (n : Int) (castL ms)) (he : e < 2 ^ ms.length) : feedsAll (n : Int) (castL ms) (e : Int) = decide (fed ms e = 2 ^ n - 1) := by
  unfold feedsAll
  rw [fedBy_nat hm he, decide_eq_true hm, Bool.true_and, Int.toNat_natCast, two_pow_cast]
  have h1 : 1 ≤ 2 ^ n := Nat.one_le_two_pow
  generalize 2 ^ n = z at *
  rw [Bool.eq_iff_iff, beq_iff_eq, decide_eq_true_iff]
  omega
theorem fedTo_bit {ms : List Nat} {d t : Nat} : ∀ k, k ≤ ms.length → ((fedTo ms d k).testBit t = true ↔ ∃ i, i < k ∧ d.testBit i = true ∧ (nth ms i).testBit t = true)
  | 0, _ => by simp [fedTo]
  | k + 1, h => by
    have ih := fedTo_bit (ms := ms) (d := d) (t := t) k (by omega)
    rw [fedTo_succ (by omega), ← nth_lt (by omega)]
    by_cases hd : d.testBit k = true
    · rw [if_pos hd, Nat.testBit_or, Bool.or_eq_true, ih]
      constructor
      · rintro (⟨i, hi, h1, h2⟩ | h2)
        · exact ⟨i, by omega, h1, h2⟩
        · exact ⟨k, by omega, hd, h2⟩
      · rintro ⟨i, hi, h1, h2⟩
        rcases Nat.lt_or_ge i k with h3 | h3
        · exact .inl ⟨i, h3, h1, h2⟩
        · have : i = k := by omega
          subst this; exact .inr h2
    · rw [if_neg hd, ih]
      constructor
      · rintro ⟨i, hi, h1, h2⟩; exact ⟨i, by omega, h1, h2⟩
      · rintro ⟨i, hi, h1, h2⟩
        rcases Nat.lt_or_ge i k with h3 | h3
        · exact ⟨i, h3, h1, h2⟩
        · have : i = k := by omega
          subst this; exact absurd h1 hd
theorem fed_bit {ms : List Nat} {d t : Nat} : (fed ms d).testBit t = true ↔ ∃ i, i < ms.length ∧ d.testBit i = true ∧ (nth ms i).testBit t = true := fedTo_bit ms.length (Nat.le_refl _)
theorem fed_full {n : Nat} {ms : List Nat} (hx : ∀ x ∈ ms, x < 2 ^ n) {e : Nat} (h : fed ms e = 2 ^ n - 1) : fed ms (2 ^ ms.length - 1) = 2 ^ n - 1 := by
  apply Nat.eq_of_testBit_eq
  intro t
  rw [testBit_all, Bool.eq_iff_iff, decide_eq_true_iff]
  constructor
  · intro ht
    exact bit_lt (fedTo_lt hx _) ht
  · intro ht
    have h1 : (fed ms e).testBit t = true := by rw [h, testBit_all]; exact decide_eq_true ht
    obtain ⟨i, hi, _, h2⟩ := fed_bit.1 h1
    exact fed_bit.2 ⟨i, hi, by rw [testBit_all]; exact decide_eq_true hi, h2⟩
theorem pc_or_le {y z : Nat} (hy : y < 9223372036854775808) (hz : z < 9223372036854775808) : pc (y ||| z) ≤ pc y + pc z := by
  have h := or_lt63 hy hz
  have h1 := pc_split (x := y ||| z) (by omega) y
  have h2 := pc_split (x := z) (by omega) y
  have e1 : (y ||| z) &&& y = y := by
    apply Nat.eq_of_testBit_eq; intro t
    rw [Nat.testBit_and, Nat.testBit_or]; cases y.testBit t <;> simp
  have e2 : minus (y ||| z) y = minus z y := by
    apply Nat.eq_of_testBit_eq; intro t
    rw [testBit_minus, testBit_minus, Nat.testBit_or]; cases y.testBit t <;> simp
  rw [e1, e2] at h1
  omega
theorem members_all {e k : Nat} (he : e < 2 ^ k) (hk : k ≤ 64) : (membersTo e k).length = pc e := by
  rw [membersTo_pc, Nat.mod_eq_of_lt he]
  have e1 : pcF (k + (64 - k)) e = pcF k (e % 2 ^ k) + pcF (64 - k) (e / 2 ^ k) := pcF_add k (64 - k) e
  rw [Nat.div_eq_of_lt he, pcF_zero, Nat.mod_eq_of_lt he] at e1
  have h64 : k + (64 - k) = 64 := by omega
  rw [h64] at e1
  unfold pc
  omega
/-- no dish feeds two of the set -/
def Lone (ms : List Nat) (x : Nat) : Prop := ∀ k a b, k < ms.length → (nth ms k).testBit a = true → (nth ms k).testBit b = true → x.testBit a = true → x.testBit b = true → a = b
theorem lone_le {n : Nat} {ms : List Nat} {x e : Nat} (hn : n ≤ 6) (hl : ms.length ≤ 6) (hms : ∀ y ∈ ms, y < 2 ^ n) (hx : x < 2 ^ n) (he : e < 2 ^ ms.length) (hf : fed ms e = 2 ^ n - 1) (h : Lone ms x) : pc x ≤ pc e := by
  have key : ∀ k, k ≤ ms.length → pc (x &&& fedTo ms e k) ≤ (membersTo e k).length := by
    intro k
    induction k with
    | zero => intro _; show pc (x &&& 0) ≤ _; rw [Nat.and_zero, pc_zero]; exact Nat.zero_le _
    | succ k ih =>
      intro hk
      have ih := ih (by omega)
      rw [fedTo_succ (by omega), ← nth_lt (by omega), membersTo_succ, List.length_append]
      by_cases hd : e.testBit k = true
      · rw [if_pos hd, if_pos hd]
        have e1 : x &&& (fedTo ms e k ||| nth ms k) = (x &&& fedTo ms e k) ||| (x &&& nth ms k) := by
          apply Nat.eq_of_testBit_eq; intro t
          simp only [Nat.testBit_and, Nat.testBit_or]; cases x.testBit t <;> simp
        have hx6 := p6 hn hx
        have h1 : x &&& fedTo ms e k ≤ x := Nat.and_le_left
        have h2 : x &&& nth ms k ≤ x := Nat.and_le_left
        have h3 := pc_or_le (y := x &&& fedTo ms e k) (z := x &&& nth ms k) (by omega) (by omega)
        have h4 : pc (x &&& nth ms k) ≤ 1 := by
          rw [pc_le_one (n := n) (by omega) (by omega)]
          intro a b ha hb
          rw [Nat.testBit_and, Bool.and_eq_true] at ha hb
          exact h k a b (by omega) ha.2 hb.2 ha.1 hb.1
        rw [e1]
        simp only [List.length_cons, List.length_nil]
        omega
      · rw [if_neg hd, if_neg hd]
        simp only [List.length_nil]
        omega
  have h1 := key ms.length (Nat.le_refl _)
  have h2 : fedTo ms e ms.length = 2 ^ n - 1 := hf
  have h3 : x &&& (2 ^ n - 1) = x := sub_of_bits fun t ht => by rw [testBit_all]; exact decide_eq_true (bit_lt hx ht)
  rw [h2, h3, members_all he (by omega)] at h1
  exact h1
theorem lone_of {n : Nat} {ms : List Nat} {x : Nat} (hx : x < 18446744073709551616) (h : apartValid (n : Int) (castL ms) (castL (members x)) = true) : Lone ms x := by
  unfold apartValid at h
  rw [Bool.and_eq_true, show (castL ms).map Int.toNat = ms from map_toNat ms, Int.toNat_natCast] at h
  have h := h.2
  unfold apartS at h
  rw [List.all_eq_true] at h
  have hg : ∀ i, i < (members x).length → ((castL (members x)).getD i 0).toNat = nth (members x) i := by
    intro i hi
    rw [getD_lt (by rw [castL_length]; exact hi), nth_lt hi]
    simp [castL]
  have two : ∀ i j k, i < (members x).length → j < i → k < ms.length → (nth ms k).testBit (nth (members x) i) = true → (nth ms k).testBit (nth (members x) j) = true → False := by
    intro i j k hi hj hk h1 h2
    have h3 := h i (List.mem_range.2 (by rw [castL_length]; exact hi))
    rw [Bool.and_eq_true, List.all_eq_true] at h3
    have h4 := h3.2 j (List.mem_range.2 hj)
    rw [List.all_eq_true] at h4
    have h5 := h4 k (List.mem_range.2 hk)
    rw [hg i hi, hg j (by omega), h1, h2] at h5
    cases h5
  intro k a b hk ha hb hxa hxb
  obtain ⟨i, hi, hia⟩ := List.getElem_of_mem ((mem_members hx).2 hxa)
  obtain ⟨j, hj, hjb⟩ := List.getElem_of_mem ((mem_members hx).2 hxb)
  rw [← nth_lt hi] at hia
  rw [← nth_lt hj] at hjb
  rcases Nat.lt_trichotomy i j with hlt | heq | hgt
  · exact (two j i k hj hlt hk (by rw [hjb]; exact hb) (by rw [hia]; exact ha)).elim
  · subst heq; rw [← hia, ← hjb]
  · exact (two i j k hi hgt hk (by rw [hia]; exact ha) (by rw [hjb]; exact hb)).elim
theorem apart_le {n : Nat} {ms : List Nat} {e : Nat} (hn : n ≤ 6) (hl : ms.length ≤ 6) (hms : ∀ y ∈ ms, y < 2 ^ n) (he : e < 2 ^ ms.length) (hf : fed ms e = 2 ^ n - 1) : apartMost (n : Int) (castL ms) ≤ pc e := by
  unfold apartMost
  rw [Int.toNat_natCast]
  refine maxTo_le fun x hx hv => ?_
  have hx6 := p6 hn hx
  rw [members_length (by omega)]
  exact lone_le hn hl hms hx he hf (lone_of (by omega) hv)
theorem apart_le_n {n : Nat} {ms : List Nat} (hn : n ≤ 6) : apartMost (n : Int) (castL ms) ≤ n := by
  unfold apartMost
  rw [Int.toNat_natCast]
  refine maxTo_le fun x hx hv => ?_
  have hx6 := p6 hn hx
  rw [members_length (by omega)]
  exact pc_le_n hx (by omega)
theorem apart_pos {n : Nat} {ms : List Nat} (hn : 0 < n) (hm : MenuOk (n : Int) (castL ms)) : 0 < apartMost (n : Int) (castL ms) := by
  unfold apartMost
  rw [Int.toNat_natCast]
  have h1 : members 1 = [0] := by decide +kernel
  have hb : 1 < 2 ^ n := Nat.one_lt_two_pow (by omega)
  have hv : apartValid (n : Int) (castL ms) (castL (members 1)) = true := by
    rw [h1]
    unfold apartValid
    rw [decide_eq_true hm, Int.toNat_natCast]
    have : castL [0] = [0] := rfl
    rw [this]
    simp [apartS, upAt]
    omega
  have h2 := le_maxTo (p := fun x => apartValid (n : Int) (castL ms) (castL (members x))) (f := fun x => (members x).length) hb hv
  have h3 : (members 1).length = 1 := by rw [h1]; rfl
  have h2' : (members 1).length ≤ maxTo (fun x => apartValid (n : Int) (castL ms) (castL (members x))) (fun x => (members x).length) (2 ^ n) := h2
  omega
theorem pl_FnApartMost (x : List Int) (hw : ∀ n ∈ x, InK .u8 n) : laws_FnApartMostS x = some true := by
  unfold laws_FnApartMostS
  by_cases hl : (x.length : Int) > 1048576
  · rw [if_pos (by simp; omega)]
  rw [if_neg (by simp; omega)]
  obtain ⟨⟨g, m⟩, hd, ⟨hg0, hg1⟩, hm⟩ := drawMenu spec_DrawApartMostS 9 (fun _ => rfl) x (u8_of hw)
  dsimp only at hg0 hg1 hm
  rw [hd, Option.bind_some]
  dsimp only
  rw [implApartMost_eq g m (by omega), Option.bind_some, specApartMost_eq g m (by omega), Option.bind_some, if_neg (by simp)]
  by_cases hk : MenuOk g m
  · obtain ⟨r, h1, h2, h3⟩ := least_both g m hk
    rw [decide_eq_true hk, if_pos rfl, if_neg (by simp), h1, Option.bind_some]
    obtain ⟨n, ms, rfl, hn, hms, hl6, hx⟩ := menu_nat hk
    have hms : m = castL ms := hms
    subst hms
    have hle := apart_le_n (ms := ms) hn
    have hpos : (0 < apartMost (n : Int) (castL ms)) ↔ 0 < n := ⟨fun h => by omega, fun h => apart_pos h hk⟩
    have e1 : (decide (((apartMost (n : Int) (castL ms) : Nat) : Int) > 0) == decide ((n : Int) > 0)) = true := by
      rw [beq_iff_eq, decide_eq_decide]; omega
    rw [if_pos (decide_eq_true (by omega)), e1]
    rcases h3 with ⟨rfl, hno⟩ | ⟨b, rfl, hb, hbf, hbn⟩
    · rw [if_pos (by simp)]; rfl
    · rw [castL_length] at hb
      have hp : 2 ^ ms.length ≤ 64 := Nat.pow_le_pow_right (n := 2) (by omega) hl6
      rw [feedsAll_nat hk hb, decide_eq_true_iff] at hbf
      have := apart_le hn hl6 hx hb hbf
      rw [if_neg (by simp), bitsOf_eq b (by omega)]
      simp only [Option.bind_some, Bool.and_true]
      rw [decide_eq_true (by omega)]
  · rw [decide_eq_false hk]
    simp [alive_eq]
theorem drawFeedsAll (x : List Int) (hx : ∀ n ∈ x, 0 ≤ n ∧ n ≤ 255) : Ret (spec_DrawFeedsAllS x) (fun r => DG (r.1, r.2.1) ∧ -300 ≤ r.2.2 ∧ r.2.2 ≤ 300) := by
  unfold spec_DrawFeedsAllS
  refine Ret.bind (open_spec x hx) (fun r hr => ?_)
  refine Ret.bind (chosen_ret hr.1 (by omega) (by omega)) (fun v hv => ?_)
  have hp0 : 0 ≤ v.1 := by have := hv.1.1.1; dsimp only at this; omega
  have hp1 : v.1 ≤ 1000 := by have := hv.1.1.2; dsimp only at this; omega
  refine Ret.bind (pick_ret hr.1 hp0 (by omega)) (fun u hu => ?_)
  refine Ret.ite (fun h => ?_) (fun h => Ret.pure ⟨hv.1.2, hv.2⟩)
  have e : (if 6 < (v.2.2.1.length : Int) then (6 : Int) else (v.2.2.1.length : Int)) = ((min 6 v.2.2.1.length : Nat) : Int) := by
    by_cases h : 6 < v.2.2.1.length
    · rw [if_pos (by omega), Nat.min_eq_left (by omega)]; rfl
    · rw [if_neg (by omega), Nat.min_eq_right (by omega)]
  have hk : min 6 v.2.2.1.length ≤ 6 := Nat.min_le_left _ _
  have hlt : 2 ^ min 6 v.2.2.1.length ≤ 64 := Nat.pow_le_pow_right (n := 2) (by omega) hk
  rw [e, ishlO_nat (by omega), Option.bind_some, full_wr hk]
  refine Ret.pure ⟨hv.1.2, ?_, ?_⟩
  · show -300 ≤ ((2 ^ min 6 v.2.2.1.length - 1 : Nat) : Int)
    generalize 2 ^ min 6 v.2.2.1.length = z at *
    omega
  · show ((2 ^ min 6 v.2.2.1.length - 1 : Nat) : Int) ≤ 300
    generalize 2 ^ min 6 v.2.2.1.length = z at *
    omega
theorem pl_FnFeedsAll (x : List Int) (hw : ∀ n ∈ x, InK .u8 n) : laws_FnFeedsAllS x = some true := by
  unfold laws_FnFeedsAllS
  by_cases hl : (x.length : Int) > 1048576
  · rw [if_pos (by simp; omega)]
  rw [if_neg (by simp; omega)]
  obtain ⟨⟨g, m, d⟩, hd, ⟨⟨hg0, hg1⟩, hm⟩, hd0, hd1⟩ := drawFeedsAll x (u8_of hw)
  dsimp only at hg0 hg1 hm hd0 hd1
  rw [hd, Option.bind_some]
  dsimp only
  rw [implFeedsAll_eq g m d (by omega), Option.bind_some, specFeedsAll_eq g m d (by omega), Option.bind_some, if_neg (by simp)]
  cases hf : feedsAll g m d with
  | false => simp [alive_eq]
  | true =>
    rw [if_neg (by simp)]
    have hf0 := hf
    unfold feedsAll at hf0
    rw [Bool.and_eq_true, decide_eq_true_iff, beq_iff_eq] at hf0
    obtain ⟨hk, hfe⟩ := hf0
    rcases fedBy_or g m d with h | ⟨n, ms, e, rfl, hn, rfl, hl6, hx, hk, rfl, he, hfb⟩
    · exfalso
      rw [h] at hfe
      obtain ⟨z, hz⟩ := Int.eq_ofNat_of_zero_le hk.1
      subst hz
      rw [Int.toNat_natCast, two_pow_cast] at hfe
      have : 1 ≤ 2 ^ z := Nat.one_le_two_pow
      generalize 2 ^ z = y at *
      omega
    · rw [feedsAll_nat hk he, decide_eq_true_iff] at hf
      obtain ⟨r, h1, h2, h3⟩ := least_both (n : Int) (castL ms) hk
      have hp : 2 ^ ms.length ≤ 64 := Nat.pow_le_pow_right (n := 2) (by omega) hl6
      have hone : 1 ≤ 2 ^ ms.length := Nat.one_le_two_pow
      rw [h1, Option.bind_some]
      rcases h3 with ⟨rfl, hno⟩ | ⟨b, rfl, hb, hbf, hbn⟩
      · have := hno e (by rw [castL_length]; exact he)
        rw [feedsAll_nat hk he, decide_eq_false_iff_not] at this
        exact absurd hf this
      · rw [castL_length] at hb hbn
        have hle := hbn e he (by rw [feedsAll_nat hk he]; exact decide_eq_true hf)
        have hap := apart_le hn hl6 hx he hf
        have hfull := fed_full hx hf
        rw [if_pos (by simp), bitsOf_eq b (by omega), bitsOf_eq e (by omega)]
        simp only [Option.bind_some]
        rw [if_pos (decide_eq_true (by omega)), implApartMost_eq _ _ (by rw [castL_length]; omega), decide_eq_true hk, if_pos rfl]
        simp only [Option.bind_some]
        rw [if_pos (decide_eq_true (by omega)), castL_length, ishlO_nat (by omega), Option.bind_some, full_wr hl6, implFeedsAll_eq _ _ _ (by rw [castL_length]; omega), feedsAll_nat hk (by omega), decide_eq_true hfull]
        rfl
end Go.Proofs.YtidhmbmollkhdaaDoor
