/- DishesGreedy. Own work; no program in sight. -/
import Derived.Test.YtidhmbmollkhdaaDoorDraw9
set_option linter.unusedVariables false
namespace Go.Proofs.YtidhmbmollkhdaaDoor
open Go Go.RowKit
theorem sameInts_eq (xs ys : List Int) (h : xs.length ≤ 1000000) : laws_sameIntsS xs ys = some (decide (xs = ys)) := by
  unfold laws_sameIntsS
  by_cases hl : xs.length = ys.length
  · rw [if_neg (by simp [hl])]
    apply Ret.eq
    refine Ret.loopb (fun s => ∃ k : Nat, s = (k : Int) ∧ k ≤ xs.length ∧ ∀ j, j < k → xs.getD j 0 = ys.getD j 0) (fun s => xs.length - s.toNat) (fun r => match r with | .inl _ => xs = ys | .inr b => b = false ∧ xs ≠ ys) ⟨0, rfl, by omega, fun j hj => by omega⟩ ?_ (fun r hr => ?_)
    · rintro s ⟨k, rfl, hk, hp⟩
      refine Ret.ite (fun hc => ?_) (fun hc => ?_)
      · have hkl : k < xs.length := by have := of_decide_eq_true hc; omega
        have e1 : IntKind.wrap .i64 ((k : Int) + 1) = ((k + 1 : Nat) : Int) := wr_succ (n := 1000000) (by omega) (by omega)
        rw [geti_getD hkl, Option.bind_some, geti_getD (by omega), Option.bind_some, e1]
        refine Ret.ite (fun hb => ?_) (fun hb => ?_)
        · refine Ret.pure ⟨rfl, ?_⟩
          rintro rfl
          simp at hb
        · refine Ret.pure ⟨⟨k + 1, rfl, by omega, fun j hj => ?_⟩, by simp; omega⟩
          rcases Nat.lt_or_ge j k with h1 | h1
          · exact hp j h1
          · have : j = k := by omega
            subst this
            simpa using hb
      · have hkl : k = xs.length := by have := of_decide_eq_false hc; omega
        subst hkl
        refine Ret.pure ?_
        apply List.ext_getElem hl
        intro i h1 h2
        have := hp i h1
        rwa [getD_lt h1, getD_lt h2] at this
    · cases r with
      | inl u => exact Ret.pure (by have hr : xs = ys := hr; exact (decide_eq_true hr).symm)
      | inr b => exact Ret.pure (by obtain ⟨rfl, h2⟩ := hr; exact (decide_eq_false h2).symm)
  · have : xs ≠ ys := fun h => hl (by rw [h])
    rw [if_pos (by simp; omega), decide_eq_false this]
theorem pc_mono {a b : Nat} (hb : b < 9223372036854775808) (h : ∀ t, a.testBit t = true → b.testBit t = true) : pc a ≤ pc b := by
  have h1 := pc_split (x := b) (by omega) a
  have e : b &&& a = a := by rw [Nat.and_comm]; exact sub_of_bits h
  rw [e] at h1
  omega
theorem pc_or_gain {y z : Nat} (hy : y < 9223372036854775808) (hz : z < 9223372036854775808) : pc (y ||| z) = pc y + pc (minus z y) := by
  have h := or_lt63 hy hz
  have h1 := pc_split (x := y ||| z) (by omega) y
  have e1 : (y ||| z) &&& y = y := by
    apply Nat.eq_of_testBit_eq; intro t
    rw [Nat.testBit_and, Nat.testBit_or]; cases y.testBit t <;> simp
  have e2 : minus (y ||| z) y = minus z y := by
    apply Nat.eq_of_testBit_eq; intro t
    rw [testBit_minus, testBit_minus, Nat.testBit_or]; cases y.testBit t <;> simp
  rw [e1, e2] at h1
  exact h1
theorem fed_or {ms : List Nat} {D k : Nat} (hk : k < ms.length) : fed ms (D ||| 2 ^ k) = fed ms D ||| nth ms k := by
  apply Nat.eq_of_testBit_eq
  intro t
  rw [Bool.eq_iff_iff, Nat.testBit_or, Bool.or_eq_true, fed_bit, fed_bit]
  constructor
  · rintro ⟨i, hi, h1, h2⟩
    rw [Nat.testBit_or, Bool.or_eq_true, Nat.testBit_two_pow, decide_eq_true_iff] at h1
    rcases h1 with h1 | rfl
    · exact .inl ⟨i, hi, h1, h2⟩
    · exact .inr h2
  · rintro (⟨i, hi, h1, h2⟩ | h2)
    · exact ⟨i, hi, by rw [Nat.testBit_or, h1]; rfl, h2⟩
    · exact ⟨k, hk, by rw [Nat.testBit_or, Nat.testBit_two_pow]; simp, h2⟩
theorem gain_zero {ms : List Nat} {fd j : Nat} (hj : nth ms j < 9223372036854775808) (h : gain ms fd j = 0) {t : Nat} (ht : (nth ms j).testBit t = true) : fd.testBit t = true := by
  unfold gain pc at h
  rw [pcF_zero_iff] at h
  have htl : t < 64 := by have := @bit_lt _ 63 t (by omega) ht; omega
  have := h t htl
  rw [testBit_minus, ht, Bool.true_and] at this
  simpa using this
theorem gain_of_has {ms : List Nat} {D k : Nat} (hk : k < ms.length) (h : D.testBit k = true) : gain ms (fed ms D) k = 0 := by
  unfold gain
  have : minus (nth ms k) (fed ms D) = 0 := (eq_zero_iff_bits _).2 fun t => by
    rw [testBit_minus]
    cases ht : (nth ms k).testBit t with
    | false => rfl
    | true => rw [fed_bit.2 ⟨k, hk, h, ht⟩]; rfl
  rw [this, pc_zero]
def stp (c : Nat) : Nat → Nat → Nat
  | 0, _ => 0
  | f + 1, u => if u = 0 then 0 else 1 + stp c f (u * (c - 1) / c)
theorem stp_tab : ∀ c < 6, ∀ u < 6, ∀ v < 7, v ≤ (u + 1) * c / (c + 1) → 1 + stp (c + 1) 7 v ≤ stp (c + 1) 7 (u + 1) := by decide +kernel
theorem stp_step (c : Nat) (hc : c < 7) (h0 : 0 < c) (u : Nat) (hu : u < 7) (h1 : 0 < u) (v : Nat) (hv : v < 7) (h : v ≤ u * (c - 1) / c) : 1 + stp c 7 v ≤ stp c 7 u := by
  obtain ⟨c, rfl⟩ : ∃ z, c = z + 1 := ⟨c - 1, by omega⟩
  obtain ⟨u, rfl⟩ : ∃ z, u = z + 1 := ⟨u - 1, by omega⟩
  exact stp_tab c (by omega) u (by omega) v hv h
theorem stp_bound : ∀ c < 7, ∀ u < 7, (0 < c ∨ u = 0) → 20 * stp c 7 u ≤ 49 * c := by decide +kernel
theorem cover_gain {ms : List Nat} {n b fd G : Nat} (hn : n ≤ 6) (hms : ∀ y ∈ ms, y < 2 ^ n) (hG : ∀ j, j < ms.length → gain ms fd j ≤ G) : ∀ k, k ≤ ms.length → pc (minus (fedTo ms b k) fd) ≤ (membersTo b k).length * G := by
  intro k
  induction k with
  | zero =>
    intro _
    show pc (minus 0 fd) ≤ _
    have : minus 0 fd = 0 := (eq_zero_iff_bits _).2 fun t => by rw [testBit_minus, Nat.zero_testBit]; rfl
    rw [this, pc_zero]; exact Nat.zero_le _
  | succ k ih =>
    intro hk
    have ih := ih (by omega)
    rw [fedTo_succ (by omega), ← nth_lt (by omega), membersTo_succ, List.length_append]
    by_cases hd : b.testBit k = true
    · rw [if_pos hd, if_pos hd]
      have e : minus (fedTo ms b k ||| nth ms k) fd = minus (fedTo ms b k) fd ||| minus (nth ms k) fd := by
        apply Nat.eq_of_testBit_eq; intro t
        simp only [testBit_minus, Nat.testBit_or]; cases fd.testBit t <;> simp
      have h1 := p6 hn (fedTo_lt (d := b) hms k)
      have h2 := p6 hn (hms _ (nth_mem (show k < ms.length by omega)))
      have h3 := minus_le (fedTo ms b k) fd
      have h4 := minus_le (nth ms k) fd
      have h5 := pc_or_le (y := minus (fedTo ms b k) fd) (z := minus (nth ms k) fd) (by omega) (by omega)
      have h6 := hG k (by omega)
      unfold gain at h6
      rw [e]
      simp only [List.length_cons, List.length_nil, Nat.zero_add, Nat.add_mul, Nat.one_mul]
      omega
    · rw [if_neg hd, if_neg hd]
      simpa using ih
theorem unfed_cover {ms : List Nat} {n b fd G : Nat} (hn : n ≤ 6) (hl : ms.length ≤ 6) (hms : ∀ y ∈ ms, y < 2 ^ n) (hb : b < 2 ^ ms.length) (hf : fed ms b = 2 ^ n - 1) (hG : ∀ j, j < ms.length → gain ms fd j ≤ G) : unfed n fd ≤ pc b * G := by
  have h := cover_gain (b := b) hn hms hG ms.length (Nat.le_refl _)
  have hf : fedTo ms b ms.length = 2 ^ n - 1 := hf
  rw [hf, members_all hb (by omega)] at h
  exact h
theorem greedy_steps {ms : List Nat} {n b : Nat} (hn : n ≤ 6) (hl : ms.length ≤ 6) (hms : ∀ y ∈ ms, y < 2 ^ n) (hb : b < 2 ^ ms.length) (hf : fed ms b = 2 ^ n - 1) : ∀ f fd, (greedy ms f fd).length ≤ stp (pc b) 7 (unfed n fd) := by
  intro f
  induction f with
  | zero => intro fd; exact Nat.zero_le _
  | succ f ih =>
    intro fd
    unfold greedy
    rcases pickTo_spec ms fd ms.length with ⟨h1, _⟩ | ⟨k, hk, h1, h2, h3, h4, h5⟩
    · rw [h1]; simp
    · rw [h1, if_neg (by omega)]
      simp only [Int.toNat_natCast, List.length_cons]
      have ih := ih (fd ||| nth ms k)
      have hu := unfed_or (fd := fd) hn (hms _ (nth_mem hk))
      have hc := unfed_cover hn hl hms hb hf h4
      have hun := unfed_le hn fd
      have hpb : pc b ≤ 6 := Nat.le_trans (pc_le_n hb (by omega)) hl
      unfold gain at h3 hc
      have hpos : 0 < pc b := by
        rcases Nat.eq_zero_or_pos (pc b) with h0 | h0
        · rw [h0, Nat.zero_mul] at hc; omega
        · exact h0
      have hle : unfed n (fd ||| nth ms k) ≤ unfed n fd * (pc b - 1) / pc b := by
        rw [Nat.le_div_iff_mul_le hpos, Nat.mul_sub, Nat.mul_one]
        have : unfed n fd * pc b = unfed n (fd ||| nth ms k) * pc b + pc (minus (nth ms k) fd) * pc b := by rw [hu, Nat.add_mul]
        have h7 : pc (minus (nth ms k) fd) * pc b = pc b * pc (minus (nth ms k) fd) := Nat.mul_comm _ _
        omega
      have := stp_step (pc b) (by omega) hpos (unfed n fd) (by omega) (by omega) (unfed n (fd ||| nth ms k)) (by omega) hle
      omega
theorem nth_mid (out rest : List Nat) (b : Nat) : nth (out ++ b :: rest) out.length = b := by
  rw [nth_lt (by simp)]; simp
theorem pl_FnDishesGreedy (x : List Int) (hw : ∀ n ∈ x, InK .u8 n) : laws_FnDishesGreedyS x = some true := by
  unfold laws_FnDishesGreedyS
  by_cases hl : (x.length : Int) > 1048576
  · rw [if_pos (by simp; omega)]
  rw [if_neg (by simp; omega)]
  obtain ⟨⟨g, m⟩, hd, ⟨hg0, hg1⟩, hm⟩ := drawMenu spec_DrawDishesGreedyS 9 (fun _ => rfl) x (u8_of hw)
  dsimp only at hg0 hg1 hm
  rw [hd, Option.bind_some]
  dsimp only
  rw [implGreedy_eq g m (by omega), Option.bind_some, specGreedy_eq g m (by omega), Option.bind_some]
  by_cases hk : MenuOk g m
  · obtain ⟨n, ms, rfl, hn, hms, hl6, hx⟩ := menu_nat hk
    have hms : m = castL ms := hms
    subst hms
    have hmt : (castL ms).map Int.toNat = ms := map_toNat ms
    rw [decide_eq_true hk, if_pos rfl, hmt, Int.toNat_natCast]
    have hL7 : (dishesGreedy n ms).length ≤ 7 := greedy_length 7 0
    have hcl : (castL ms).length = ms.length := castL_length ms
    have hp : 2 ^ ms.length ≤ 64 := Nat.pow_le_pow_right (n := 2) (by omega) hl6
    have hone : 1 ≤ 2 ^ ms.length := Nat.one_le_two_pow
    rw [sameInts_eq _ _ (by rw [castL_length]; omega), Option.bind_some, decide_eq_true rfl, if_neg (by simp), specMenuValid_eq _ _ (by omega), Option.bind_some, decide_eq_true hk, if_neg (by simp)]
    have hL : dishesGreedy n ms = greedy ms 7 0 := rfl
    generalize hgl : dishesGreedy n ms = L at *
    have hLl : (castL L).length = L.length := castL_length L
    have hfed0 : fed ms 0 = 0 := (eq_zero_iff_bits _).2 fun t => by
      cases ht : (fed ms 0).testBit t with
      | false => rfl
      | true => obtain ⟨i, _, h1, _⟩ := fed_bit.1 ht; rw [Nat.zero_testBit] at h1; cases h1
    apply Ret.eq
    refine Ret.loopb (fun s => ∃ (out : List Nat) (f D last : Nat), s = ((D : Int), ((pc (fed ms D) : Nat) : Int), (last : Int), (out.length : Int)) ∧ out ++ greedy ms f (fed ms D) = L ∧ unfed n (fed ms D) < f ∧ D < 2 ^ ms.length ∧ (∀ j, j < ms.length → gain ms (fed ms D) j ≤ last) ∧ last ≤ 6)
      (fun s => L.length - s.2.2.2.toNat) (fun r => ∃ D : Nat, r = .inl (D : Int) ∧ D < 2 ^ ms.length ∧ fed ms D = fed ms (2 ^ ms.length - 1)) ⟨[], 7, 0, 6, ?_, ?_, ?_, Nat.two_pow_pos _, ?_, by omega⟩ ?_ (fun r hr => ?_)
    · rw [hfed0, pc_zero]; rfl
    · rw [hfed0, List.nil_append]; exact hL.symm
    · rw [hfed0]; exact unfed_zero hn
    · intro j hj
      have h1 := hx _ (nth_mem hj)
      exact Nat.le_trans (pc_le_n (Nat.lt_of_le_of_lt (minus_le _ _) h1) (by omega)) hn
    · rintro s ⟨out, f, D, last, rfl, hout, hf, hD, hgn, hlast⟩
      have hfl : fed ms D < 2 ^ n := fedTo_lt hx _
      have hfl6 := p6 hn hfl
      obtain ⟨f, rfl⟩ : ∃ f', f = f' + 1 := ⟨f - 1, by omega⟩
      dsimp only
      rcases pickTo_spec ms (fed ms D) ms.length with ⟨h1, h2, h3⟩ | ⟨k, hk1, h1, h2, h3, h4, h5⟩
      · have hemp : greedy ms (f + 1) (fed ms D) = [] := by unfold greedy; rw [h1]; rfl
        rw [hemp, List.append_nil] at hout
        subst hout
        rw [if_neg (by simp [hLl])]
        refine Ret.pure ⟨D, rfl, hD, ?_⟩
        apply Nat.eq_of_testBit_eq
        intro t
        rw [Bool.eq_iff_iff]
        constructor
        · intro ht
          obtain ⟨i, hi, _, h⟩ := fed_bit.1 ht
          exact fed_bit.2 ⟨i, hi, by rw [testBit_all]; exact decide_eq_true hi, h⟩
        · intro ht
          obtain ⟨i, hi, _, h⟩ := fed_bit.1 ht
          have := p6 hn (hx _ (nth_mem hi))
          exact gain_zero (by omega) (h3 i hi) h
      · have hcons : greedy ms (f + 1) (fed ms D) = k :: greedy ms f (fed ms D ||| nth ms k) := by
          conv => lhs; unfold greedy
          rw [h1, if_neg (by omega), Int.toNat_natCast]
        rw [hcons] at hout
        have hlen : out.length < L.length := by rw [← hout]; simp
        have hnk : nth L out.length = k := by rw [← hout]; exact nth_mid _ _ _
        have hDk : D.testBit k = false := by
          cases hb : D.testBit k with
          | false => rfl
          | true => rw [gain_of_has hk1 hb] at h3; omega
        have hk64 : 2 ^ k < 2 ^ ms.length := Nat.pow_lt_pow_right (by omega) hk1
        have hand : D &&& 2 ^ k = 0 := (eq_zero_iff_bits _).2 fun t => by
          rw [Nat.testBit_and, Nat.testBit_two_pow]
          by_cases ht : k = t
          · subst ht; rw [hDk]; rfl
          · simp [ht]
        have hsum : D ||| 2 ^ k = D + 2 ^ k := by
          have := or_and_add ms.length D (2 ^ k) hD hk64
          omega
        have hD2 : D + 2 ^ k < 2 ^ ms.length := by rw [← hsum]; exact or_max_lt hD hk64
        have hfd : fed ms (D + 2 ^ k) = fed ms D ||| nth ms k := by rw [← hsum]; exact fed_or hk1
        have hnk6 := p6 hn (hx _ (nth_mem hk1))
        have hpg : pc (fed ms D ||| nth ms k) = pc (fed ms D) + gain ms (fed ms D) k := pc_or_gain (by omega) (by omega)
        have hgl6 := hgn k hk1
        have hpc6 : pc (fed ms D) ≤ 6 := Nat.le_trans (pc_le_n hfl (by omega)) hn
        have horlt : fed ms D ||| nth ms k < 2 ^ n := or_max_lt hfl (hx _ (nth_mem hk1))
        have hor6 := p6 hn horlt
        have hpow : 1 ≤ 2 ^ k := Nat.one_le_two_pow
        have e1 : IntKind.wrap .i64 ((D : Int) + ((2 ^ k : Nat) : Int)) = ((D + 2 ^ k : Nat) : Int) := by
          generalize 2 ^ k = z at *
          rw [wr ⟨by omega, by omega⟩]; omega
        have e2 : IntKind.wrap .i64 (((pc (fed ms D) + gain ms (fed ms D) k : Nat) : Int) - ((pc (fed ms D) : Nat) : Int)) = ((gain ms (fed ms D) k : Nat) : Int) := by rw [wr ⟨by omega, by omega⟩]; omega
        have e3 : IntKind.wrap .i64 ((out.length : Int) + 1) = ((out.length + 1 : Nat) : Int) := wr_succ (n := 40) (by omega) (by omega)
        rw [if_pos (by simp [hLl]; exact hlen), geti_cast hlen, Option.bind_some, hnk, ishrO_nat (by omega), Option.bind_some, shr_bit, hDk, if_neg (by simp), Option.bind_some, ishlO_nat (by omega), Option.bind_some, e1, implFedBy_eq _ _ _ (by omega), Option.bind_some, fedBy_nat hk hD2, hfd, bitsOf_eq _ (by omega), Option.bind_some, Option.bind_some, hpg, e2, e3]
        rw [if_neg (by simp only [Bool.or_eq_true, decide_eq_true_eq]; omega)]
        refine Ret.pure ⟨⟨out ++ [k], f, D + 2 ^ k, gain ms (fed ms D) k, ?_, ?_, ?_, hD2, ?_, by omega⟩, by simp; omega⟩
        · rw [hfd, hpg]; simp
        · rw [hfd, List.append_assoc]; exact hout
        · have := unfed_or (fd := fed ms D) hn (hx _ (nth_mem hk1))
          unfold gain at h3
          rw [hfd]; omega
        · intro j hj
          have h6 := h4 j hj
          have hj6 := p6 hn (hx _ (nth_mem hj))
          have h7 : gain ms (fed ms (D + 2 ^ k)) j ≤ gain ms (fed ms D) j := by
            unfold gain
            refine pc_mono (Nat.lt_of_le_of_lt (minus_le _ _) (by omega)) fun t ht => ?_
            rw [testBit_minus, hfd, Nat.testBit_or, Bool.and_eq_true] at ht
            rw [testBit_minus, ht.1]
            have := ht.2
            cases hft : (fed ms D).testBit t with
            | false => rfl
            | true => rw [hft] at this; cases this
          omega
    · obtain ⟨D, rfl, hD, hfD⟩ := hr
      obtain ⟨r, h1, h2, h3⟩ := least_both (n : Int) (castL ms) hk
      have hl1 : (2 ^ ms.length - 1) < 2 ^ ms.length := by omega
      dsimp only
      rw [h1, Option.bind_some, implFedBy_eq _ _ _ (by omega), Option.bind_some, hcl, ishlO_nat (by omega), Option.bind_some, full_wr hl6, implFedBy_eq _ _ _ (by omega), Option.bind_some, fedBy_nat hk hD, fedBy_nat hk hl1, hfD, if_pos (by simp)]
      rcases h3 with ⟨rfl, hno⟩ | ⟨b, rfl, hb, hbf, hbn⟩
      · rw [if_pos (by simp)]; exact Ret.pure rfl
      · rw [castL_length] at hb
        rw [feedsAll_nat hk hb, decide_eq_true_iff] at hbf
        have hst := greedy_steps hn hl6 hx hb hbf 7 0
        rw [← hL] at hst
        have hpb : pc b ≤ 6 := Nat.le_trans (pc_le_n hb (by omega)) hl6
        have hu6 := unfed_le hn 0
        have hz : 0 < pc b ∨ unfed n 0 = 0 := by
          rcases Nat.eq_zero_or_pos (pc b) with h0 | h0
          · right
            have := unfed_cover (fd := 0) (G := 64) hn hl6 hx hb hbf (fun j hj => gain_le hn hx 0 hj)
            rw [h0] at this; omega
          · left; exact h0
        have hbd := stp_bound (pc b) (by omega) (unfed n 0) (by omega) hz
        rw [if_neg (by simp), bitsOf_eq b (by omega), hLl]
        simp only [Option.bind_some]
        rw [wr (x := 20 * (L.length : Int)) ⟨by omega, by omega⟩, wr (x := 49 * ((pc b : Nat) : Int)) ⟨by omega, by omega⟩]
        exact Ret.pure (decide_eq_true (by omega))
  · rw [decide_eq_false hk, if_neg (by simp), sameInts_eq _ _ (by simp), Option.bind_some, specMenuValid_eq g m (by omega), Option.bind_some, decide_eq_false hk]
    simp [alive_eq]
end Go.Proofs.YtidhmbmollkhdaaDoor
