/- A quarrel less: the tables turn by one seat at most. Own work; no program in sight. -/
import Derived.Test.YtidhmbmollkhdaaDoorDraw5
set_option linter.unusedVariables false
namespace Go.Proofs.YtidhmbmollkhdaaDoor
open Go Go.RowKit
theorem nth_set (l : List Nat) (i v k : Nat) (hi : i < l.length) : nth (l.set i v) k = if i = k then v else nth l k := by
  unfold nth
  simp only [List.getD_eq_getElem?_getD, List.getElem?_set]
  by_cases h : i = k
  · subst h; simp [hi]
  · simp [h]
/-- without the quarrel of i and j -/
def calm (qs : List Nat) (i j : Nat) : List Nat := (qs.set i (nth qs i - 2 ^ j)).set j (nth qs j - 2 ^ i)
section
variable {qs : List Nat} {i j : Nat}
theorem calm_length : (calm qs i j).length = qs.length := by simp [calm]
theorem calm_bit (hq : quarOk qs = true) (hi : i < qs.length) (hj : j < qs.length) (hb : (nth qs i).testBit j = true) (k t : Nat) :
    (nth (calm qs i j) k).testBit t = ((nth qs k).testBit t && !((decide (i = k) && decide (j = t)) || (decide (j = k) && decide (i = t)))) := by
  have hij : i ≠ j := by rintro rfl; rw [quar_self hq hi] at hb; cases hb
  have hbj : (nth qs j).testBit i = true := by rw [← quar_symm hq hi hj]; exact hb
  unfold calm
  rw [nth_set _ _ _ _ (by simpa using hj), nth_set _ _ _ _ hi]
  by_cases h1 : j = k
  · subst h1
    rw [if_pos rfl, minus_pow_eq hbj, testBit_minus, Nat.testBit_two_pow]
    simp [hij]
  · rw [if_neg h1]
    by_cases h2 : i = k
    · subst h2
      rw [if_pos rfl, minus_pow_eq hb, testBit_minus, Nat.testBit_two_pow]
      simp [h1]
    · rw [if_neg h2]
      simp [h1, h2]
theorem calm_lt (hx : ∀ y ∈ qs, y < 2 ^ qs.length) (hi : i < qs.length) (hj : j < qs.length) : ∀ y ∈ calm qs i j, y < 2 ^ (calm qs i j).length := by
  rw [calm_length]
  intro y hy
  unfold calm at hy
  rcases List.mem_or_eq_of_mem_set hy with h | rfl
  · rcases List.mem_or_eq_of_mem_set h with h | rfl
    · exact hx y h
    · exact Nat.lt_of_le_of_lt (Nat.sub_le _ _) (hx _ (nth_mem hi))
  · exact Nat.lt_of_le_of_lt (Nat.sub_le _ _) (hx _ (nth_mem hj))
theorem calm_ok (hq : quarOk qs = true) (hi : i < qs.length) (hj : j < qs.length) (hb : (nth qs i).testBit j = true) : quarOk (calm qs i j) = true := by
  unfold quarOk
  rw [calm_length, List.all_eq_true]
  intro a ha
  rw [List.mem_range] at ha
  rw [Bool.and_eq_true, List.all_eq_true]
  refine ⟨by rw [calm_bit hq hi hj hb, quar_self hq ha]; rfl, fun c hc => ?_⟩
  rw [List.mem_range] at hc
  rw [beq_iff_eq, calm_bit hq hi hj hb, calm_bit hq hi hj hb, quar_sym hq ha hc]
  congr 2
  rw [Bool.or_comm, Bool.and_comm (decide (i = c)), Bool.and_comm (decide (j = c))]
theorem free_calm (hq : quarOk qs = true) (hi : i < qs.length) (hj : j < qs.length) (hb : (nth qs i).testBit j = true) {p : Nat} (h : freeAt qs p = true) : freeAt (calm qs i j) p = true := by
  rw [free_iff] at h ⊢
  intro k t hk hkp htp
  rw [calm_length] at hk
  rw [calm_bit hq hi hj hb, h k t hk hkp htp]; rfl
theorem calm_free (hq : quarOk qs = true) (hi : i < qs.length) (hj : j < qs.length) (hb : (nth qs i).testBit j = true) {p : Nat} (hp : p.testBit i = false) (h : freeAt (calm qs i j) p = true) : freeAt qs p = true := by
  rw [free_iff] at h ⊢
  intro k t hk hkp htp
  have := h k t (by rw [calm_length]; exact hk) hkp htp
  rw [calm_bit hq hi hj hb] at this
  have h1 : ¬ i = k := by rintro rfl; rw [hp] at hkp; cases hkp
  have h2 : ¬ i = t := by rintro rfl; rw [hp] at htp; cases htp
  simpa [h1, h2] using this
theorem calm_tab_le (hq : quarOk qs = true) (hi : i < qs.length) (hj : j < qs.length) (hb : (nth qs i).testBit j = true) : ∀ m, tab (calm qs i j) m ≤ tab qs m := by
  intro m
  induction m using Nat.strongRecOn with
  | ind m ih =>
    rcases Nat.eq_zero_or_pos m with h0 | h0
    · subst h0; exact Nat.le_refl _
    · rcases tab_cases qs h0 with h | ⟨p, hp0, hpm, hp, hf, ht⟩
      · rw [h]; have := tab_le (calm qs i j) m; rw [calm_length] at this; exact this
      · have h1 := tab_step (calm qs i j) hp0 hp (free_calm hq hi hj hb hf)
        have h2 := ih (m - p) (by omega)
        omega
theorem free_one (hq : quarOk qs = true) (hi : i < qs.length) : freeAt qs (2 ^ i) = true := by
  rw [free_iff]
  intro k t hk hkp htp
  rw [Nat.testBit_two_pow, decide_eq_true_iff] at hkp htp
  subst hkp; subst htp
  exact quar_self hq hi
theorem bit_sub {p m t : Nat} (h : p &&& m = p) (ht : p.testBit t = true) : m.testBit t = true := by
  have := congrArg (fun x => x.testBit t) h
  simp only [Nat.testBit_and, ht, Bool.true_and] at this
  exact this
theorem sub_of_bits {p m : Nat} (h : ∀ t, p.testBit t = true → m.testBit t = true) : p &&& m = p := by
  apply Nat.eq_of_testBit_eq
  intro t
  rw [Nat.testBit_and]
  cases ht : p.testBit t with
  | false => rfl
  | true => rw [h t ht]; rfl
theorem tab_le_calm (hq : quarOk qs = true) (hi : i < qs.length) (hj : j < qs.length) (hb : (nth qs i).testBit j = true) :
    ∀ m, tab qs m ≤ tab (calm qs i j) m + 1 ∧ (m.testBit i = false → tab qs m ≤ tab (calm qs i j) m) := by
  intro m
  induction m using Nat.strongRecOn with
  | ind m ih =>
    rcases Nat.eq_zero_or_pos m with h0 | h0
    · subst h0; exact ⟨Nat.zero_le _, fun _ => Nat.zero_le _⟩
    · rcases tab_cases (calm qs i j) h0 with h | ⟨p, hp0, hpm, hp, hf, ht⟩
      · rw [h, calm_length]; have := tab_le qs m; exact ⟨by omega, fun _ => this⟩
      · obtain ⟨h1, h2⟩ := ih (m - p) (by omega)
        cases hpi : p.testBit i with
        | false =>
          have h3 := tab_step qs hp0 hp (calm_free hq hi hj hb hpi hf)
          refine ⟨by omega, fun hmi => ?_⟩
          have : (m - p).testBit i = false := by rw [sub_minus hp, testBit_minus, hmi]; rfl
          have := h2 this
          omega
        | true =>
          have hmi := bit_sub hp hpi
          refine ⟨?_, fun h => by rw [hmi] at h; cases h⟩
          have hno : (m - p).testBit i = false := by rw [sub_minus hp, testBit_minus, hmi, hpi]; rfl
          have h3 := h2 hno
          have h1p : 2 ^ i &&& p = 2 ^ i := sub_of_bits fun t ht => by
            rw [Nat.testBit_two_pow, decide_eq_true_iff] at ht
            subst ht; exact hpi
          have hle : 2 ^ i ≤ p := by rw [← h1p]; exact Nat.and_le_right
          have hpos : 0 < 2 ^ i := Nat.two_pow_pos i
          have e := sub_minus h1p
          rcases Nat.eq_zero_or_pos (p - 2 ^ i) with hz | hz
          · have hpe : p = 2 ^ i := by omega
            have h4 := tab_step qs hp0 hp (by rw [hpe]; exact free_one hq hi)
            omega
          · have hb1 : ∀ t, (p - 2 ^ i).testBit t = (p.testBit t && !decide (i = t)) := fun t => by rw [e, testBit_minus, Nat.testBit_two_pow]
            have hs1 : (p - 2 ^ i) &&& m = p - 2 ^ i := sub_of_bits fun t ht => by
              rw [hb1, Bool.and_eq_true] at ht
              exact bit_sub hp ht.1
            have hf1 : freeAt (calm qs i j) (p - 2 ^ i) = true := by
              rw [free_iff] at hf ⊢
              intro k t hk hkp htp
              rw [hb1, Bool.and_eq_true] at hkp htp
              exact hf k t hk hkp.1 htp.1
            have h4 := tab_step qs hz hs1 (calm_free hq hi hj hb (by rw [hb1]; simp) hf1)
            have hs2 : 2 ^ i &&& (m - (p - 2 ^ i)) = 2 ^ i := sub_of_bits fun t ht => by
              rw [Nat.testBit_two_pow, decide_eq_true_iff] at ht
              subst ht
              rw [sub_minus hs1, testBit_minus, hmi, hb1]
              simp
            have h5 := tab_step qs hpos hs2 (free_one hq hi)
            have h6 : m - (p - 2 ^ i) - 2 ^ i = m - p := by omega
            rw [h6] at h5
            omega
end
theorem quarValid_of {qs : List Nat} (hl : qs.length ≤ 6) (hx : ∀ y ∈ qs, y < 2 ^ qs.length) (hk : quarOk qs = true) : quarValid (qs.length : Int) (castL qs) = true := by
  unfold quarValid
  rw [Bool.and_eq_true, decide_eq_true_iff]
  refine ⟨⟨⟨by omega, by omega⟩, by rw [castL_length], fun y hy => ?_⟩, by rw [show (castL qs).map Int.toNat = qs from map_toNat qs]; exact hk⟩
  obtain ⟨c, hc, rfl⟩ := List.mem_map.1 hy
  have h1 := hx c hc
  rw [Int.toNat_natCast, two_pow_cast]
  refine ⟨Int.natCast_nonneg _, ?_⟩
  have : (c : Int) < ((2 ^ qs.length : Nat) : Int) := Int.ofNat_lt.2 h1
  omega
theorem castL_set (l : List Nat) (k v : Nat) : List.set (castL l) (Int.toNat (k : Int)) (v : Int) = castL (l.set k v) := by
  rw [Int.toNat_natCast]; simp [castL, List.map_set]
theorem seats_zeros : ∀ n ≤ 6, seatsLeast ((arr n fun _ => 0).map Int.toNat) = min 1 n := by decide +kernel
theorem calm_seats {qs : List Nat} {i j : Nat} (hq : quarOk qs = true) (hi : i < qs.length) (hj : j < qs.length) (hb : (nth qs i).testBit j = true) :
    seatsLeast (calm qs i j) = seatsLeast qs ∨ seatsLeast (calm qs i j) + 1 = seatsLeast qs := by
  unfold seatsLeast
  rw [calm_length]
  have h1 := calm_tab_le hq hi hj hb (2 ^ qs.length - 1)
  have h2 := (tab_le_calm hq hi hj hb (2 ^ qs.length - 1)).1
  omega
theorem sub_wr {a b : Nat} (hab : b ≤ a) (h : a < 64) : IntKind.wrap .i64 ((a : Int) - (b : Int)) = ((a - b : Nat) : Int) := by
  rw [wr ⟨by omega, by omega⟩]; omega
theorem pl_FnSeatsLeast (x : List Int) (hw : ∀ n ∈ x, InK .u8 n) : laws_FnSeatsLeastS x = some true := by
  unfold laws_FnSeatsLeastS
  by_cases hl : (x.length : Int) > 1048576
  · rw [if_pos (by simp; omega)]
  rw [if_neg (by simp; omega)]
  obtain ⟨⟨g, q⟩, hd, ⟨hg0, hg1⟩, hm⟩ := drawQuar spec_DrawSeatsLeastS 9 (fun _ => rfl) x (u8_of hw)
  dsimp only at hg0 hg1 hm
  rw [hd, Option.bind_some, implSeatsLeast_eq g q (by omega), Option.bind_some, specSeatsLeast_eq g q (by omega), Option.bind_some]
  cases hk : quarValid g q with
  | false => simp [alive_eq]
  | true =>
    obtain ⟨qs, hq, hg, hl6, hx, hk2⟩ := quarValid_nat hk
    have hq' : q = castL qs := hq
    have hmt : q.map Int.toNat = qs := by rw [hq]; exact map_toNat qs
    have hsl : seatsLeast qs ≤ 6 := Nat.le_trans (tab_le qs _) hl6
    rw [if_pos rfl, hmt, if_neg (by simp), if_neg (by simp), hq']
    dsimp only
    have e8 : IntKind.wrap .i64 (((seatsLeast qs : Nat) : Int) - 1) = ((seatsLeast qs : Nat) : Int) - 1 := wr ⟨by omega, by omega⟩
    apply Ret.eq
    refine Ret.loopb (fun s => ∃ i : Nat, s = (i : Int) ∧ i ≤ qs.length) (fun s => qs.length - s.toNat) (fun r => r = .inl ()) ⟨0, rfl, by omega⟩ ?_ (fun r hr => ?_)
    · rintro s ⟨i, rfl, hi⟩
      refine Ret.ite (fun h => ?_) (fun h => Ret.pure rfl)
      have hil : i < qs.length := by have := of_decide_eq_true h; omega
      have e1 : IntKind.wrap .i64 ((i : Int) + 1) = ((i + 1 : Nat) : Int) := wr_succ (n := 40) (by omega) (by omega)
      refine Ret.loopb (fun s => ∃ j : Nat, s = (j : Int) ∧ j ≤ i) (fun s => i - s.toNat) (fun r => r = .inl ()) ⟨0, rfl, by omega⟩ ?_ (fun r hr => ?_)
      · rintro s ⟨j, rfl, hj⟩
        refine Ret.ite (fun h => ?_) (fun h => Ret.pure rfl)
        have hji : j < i := by have := of_decide_eq_true h; omega
        have e2 : IntKind.wrap .i64 ((j : Int) + 1) = ((j + 1 : Nat) : Int) := wr_succ (n := 40) (by omega) (by omega)
        have hi64 := p6 hl6 (hx _ (nth_mem hil))
        have hj64 := p6 hl6 (hx _ (nth_mem (show j < qs.length by omega)))
        rw [geti_cast hil, Option.bind_some, ishrO_nat (by omega), Option.bind_some, shr_bit, e2]
        refine Ret.ite (fun hb => ?_) (fun hb => Ret.pure ⟨⟨j + 1, rfl, by omega⟩, by simp; omega⟩)
        have hbj : (nth qs j).testBit i = true := by rw [← quar_symm hk2 hil (by omega)]; exact hb
        have p1 := pow_le_of_bit hb
        have p2 := pow_le_of_bit hbj
        have ha : appO ([] : List Int) (castL qs) = some (castL qs) := by rw [appO_ret (by simp [castL_length]; omega)]; rfl
        have w1 : IntKind.wrap .i64 (((nth qs i : Nat) : Int) - ((2 ^ j : Nat) : Int)) = ((nth qs i - 2 ^ j : Nat) : Int) := sub_wr p1 hi64
        have w2 : IntKind.wrap .i64 (((nth qs j : Nat) : Int) - ((2 ^ i : Nat) : Int)) = ((nth qs j - 2 ^ i : Nat) : Int) := sub_wr p2 hj64
        have hnj : nth (qs.set i (nth qs i - 2 ^ j)) j = nth qs j := by rw [nth_set _ _ _ _ hil, if_neg (by omega)]
        rw [ha, Option.bind_some, geti_cast hil, Option.bind_some, ishlO_nat (by omega), Option.bind_some, Option.bind_some, w1, castL_set, geti_cast (by simp; omega), Option.bind_some, ishlO_nat (by omega), Option.bind_some, Option.bind_some, hnj, w2, castL_set]
        have hcv := quarValid_of (qs := calm qs i j) (by rw [calm_length]; exact hl6) (calm_lt hx hil (by omega)) (calm_ok hk2 hil (by omega) hb)
        rw [calm_length, ← hg] at hcv
        have hcl : (castL (calm qs i j)).length = qs.length := by rw [castL_length, calm_length]
        have himp : impl_SeatsLeastS g (castL (calm qs i j)) = some ((seatsLeast (calm qs i j) : Nat) : Int) := by
          rw [implSeatsLeast_eq g _ (by omega), hcv, if_pos rfl, show (castL (calm qs i j)).map Int.toNat = calm qs i j from map_toNat _]
        have hcalm : (qs.set i (nth qs i - 2 ^ j)).set j (nth qs j - 2 ^ i) = calm qs i j := rfl
        rw [hcalm, himp, Option.bind_some, e8]
        have hc := calm_seats hk2 hil (show j < qs.length by omega) hb
        rw [if_neg]
        · exact Ret.pure ⟨⟨j + 1, rfl, by omega⟩, by simp; omega⟩
        · simp only [Bool.and_eq_true, bne_iff_ne, ne_eq, not_and, Classical.not_not]
          intro hne
          omega
      · subst hr
        rw [e1]
        exact Ret.pure ⟨⟨i + 1, rfl, by omega⟩, by simp; omega⟩
    · subst hr
      have hz : impl_SeatsLeastS (qs.length : Int) (arr qs.length fun _ => 0) = some ((min 1 qs.length : Nat) : Int) := by
        rw [implSeatsLeast_eq _ _ (by simp [arr]; omega), quarValid_zeros _ hl6, if_pos rfl, seats_zeros _ hl6]
      rw [hg, mkO_arr (by omega), Option.bind_some, hz, Option.bind_some]
      refine Ret.pure ?_
      rw [beq_iff_eq]
      by_cases h : 1 < qs.length
      · rw [if_pos (by omega), Nat.min_eq_left (by omega)]; rfl
      · rw [if_neg (by omega), Nat.min_eq_right (by omega)]
end Go.Proofs.YtidhmbmollkhdaaDoor
