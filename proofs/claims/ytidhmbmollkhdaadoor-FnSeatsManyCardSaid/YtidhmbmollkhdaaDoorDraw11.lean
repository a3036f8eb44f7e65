/- Seats: how many, against the least. Own work; no program in sight. -/
import Derived.Test.YtidhmbmollkhdaaDoorDraw10
import Derived.Test.YtidhmbmollkhdaaDoorShS6b
set_option linter.unusedVariables false
namespace Go.Proofs.YtidhmbmollkhdaaDoor
open Go Go.RowKit
def dist (s : List Int) : List Int := Lib.compact (srt s)
theorem many_eq (s : List Int) (h : s.length ≤ 1000) : impl_SeatsManyS s = some (((dist s).length : Nat) : Int) := by
  unfold impl_SeatsManyS impl_copyIntsS
  by_cases h0 : s.length = 0
  · have : s = [] := List.length_eq_zero_iff.1 h0
    subst this
    simp [dist]
  · have hmk : mkO (0 : Int) (s.length : Int) = some (arr s.length fun _ => 0) := mkO_arr (by omega)
    rw [if_neg (by simp; exact fun h => h0 (by rw [h]; rfl)), hmk]
    simp only [Option.bind_some]
    have e : List.take (arr s.length fun _ => (0 : Int)).length s ++ List.drop s.length (arr s.length fun _ => (0 : Int)) = s := by
      rw [arr_length, List.take_length, List.drop_eq_nil_of_le (by rw [arr_length]; omega), List.append_nil]
    rw [e, if_pos (decide_eq_true (by omega))]
    rfl
theorem mem_compactUpTo (d : Array Int) (m : Nat) : ∀ j, j < m → d[j]! ∈ Lib.compactUpTo d m := by
  intro j
  induction j with
  | zero =>
    intro hj
    unfold Lib.compactUpTo
    exact List.mem_map.2 ⟨0, List.mem_filter.2 ⟨List.mem_range.2 hj, by simp [Lib.keeps]⟩, rfl⟩
  | succ j ih =>
    intro hj
    by_cases h : d[j + 1]! = d[j]!
    · rw [h]; exact ih (by omega)
    · unfold Lib.compactUpTo
      exact List.mem_map.2 ⟨j + 1, List.mem_filter.2 ⟨List.mem_range.2 hj, by simp [Lib.keeps, h]⟩, rfl⟩
theorem mem_dist {s : List Int} {y : Int} (h : y ∈ s) : y ∈ dist s := by
  have h1 : y ∈ srt s := (List.mergeSort_perm s _).mem_iff.2 h
  obtain ⟨i, hi, he⟩ := List.getElem_of_mem h1
  have h2 := mem_compactUpTo (srt s).toArray (srt s).length i hi
  rw [getElem!_pos _ i (by simpa using hi)] at h2
  simp only [List.getElem_toArray, he] at h2
  exact h2
theorem dist_mem {s : List Int} {y : Int} (h : y ∈ dist s) : y ∈ s := by
  unfold dist Lib.compact Lib.compactUpTo at h
  obtain ⟨i, hi, he⟩ := List.mem_map.1 h
  have hi := List.mem_range.1 (List.mem_filter.1 hi).1
  rw [getElem!_pos _ i (by simpa using hi)] at he
  have : y ∈ srt s := by rw [← he]; simp
  exact (List.mergeSort_perm s _).mem_iff.1 this
theorem srt_sorted (s : List Int) : (srt s).Pairwise (· ≤ ·) := by
  have := List.pairwise_mergeSort (le := fun a b : Int => decide (a ≤ b)) (fun a b c h1 h2 => by simp only [decide_eq_true_eq] at *; omega) (fun a b => by simp only [Bool.or_eq_true, decide_eq_true_eq]; omega) s
  exact this.imp fun h => by simpa using h
theorem dist_sorted (s : List Int) : (dist s).Pairwise (· < ·) := by
  unfold dist Lib.compact Lib.compactUpTo
  rw [List.pairwise_map]
  have hs := srt_sorted s
  refine List.Pairwise.imp_of_mem ?_ ((List.pairwise_lt_range (n := (srt s).length)).filter _)
  intro a b ha hb hab
  have ha1 := List.mem_range.1 (List.mem_filter.1 ha).1
  have hb1 := List.mem_range.1 (List.mem_filter.1 hb).1
  have hk := (List.mem_filter.1 hb).2
  unfold Lib.keeps at hk
  have hk := of_decide_eq_true hk
  have hne : (srt s).toArray[b]! ≠ (srt s).toArray[b - 1]! := by rcases hk with h | h; · omega
                                                                 · exact h
  rw [getElem!_pos _ b (by simpa using hb1), getElem!_pos _ (b - 1) (by simp; omega)] at hne
  rw [getElem!_pos _ a (by simpa using ha1), getElem!_pos _ b (by simpa using hb1)]
  simp only [List.getElem_toArray] at hne ⊢
  have h1 : (srt s)[b - 1] ≤ (srt s)[b] := List.pairwise_iff_getElem.1 hs (b - 1) b (by omega) hb1 (by omega)
  have h2 : (srt s)[a] ≤ (srt s)[b - 1] := by
    rcases Nat.lt_or_ge a (b - 1) with h | h
    · exact List.pairwise_iff_getElem.1 hs a (b - 1) ha1 (by omega) h
    · have : a = b - 1 := by omega
      subst this; exact Int.le_refl _
  omega
theorem sorted_length : ∀ (l : List Int) (a K : Int), l.Pairwise (· < ·) → (∀ y ∈ l, a ≤ y ∧ y ≤ K) → (l.length : Int) ≤ max 0 (K + 1 - a)
  | [], a, K, _, _ => by simp; omega
  | y :: l, a, K, hp, h => by
    obtain ⟨h1, h2⟩ := List.pairwise_cons.1 hp
    have hy := h y (by simp)
    have := sorted_length l (y + 1) K h2 (fun z hz => ⟨by have := h1 z hz; omega, (h z (by simp [hz])).2⟩)
    simp only [List.length_cons]
    omega
def cls (s : List Int) (c : Int) (m : Nat) : Nat → Nat
  | 0 => 0
  | k + 1 => if m.testBit k && s.getD k 0 == c then cls s c m k ||| 2 ^ k else cls s c m k
theorem cls_bit (s : List Int) (c : Int) (m i : Nat) : ∀ k, (cls s c m k).testBit i = true ↔ i < k ∧ m.testBit i = true ∧ s.getD i 0 = c
  | 0 => by simp [cls]
  | k + 1 => by
    have ih := cls_bit s c m i k
    unfold cls
    by_cases h : (m.testBit k && s.getD k 0 == c) = true
    · rw [if_pos h, Nat.testBit_or, Bool.or_eq_true, ih, Nat.testBit_two_pow, decide_eq_true_iff]
      rw [Bool.and_eq_true, beq_iff_eq] at h
      constructor
      · rintro (⟨h1, h2, h3⟩ | rfl)
        · exact ⟨by omega, h2, h3⟩
        · exact ⟨by omega, h.1, h.2⟩
      · rintro ⟨h1, h2, h3⟩
        rcases Nat.lt_or_ge i k with h4 | h4
        · exact .inl ⟨h4, h2, h3⟩
        · right; omega
    · rw [if_neg h, ih]
      constructor
      · rintro ⟨h1, h2, h3⟩; exact ⟨by omega, h2, h3⟩
      · rintro ⟨h1, h2, h3⟩
        rcases Nat.lt_or_ge i k with h4 | h4
        · exact ⟨h4, h2, h3⟩
        · have : i = k := by omega
          subst this
          exact absurd (by rw [Bool.and_eq_true, beq_iff_eq]; exact ⟨h2, h3⟩) h
theorem apart_ne {qs : List Nat} {s : List Int} (h : seatsApart qs s = true) {i j : Nat} (hi : i < qs.length) (hj : j < i) (hb : (nth qs i).testBit j = true) : s.getD i 0 ≠ s.getD j 0 := by
  unfold seatsApart at h
  rw [List.all_eq_true] at h
  have h1 := h i (List.mem_range.2 hi)
  rw [List.all_eq_true] at h1
  have h2 := h1 j (List.mem_range.2 hj)
  rw [hb] at h2
  simpa using h2
theorem tab_colors {qs : List Nat} {s : List Int} (hq : quarOk qs = true) (h : seatsApart qs s = true) : ∀ (cs : List Int) (m : Nat), m < 2 ^ qs.length → (∀ i, m.testBit i = true → s.getD i 0 ∈ cs) → tab qs m ≤ cs.length := by
  intro cs
  induction cs with
  | nil =>
    intro m hm hc
    have : m = 0 := (eq_zero_iff_bits m).2 fun i => by
      cases hb : m.testBit i with
      | false => rfl
      | true => have := hc i hb; cases this
    subst this
    exact Nat.le_refl _
  | cons c cs ih =>
    intro m hm hc
    have hbit := fun i => cls_bit s c m i qs.length
    rcases Nat.eq_zero_or_pos (cls s c m qs.length) with h0 | h0
    · have := ih m hm fun i hi => by
        rcases List.mem_cons.1 (hc i hi) with h1 | h1
        · have := (hbit i).2 ⟨bit_lt hm hi, hi, h1⟩
          rw [h0, Nat.zero_testBit] at this; cases this
        · exact h1
      simp only [List.length_cons]; omega
    · have hsub : cls s c m qs.length &&& m = cls s c m qs.length := sub_of_bits fun t ht => ((hbit t).1 ht).2.1
      have hfree : freeAt qs (cls s c m qs.length) = true := by
        rw [free_iff]
        intro k t hk hkp htp
        obtain ⟨h1, h2, h3⟩ := (hbit k).1 hkp
        obtain ⟨h4, h5, h6⟩ := (hbit t).1 htp
        cases hb : (nth qs k).testBit t with
        | false => rfl
        | true =>
          exfalso
          rcases Nat.lt_trichotomy t k with hl | he | hg
          · exact apart_ne h h1 hl hb (by rw [h3, h6])
          · subst he; rw [quar_self hq h1] at hb; cases hb
          · rw [quar_symm hq h1 h4] at hb
            exact apart_ne h h4 hg hb (by rw [h3, h6])
      have h1 := tab_step qs h0 hsub hfree
      have h2 := ih (m - cls s c m qs.length) (by omega) fun i hi => by
        rw [sub_minus hsub, testBit_minus, Bool.and_eq_true] at hi
        rcases List.mem_cons.1 (hc i hi.1) with h3 | h3
        · have := (hbit i).2 ⟨bit_lt hm hi.1, hi.1, h3⟩
          rw [this] at hi
          exact absurd hi.2 (by simp)
        · exact h3
      simp only [List.length_cons]; omega
theorem least_le_dist {qs : List Nat} {s : List Int} (hq : quarOk qs = true) (hl : s.length = qs.length) (h : seatsApart qs s = true) : seatsLeast qs ≤ (dist s).length := by
  unfold seatsLeast
  have hp := Nat.two_pow_pos qs.length
  refine tab_colors hq h (dist s) (2 ^ qs.length - 1) (by omega) fun i hi => ?_
  rw [testBit_all, decide_eq_true_iff] at hi
  rw [getD_lt (by omega)]
  exact mem_dist (List.getElem_mem _)
theorem seated_ret {b : List Int} {p : Int} (hb : By b) (h0 : 0 ≤ p) (h1 : p ≤ 1000) : Ret (spec_l20SeatedS b p) (fun r => DG (r.2.1, r.2.2.1) ∧ r.2.2.2.length ≤ 7) := by
  unfold spec_l20SeatedS
  refine Ret.bind (quar_ret hb h0 h1) (fun x1 hx1 => ?_)
  obtain ⟨⟨hp0, hp1⟩, hg, hl⟩ := hx1
  refine Ret.bind (Q := fun z : List Int => z.length ≤ 7) ?_ (fun z hz => ?_)
  · rw [specSeatsFirst_eq _ _ (by omega)]
    refine Ret.pure ?_
    by_cases hv : quarValid x1.2.1 x1.2.2 = true
    · rw [if_pos hv, castL_length, seatsTo_length]; exact hl
    · rw [if_neg hv]; simp
  · refine Ret.loopb (fun s => ∃ (l : List Int) (k : Nat) (q : Int), s = (l, (k : Int), q) ∧ l.length = z.length ∧ k ≤ z.length ∧ 0 ≤ q ∧ q ≤ p + 100 + 3 * (k : Int)) (fun s => z.length - s.2.1.toNat) (fun r => r.1.length ≤ 7) ⟨z, 0, x1.1, rfl, rfl, by omega, by omega, by omega⟩ ?_ (fun r hr => Ret.pure ⟨⟨hg, hl⟩, hr⟩)
    rintro s ⟨l, k, q, rfl, hll, hk, hq0, hq1⟩
    dsimp only
    refine Ret.ite (fun h => ?_) (fun h => Ret.pure (by show l.length ≤ 7; omega))
    have hkl : k < z.length := by have := of_decide_eq_true h; omega
    have e1 : IntKind.wrap .i64 ((k : Int) + 1) = ((k + 1 : Nat) : Int) := wr_succ (n := 40) (by omega) (by omega)
    rw [e1]
    refine Ret.bind (pick_ret hb hq0 (by omega)) (fun u hu => ?_)
    refine Ret.ite (fun h => ?_) (fun h => Ret.pure ⟨⟨l, k + 1, u.1, rfl, hll, by omega, by omega, by omega⟩, by simp; omega⟩)
    refine Ret.bind (pick_ret hb (by omega) (by omega)) (fun u2 hu2 => ?_)
    refine Ret.bind (pick_ret hb (by omega) (by omega)) (fun u3 hu3 => ?_)
    refine Ret.bind (geti_ret (b := l) (by omega) (by omega)) (fun u4 _ => ?_)
    exact Ret.pure ⟨⟨_, k + 1, u3.1, rfl, by simp [hll], by omega, by omega, by omega⟩, by simp; omega⟩
theorem pl_FnSeatsOk (x : List Int) (hw : ∀ n ∈ x, InK .u8 n) : laws_FnSeatsOkS x = some true := by
  unfold laws_FnSeatsOkS
  by_cases hl : (x.length : Int) > 1048576
  · rw [if_pos (by simp; omega)]
  rw [if_neg (by simp; omega)]
  have hdraw : Ret (spec_DrawSeatsOkS x) (fun r => DG (r.1, r.2.1) ∧ r.2.2.length ≤ 7) := by
    unfold spec_DrawSeatsOkS
    refine Ret.bind (open_spec x (u8_of hw)) (fun r hr => ?_)
    refine Ret.bind (seated_ret hr.1 (by omega) (by omega)) (fun v hv => ?_)
    exact Ret.pure hv
  obtain ⟨⟨g, q, s⟩, hd, ⟨⟨hg0, hg1⟩, hm⟩, hsl⟩ := hdraw
  dsimp only at hg0 hg1 hm hsl
  rw [hd, Option.bind_some]
  dsimp only
  rw [implSeatsOk_eq g q s (by omega) (by omega), Option.bind_some, specSeatsOk_eq g q s (by omega) (by omega), Option.bind_some, if_neg (by simp)]
  cases hk : seatsOk g q s with
  | false => simp [alive_eq]
  | true =>
    unfold seatsOk at hk
    rw [Bool.and_eq_true, Bool.and_eq_true, decide_eq_true_iff] at hk
    obtain ⟨hv, ⟨hsg, hin⟩, hap⟩ := hk
    obtain ⟨qs, hq, hg, hl6, hx, hk2⟩ := quarValid_nat hv
    have hmt : q.map Int.toNat = qs := by rw [hq]; exact map_toNat qs
    rw [hmt] at hap
    have h1 := least_le_dist hk2 (by omega) hap
    have h2 := cliqueMost_le hl6
    rw [if_neg (by simp), many_eq s (by omega), Option.bind_some, implSeatsLeast_eq g q (by omega), hv, if_pos rfl, hmt, Option.bind_some, if_pos (decide_eq_true (by omega)), implCliqueMost_eq g q (by omega), hv, if_pos rfl, hmt]
    simp only [Option.bind_some]
    rw [decide_eq_true (by omega)]
end Go.Proofs.YtidhmbmollkhdaaDoor
