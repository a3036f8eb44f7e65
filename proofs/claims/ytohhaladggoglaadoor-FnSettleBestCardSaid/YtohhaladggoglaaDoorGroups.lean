/- Into how many groups: the tables of both functions. Own work; no program in sight. -/
import Derived.Test.YtohhaladggoglaaDoorRank
set_option linter.unusedVariables false
namespace Go.Proofs.YtohhaladggoglaaDoor
open Go Go.RowKit
/-! ### those to whom something is owed, or who owe something -/
def nzm : List Int → Nat
  | [] => 0
  | x :: l => (if x = 0 then 0 else 1) + 2 * nzm l
theorem nzm_lt : ∀ l : List Int, nzm l < 2 ^ l.length
  | [] => by simp [nzm]
  | x :: l => by
    have := nzm_lt l
    rw [List.length_cons, Nat.pow_succ]
    unfold nzm; split <;> omega
theorem nzm_mod (x : Int) (l : List Int) : (nzm (x :: l)) % 2 = (if x = 0 then 0 else 1) ∧ nzm (x :: l) / 2 = nzm l := by
  simp only [nzm]; split <;> omega
theorem nzm_bit : ∀ (l : List Int) (k : Nat), (nzm l).testBit k = decide (at0 l k ≠ 0)
  | [], k => by simp [nzm, at0]
  | x :: l, 0 => by
    rw [Nat.testBit_zero, (nzm_mod x l).1]
    have : at0 (x :: l) 0 = x := rfl
    rw [this]
    by_cases h : x = 0 <;> simp [h]
  | x :: l, k + 1 => by
    rw [Nat.testBit_succ, (nzm_mod x l).2, nzm_bit l k]
    have : at0 (x :: l) (k + 1) = at0 l k := by simp [at0]
    rw [this]
theorem vals_nzm : ∀ l : List Int, vals l (nzm l) = nzs l
  | [] => rfl
  | x :: l => by
    obtain ⟨h1, h2⟩ := nzm_mod x l
    rw [nzs_cons]
    simp only [vals, h1, h2, vals_nzm l]
    by_cases h : x = 0 <;> simp [h]
theorem vals_sub_nz : ∀ (l : List Int) {b : Nat}, Sub b (nzm l) → ∀ x ∈ vals l b, x ≠ 0
  | [], b, _, x, hx => by cases hx
  | y :: l, b, h, x, hx => by
    obtain ⟨h1, h2⟩ := h.half
    rw [(nzm_mod y l).2] at h1
    rw [(nzm_mod y l).1] at h2
    simp only [vals] at hx
    split at hx
    · rename_i hb
      have hy : y ≠ 0 := fun e => by have := h2 hb; rw [if_pos e] at this; omega
      rcases List.mem_cons.1 hx with rfl | hx
      · exact hy
      · exact vals_sub_nz l h1 x hx
    · exact vals_sub_nz l h1 x hx
theorem sm_nzs : ∀ l : List Int, sm (nzs l) = sm l
  | [] => rfl
  | x :: l => by
    rw [nzs_cons]
    by_cases h : x = 0
    · rw [if_pos h, sm_nzs l]; simp [sm, h]
    · rw [if_neg h]; simp [sm, sm_nzs l]
theorem nzc_append (l m : List Int) : nzc (l ++ m) = nzc l + nzc m := by unfold nzc nzs; rw [List.filter_append, List.length_append]
theorem nzs_append (l m : List Int) : nzs (l ++ m) = nzs l ++ nzs m := by unfold nzs; rw [List.filter_append]
theorem nzc_one (x : Int) : nzc [x] = if x = 0 then 0 else 1 := by rw [nzc_cons]; simp [nzc, nzs]
theorem nzc_le (l : List Int) : nzc l ≤ l.length := List.length_filter_le _ _
theorem pc_nzm : ∀ l : List Int, l.length ≤ 60 → pc (nzm l) = nzc l
  | [], _ => by have hz : pc 0 = 0 := pcF_zero 64; exact hz
  | x :: l, h => by
    have hlt := nzm_lt (x :: l)
    have hp : 2 ^ (x :: l).length ≤ 2 ^ 60 := Nat.pow_le_pow_right (by omega) h
    rw [pc_step (by omega), (nzm_mod x l).1, (nzm_mod x l).2, pc_nzm l (by simp at h; omega), nzc_cons]
theorem and_pow_zero {a k : Nat} (h : a < 2 ^ k) : a &&& 2 ^ k = 0 := by
  apply Nat.eq_of_testBit_eq
  intro i
  rw [Nat.testBit_and, Nat.zero_testBit, Nat.testBit_two_pow]
  by_cases hi : k = i
  · subst hi; rw [Nat.testBit_lt_two_pow h]; rfl
  · simp [hi]
theorem or_pow_add {a k : Nat} (h : a < 2 ^ k) : a ||| 2 ^ k = a + 2 ^ k := by
  have h1 := or_and_add (k + 1) a (2 ^ k) (by rw [Nat.pow_succ]; omega) (by rw [Nat.pow_succ]; have := Nat.two_pow_pos k; omega)
  rw [and_pow_zero h] at h1; omega
theorem p128 {n : Nat} (h : n ≤ 7) : 2 ^ n ≤ 128 := Nat.pow_le_pow_right (n := 2) (by omega) h
theorem mod_lt_pow (a k : Nat) : a % 2 ^ k < 2 ^ k := Nat.mod_lt _ (Nat.two_pow_pos k)
theorem concerned_eq {xs : List Int} (hl : xs.length ≤ 7) : impl_concernedS xs = some ((nzm xs : Nat) : Int) := by
  unfold impl_concernedS
  rw [loopDet (fun k => (((nzm xs % 2 ^ k : Nat) : Int), (k : Int))) xs.length ((nzm xs : Nat) : Int)]
  · rfl
  · simp [Nat.mod_one]
  · intro k hk
    dsimp only
    have h1 := mod_lt_pow (nzm xs) k
    have h2 := p128 (n := k) (by omega)
    rw [if_pos (by simp only [decide_eq_true_eq]; omega), geti_at0 hk, Option.bind_some, ishlO_nat (by omega), Option.bind_some, ior_nat (by omega) (by omega), or_pow_add h1, wr_succ (n := xs.length) (by omega) hk, mod_pow_succ, nzm_bit]
    by_cases h : at0 xs k = 0
    · simp [h]
    · simp [h]
  · dsimp only
    rw [if_neg (by simp), Nat.mod_eq_of_lt (nzm_lt xs)]
theorem onlyOf_eq {xs : List Int} {s : Nat} (hl : xs.length ≤ 7) (hs : s < 128) : impl_onlyOfS xs (s : Int) = some (maskL xs s) := by
  unfold impl_onlyOfS
  rw [mk_ra (by omega), Option.bind_some]
  rw [loopDet (fun k => ((k : Int), ra xs.length (fun j => if j < k then at0 (maskL xs s) j else 0))) xs.length (maskL xs s)]
  · rfl
  · simp only [Nat.not_lt_zero, if_false]; rfl
  · intro k hk
    dsimp only
    have h2 := p128 (n := k) (by omega)
    rw [if_pos (by simp only [decide_eq_true_eq]; omega), geti_at0 hk, Option.bind_some, ishlO_nat (by omega), Option.bind_some, iand_nat (by omega) (by omega), and_pow_ne, ra_geti _ hk, Option.bind_some, wr_succ (n := xs.length) (by omega) hk, ra_set]
    by_cases hb : s.testBit k
    · rw [if_pos hb]
      congr 3
      apply ra_ext
      intro j hj
      by_cases h1 : j = k
      · subst h1; rw [if_pos rfl, if_pos (by omega), at0_mask, if_pos hb]
      · rw [if_neg h1]
        by_cases h3 : j < k
        · rw [if_pos h3, if_pos (by omega)]
        · rw [if_neg h3, if_neg (by omega)]
    · rw [if_neg hb]
      congr 3
      apply ra_ext
      intro j hj
      by_cases h3 : j < k
      · rw [if_pos h3, if_pos (by omega)]
      · rw [if_neg h3]
        by_cases h1 : j = k
        · subst h1; rw [if_pos (by omega), at0_mask, if_neg hb]
        · rw [if_neg (by omega)]
  · dsimp only
    rw [if_neg (by simp)]
    congr 2
    have := ra_of (maskL xs s)
    rw [maskL_length] at this
    rw [this]
    apply ra_ext
    intro j hj
    rw [if_pos hj]
    rw [← this]
/-! ### the parts of a set, from the greatest on -/
def chk (s : Nat) : List Nat → Bool
  | [] => true
  | [p] => (p - 1) &&& s == 0
  | p :: q :: l => ((p - 1) &&& s == q) && chk s (q :: l)
def subsL (s : Nat) : List Nat := ((List.range s).filter (fun p => p != 0 && (p &&& s == p))).reverse
theorem chk_all : ∀ s < 128, s ≠ 0 → ((s - 1) &&& s == (subsL s).headD 0 && chk s (subsL s)) = true := by decide +kernel
theorem chk_get {s : Nat} : ∀ {L : List Nat}, chk s L = true → ∀ j, j < L.length → (nth L j - 1) &&& s = nth L (j + 1)
  | [], _, j, hj => by simp at hj
  | [p], h, j, hj => by
    have : j = 0 := by simp at hj; omega
    subst this
    simpa [chk, nth] using h
  | p :: q :: l, h, 0, hj => by
    simp only [chk, Bool.and_eq_true, beq_iff_eq] at h
    simpa [nth] using h.1
  | p :: q :: l, h, j + 1, hj => by
    simp only [chk, Bool.and_eq_true] at h
    have := chk_get h.2 j (by simpa using hj)
    simpa [nth] using this
theorem mem_subsL {s p : Nat} : p ∈ subsL s ↔ p < s ∧ p ≠ 0 ∧ Sub p s := by
  unfold subsL Sub
  rw [List.mem_reverse, List.mem_filter, List.mem_range]
  simp
theorem nth_head (L : List Nat) : nth L 0 = L.headD 0 := by cases L <;> rfl
theorem tab_bd {xs : List Int} (hl : xs.length ≤ 7) (b : Nat) : -1 ≤ tab xs b ∧ tab xs b ≤ 7 := by
  unfold tab
  split
  · rename_i h
    have h1 := (gmax_spec h).le
    have h2 := vals_length_le xs b
    omega
  · omega
theorem tab_pos_sm {xs : List Int} {b : Nat} (h : 0 < tab xs b) : sm (vals xs b) = 0 := by
  unfold tab at h
  split at h
  · assumption
  · omega
/-- the best of the first j parts -/
noncomputable def curTo (xs : List Int) (s : Nat) (L : List Nat) : Nat → Int
  | 0 => 1
  | j + 1 => if tab xs (nth L j) > 0 then (if tab xs (nth L j) + tab xs (minus s (nth L j)) > curTo xs s L j then tab xs (nth L j) + tab xs (minus s (nth L j)) else curTo xs s L j) else curTo xs s L j
theorem curTo_le {xs : List Int} {s : Nat} {L : List Nat} (hs : s < 2 ^ xs.length) (h0 : s ≠ 0) (hz : sm (vals xs s) = 0) (hL : ∀ p ∈ L, Sub p s) : ∀ j, j ≤ L.length → 1 ≤ curTo xs s L j ∧ curTo xs s L j ≤ tab xs s
  | 0, _ => ⟨by simp [curTo], (tab_pos hs h0).2 hz⟩
  | j + 1, hj => by
    have ih := curTo_le hs h0 hz hL j (by omega)
    have hp := hL _ (nth_mem (qs := L) (k := j) (by omega))
    unfold curTo
    split
    · rename_i h
      have := tab_add hp (tab_pos_sm h) hz
      split <;> omega
    · exact ih
theorem curTo_mono {xs : List Int} {s : Nat} {L : List Nat} : ∀ {i j : Nat}, i ≤ j → curTo xs s L i ≤ curTo xs s L j
  | i, 0, h => by have : i = 0 := by omega
                  subst this; exact Int.le_refl _
  | i, j + 1, h => by
    rcases Nat.lt_or_eq_of_le h with h1 | h1
    · have ih := curTo_mono (xs := xs) (s := s) (L := L) (i := i) (j := j) (by omega)
      have : curTo xs s L j ≤ curTo xs s L (j + 1) := by
        conv => rhs; unfold curTo
        split
        · split <;> omega
        · omega
      omega
    · subst h1; exact Int.le_refl _
theorem curTo_get {xs : List Int} {s : Nat} {L : List Nat} {j : Nat} (h : tab xs (nth L j) > 0) : tab xs (nth L j) + tab xs (minus s (nth L j)) ≤ curTo xs s L (j + 1) := by
  unfold curTo
  rw [if_pos h]
  split <;> omega
theorem curTo_all {xs : List Int} {s : Nat} (hs : s < 2 ^ xs.length) (h0 : s ≠ 0) (hz : sm (vals xs s) = 0) : curTo xs s (subsL s) (subsL s).length = tab xs s := by
  have hL : ∀ p ∈ subsL s, Sub p s := fun p hp => (mem_subsL.1 hp).2.2
  have h1 := curTo_le hs h0 hz hL (subsL s).length (Nat.le_refl _)
  rcases Int.lt_or_le (tab xs s) 2 with h2 | h2
  · omega
  · obtain ⟨a, ha1, ha2, ha3, ha4, ha5, ha6⟩ := tab_part hs hz h2
    have hm : a ∈ subsL s := mem_subsL.2 ⟨by have := ha1.le; omega, ha2, ha1⟩
    obtain ⟨i, hi, e⟩ := List.mem_iff_getElem.1 hm
    have hia : nth (subsL s) i = a := by rw [nth_lt hi, e]
    have h3 := curTo_get (xs := xs) (s := s) (L := subsL s) (j := i) (by rw [hia]; omega)
    rw [hia] at h3
    have h4 := curTo_mono (xs := xs) (s := s) (L := subsL s) (i := i + 1) (j := (subsL s).length) (by omega)
    omega
theorem subsL_length (s : Nat) : (subsL s).length ≤ s := by
  unfold subsL
  rw [List.length_reverse]
  have := List.length_filter_le (fun p => p != 0 && (p &&& s == p)) (List.range s)
  simpa using this
theorem mask_ok {xs : List Int} (hl : xs.length ≤ 7) (hB : ∀ x ∈ xs, -9999 ≤ x ∧ x ≤ 9999) (s : Nat) : (maskL xs s).length ≤ 7 ∧ ∀ x ∈ maskL xs s, -9999 ≤ x ∧ x ≤ 9999 := by
  refine ⟨by rw [maskL_length]; exact hl, fun x hx => ?_⟩
  obtain ⟨i, hi, rfl⟩ := mem_at0 hx
  rw [maskL_length] at hi
  rw [at0_mask]
  split
  · exact hB _ (at0_mem hi)
  · omega
theorem groupTable_eq {xs : List Int} (hl : xs.length ≤ 7) (hB : ∀ x ∈ xs, -9999 ≤ x ∧ x ≤ 9999) : impl_groupTableS xs = some (ra (2 ^ xs.length) (tab xs)) := by
  have hN := p128 hl
  have hN0 := Nat.two_pow_pos xs.length
  unfold impl_groupTableS
  rw [ishlO_nat (by omega), Option.bind_some, mk_ra (by omega), Option.bind_some]
  rw [loopDet (fun k => (((k + 1 : Nat) : Int), ra (2 ^ xs.length) (fun i => if i < k + 1 then tab xs i else 0))) (2 ^ xs.length - 1) (ra (2 ^ xs.length) (tab xs))]
  · rfl
  · congr 1
    apply ra_ext
    intro i hi
    by_cases h : i < 0 + 1
    · have : i = 0 := by omega
      subst this; rw [if_pos h, tab_zero]
    · rw [if_neg h]
  · intro k hk
    dsimp only
    have hs : k + 1 < 2 ^ xs.length := by omega
    generalize hsd : k + 1 = s at hs ⊢
    have hs0 : s ≠ 0 := by omega
    obtain ⟨m1, m2⟩ := mask_ok hl hB s
    rw [if_pos (by simp only [ra_length, decide_eq_true_eq]; omega), ra_geti _ hs, Option.bind_some, onlyOf_eq hl (by omega), Option.bind_some, implSum_eq (bd_of m1 m2), Option.bind_some, sm_mask, wr_succ (n := 128) (by omega) (by omega)]
    by_cases hz : sm (vals xs s) = 0
    · rw [if_neg (by simp [hz]), ra_set, ra_geti _ hs, Option.bind_some, ra_set]
      have hch := chk_all s (by omega) hs0
      rw [Bool.and_eq_true, beq_iff_eq] at hch
      have hget := chk_get hch.2
      have hLlen := subsL_length s
      rw [loopDet (fun j => (((nth (subsL s) j : Nat) : Int), ra (2 ^ xs.length) (fun i => if i = s then curTo xs s (subsL s) j else if i < s then tab xs i else 0))) (subsL s).length (ra (2 ^ xs.length) (fun i => if i < s + 1 then tab xs i else 0))]
      · rfl
      · rw [wr (x := (s : Int) - 1) ⟨by omega, by omega⟩, show (s : Int) - 1 = ((s - 1 : Nat) : Int) by omega, iand_nat (by omega) (by omega), hch.1, nth_head]
        congr 1
        apply ra_ext
        intro i hi
        by_cases h1 : i = s
        · rw [if_pos h1, if_pos h1]; rfl
        · rw [if_neg h1, if_neg h1, if_neg h1]
      · intro j hj
        dsimp only
        have hp := mem_subsL.1 (nth_mem hj)
        have hps := minus_sub hp.2.2
        rw [if_pos (by simp only [decide_eq_true_eq]; omega)]
        have hpN : nth (subsL s) j < 2 ^ xs.length := by omega
        have hne : ¬ nth (subsL s) j = s := by omega
        rw [ra_geti _ hpN, Option.bind_some, if_neg hne, if_pos hp.1]
        have enext : iand .i64 (IntKind.wrap .i64 (((nth (subsL s) j : Nat) : Int) - 1)) (s : Int) = ((nth (subsL s) (j + 1) : Nat) : Int) := by
          rw [wr (x := ((nth (subsL s) j : Nat) : Int) - 1) ⟨by omega, by omega⟩, show ((nth (subsL s) j : Nat) : Int) - 1 = ((nth (subsL s) j - 1 : Nat) : Int) by omega, iand_nat (by omega) (by omega), hget j hj]
        rw [enext]
        by_cases ht : tab xs (nth (subsL s) j) > 0
        · have hrN : minus s (nth (subsL s) j) < 2 ^ xs.length := by omega
          have hrne : ¬ minus s (nth (subsL s) j) = s := by omega
          have hrlt : minus s (nth (subsL s) j) < s := by omega
          rw [if_pos (by simpa using ht), ra_geti _ hs, Option.bind_some, Option.bind_some, iandNot_nat (by omega) (by omega), ra_geti _ hrN, Option.bind_some, if_neg hrne, if_pos hrlt, if_pos rfl, Option.bind_some, ra_set]
          have b1 := tab_bd hl (nth (subsL s) j)
          have b2 := tab_bd hl (minus s (nth (subsL s) j))
          rw [wr (x := tab xs (nth (subsL s) j) + tab xs (minus s (nth (subsL s) j))) ⟨by omega, by omega⟩]
          congr 3
          apply ra_ext
          intro i hi
          by_cases h1 : i = s
          · rw [if_pos h1, if_pos h1]
            conv => rhs; unfold curTo
            rw [if_pos ht]
          · rw [if_neg h1, if_neg h1, if_neg h1]
        · rw [if_neg (by simpa using ht)]
          congr 3
          apply ra_ext
          intro i hi
          by_cases h1 : i = s
          · rw [if_pos h1, if_pos h1]
            conv => rhs; unfold curTo
            rw [if_neg ht]
          · rw [if_neg h1, if_neg h1]
      · dsimp only
        have e0 : nth (subsL s) (subsL s).length = 0 := by unfold nth; simp
        rw [e0, if_neg (by simp)]
        congr 2
        apply ra_ext
        intro i hi
        by_cases h1 : i = s
        · subst h1; rw [if_pos rfl, if_pos (by omega), curTo_all hs hs0 hz]
        · rw [if_neg h1]
          by_cases h2 : i < s
          · rw [if_pos h2, if_pos (by omega)]
          · rw [if_neg h2, if_neg (by omega)]
    · rw [if_pos (by simpa using hz), ra_set]
      congr 3
      apply ra_ext
      intro i hi
      by_cases h1 : i = s
      · subst h1; rw [if_pos rfl, if_pos (by omega)]; unfold tab; rw [if_neg hz]
      · rw [if_neg h1]
        by_cases h2 : i < s
        · rw [if_pos h2, if_pos (by omega)]
        · rw [if_neg h2, if_neg (by omega)]
  · dsimp only
    rw [if_neg (by simp only [ra_length, decide_eq_true_eq]; omega)]
    congr 2
    apply ra_ext
    intro i hi
    rw [if_pos (by omega)]
/-! ### the reference's table -/
theorem vals_take_succ : ∀ (xs : List Int) (s k : Nat), k < xs.length → vals (xs.take (k + 1)) s = vals (xs.take k) s ++ (if s.testBit k then [at0 xs k] else [])
  | [], s, k, h => by simp at h
  | x :: xs, s, 0, h => by
    have e : at0 (x :: xs) 0 = x := rfl
    rw [Nat.testBit_zero, e]
    by_cases hb : s % 2 = 1 <;> simp [vals, hb]
  | x :: xs, s, k + 1, h => by
    have ih := vals_take_succ xs (s / 2) k (by simpa using h)
    have e : at0 (x :: xs) (k + 1) = at0 xs k := by simp [at0]
    rw [Nat.testBit_succ, e, List.take_succ_cons, List.take_succ_cons]
    simp only [vals]
    split
    · rw [ih]; simp
    · exact ih
theorem vals_rg {xs : List Int} {B : Int} (h : Rg B xs) (s : Nat) : Rg B (vals xs s) := fun x hx => h x (vals_mem xs s x hx)
theorem l5Sum_eq {xs : List Int} {s : Nat} (hl : xs.length ≤ 7) (hB : Rg 9999 xs) (hs : s < 128) : spec_l5SumS xs (s : Int) = some (sm (vals xs s)) := by
  unfold spec_l5SumS
  rw [loopDet (fun k => (sm (vals (xs.take k) s), (k : Int))) xs.length (sm (vals xs s))]
  · rfl
  · simp [vals, sm]
  · intro k hk
    dsimp only
    rw [if_pos (by simp only [decide_eq_true_eq]; omega), ishrO_nat (by omega), Option.bind_some, shr_bit, geti_at0 hk, Option.bind_some, wr_succ (n := xs.length) (by omega) hk, vals_take_succ xs s k hk]
    have hr : Rg 9999 (vals (xs.take (k + 1)) s) := vals_rg (fun x hx => hB x (List.mem_of_mem_take hx)) s
    have h1 := hr.sm (by omega)
    have h2 := vals_length_le (xs.take (k + 1)) s
    have h3 : (xs.take (k + 1)).length ≤ 7 := by rw [List.length_take]; omega
    rw [vals_take_succ xs s k hk, sm_append] at h1
    rw [vals_take_succ xs s k hk] at h2
    by_cases hb : s.testBit k
    · rw [if_pos hb] at h1 h2
      rw [if_pos hb, if_pos hb, sm_append]
      simp only [sm, Int.add_zero] at h1 ⊢
      rw [wr ⟨by omega, by omega⟩]
    · rw [if_neg hb, if_neg hb, List.append_nil]
  · dsimp only
    rw [if_neg (by simp), List.take_length]
noncomputable def bstTo (xs : List Int) (s : Nat) : Nat → Int
  | 0 => 1
  | k + 1 => if Sub (k + 1) s ∧ 1 ≤ tab xs (k + 1) ∧ 1 ≤ tab xs (minus s (k + 1)) then (if tab xs (k + 1) + tab xs (minus s (k + 1)) > bstTo xs s k then tab xs (k + 1) + tab xs (minus s (k + 1)) else bstTo xs s k) else bstTo xs s k
theorem bstTo_le {xs : List Int} {s : Nat} (hs : s < 2 ^ xs.length) (h0 : s ≠ 0) (hz : sm (vals xs s) = 0) : ∀ k, 1 ≤ bstTo xs s k ∧ bstTo xs s k ≤ tab xs s
  | 0 => ⟨by simp [bstTo], (tab_pos hs h0).2 hz⟩
  | k + 1 => by
    have ih := bstTo_le hs h0 hz k
    unfold bstTo
    split
    · rename_i h
      have := tab_add h.1 (tab_pos_sm (by omega)) hz
      split <;> omega
    · exact ih
theorem bstTo_mono {xs : List Int} {s : Nat} : ∀ {i j : Nat}, i ≤ j → bstTo xs s i ≤ bstTo xs s j
  | i, 0, h => by have : i = 0 := by omega
                  subst this; exact Int.le_refl _
  | i, j + 1, h => by
    rcases Nat.lt_or_eq_of_le h with h1 | h1
    · have ih := bstTo_mono (xs := xs) (s := s) (i := i) (j := j) (by omega)
      have : bstTo xs s j ≤ bstTo xs s (j + 1) := by
        conv => rhs; unfold bstTo
        split
        · split <;> omega
        · omega
      omega
    · subst h1; exact Int.le_refl _
theorem bstTo_all {xs : List Int} {s : Nat} (hs : s < 2 ^ xs.length) (h0 : s ≠ 0) (hz : sm (vals xs s) = 0) : bstTo xs s (s - 1) = tab xs s := by
  have h1 := bstTo_le hs h0 hz (s - 1)
  rcases Int.lt_or_le (tab xs s) 2 with h2 | h2
  · omega
  · obtain ⟨a, ha1, ha2, ha3, ha4, ha5, ha6⟩ := tab_part hs hz h2
    have hle := ha1.le
    have h3 : tab xs a + tab xs (minus s a) ≤ bstTo xs s a := by
      obtain ⟨c, rfl⟩ : ∃ c, a = c + 1 := ⟨a - 1, by omega⟩
      conv => rhs; unfold bstTo
      rw [if_pos ⟨ha1, by omega, by omega⟩]
      split <;> omega
    have h4 := bstTo_mono (xs := xs) (s := s) (i := a) (j := s - 1) (by omega)
    omega
theorem l5Groups_eq {xs : List Int} (hl : xs.length ≤ 7) (hB : Rg 9999 xs) : spec_l5GroupsS xs = some (ra (2 ^ xs.length) (tab xs)) := by
  have hN := p128 hl
  have hN0 := Nat.two_pow_pos xs.length
  unfold spec_l5GroupsS
  rw [loopDet (fun k => (ra (k + 1) (tab xs), ((k + 1 : Nat) : Int))) (2 ^ xs.length - 1) (ra (2 ^ xs.length) (tab xs))]
  · rfl
  · have : ra (0 + 1) (tab xs) = [0] := by simp [ra, tab_zero]
    rw [this]; rfl
  · intro k hk
    dsimp only
    have hs : k + 1 < 2 ^ xs.length := by omega
    generalize hsd : k + 1 = s at hs ⊢
    have hs0 : s ≠ 0 := by omega
    rw [ishlO_nat (by omega), Option.bind_some, if_pos (by simp only [decide_eq_true_eq]; omega), l5Sum_eq hl hB (by omega), Option.bind_some]
    have hinner : (if (sm (vals xs s) == 0) then ((loop (σ := Int × Int) (ρ := (Int)) (fun (x : Int × Int) => match x with | (s16, s17) => (if (decide (s17 < (s : Int))) then ((spec_l1MeetS s17 (s : Int)).bind fun x19 => ((spec_l1MeetS s17 (s : Int)).bind fun x24 => ((if (x24 == s17) then ((geti (ra s (tab xs)) s17).bind fun x26 => some (decide (x26 ≥ 1))) else some false).bind fun b26 => ((if b26 then ((geti (ra s (tab xs)) (IntKind.wrap .i64 ((s : Int) - x19))).bind fun x28 => some (decide (x28 ≥ 1))) else some false).bind fun b28 => (if b28 then ((geti (ra s (tab xs)) s17).bind fun x34 => ((geti (ra s (tab xs)) (IntKind.wrap .i64 ((s : Int) - x19))).bind fun x43 => (some (.inl ((if (IntKind.wrap .i64 (x34 + x43)) > s16 then IntKind.wrap .i64 (x34 + x43) else s16), IntKind.wrap .i64 (s17 + 1)))))) else (some (.inl (s16, IntKind.wrap .i64 (s17 + 1))))))))) else (some (.inr s16)))) (1, 1)).bind fun o => match o with | p55 => (some p55)) else (some (-1)) : Option (Int)) = some (tab xs s) := by
      by_cases hz : sm (vals xs s) = 0
      · rw [if_pos (by simp [hz])]
        rw [loopDet (fun p => (bstTo xs s p, ((p + 1 : Nat) : Int))) (s - 1) (tab xs s)]
        · rfl
        · rfl
        · intro p hp
          dsimp only
          have hps : p + 1 < s := by omega
          rw [if_pos (by simp only [decide_eq_true_eq]; omega), l1Meet_eq (by omega) (by omega), Option.bind_some, Option.bind_some, wr_succ (n := 128) (by omega) (by omega)]
          by_cases hsub : Sub (p + 1) s
          · have e1 : (p + 1) &&& s = p + 1 := hsub
            have hms := minus_sub hsub
            have e2 : IntKind.wrap .i64 ((s : Int) - ((p + 1 : Nat) : Int)) = ((minus s (p + 1) : Nat) : Int) := by rw [wr ⟨by omega, by omega⟩]; omega
            rw [e1, e2, if_pos (by simp), ra_geti _ hps, Option.bind_some, Option.bind_some]
            have hrs : minus s (p + 1) < s := by omega
            have b1 := tab_bd hl (p + 1)
            have b2 := tab_bd hl (minus s (p + 1))
            by_cases h1 : 1 ≤ tab xs (p + 1)
            · rw [if_pos (by simpa using h1), ra_geti _ hrs, Option.bind_some, Option.bind_some]
              by_cases h2 : 1 ≤ tab xs (minus s (p + 1))
              · rw [if_pos (by simpa using h2), Option.bind_some, Option.bind_some, wr (x := tab xs (p + 1) + tab xs (minus s (p + 1))) ⟨by omega, by omega⟩]
                conv => rhs; unfold bstTo
                rw [if_pos (show Sub (p + 1) s ∧ 1 ≤ tab xs (p + 1) ∧ 1 ≤ tab xs (minus s (p + 1)) from ⟨hsub, h1, h2⟩)]
              · rw [if_neg (by simpa using h2)]
                conv => rhs; unfold bstTo
                rw [if_neg (fun h => h2 h.2.2)]
            · rw [if_neg (by simpa using h1), Option.bind_some, if_neg (by simp)]
              conv => rhs; unfold bstTo
              rw [if_neg (fun h => h1 h.2.1)]
          · have e1 : ((((p + 1) &&& s : Nat) : Int) == ((p + 1 : Nat) : Int)) = false := by
              rw [beq_eq_false_iff_ne]; intro e; exact hsub (by unfold Sub; omega)
            rw [e1, if_neg (by simp), Option.bind_some, if_neg (by simp), Option.bind_some, if_neg (by simp)]
            conv => rhs; unfold bstTo
            rw [if_neg (fun h => hsub h.1)]
        · dsimp only
          rw [if_neg (by simp only [decide_eq_true_eq]; omega), bstTo_all hs hs0 hz]
      · rw [if_neg (by simpa using hz)]
        unfold tab; rw [if_neg hz]
    rw [hinner, Option.bind_some, appO_ok (by rw [ra_length]; simp; omega), Option.bind_some, wr_succ (n := 128) (by omega) (by omega), ra_succ]
  · dsimp only
    rw [ishlO_nat (by omega), Option.bind_some, if_neg (by simp only [decide_eq_true_eq]; omega)]
    congr 3
    omega
theorem vals_full : ∀ l : List Int, vals l (2 ^ l.length - 1) = l
  | [] => rfl
  | x :: l => by
    have := Nat.two_pow_pos l.length
    rw [List.length_cons, Nat.pow_succ]
    have h1 : (2 ^ l.length * 2 - 1) % 2 = 1 := by omega
    have h2 : (2 ^ l.length * 2 - 1) / 2 = 2 ^ l.length - 1 := by omega
    simp only [vals, h1, h2, if_true, vals_full l]
/-- how many groups -/
noncomputable def groups (xs : List Int) : Int := if OwedOk xs then (gmax (nzs xs) : Int) else -1
theorem OwedOk.rg {xs : List Int} (h : OwedOk xs) : Rg 9999 xs := fun x hx => h.2.1 x hx
theorem tab_people {xs : List Int} (h : OwedOk xs) : tab xs (nzm xs) = (gmax (nzs xs) : Int) := by
  unfold tab; rw [vals_nzm, sm_nzs, if_pos h.2.2]
theorem implGroups_eq (xs : List Int) : impl_GroupsMostS xs = some (groups xs) := by
  unfold impl_GroupsMostS groups
  rw [implOwedValid_eq, Option.bind_some]
  by_cases h : OwedOk xs
  · rw [decide_eq_true h, if_neg (by simp), groupTable_eq h.1 h.2.1, Option.bind_some, concerned_eq h.1, Option.bind_some, ra_geti _ (nzm_lt xs), Option.bind_some, if_pos h, tab_people h]
  · rw [decide_eq_false h, if_pos (by simp), if_neg h]
theorem nzsLoop {xs : List Int} (hl : xs.length ≤ 7) : (loop (σ := (List Int) × Int) (ρ := ((List Int))) (fun (s : (List Int) × Int) => match s with | (s11, s12) => (if (decide (s12 < (List.length xs : Int))) then ((geti xs s12).bind fun x14 => (if (x14 != 0) then ((geti xs s12).bind fun x24 => ((appO s11 ([x24])).bind fun x38 => (some (.inl (x38, IntKind.wrap .i64 (s12 + 1)))))) else (some (.inl (s11, IntKind.wrap .i64 (s12 + 1)))))) else (some (.inr s11)))) ([], 0)) = some (nzs xs) := by
  refine loopDet (fun k => (nzs (xs.take k), (k : Int))) xs.length _ rfl (fun k hk => ?_) ?_
  · dsimp only
    have hle := nzc_le (xs.take k)
    rw [List.length_take] at hle
    unfold nzc at hle
    rw [if_pos (by simp only [decide_eq_true_eq]; omega), geti_at0 hk, Option.bind_some, wr_succ (n := xs.length) (by omega) hk, at0_take hk, nzs_append, nzs_cons]
    by_cases h : at0 xs k = 0
    · rw [if_pos h, if_neg (by simp [h])]; simp [nzs]
    · rw [if_neg h, if_pos (by simpa using h), Option.bind_some, appO_ok (by simp; omega), Option.bind_some]; rfl
  · dsimp only
    rw [if_neg (by simp), List.take_length]
theorem nzs_rg {xs : List Int} {B : Int} (h : Rg B xs) : Rg B (nzs xs) := fun x hx => h x (List.mem_filter.1 hx).1
theorem specGroups_eq (xs : List Int) (hl : xs.length ≤ 4611686018427387904) : spec_GroupsMostS xs = some (groups xs) := by
  unfold spec_GroupsMostS groups
  rw [specOwedValid_eq _ hl, Option.bind_some]
  by_cases h : OwedOk xs
  · rw [decide_eq_true h, if_neg (by simp), nzsLoop h.1, Option.bind_some]
    dsimp only
    have hle := nzc_le xs
    have hl7 : (nzs xs).length ≤ 7 := by have := h.1; unfold nzc at hle; omega
    have hN := p128 hl7
    have hN0 := Nat.two_pow_pos (nzs xs).length
    rw [l5Groups_eq hl7 (nzs_rg h.rg), Option.bind_some, ra_length, wr ⟨by omega, by omega⟩, show ((2 ^ (nzs xs).length : Nat) : Int) - 1 = ((2 ^ (nzs xs).length - 1 : Nat) : Int) by omega, ra_geti _ (by omega), Option.bind_some, if_pos h]
    unfold tab
    rw [vals_full, sm_nzs, if_pos h.2.2]
  · rw [decide_eq_false h, if_pos (by simp), if_neg h]
theorem peopleLoop {xs : List Int} (hl : xs.length ≤ 1000) : (loop (σ := Int × Int) (ρ := (Int)) (fun (s : Int × Int) => match s with | (s25, s26) => (if (decide (s26 < (List.length xs : Int))) then ((geti xs s26).bind fun x28 => (if (x28 != 0) then (some (.inl (IntKind.wrap .i64 (s25 + 1), IntKind.wrap .i64 (s26 + 1)))) else (some (.inl (s25, IntKind.wrap .i64 (s26 + 1)))))) else (some (.inr s25)))) (0, 0)) = some ((nzc xs : Nat) : Int) := by
  refine loopDet (fun k => (((nzc (xs.take k) : Nat) : Int), (k : Int))) xs.length _ rfl (fun k hk => ?_) ?_
  · dsimp only
    have hle := nzc_le (xs.take k)
    rw [List.length_take] at hle
    rw [if_pos (by simp only [decide_eq_true_eq]; omega), geti_at0 hk, Option.bind_some, wr_succ (n := xs.length) (by omega) hk, at0_take hk, nzc_append, nzc_one]
    by_cases h : at0 xs k = 0
    · rw [if_neg (by simp [h]), if_pos h]; simp
    · rw [if_pos (by simpa using h), if_neg h, wr ⟨by omega, by omega⟩]; rfl
  · dsimp only
    rw [if_neg (by simp), List.take_length]
theorem pl_FnGroupsMost (x : List Int) (hw : ∀ n ∈ x, InK .u8 n) : laws_FnGroupsMostS x = some true := by
  unfold laws_FnGroupsMostS
  by_cases hl : (x.length : Int) > 1048576
  · rw [if_pos (by simp; omega)]
  rw [if_neg (by simp; omega)]
  obtain ⟨xs, hd, hr⟩ := drawOwed (f := spec_DrawGroupsMostS) (fun x => rfl) x (u8_of hw)
  have hl8 := hr.1
  rw [hd, Option.bind_some, implGroups_eq, Option.bind_some, specGroups_eq _ (by omega), Option.bind_some, if_neg (by simp)]
  by_cases h : OwedOk xs
  · have e : groups xs = (gmax (nzs xs) : Int) := by unfold groups; rw [if_pos h]
    rw [e, if_neg (by simp), peopleLoop (by omega), Option.bind_some]
    dsimp only
    rw [appO_ok (by simp; omega), Option.bind_some, List.nil_append, appO_ok (by simp; omega), Option.bind_some, implGroups_eq, Option.bind_some]
    have hz : sm (nzs xs) = 0 := by rw [sm_nzs]; exact h.2.2
    have hg := gmax_spec hz
    have h2 := hg.le2 (fun x hx => by simpa [nzs] using (List.mem_filter.1 hx).2)
    have hnn : nzc xs = (nzs xs).length := rfl
    have hle := nzc_le xs
    have hb : gmax (nzs xs) ≤ 8 := by have := hg.le; omega
    rw [wr (x := 2 * (gmax (nzs xs) : Int)) ⟨by omega, by omega⟩, wr (x := (gmax (nzs xs) : Int) + 1) ⟨by omega, by omega⟩]
    have hpos : decide ((gmax (nzs xs) : Int) > 0) = decide (((nzc xs : Nat) : Int) > 0) := by
      rw [Bool.eq_iff_iff, decide_eq_true_eq, decide_eq_true_eq]
      constructor
      · intro h3; have := hg.le; omega
      · intro h3
        have := gmax_pos (L := nzs xs) (fun e => by rw [hnn, e] at h3; simp at h3) hz
        omega
    rw [hpos]
    have hpair : decide (groups (xs ++ [5, -5]) < 0) || decide (groups (xs ++ [5, -5]) ≥ (gmax (nzs xs) : Int) + 1) := by
      unfold groups
      by_cases h5 : OwedOk (xs ++ [5, -5])
      · rw [if_pos h5, nzs_append]
        have : Gr (nzs xs ++ nzs [5, -5]) (gmax (nzs xs) + 1) := Gr.append (M := nzs [5, -5]) (j := 1) (Gr.one (by decide) (by decide)) hg
        have := gmax_le this
        simp; omega
      · rw [if_neg h5]; simp
    rw [hpair]
    have h4 : decide (2 * (gmax (nzs xs) : Int) ≤ ((nzc xs : Nat) : Int)) = true := by rw [decide_eq_true_eq]; omega
    rw [h4]; simp
  · have e : groups xs = -1 := by unfold groups; rw [if_neg h]
    rw [e]; rfl
end Go.Proofs.YtohhaladggoglaaDoor
