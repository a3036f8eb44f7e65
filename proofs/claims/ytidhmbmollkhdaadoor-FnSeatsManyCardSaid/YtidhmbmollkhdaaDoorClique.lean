/- Chapter 6: cliques. Own work; no program in sight. -/
import Derived.Test.YtidhmbmollkhdaaDoorDet
set_option linter.unusedVariables false
namespace Go.Proofs.YtidhmbmollkhdaaDoor
open Go Go.RowKit
def cliqueAt (qs : List Nat) (x : Nat) : Bool := (List.range qs.length).all fun k => !x.testBit k || (nth qs k &&& x == x - 2 ^ k)
def cliqueAtI (qs : List Nat) (x : Nat) : Bool := (members x).all fun k => minus x (nth qs k ||| 2 ^ k) == 0
theorem pow_le_of_bit {x k : Nat} (h : x.testBit k = true) : 2 ^ k ≤ x := by
  rcases Nat.lt_or_ge x (2 ^ k) with h1 | h1
  · rw [Nat.testBit_lt_two_pow h1] at h; cases h
  · exact h1
theorem minus_pow_eq {x k : Nat} (h : x.testBit k = true) : x - 2 ^ k = minus x (2 ^ k) := by
  have h1 : minus x (2 ^ k) ||| 2 ^ k = x := by
    apply Nat.eq_of_testBit_eq
    intro i
    rw [Nat.testBit_or, testBit_minus, Nat.testBit_two_pow]
    by_cases hi : k = i
    · subst hi; simp [h]
    · simp [hi]
  have h2 : minus x (2 ^ k) &&& 2 ^ k = 0 := by
    apply Nat.eq_of_testBit_eq
    intro i
    rw [Nat.testBit_and, testBit_minus, Nat.testBit_two_pow, Nat.zero_testBit]
    by_cases hi : k = i <;> simp [hi]
  have h3 := or_and_add (x + k + 64) (minus x (2 ^ k)) (2 ^ k) (Nat.lt_of_le_of_lt (minus_le _ _) (Nat.lt_of_lt_of_le (Nat.lt_two_pow_self) (Nat.pow_le_pow_right (by omega) (by omega)))) (Nat.pow_lt_pow_right (by omega) (by omega))
  rw [h1, h2] at h3
  omega
theorem eq_zero_iff_bits (x : Nat) : x = 0 ↔ ∀ i, x.testBit i = false := by
  constructor
  · rintro rfl i; exact Nat.zero_testBit i
  · intro h; apply Nat.eq_of_testBit_eq; intro i; rw [h i, Nat.zero_testBit]
theorem cliqueAt_eq {qs : List Nat} (hn : qs.length ≤ 6) (hq : quarOk qs = true) {x : Nat} (hx : x < 2 ^ qs.length) : cliqueAtI qs x = cliqueAt qs x := by
  have hx6 := p6 hn hx
  have core : ∀ k, x.testBit k = true → k < qs.length → (minus x (nth qs k ||| 2 ^ k) == 0) = (nth qs k &&& x == x - 2 ^ k) := by
    intro k hk hkn
    rw [minus_pow_eq hk, Bool.eq_iff_iff, beq_iff_eq, beq_iff_eq, eq_zero_iff_bits]
    have hs := quar_self hq hkn
    constructor
    · intro h
      apply Nat.eq_of_testBit_eq
      intro i
      have := h i
      rw [testBit_minus, Nat.testBit_or, Nat.testBit_two_pow] at this
      rw [Nat.testBit_and, testBit_minus, Nat.testBit_two_pow]
      by_cases hi : k = i
      · subst hi; simp [hs]
      · simp only [hi, decide_false, Bool.or_false, Bool.not_false, Bool.and_true] at this ⊢
        cases h1 : x.testBit i <;> cases h2 : (nth qs k).testBit i <;> simp_all
    · intro h i
      have := congrArg (fun y => y.testBit i) h
      simp only [Nat.testBit_and, testBit_minus, Nat.testBit_two_pow] at this
      rw [testBit_minus, Nat.testBit_or, Nat.testBit_two_pow]
      by_cases hi : k = i
      · subst hi; simp
      · simp only [hi, decide_false, Bool.or_false, Bool.not_false, Bool.and_true] at this ⊢
        cases h1 : x.testBit i <;> cases h2 : (nth qs k).testBit i <;> simp_all
  unfold cliqueAt cliqueAtI
  rw [Bool.eq_iff_iff, List.all_eq_true, List.all_eq_true]
  constructor
  · intro h k hk
    cases hb : x.testBit k
    · rfl
    · rw [← core k hb (List.mem_range.1 hk)]
      exact h k ((mem_members (by omega)).2 hb)
  · intro h k hk
    have hb := (mem_members (by omega)).1 hk
    have hkn := bit_lt hx hb
    have := h k (List.mem_range.2 hkn)
    rw [hb] at this
    rw [core k hb hkn]; simpa using this
theorem membersTo_pc (x : Nat) : ∀ k, (membersTo x k).length = pcF k (x % 2 ^ k) := by
  intro k
  induction k with
  | zero => rfl
  | succ k ih =>
    have h1 : pcF (k + 1) (x % 2 ^ (k + 1)) = pcF k (x % 2 ^ (k + 1) % 2 ^ k) + pcF 1 (x % 2 ^ (k + 1) / 2 ^ k) := pcF_add k 1 _
    have h2 : x % 2 ^ (k + 1) % 2 ^ k = x % 2 ^ k := Nat.mod_mod_of_dvd x ⟨2, by rw [Nat.pow_succ]⟩
    have h3 : x % 2 ^ (k + 1) / 2 ^ k = (if x.testBit k then 1 else 0) := by
      rw [mod_pow_succ]
      have hp : 0 < 2 ^ k := Nat.two_pow_pos k
      have hm : x % 2 ^ k < 2 ^ k := Nat.mod_lt _ hp
      cases x.testBit k
      · simp [Nat.div_eq_of_lt hm]
      · simp only [if_true]; rw [Nat.add_div_right _ hp, Nat.div_eq_of_lt hm]
    rw [membersTo_succ, List.length_append, ih, h1, h2, h3]
    cases x.testBit k <;> rfl
theorem members_length {x : Nat} (hx : x < 18446744073709551616) : (members x).length = pc x := by
  unfold members pc
  rw [membersTo_pc, Nat.mod_eq_of_lt (by simpa using hx)]
def cliqueMost (qs : List Nat) : Nat := maxTo (cliqueAt qs) pc (2 ^ qs.length)
theorem implCliqueMost_eq (g : Int) (q : List Int) (h : q.length ≤ 4611686018427387904) : impl_CliqueMostS g q = some (if quarValid g q then ((cliqueMost (q.map Int.toNat) : Nat) : Int) else -1) := by
  unfold impl_CliqueMostS
  rw [implQuarrelsValid_eq g q h, Option.bind_some]
  cases hv : quarValid g q
  · rfl
  · obtain ⟨qs, rfl, rfl, hn, hx, hq⟩ := quarValid_nat hv
    rw [map_toNat, if_neg (by simp), if_pos rfl]
    have hp : 2 ^ qs.length ≤ 64 := Nat.pow_le_pow_right (n := 2) (by omega) hn
    have hsh : ishlO .i64 1 (qs.length : Int) = some ((2 ^ qs.length : Nat) : Int) := ishlO_nat (by omega)
    simp only [hsh, Option.bind_some]
    rw [loopDet (fun k => (((maxTo (cliqueAtI qs) pc k : Nat) : Int), (k : Int))) (2 ^ qs.length) ((maxTo (cliqueAtI qs) pc (2 ^ qs.length) : Nat) : Int)]
    · rw [Option.bind_some]
      unfold cliqueMost
      rw [maxTo_congr fun i hi => ⟨cliqueAt_eq hn hq hi, rfl⟩]
    · rfl
    · intro k hk
      have hk6 := p6 hn hk
      simp only
      rw [if_pos (by simp only [decide_eq_true_eq]; omega), membersOf_eq _ (by omega), Option.bind_some]
      rw [loopDet (fun i => (((members k).take i).all fun j => minus k (nth qs j ||| 2 ^ j) == 0, (i : Int))) (members k).length (cliqueAtI qs k)]
      · rw [Option.bind_some, wr_succ (n := 64) (by omega) hk6, List.length_map, members_length (by omega), max_cast]
        simp only [maxTo]
        cases cliqueAtI qs k <;> rfl
      · rfl
      · intro i hi
        have hb := (mem_members (by omega)).1 (nth_mem hi)
        have hj := bit_lt hk hb
        have hml : (members k).length ≤ 64 := membersTo_length _ 64
        have hj61 : nth (members k) i ≤ 61 := by omega
        have hpj := pow61 hj61
        have hq6 := p6 hn (hx _ (nth_mem hj))
        have hor : nth qs (nth (members k) i) ||| 2 ^ nth (members k) i < 64 := Nat.or_lt_two_pow (n := 6) (by omega) (by have := Nat.pow_lt_pow_right (a := 2) (by omega) (show nth (members k) i < 6 by omega); omega)
        simp only [List.length_map]
        rw [if_pos (by simp only [decide_eq_true_eq]; omega), geti_nth hi, Option.bind_some, geti_nth hj, Option.bind_some, ishlO_nat hj61, Option.bind_some, ior_nat (by omega) (by omega), iandNot_nat (by omega) (by omega), wr_succ (n := (members k).length) (by omega) hi, all_take_succ _ _ hi]
        by_cases hz : minus k (nth qs (nth (members k) i) ||| 2 ^ nth (members k) i) = 0
        · rw [hz]; simp
        · rw [if_pos (by simpa using hz)]; simp [hz]
      · simp only [List.length_map]
        rw [if_neg (by simp), List.take_length]; rfl
    · simp only
      rw [if_neg (by simp)]
theorem specCliqueMost_eq (g : Int) (q : List Int) (h : q.length ≤ 4611686018427387904) : spec_CliqueMostS g q = some (if quarValid g q then ((cliqueMost (q.map Int.toNat) : Nat) : Int) else -1) := by
  unfold spec_CliqueMostS
  rw [specQuarrelsValid_eq g q h, Option.bind_some]
  cases hv : quarValid g q
  · rfl
  · obtain ⟨qs, rfl, rfl, hn, hx, hq⟩ := quarValid_nat hv
    rw [map_toNat, if_neg (by simp), if_pos rfl]
    have hp : 2 ^ qs.length ≤ 64 := Nat.pow_le_pow_right (n := 2) (by omega) hn
    have hsh : ishlO .i64 1 (qs.length : Int) = some ((2 ^ qs.length : Nat) : Int) := ishlO_nat (by omega)
    simp only [hsh, Option.bind_some]
    rw [loopDet (fun k => (((maxTo (cliqueAt qs) pc k : Nat) : Int), (k : Int))) (2 ^ qs.length) ((maxTo (cliqueAt qs) pc (2 ^ qs.length) : Nat) : Int)]
    · rfl
    · rfl
    · intro k hk
      have hk6 := p6 hn hk
      simp only
      rw [if_pos (by simp only [decide_eq_true_eq]; omega)]
      rw [loopDet (fun i => ((List.range i).all fun j => !k.testBit j || (nth qs j &&& k == k - 2 ^ j), (i : Int))) qs.length (cliqueAt qs k)]
      · rw [Option.bind_some, wr_succ (n := 64) (by omega) hk6, count_eq k (by omega), Option.bind_some, max_cast]
        simp only [maxTo]
        cases cliqueAt qs k <;> rfl
      · rfl
      · intro i hi
        have hqi := p6 hn (hx _ (nth_mem hi))
        have hp6 : 2 ^ i < 64 := Nat.pow_lt_pow_right (a := 2) (by omega) (show i < 6 by omega)
        simp only
        rw [if_pos (by simp only [decide_eq_true_eq]; omega), ishrO_nat (by omega), Option.bind_some, shr_bit0, geti_nth hi, Option.bind_some, l1Meet_eq (by omega) (by omega), Option.bind_some, ishlO_nat (by omega), Option.bind_some, wr_succ (n := qs.length) (by omega) hi, all_range_succ]
        cases ha : (List.range i).all fun j => !k.testBit j || (nth qs j &&& k == k - 2 ^ j)
        · rfl
        · cases hb : k.testBit i
          · rfl
          · have hle := pow_le_of_bit hb
            generalize 2 ^ i = z at hle hp6 ⊢
            rw [wr (x := (k : Int) - (z : Int)) ⟨by omega, by omega⟩]
            have : (((nth qs i &&& k : Nat) : Int) == (k : Int) - (z : Int)) = (nth qs i &&& k == k - z) := by
              rw [Bool.eq_iff_iff, beq_iff_eq, beq_iff_eq]; omega
            simp [this]
      · simp only
        rw [if_neg (by simp)]; rfl
    · simp only
      rw [if_neg (by simp)]
end Go.Proofs.YtidhmbmollkhdaaDoor
