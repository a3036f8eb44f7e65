/- Cliques against seats; quarrels taken away. Own work; no program in sight. -/
import Derived.Test.YtidhmbmollkhdaaDoorDraw4
set_option linter.unusedVariables false
namespace Go.Proofs.YtidhmbmollkhdaaDoor
open Go Go.RowKit
theorem sub_minus {m p : Nat} (h : p &&& m = p) : m - p = minus m p := by
  have hb : ∀ i, p.testBit i = true → m.testBit i = true := fun i hi => by
    have := congrArg (fun x => x.testBit i) h
    simp only [Nat.testBit_and, hi, Bool.true_and] at this
    exact this
  have h1 : minus m p ||| p = m := by
    apply Nat.eq_of_testBit_eq
    intro i
    rw [Nat.testBit_or, testBit_minus]
    cases hp : p.testBit i with
    | true => simp [hb i hp]
    | false => simp
  have h2 : minus m p &&& p = 0 := by
    apply Nat.eq_of_testBit_eq
    intro i
    rw [Nat.testBit_and, testBit_minus, Nat.zero_testBit]
    cases p.testBit i <;> simp
  have hp : p ≤ m := by rw [← h]; exact Nat.and_le_right
  have h3 := or_and_add (m + 1) (minus m p) p (Nat.lt_of_le_of_lt (minus_le _ _) (Nat.lt_of_lt_of_le (Nat.lt_two_pow_self) (Nat.pow_le_pow_right (by omega) (by omega)))) (Nat.lt_of_le_of_lt hp (Nat.lt_of_lt_of_le (Nat.lt_two_pow_self) (Nat.pow_le_pow_right (by omega) (by omega))))
  rw [h1, h2] at h3
  omega
theorem pc_zero : pc 0 = 0 := pcF_zero 64
theorem pc_le_n {x n : Nat} (hx : x < 2 ^ n) (hn : n ≤ 64) : pc x ≤ n := by
  have e : pcF (n + (64 - n)) x = pcF n (x % 2 ^ n) + pcF (64 - n) (x / 2 ^ n) := pcF_add n (64 - n) x
  rw [Nat.div_eq_of_lt hx, pcF_zero, Nat.mod_eq_of_lt hx] at e
  have h64 : n + (64 - n) = 64 := by omega
  rw [h64] at e
  have := pcF_le n x
  unfold pc
  omega
theorem tab_cases (qs : List Nat) {m : Nat} (hm : 0 < m) : tab qs m = qs.length ∨ ∃ p, 0 < p ∧ p ≤ m ∧ p &&& m = p ∧ freeAt qs p = true ∧ tab qs m = tab qs (m - p) + 1 := by
  obtain ⟨k, rfl⟩ : ∃ k, m = k + 1 := ⟨m - 1, by omega⟩
  have h := tab_succ qs k
  rcases minTo_at (b := qs.length) (p := partOk qs (k + 1)) (f := fun part => tab qs (k + 1 - part) + 1) (k + 1) with h1 | ⟨i, h0, hi, hp, h1⟩
  · left; rw [h, h1]
  · right
    unfold partOk at hp
    rw [Bool.and_eq_true, beq_iff_eq] at hp
    exact ⟨i, h0, hi, hp.1, hp.2, by rw [h, h1]⟩
theorem tab_step (qs : List Nat) {m p : Nat} (h0 : 0 < p) (hp : p &&& m = p) (hf : freeAt qs p = true) : tab qs m ≤ tab qs (m - p) + 1 := by
  have hle : p ≤ m := by rw [← hp]; exact Nat.and_le_right
  obtain ⟨k, rfl⟩ : ∃ k, m = k + 1 := ⟨m - 1, by omega⟩
  rw [tab_succ]
  exact minTo_le (f := fun part => tab qs (k + 1 - part) + 1) h0 hle (by unfold partOk; rw [Bool.and_eq_true, beq_iff_eq]; exact ⟨hp, hf⟩)
theorem free_iff {qs : List Nat} {x : Nat} : freeAt qs x = true ↔ ∀ k t, k < qs.length → x.testBit k = true → x.testBit t = true → (nth qs k).testBit t = false := by
  unfold freeAt
  rw [List.all_eq_true]
  constructor
  · intro h k t hk hx ht
    have h1 := h k (List.mem_range.2 hk)
    rw [hx, Bool.true_and, Bool.not_not, beq_iff_eq, eq_zero_iff_bits] at h1
    have := h1 t
    rw [Nat.testBit_and, ht, Bool.and_true] at this
    exact this
  · intro h k hk
    rw [List.mem_range] at hk
    cases hx : x.testBit k with
    | false => rfl
    | true =>
      rw [Bool.true_and, Bool.not_not, beq_iff_eq, eq_zero_iff_bits]
      intro t
      rw [Nat.testBit_and]
      cases ht : x.testBit t with
      | false => simp
      | true => rw [h k t hk hx ht]; rfl
theorem clique_iff {qs : List Nat} {x : Nat} (h : cliqueAt qs x = true) {a b : Nat} (ha : a < qs.length) (h1 : x.testBit a = true) (h2 : x.testBit b = true) (hab : a ≠ b) : (nth qs a).testBit b = true := by
  unfold cliqueAt at h
  rw [List.all_eq_true] at h
  have := h a (List.mem_range.2 ha)
  rw [h1, Bool.not_true, Bool.false_or, beq_iff_eq, minus_pow_eq h1] at this
  have := congrArg (fun y => y.testBit b) this
  simp only [Nat.testBit_and, testBit_minus, h2, Bool.and_true, Bool.true_and, Nat.testBit_two_pow] at this
  rw [this]
  simp [hab]
theorem clique_tab {qs : List Nat} (hn : qs.length ≤ 6) {x : Nat} (hx : x < 2 ^ qs.length) (hc : cliqueAt qs x = true) : ∀ m, m < 2 ^ qs.length → pc (x &&& m) ≤ tab qs m := by
  intro m
  induction m using Nat.strongRecOn with
  | ind m ih =>
    intro hm
    rcases Nat.eq_zero_or_pos m with h0 | h0
    · subst h0; rw [Nat.and_zero, pc_zero]; exact Nat.zero_le _
    · have hxm : x &&& m < 2 ^ qs.length := Nat.lt_of_le_of_lt Nat.and_le_left hx
      have hx6 := p6 hn hxm
      rcases tab_cases qs h0 with h | ⟨p, hp0, hpm, hp, hf, ht⟩
      · rw [h]; exact pc_le_n hxm (by omega)
      · have hs := pc_split (x := x &&& m) (by omega) p
        have h1 : pc (x &&& m &&& p) ≤ 1 := by
          rw [pc_le_one (n := qs.length) (Nat.lt_of_le_of_lt Nat.and_le_left hxm) (by omega)]
          intro a b ha hb
          simp only [Nat.testBit_and, Bool.and_eq_true] at ha hb
          rcases Nat.decEq a b with hne | he
          · exfalso
            have hal := bit_lt hx ha.1.1
            have := clique_iff hc hal ha.1.1 hb.1.1 hne
            rw [free_iff.1 hf a b hal ha.2 hb.2] at this
            cases this
          · exact he
        have h2 : minus (x &&& m) p = x &&& (m - p) := by
          rw [sub_minus hp]
          apply Nat.eq_of_testBit_eq
          intro t
          simp only [testBit_minus, Nat.testBit_and, Bool.and_assoc]
        have h3 := ih (m - p) (by omega) (by omega)
        rw [hs, h2, ht]
        omega
theorem cliqueMost_le {qs : List Nat} (hn : qs.length ≤ 6) : cliqueMost qs ≤ seatsLeast qs := by
  unfold cliqueMost seatsLeast
  refine maxTo_le fun x hx hc => ?_
  have hp : 0 < 2 ^ qs.length := Nat.two_pow_pos _
  have h := clique_tab hn hx hc (2 ^ qs.length - 1) (by omega)
  have he : x &&& (2 ^ qs.length - 1) = x := by
    apply Nat.eq_of_testBit_eq
    intro t
    rw [Nat.testBit_and, testBit_all]
    cases ht : x.testBit t with
    | false => rfl
    | true => simp [bit_lt hx ht]
  rw [he] at h
  exact h
theorem quar_symm {qs : List Nat} (h : quarOk qs = true) {i j : Nat} (hi : i < qs.length) (hj : j < qs.length) : (nth qs i).testBit j = (nth qs j).testBit i := by
  rcases Nat.lt_trichotomy i j with hl | he | hg
  · exact (quar_sym h hj hl).symm
  · subst he; rfl
  · exact quar_sym h hi hg
theorem clique_pair {qs : List Nat} (hq : quarOk qs = true) {i j : Nat} (hi : i < qs.length) (hj : j < qs.length) (hb : (nth qs i).testBit j = true) : cliqueAt qs (2 ^ i ||| 2 ^ j) = true := by
  have hij : i ≠ j := by rintro rfl; rw [quar_self hq hi] at hb; cases hb
  have hbj : (nth qs j).testBit i = true := by rw [← quar_symm hq hi hj]; exact hb
  unfold cliqueAt
  rw [List.all_eq_true]
  intro k hk
  rw [List.mem_range] at hk
  cases hx : (2 ^ i ||| 2 ^ j).testBit k with
  | false => rfl
  | true =>
    rw [Bool.not_true, Bool.false_or, beq_iff_eq, minus_pow_eq hx]
    rw [Nat.testBit_or, Nat.testBit_two_pow, Nat.testBit_two_pow, Bool.or_eq_true, decide_eq_true_iff, decide_eq_true_iff] at hx
    apply Nat.eq_of_testBit_eq
    intro t
    rw [Nat.testBit_and, testBit_minus, Nat.testBit_or, Nat.testBit_two_pow, Nat.testBit_two_pow, Nat.testBit_two_pow]
    rcases hx with rfl | rfl
    · by_cases h1 : i = t
      · subst h1; simp [quar_self hq hi]
      · by_cases h2 : j = t
        · subst h2; simp [hb, hij]
        · simp [h1, h2]
    · by_cases h1 : j = t
      · subst h1; simp [quar_self hq hj]
      · by_cases h2 : i = t
        · subst h2; simp [hbj, h1]
        · simp [h1, h2]
theorem cliqueMost_two {qs : List Nat} (hn : qs.length ≤ 6) (hx : ∀ y ∈ qs, y < 2 ^ qs.length) (hq : quarOk qs = true) : 2 ≤ cliqueMost qs ↔ ∃ i, i < qs.length ∧ 0 < nth qs i := by
  constructor
  · intro h
    obtain ⟨x, hx2, hc, he⟩ := maxTo_at (p := cliqueAt qs) (f := pc) (n := 2 ^ qs.length) (by unfold cliqueMost at h; omega)
    have h2 : ¬ pc x ≤ 1 := by unfold cliqueMost at h; omega
    rw [pc_le_one hx2 (by omega)] at h2
    have : ∃ a b, x.testBit a = true ∧ x.testBit b = true ∧ a ≠ b := by
      apply Classical.byContradiction
      intro hno
      apply h2
      intro a b ha hb
      apply Classical.byContradiction
      intro hab
      exact hno ⟨a, b, ha, hb, hab⟩
    obtain ⟨a, b, ha, hb, hab⟩ := this
    have hal := bit_lt hx2 ha
    refine ⟨a, hal, ?_⟩
    have := clique_iff hc hal ha hb hab
    rcases Nat.eq_zero_or_pos (nth qs a) with h0 | h0
    · rw [h0, Nat.zero_testBit] at this; cases this
    · exact h0
  · rintro ⟨i, hi, hpos⟩
    have : ∃ j, (nth qs i).testBit j = true := by
      apply Classical.byContradiction
      intro hno
      have : nth qs i = 0 := (eq_zero_iff_bits _).2 fun j => by
        cases hj : (nth qs i).testBit j with
        | false => rfl
        | true => exact absurd ⟨j, hj⟩ hno
      omega
    obtain ⟨j, hj⟩ := this
    have hjl : j < qs.length := bit_lt (hx _ (nth_mem hi)) hj
    have hij : i ≠ j := by rintro rfl; rw [quar_self hq hi] at hj; cases hj
    have hb : 2 ^ i ||| 2 ^ j < 2 ^ qs.length := or_max_lt (Nat.pow_lt_pow_right (by omega) hi) (Nat.pow_lt_pow_right (by omega) hjl)
    have h1 := le_maxTo (f := pc) hb (clique_pair hq hi hjl hj)
    have h2 : ¬ pc (2 ^ i ||| 2 ^ j) ≤ 1 := by
      rw [pc_le_one hb (by omega)]
      intro h
      exact hij (h i j (by simp [Nat.testBit_or, Nat.testBit_two_pow]) (by simp [Nat.testBit_or, Nat.testBit_two_pow]))
    unfold cliqueMost
    omega
theorem tb1 (k : Nat) : Nat.testBit 1 k = decide (0 = k) := by
  show (2 ^ 0).testBit k = _
  exact Nat.testBit_two_pow
theorem cliqueMost_pos {qs : List Nat} (hq : quarOk qs = true) : 0 < cliqueMost qs ↔ 0 < qs.length := by
  constructor
  · intro h
    rcases Nat.eq_zero_or_pos qs.length with h0 | h0
    · have : qs = [] := List.length_eq_zero_iff.1 h0
      subst this
      exact absurd h (by decide +kernel)
    · exact h0
  · intro h
    have hb : 1 < 2 ^ qs.length := Nat.one_lt_two_pow (by omega)
    have hc : cliqueAt qs 1 = true := by
      unfold cliqueAt
      rw [List.all_eq_true]
      intro k hk
      rw [tb1]
      by_cases h0 : k = 0
      · subst h0
        have := quar_self hq h
        rw [Nat.testBit_zero] at this
        have := of_decide_eq_false this
        have : nth qs 0 % 2 = 0 := by omega
        simp [Nat.and_one_is_mod, this]
      · have : ¬ 0 = k := by omega
        simp [this]
    have h1 := le_maxTo (f := pc) hb hc
    have h2 : pc 1 = 1 := by decide +kernel
    unfold cliqueMost
    omega
theorem pl_FnCliqueMost (x : List Int) (hw : ∀ n ∈ x, InK .u8 n) : laws_FnCliqueMostS x = some true := by
  unfold laws_FnCliqueMostS
  by_cases hl : (x.length : Int) > 1048576
  · rw [if_pos (by simp; omega)]
  rw [if_neg (by simp; omega)]
  obtain ⟨⟨g, q⟩, hd, ⟨hg0, hg1⟩, hm⟩ := drawQuar spec_DrawCliqueMostS 9 (fun _ => rfl) x (u8_of hw)
  dsimp only at hg0 hg1 hm
  rw [hd, Option.bind_some, implCliqueMost_eq g q (by omega), Option.bind_some, specCliqueMost_eq g q (by omega), Option.bind_some]
  cases hk : quarValid g q with
  | false => simp [alive_eq]
  | true =>
    obtain ⟨qs, hq, hg, hl6, hx, hk2⟩ := quarValid_nat hk
    have hmt : q.map Int.toNat = qs := by rw [hq]; exact map_toNat qs
    rw [if_pos rfl, hmt, if_neg (by simp), if_neg (by simp)]
    apply Ret.eq
    refine Ret.loopb (fun s => ∃ i : Nat, s.2 = (i : Int) ∧ i ≤ qs.length ∧ (s.1 = true ↔ ∃ j, j < i ∧ 0 < nth qs j)) (fun s => qs.length - s.2.toNat) (fun r => r = true ↔ ∃ j, j < qs.length ∧ 0 < nth qs j) ⟨0, rfl, by omega, by simp⟩ ?_ (fun r hr => ?_)
    · rintro ⟨bl, s⟩ ⟨i, rfl, hi, hbl⟩
      dsimp only at hbl ⊢
      refine Ret.ite (fun h => ?_) (fun h => ?_)
      · have hil : i < qs.length := by have := of_decide_eq_true h; omega
        have e1 : IntKind.wrap .i64 ((i : Int) + 1) = ((i + 1 : Nat) : Int) := wr_succ (n := 40) (by omega) (by omega)
        rw [e1]
        refine Ret.bind (Q := fun z => z = true ↔ ∃ j, j < i + 1 ∧ 0 < nth qs j) ?_ (fun z hz => Ret.pure ⟨⟨i + 1, rfl, by omega, hz⟩, by simp; omega⟩)
        refine Ret.ite (fun hb => ?_) (fun hb => ?_)
        · obtain ⟨j, hj, hj2⟩ := hbl.1 hb
          exact Ret.pure ⟨fun _ => ⟨j, by omega, hj2⟩, fun _ => rfl⟩
        · have hgq : geti q (i : Int) = some ((nth qs i : Nat) : Int) := by rw [hq]; exact geti_nth hil
          rw [hgq, Option.bind_some]
          refine Ret.pure ⟨fun h => ⟨i, by omega, by have := of_decide_eq_true h; omega⟩, ?_⟩
          rintro ⟨j, hj, hj2⟩
          have : ¬ j < i := fun hji => by rw [hbl.2 ⟨j, hji, hj2⟩] at hb; cases hb
          have : j = i := by omega
          subst this
          exact decide_eq_true (by omega)
      · have hil : i = qs.length := by have := of_decide_eq_false h; omega
        subst hil
        exact Ret.pure hbl
    · rw [implSeatsLeast_eq g q (by omega), hk, if_pos rfl, hmt, Option.bind_some]
      refine Ret.pure ?_
      have h1 := cliqueMost_le hl6
      have h2 := cliqueMost_two hl6 hx hk2
      have h3 := cliqueMost_pos hk2
      have e1 : decide (((cliqueMost qs : Nat) : Int) ≥ 2) = r := by
        rw [Bool.eq_iff_iff, decide_eq_true_iff, hr, ← h2]; omega
      rw [e1, hg]
      simp only [Bool.and_eq_true, decide_eq_true_iff, beq_self_eq_true, beq_iff_eq, and_true]
      refine ⟨by omega, ?_⟩
      rw [decide_eq_decide]
      omega
end Go.Proofs.YtidhmbmollkhdaaDoor
