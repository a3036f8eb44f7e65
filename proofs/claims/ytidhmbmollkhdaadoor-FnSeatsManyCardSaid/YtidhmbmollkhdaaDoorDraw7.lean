/- The least sets of dishes; guests who share no dish. Own work; no program in sight. -/
import Derived.Test.YtidhmbmollkhdaaDoorDraw6
set_option linter.unusedVariables false
namespace Go.Proofs.YtidhmbmollkhdaaDoor
open Go Go.RowKit
def LeastIs (g : Int) (m : List Int) (r : Int) : Prop :=
  (r = -1 ∧ ∀ e : Nat, e < 2 ^ m.length → feedsAll g m (e : Int) = false) ∨ ∃ b : Nat, r = (b : Int) ∧ b < 2 ^ m.length ∧ feedsAll g m (b : Int) = true ∧ ∀ e : Nat, e < 2 ^ m.length → feedsAll g m (e : Int) = true → pc b ≤ pc e
theorem lt_succ {P : Nat → Prop} {k : Nat} (h : ∀ e, e < k → P e) (hk : P k) : ∀ e, e < k + 1 → P e := fun e he => by
  rcases Nat.lt_or_ge e k with h1 | h1
  · exact h e h1
  · have : e = k := by omega
    rw [this]; exact hk
theorem implLeast (g : Int) (m : List Int) (hm : MenuOk g m) : Ret (impl_DishesLeastS g m) (LeastIs g m) := by
  have hl : m.length ≤ 6 := hm.2.2.1
  have hp : 2 ^ m.length ≤ 64 := Nat.pow_le_pow_right (n := 2) (by omega) hl
  have h : m.length ≤ 4611686018427387904 := by omega
  have hsh : ishlO .i64 1 (m.length : Int) = some ((2 ^ m.length : Nat) : Int) := ishlO_nat (by omega)
  unfold impl_DishesLeastS
  rw [implMenuValid_eq g m h, Option.bind_some, decide_eq_true hm, if_neg (by simp)]
  simp only [hsh, Option.bind_some, implFeedsAll_eq g m _ h]
  refine Ret.loopb (fun s => ∃ k : Nat, s.2 = (k : Int) ∧ k ≤ 2 ^ m.length ∧ ((s.1 = -1 ∧ ∀ e : Nat, e < k → feedsAll g m (e : Int) = false) ∨ ∃ b : Nat, s.1 = (b : Int) ∧ b < k ∧ feedsAll g m (b : Int) = true ∧ ∀ e : Nat, e < k → feedsAll g m (e : Int) = true → pc b ≤ pc e)) (fun s => 64 - s.2.toNat) (LeastIs g m) ⟨0, rfl, Nat.zero_le _, .inl ⟨rfl, fun e he => by omega⟩⟩ ?_ (fun r hr => Ret.pure hr)
  rintro ⟨b0, k0⟩ ⟨k, hk, hk6, hb⟩
  simp only at hk hb
  subst hk
  dsimp only
  refine Ret.ite (fun hlt => ?_) (fun hlt => ?_)
  · have hkl : k < 2 ^ m.length := Int.ofNat_lt.1 (of_decide_eq_true hlt)
    have hms : 64 - (((k + 1 : Nat) : Int)).toNat < 64 - ((k : Int)).toNat := by simp; omega
    rw [wr_succ (n := 64) (k := k) (by omega) (by omega)]
    cases hf : feedsAll g m (k : Int) with
    | false =>
      rw [if_pos (by simp)]
      refine Ret.pure ⟨⟨k + 1, rfl, by omega, ?_⟩, hms⟩
      rcases hb with ⟨rfl, hn⟩ | ⟨b, rfl, hb, hbf, hbn⟩
      · exact .inl ⟨rfl, lt_succ hn hf⟩
      · exact .inr ⟨b, rfl, by omega, hbf, lt_succ hbn (fun hef => by rw [hf] at hef; cases hef)⟩
    | true =>
      rw [if_neg (by simp)]
      rcases hb with ⟨rfl, hn⟩ | ⟨b, rfl, hb, hbf, hbn⟩
      · rw [if_pos (by simp), Option.bind_some, if_pos rfl]
        exact Ret.pure ⟨⟨k + 1, rfl, by omega, .inr ⟨k, rfl, by omega, hf, lt_succ (fun e he hef => by rw [hn e he] at hef; cases hef) (fun _ => Nat.le_refl _)⟩⟩, hms⟩
      · have hnb : decide (((b : Nat) : Int) < 0) = false := by simp only [decide_eq_false_iff_not]; omega
        rw [dishesMany_eq k (by omega), dishesMany_eq b (by omega), hnb]
        simp only [Option.bind_some, Bool.false_eq_true, if_false]
        refine Ret.ite (fun hc => ?_) (fun hc => ?_)
        · have hc := Int.ofNat_lt.1 (of_decide_eq_true hc)
          exact Ret.pure ⟨⟨k + 1, rfl, by omega, .inr ⟨k, rfl, by omega, hf, lt_succ (fun e he hef => Nat.le_trans (Nat.le_of_lt hc) (hbn e he hef)) (fun _ => Nat.le_refl _)⟩⟩, hms⟩
        · have hc := of_decide_eq_false hc
          exact Ret.pure ⟨⟨k + 1, rfl, by omega, .inr ⟨b, rfl, by omega, hbf, lt_succ hbn (fun _ => by omega)⟩⟩, hms⟩
  · have hkl : k = 2 ^ m.length := by
      have := of_decide_eq_false hlt
      have : ¬ k < 2 ^ m.length := fun h => this (Int.ofNat_lt.2 h)
      omega
    subst hkl
    exact Ret.pure hb
theorem least_both (g : Int) (m : List Int) (hm : MenuOk g m) : ∃ r, impl_DishesLeastS g m = some r ∧ spec_DishesLeastS g m = some r ∧ LeastIs g m r := by
  obtain ⟨r, h1, h2⟩ := implLeast g m hm
  have hl : m.length ≤ 6 := hm.2.2.1
  obtain ⟨r', h3, h4⟩ := dishesLeast_eq g m (by omega)
  rw [h1] at h4
  cases h4
  exact ⟨r, h1, h3, h2⟩
theorem pcPow : ∀ k < 62, pc (2 ^ k) = 1 := by decide +kernel
theorem pc_less {b k : Nat} (hb : b < 9223372036854775808) (h : b.testBit k = true) : pc (b - 2 ^ k) + 1 = pc b := by
  have hk : k < 62 ∨ 62 ≤ k := by omega
  have hs := pc_split (x := b) (by omega) (2 ^ k)
  have h1 : b &&& 2 ^ k = 2 ^ k := by
    rw [Nat.and_comm]
    exact sub_of_bits fun t ht => by rw [Nat.testBit_two_pow, decide_eq_true_iff] at ht; subst ht; exact h
  rw [h1, ← minus_pow_eq h] at hs
  rcases hk with hk | hk
  · rw [pcPow k hk] at hs; omega
  · have h62 : pc (2 ^ 62) = 1 := by decide +kernel
    have : k < 63 := by
      have h63 := @bit_lt b 63 k (by omega) h
      exact h63
    have : k = 62 := by omega
    subst this
    rw [h62] at hs; omega
theorem drawMenu (f : List Int → Option (Int × List Int)) (n : Int) (hf : ∀ x, f x = ((spec_l20OpenS x).bind fun x1 => ((spec_l20MenuS x1.1 x1.2 n).bind fun x8 => (some (x8.2.1, x8.2.2))))) (x : List Int) (hx : ∀ n ∈ x, 0 ≤ n ∧ n ≤ 255) : Ret (f x) DG := by
  rw [hf]
  refine Ret.bind (open_spec x hx) (fun r hr => ?_)
  refine Ret.bind (menu_ret hr.1 (by omega) (by omega)) (fun v hv => ?_)
  exact Ret.pure hv.2
theorem full_wr {k : Nat} (h : k ≤ 6) : IntKind.wrap .i64 (((2 ^ k : Nat) : Int) - 1) = ((2 ^ k - 1 : Nat) : Int) := by
  have h1 : 2 ^ k ≤ 64 := Nat.pow_le_pow_right (n := 2) (by omega) h
  have h2 : 1 ≤ 2 ^ k := Nat.one_le_two_pow
  generalize 2 ^ k = z at *
  rw [wr ⟨by omega, by omega⟩]; omega
theorem pl_FnDishesLeast (x : List Int) (hw : ∀ n ∈ x, InK .u8 n) : laws_FnDishesLeastS x = some true := by
  unfold laws_FnDishesLeastS
  by_cases hl : (x.length : Int) > 1048576
  · rw [if_pos (by simp; omega)]
  rw [if_neg (by simp; omega)]
  obtain ⟨⟨g, m⟩, hd, ⟨hg0, hg1⟩, hm⟩ := drawMenu spec_DrawDishesLeastS 9 (fun _ => rfl) x (u8_of hw)
  dsimp only at hg0 hg1 hm
  rw [hd, Option.bind_some]
  dsimp only
  by_cases hk : MenuOk g m
  · obtain ⟨r, h1, h2, h3⟩ := least_both g m hk
    have hl6 : m.length ≤ 6 := hk.2.2.1
    have hp : 2 ^ m.length ≤ 64 := Nat.pow_le_pow_right (n := 2) (by omega) hl6
    have hone : 1 ≤ 2 ^ m.length := Nat.one_le_two_pow
    rw [h1, Option.bind_some, h2, Option.bind_some, if_neg (by simp), specMenuValid_eq g m (by omega), Option.bind_some, decide_eq_true hk, if_neg (by simp)]
    rcases h3 with ⟨rfl, hn⟩ | ⟨b, rfl, hb, hbf, hbn⟩
    · rw [if_pos (by simp), if_pos (by simp), ishlO_nat (by omega), Option.bind_some, full_wr hl6, implFeedsAll_eq g m _ (by omega), hn _ (by omega)]
      rfl
    · rw [if_neg (by simp)]
      apply Ret.eq
      refine Ret.loopb (fun s => ∃ i : Nat, s = (i : Int) ∧ i ≤ m.length) (fun s => m.length - s.toNat) (fun r => r = .inl ()) ⟨0, rfl, by omega⟩ ?_ (fun r hr => ?_)
      · rintro s ⟨i, rfl, hi⟩
        refine Ret.ite (fun h => ?_) (fun h => Ret.pure rfl)
        have hil : i < m.length := by have := of_decide_eq_true h; omega
        have e1 : IntKind.wrap .i64 ((i : Int) + 1) = ((i + 1 : Nat) : Int) := wr_succ (n := 40) (by omega) (by omega)
        rw [ishrO_nat (by omega), Option.bind_some, shr_bit, e1]
        refine Ret.bind (Q := fun z => z = false) ?_ (fun z hz => by subst hz; rw [if_neg (by simp)]; exact Ret.pure ⟨⟨i + 1, rfl, by omega⟩, by simp; omega⟩)
        refine Ret.ite (fun hbit => ?_) (fun hbit => Ret.pure rfl)
        have hle := pow_le_of_bit hbit
        have hpc := pc_less (by omega) hbit
        have hpos := Nat.two_pow_pos i
        rw [ishlO_nat (by omega), Option.bind_some, sub_wr hle (by omega), implFeedsAll_eq g m _ (by omega), Option.bind_some]
        refine Ret.pure ?_
        cases hff : feedsAll g m ((b - 2 ^ i : Nat) : Int) with
        | false => rfl
        | true =>
          have := hbn (b - 2 ^ i) (by omega) hff
          omega
      · subst hr
        rw [implFeedsAll_eq g m _ (by omega), hbf]
        exact Ret.pure rfl
  · obtain ⟨r', h3, h4⟩ := dishesLeast_eq g m (by omega)
    have h5 : impl_DishesLeastS g m = some (-1) := by
      unfold impl_DishesLeastS
      rw [implMenuValid_eq g m (by omega), decide_eq_false hk]; rfl
    have : r' = -1 := by rw [h4] at h5; exact Option.some.inj h5
    subst this
    rw [h4, Option.bind_some, h3, Option.bind_some, if_neg (by simp), specMenuValid_eq g m (by omega), Option.bind_some, decide_eq_false hk]
    simp [alive_eq]
end Go.Proofs.YtidhmbmollkhdaaDoor
