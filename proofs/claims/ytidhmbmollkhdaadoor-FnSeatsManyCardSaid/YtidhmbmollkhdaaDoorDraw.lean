/- The draws of the law's bytes: bounds alone. Own work; no program in sight. -/
import Derived.Test.YtidhmbmollkhdaaDoorGreedy
set_option linter.unusedVariables false
namespace Go.Proofs.YtidhmbmollkhdaaDoor
open Go Go.RowKit
def By (b : List Int) : Prop := b.length ≤ 2000 ∧ ∀ n ∈ b, 0 ≤ n ∧ n ≤ 255
theorem u8_of {x : List Int} (h : ∀ n ∈ x, InK .u8 n) : ∀ n ∈ x, 0 ≤ n ∧ n ≤ 255 := fun n hn => h n hn
theorem open_spec (x : List Int) (hx : ∀ n ∈ x, 0 ≤ n ∧ n ≤ 255) : Ret (spec_l20OpenS x) (fun r => By r.1 ∧ r.2 = 0) := by
  unfold spec_l20OpenS
  refine Ret.bind (Q := By) ?_ (fun b hb => Ret.pure ⟨hb, rfl⟩)
  refine Ret.ite (fun h => ?_) (fun h => ?_)
  · have hl : 2000 < x.length := by have := of_decide_eq_true h; omega
    have : subO x 0 2000 = some (x.take 2000) := by
      unfold subO
      rw [if_pos (by simp; omega)]
      simp
    rw [this]
    exact Ret.pure ⟨by simp; omega, fun n hn => hx n (List.mem_of_mem_take hn)⟩
  · have hl : x.length ≤ 2000 := by have := of_decide_eq_false h; omega
    exact Ret.pure ⟨hl, hx⟩
theorem irem_ret {a n : Int} (ha : 0 ≤ a) (hn : 1 ≤ n) : Ret (iremO .i64 a n) (fun v => 0 ≤ v ∧ v < n ∧ v ≤ a) := by
  unfold iremO
  rw [if_neg (by simp; omega)]
  refine Ret.pure ⟨Int.tmod_nonneg _ ha, Int.tmod_lt_of_pos _ (by omega), ?_⟩
  rw [Int.tmod_eq_emod_of_nonneg ha]
  obtain ⟨a, rfl⟩ := Int.eq_ofNat_of_zero_le ha
  obtain ⟨n, rfl⟩ := Int.eq_ofNat_of_zero_le (by omega : 0 ≤ n)
  exact Int.ofNat_le.2 (Nat.mod_le a n)
theorem geti_ret {b : List Int} {k : Int} (h0 : 0 ≤ k) (h1 : k < (b.length : Int)) : Ret (geti b k) (fun v => v ∈ b) := by
  obtain ⟨n, rfl⟩ := Int.eq_ofNat_of_zero_le h0
  have hn : n < b.length := by omega
  rw [geti_lt' hn]
  exact Ret.pure (List.getElem_mem hn)
theorem iquo_ret {a n : Int} (h0 : 0 ≤ a) (h : a ≤ 1000000000000) (hn : 1 ≤ n) : Ret (iquoO .i64 a n) (fun v => 0 ≤ v ∧ v ≤ a) := by
  obtain ⟨a, rfl⟩ := Int.eq_ofNat_of_zero_le h0
  obtain ⟨n, rfl⟩ := Int.eq_ofNat_of_zero_le (by omega : 0 ≤ n)
  rw [iquoO_nat (by omega) (by omega)]
  exact Ret.pure ⟨Int.natCast_nonneg _, Int.ofNat_le.2 (Nat.div_le_self a n)⟩
theorem xor_lt63 {a b : Nat} (ha : a < 9223372036854775808) (hb : b < 9223372036854775808) : a ^^^ b < 9223372036854775808 := by
  have := @Nat.xor_lt_two_pow a b 63 (by omega) (by omega)
  omega
theorem ixor_nonneg {a b : Int} (ha : 0 ≤ a) (ha2 : a < 9223372036854775808) (hb : 0 ≤ b) (hb2 : b < 9223372036854775808) : 0 ≤ ixor .i64 a b := by
  obtain ⟨a, rfl⟩ := Int.eq_ofNat_of_zero_le ha
  obtain ⟨b, rfl⟩ := Int.eq_ofNat_of_zero_le hb
  unfold ixor
  rw [BitVec.toNat_xor, toNat64 (by omega), toNat64 (by omega), wrn (xor_lt63 (by omega) (by omega))]
  omega
theorem pick_ret {b : List Int} {p n : Int} (hb : By b) (h0 : 0 ≤ p) (h1 : p ≤ 1000000) : Ret (spec_l20Rd__pickS b p n) (fun r => r.1 = p + 1 ∧ 0 ≤ r.2 ∧ (1 ≤ n → r.2 < n)) := by
  unfold spec_l20Rd__pickS
  have e1 : IntKind.wrap .i64 (p + 1) = p + 1 := wr ⟨by omega, by omega⟩
  have e2 : IntKind.wrap .i64 (p + 1 - 1) = p := by rw [wr ⟨by omega, by omega⟩]; omega
  simp only [e1, e2]
  refine Ret.ite (fun h => Ret.pure ⟨rfl, by omega, fun h => by omega⟩) (fun h => ?_)
  have hn : 1 ≤ n ∧ 0 < b.length := by
    simp only [Bool.or_eq_false_iff, decide_eq_false_iff_not, beq_eq_false_iff_ne] at h
    omega
  obtain ⟨hn, hl⟩ := hn
  refine Ret.ite (fun h => ?_) (fun h => ?_)
  · refine Ret.bind (geti_ret h0 (of_decide_eq_true h)) (fun v hv => ?_)
    have hv := hb.2 v hv
    rw [wr (x := v) ⟨by omega, by omega⟩]
    refine Ret.bind (irem_ret hv.1 hn) (fun u hu => ?_)
    exact Ret.pure ⟨rfl, hu.1, fun _ => hu.2.1⟩
  · have hlen : (1 : Int) ≤ (b.length : Int) := by omega
    have hlen2 : (b.length : Int) ≤ 2000 := by have := hb.1; omega
    refine Ret.bind (irem_ret h0 hlen) (fun k hk => ?_)
    refine Ret.bind (geti_ret hk.1 hk.2.1) (fun v hv => ?_)
    have hv := hb.2 v hv
    rw [wr (x := p * 7) ⟨by omega, by omega⟩, wr (x := p * 7 + 3) ⟨by omega, by omega⟩]
    refine Ret.bind (irem_ret (by omega) hlen) (fun k2 hk2 => ?_)
    refine Ret.bind (geti_ret hk2.1 hk2.2.1) (fun v2 hv2 => ?_)
    have hv2 := hb.2 v2 hv2
    rw [wr (x := v) ⟨by omega, by omega⟩, wr (x := v2) ⟨by omega, by omega⟩, wr (x := v * 131) ⟨by omega, by omega⟩, wr (x := v2 * 1117) ⟨by omega, by omega⟩, wr (x := v * 131 + v2 * 1117) ⟨by omega, by omega⟩, wr (x := p * 29) ⟨by omega, by omega⟩, wr (x := v * 131 + v2 * 1117 + p * 29) ⟨by omega, by omega⟩]
    refine Ret.bind (Ret.pure (Q := fun z => 0 ≤ z ∧ z ≤ 100000000) ⟨by omega, by omega⟩) (fun z hz => ?_)
    refine Ret.bind (iquo_ret h0 (by omega) hlen) (fun q hq => ?_)
    rw [wr (x := q * 53) ⟨by omega, by omega⟩, wr (x := z + q * 53) ⟨by omega, by omega⟩]
    have hd : Int.tdiv (z + q * 53) 64 = (z + q * 53) / 64 := Int.tdiv_eq_ediv_of_nonneg (by omega)
    rw [hd, wr (x := (z + q * 53) / 64) ⟨by omega, by omega⟩]
    refine Ret.bind (Ret.pure (Q := fun z => 0 ≤ z) (ixor_nonneg (by omega) (by omega) (by omega) (by omega))) (fun y hy => ?_)
    refine Ret.bind (irem_ret hy hn) (fun u hu => ?_)
    exact Ret.pure ⟨rfl, hu.1, fun _ => hu.2.1⟩
theorem odd_ret {b : List Int} {p n : Int} (hb : By b) (h0 : 0 ≤ p) (h1 : p ≤ 1000000) : Ret (spec_l20Rd__oddS b p n) (fun r => p ≤ r.1 ∧ r.1 ≤ p + 1) := by
  unfold spec_l20Rd__oddS
  refine Ret.bind (Q := fun r => p ≤ r.1 ∧ r.1 ≤ p + 1) ?_ (fun r hr => Ret.pure hr)
  refine Ret.ite (fun h => ?_) (fun h => Ret.pure ⟨by omega, by omega⟩)
  refine Ret.bind (pick_ret hb h0 h1) (fun r hr => Ret.pure ⟨?_, ?_⟩)
  · show p ≤ r.1; omega
  · show r.1 ≤ p + 1; omega
theorem bitsOf_eq (d : Nat) (hd : d < 1099511627776) : laws_bitsOfS (d : Int) = some ((pc d : Nat) : Int) := by
  unfold laws_bitsOfS
  apply Ret.eq
  refine Ret.loopb (fun s => ∃ i : Nat, s = ((((membersTo d i).length : Nat) : Int), (i : Int)) ∧ i ≤ 40) (fun s => 40 - s.2.toNat) (fun r => r = ((pc d : Nat) : Int)) ⟨0, rfl, by omega⟩ ?_ (fun r hr => Ret.pure hr)
  rintro s ⟨i, rfl, hi⟩
  have hml := membersTo_length d i
  dsimp only
  refine Ret.ite (fun h => ?_) (fun h => ?_)
  · have hi4 : i < 40 := by have := of_decide_eq_true h; omega
    rw [if_pos (by simp), ishrO_nat (by omega), Option.bind_some, shr_bit, Option.bind_some]
    have e1 : IntKind.wrap .i64 ((i : Int) + 1) = ((i + 1 : Nat) : Int) := wr_succ (n := 40) (by omega) hi4
    have e2 : IntKind.wrap .i64 ((((membersTo d i).length : Nat) : Int) + 1) = (((membersTo d i).length + 1 : Nat) : Int) := wr_succ (n := 100) (by omega) (by omega)
    rw [e1, e2]
    have hs := membersTo_succ d i
    refine Ret.ite (fun hb => ?_) (fun hb => ?_)
    · rw [if_pos hb] at hs
      exact Ret.pure ⟨⟨i + 1, by rw [hs]; simp, by omega⟩, by simp; omega⟩
    · rw [if_neg (by simp [hb])] at hs
      exact Ret.pure ⟨⟨i + 1, by rw [hs]; simp, by omega⟩, by simp; omega⟩
  · have hi4 : i = 40 := by have := of_decide_eq_false h; omega
    subst hi4
    refine Ret.pure ?_
    show (((membersTo d 40).length : Nat) : Int) = _
    rw [membersTo_pc, Nat.mod_eq_of_lt (by omega)]
    have e : pcF 64 d = pcF 40 (d % 2 ^ 40) + pcF 24 (d / 2 ^ 40) := pcF_add 40 24 d
    rw [Nat.mod_eq_of_lt (by omega), Nat.div_eq_of_lt (by omega), pcF_zero] at e
    unfold pc
    omega
theorem bitsOf_neg {d : Int} (hd : d < 0) : laws_bitsOfS d = some 0 := by
  unfold laws_bitsOfS
  apply Ret.eq
  refine Ret.loopb (fun s => ∃ i : Nat, s = (0, (i : Int)) ∧ i ≤ 40) (fun s => 40 - s.2.toNat) (fun r => r = 0) ⟨0, rfl, by omega⟩ ?_ (fun r hr => Ret.pure hr)
  rintro s ⟨i, rfl, hi⟩
  dsimp only
  refine Ret.ite (fun h => ?_) (fun h => Ret.pure rfl)
  have hi4 : i < 40 := by have := of_decide_eq_true h; omega
  rw [if_neg (by simp; omega), Option.bind_some, if_neg (by simp)]
  have e1 : IntKind.wrap .i64 ((i : Int) + 1) = ((i + 1 : Nat) : Int) := wr_succ (n := 40) (by omega) hi4
  rw [e1]
  exact Ret.pure ⟨⟨i + 1, rfl, by omega⟩, by simp; omega⟩
theorem alive_eq : laws_aliveS = some true := rfl
theorem pcTab : ∀ d < 68, pc (d + 1048576) = pc d + 1 := by decide +kernel
theorem drawDishesMany (x : List Int) (hx : ∀ n ∈ x, 0 ≤ n ∧ n ≤ 255) : Ret (spec_DrawDishesManyS x) (fun d => -2 ≤ d ∧ d ≤ 67) := by
  unfold spec_DrawDishesManyS
  refine Ret.bind (open_spec x hx) (fun r hr => ?_)
  refine Ret.bind (pick_ret hr.1 (by omega) (by omega)) (fun v hv => ?_)
  have h2 := hv.2.2 (by omega)
  rw [wr ⟨by omega, by omega⟩]
  exact Ret.pure ⟨by omega, by omega⟩
theorem specDishesMany_eq (d : Nat) (hd : d < 9223372036854775808) : spec_DishesManyS (d : Int) = some ((pc d : Nat) : Int) := by
  unfold spec_DishesManyS
  rw [if_neg (by simp), count_eq d hd]; rfl
theorem pl_FnDishesMany (x : List Int) (hw : ∀ n ∈ x, InK .u8 n) : laws_FnDishesManyS x = some true := by
  unfold laws_FnDishesManyS
  by_cases hl : (x.length : Int) > 1048576
  · rw [if_pos (by simp; omega)]
  rw [if_neg (by simp; omega)]
  obtain ⟨d, hd, h0, h1⟩ := drawDishesMany x (u8_of hw)
  rw [hd, Option.bind_some]
  by_cases hn : d < 0
  · have e1 : impl_DishesManyS d = some (-1) := by unfold impl_DishesManyS; rw [if_pos (by simpa using hn)]
    have e2 : spec_DishesManyS d = some (-1) := by unfold spec_DishesManyS; rw [if_pos (by simpa using hn)]
    rw [e1, e2]
    simp [alive_eq, hn]
  · obtain ⟨n, rfl⟩ := Int.eq_ofNat_of_zero_le (by omega : 0 ≤ d)
    have e3 : IntKind.wrap .i64 ((n : Int) + 1048576) = ((n + 1048576 : Nat) : Int) := by rw [wr ⟨by omega, by omega⟩]; omega
    have hp := pc_le n
    have e4 : IntKind.wrap .i64 (((pc n : Nat) : Int) + 1) = ((pc n + 1 : Nat) : Int) := by rw [wr ⟨by omega, by omega⟩]; omega
    have e5 : impl_DishesManyS 0 = some 0 := by have := dishesMany_eq 0 (by omega); have hz : pc 0 = 0 := pcF_zero 64; rw [hz] at this; exact this
    rw [dishesMany_eq n (by omega), Option.bind_some, specDishesMany_eq n (by omega), Option.bind_some, if_neg (by simp), if_neg (by simp), e3, dishesMany_eq _ (by omega), Option.bind_some, pcTab n (by omega), e4, if_pos (by simp), bitsOf_eq n (by omega), e5]
    simp
end Go.Proofs.YtidhmbmollkhdaaDoor
