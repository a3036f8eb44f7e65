/- Chapter 6: sets of guests and dishes. Own work; no program in sight. -/
import Derived.Test.YtidhmbmollkhdaaDoorPlG6
import Derived.Test.YtidhmbmollkhdaaDoorBits
set_option linter.unusedVariables false
namespace Go.Proofs.YtidhmbmollkhdaaDoor
open Go Go.RowKit
theorem iquoO_nat {a n : Nat} (ha : a < 9223372036854775808) (hn : 0 < n) : iquoO .i64 (a : Int) (n : Int) = some ((a / n : Nat) : Int) := by
  unfold iquoO
  rw [if_neg (by simp; omega), Int.tdiv_eq_ediv_of_nonneg (by omega)]
  have : (a : Int) / (n : Int) = ((a / n : Nat) : Int) := by simp
  have h2 : a / n ≤ a := Nat.div_le_self a n
  rw [this, wrn (by omega)]
theorem div_bit (a k : Nat) : (Int.tmod ((a / 2 ^ k : Nat) : Int) 2 == 1) = a.testBit k := by rw [← Nat.shiftRight_eq_div_pow]; exact shr_bit a k
theorem or_max_lt {a b n : Nat} (ha : a < 2 ^ n) (hb : b < 2 ^ n) : a ||| b < 2 ^ n := Nat.or_lt_two_pow ha hb
theorem pow61 {k : Nat} (h : k ≤ 61) : 2 ^ k ≤ 2305843009213693952 := (ishl_nat h).2
theorem l1Join_eq {a b : Nat} (ha : a < 2305843009213693952) (hb : b < 2305843009213693952) : spec_l1JoinS (a : Int) (b : Int) = some ((a ||| b : Nat) : Int) := by
  unfold spec_l1JoinS
  have hmax : (if (b : Int) > (a : Int) then (b : Int) else (a : Int)) = ((max a b : Nat) : Int) := by
    by_cases h : a < b
    · rw [if_pos (by omega)]; omega
    · rw [if_neg (by omega)]; omega
  rw [hmax]
  have hm : max a b < 2305843009213693952 := by omega
  apply Ret.eq
  refine Ret.loopb (fun s => ∃ k : Nat, k ≤ 61 ∧ s.2 = ((2 ^ k : Nat) : Int) ∧ s.1 = (((a ||| b) % 2 ^ k : Nat) : Int)) (fun s => 2305843009213693953 - s.2.toNat) (fun r => r = ((a ||| b : Nat) : Int)) ⟨0, by omega, rfl, by simp [Nat.mod_one]⟩ ?_ (fun r hr => Ret.pure hr)
  rintro ⟨out, bit⟩ ⟨k, hk, h2, h1⟩
  simp only at h1 h2
  subst h1; subst h2
  have hpos : 0 < 2 ^ k := Nat.two_pow_pos k
  have hple := pow61 hk
  refine Ret.ite (fun hlt => ?_) (fun hge => ?_)
  · have hlt' : 2 ^ k ≤ max a b := Int.ofNat_le.1 (of_decide_eq_true hlt)
    have hk1 : k + 1 ≤ 61 := by
      rcases Nat.lt_or_ge k 61 with h | h
      · exact h
      · have : (2 : Nat) ^ 61 ≤ 2 ^ k := Nat.pow_le_pow_right (by omega) h
        have h3 : (2 : Nat) ^ 61 = 2305843009213693952 := by decide
        omega
    have hple1 := pow61 hk1
    rw [Nat.pow_succ] at hple1
    have hml : (a ||| b) % 2 ^ k < 2 ^ k := Nat.mod_lt _ hpos
    have hw1 : IntKind.wrap .i64 (2 * ((2 ^ k : Nat) : Int)) = ((2 ^ (k + 1) : Nat) : Int) := by
      rw [show (2 : Int) * ((2 ^ k : Nat) : Int) = ((2 * 2 ^ k : Nat) : Int) from by simp, wrn (by omega), Nat.pow_succ, Nat.mul_comm]
    have hw2 : IntKind.wrap .i64 ((((a ||| b) % 2 ^ k : Nat) : Int) + ((2 ^ k : Nat) : Int)) = (((a ||| b) % 2 ^ k + 2 ^ k : Nat) : Int) := by
      rw [show (((a ||| b) % 2 ^ k : Nat) : Int) + ((2 ^ k : Nat) : Int) = (((a ||| b) % 2 ^ k + 2 ^ k : Nat) : Int) from by omega, wrn (by omega)]
    rw [iquoO_nat (by omega) hpos, Option.bind_some, div_bit, iquoO_nat (by omega) hpos, Option.bind_some, div_bit, hw1, hw2]
    have hmod := mod_pow_succ (a ||| b) k
    rw [Nat.testBit_or] at hmod
    have hmeas : 2305843009213693953 - (((2 ^ (k + 1) : Nat) : Int)).toNat < 2305843009213693953 - (((2 ^ k : Nat) : Int)).toNat := by
      simp only [Int.toNat_natCast]; rw [Nat.pow_succ]; omega
    cases hta : a.testBit k <;> cases htb : b.testBit k <;> simp only [hta, htb, Bool.or_false, Bool.false_or, Bool.or_self, Bool.or_true, Bool.true_or, if_true, if_false, Bool.false_eq_true, Option.bind_some] at hmod ⊢ <;>
      exact Ret.pure ⟨⟨k + 1, hk1, rfl, by simp only [hmod, Nat.add_zero]⟩, hmeas⟩
  · have hge' : max a b < 2 ^ k := by have := of_decide_eq_false hge; exact Int.ofNat_lt.1 (by omega)
    refine Ret.pure ?_
    rw [Nat.mod_eq_of_lt (or_max_lt (by omega) (by omega))]
theorem l1Meet_eq {a b : Nat} (ha : a < 2305843009213693952) (hb : b < 2305843009213693952) : spec_l1MeetS (a : Int) (b : Int) = some ((a &&& b : Nat) : Int) := by
  unfold spec_l1MeetS
  have h := or_and_add 61 a b ha hb
  rw [l1Join_eq ha hb]
  simp only [Option.bind_some]
  congr 1
  rw [show (a : Int) + (b : Int) = ((a + b : Nat) : Int) from by omega, wrn (by omega), wr ⟨by omega, by omega⟩]
  omega
/-- the guests whom the first k dishes of a set feed -/
def fedTo (ms : List Nat) (d : Nat) : Nat → Nat
  | 0 => 0
  | k + 1 => if d.testBit k then fedTo ms d k ||| ms.getD k 0 else fedTo ms d k
def fed (ms : List Nat) (d : Nat) : Nat := fedTo ms d ms.length
theorem fedTo_lt {ms : List Nat} {n d : Nat} (h : ∀ x ∈ ms, x < 2 ^ n) : ∀ k, fedTo ms d k < 2 ^ n
  | 0 => Nat.two_pow_pos n
  | k + 1 => by
    unfold fedTo
    have hx : ms.getD k 0 < 2 ^ n := by
      rw [List.getD_eq_getElem?_getD]
      cases hk : ms[k]? with
      | none => exact Nat.two_pow_pos n
      | some x => exact h x (List.mem_of_getElem? hk)
    split
    · exact or_max_lt (fedTo_lt h k) hx
    · exact fedTo_lt h k
/-- a valid menu, as numbers from 0 on -/
theorem menu_nat {g : Int} {m : List Int} (h : MenuOk g m) : ∃ (n : Nat) (ms : List Nat), g = (n : Int) ∧ n ≤ 6 ∧ m = ms.map (fun x : Nat => (x : Int)) ∧ ms.length ≤ 6 ∧ ∀ x ∈ ms, x < 2 ^ n := by
  obtain ⟨h0, h1, h2, h3⟩ := h
  refine ⟨g.toNat, m.map Int.toNat, by omega, by omega, ?_, by simpa using h2, ?_⟩
  · rw [List.map_map]
    symm
    conv => rhs; rw [← List.map_id m]
    apply List.map_congr_left
    intro x hx
    have := h3 x hx
    simp; omega
  · intro x hx
    obtain ⟨y, hy, rfl⟩ := List.mem_map.1 hx
    have := h3 y hy
    have e : ((2 : Int) ^ g.toNat) = ((2 ^ g.toNat : Nat) : Int) := by simp
    rw [e] at this
    omega
theorem p6 {n x : Nat} (hn : n ≤ 6) (h : x < 2 ^ n) : x < 64 := Nat.lt_of_lt_of_le h (Nat.pow_le_pow_right (n := 2) (by omega) hn)
theorem l6Fed_eq {n : Nat} {ms : List Nat} {d : Nat} (hn : n ≤ 6) (hl : ms.length ≤ 6) (h : ∀ x ∈ ms, x < 2 ^ n) (hd : d < 9223372036854775808) : spec_l6FedS (ms.map (fun x : Nat => (x : Int))) (d : Int) = some ((fed ms d : Nat) : Int) := by
  unfold spec_l6FedS
  apply Ret.eq
  refine Ret.loopb (fun s => ∃ k : Nat, s.2 = (k : Int) ∧ k ≤ ms.length ∧ s.1 = ((fedTo ms d k : Nat) : Int)) (fun s => ms.length - s.2.toNat) (fun r => r = ((fed ms d : Nat) : Int)) ⟨0, rfl, by omega, rfl⟩ ?_ (fun r hr => Ret.pure hr)
  rintro ⟨out, i⟩ ⟨k, h2, hk, h1⟩
  simp only at h1 h2
  subst h1; subst h2
  have hlen : (ms.map (fun x : Nat => (x : Int))).length = ms.length := by simp
  rw [hlen]
  refine Ret.ite (fun hlt => ?_) (fun hge => ?_)
  · have hlt' : k < ms.length := by simpa using hlt
    rw [ishrO_nat hd, Option.bind_some, shr_bit, geti_nat, List.getElem?_map, List.getElem?_eq_getElem hlt']
    simp only [Option.map_some, Option.bind_some]
    have hx := h _ (List.getElem_mem hlt')
    rw [l1Join_eq (by have := p6 hn (fedTo_lt (d := d) h k); omega) (by have := p6 hn hx; omega), wr_succ (n := ms.length) (by omega) hlt']
    have hs : fedTo ms d (k + 1) = if d.testBit k then fedTo ms d k ||| ms[k] else fedTo ms d k := by
      show (if d.testBit k then fedTo ms d k ||| ms.getD k 0 else fedTo ms d k) = _
      rw [List.getD_eq_getElem?_getD, List.getElem?_eq_getElem hlt']; rfl
    have hm : ms.length - (((k + 1 : Nat) : Int)).toNat < ms.length - ((k : Int)).toNat := by simp; omega
    cases hb : d.testBit k <;> simp only [hb, if_true, if_false, Bool.false_eq_true, Option.bind_some] at hs ⊢ <;>
      exact Ret.pure ⟨⟨k + 1, rfl, by omega, by rw [hs]⟩, hm⟩
  · have : k = ms.length := by have : ms.length ≤ k := by simpa using hge
                               omega
    subst this
    exact Ret.pure rfl
theorem geti_map {ms : List Nat} {k : Nat} (h : k < ms.length) : geti (ms.map (fun x : Nat => (x : Int))) (k : Int) = some ((ms[k] : Nat) : Int) := by
  rw [geti_nat, List.getElem?_map, List.getElem?_eq_getElem h]; rfl
theorem fedTo_succ {ms : List Nat} {d k : Nat} (h : k < ms.length) : fedTo ms d (k + 1) = if d.testBit k then fedTo ms d k ||| ms[k] else fedTo ms d k := by
  show (if d.testBit k then fedTo ms d k ||| ms.getD k 0 else fedTo ms d k) = _
  rw [List.getD_eq_getElem?_getD, List.getElem?_eq_getElem h]; rfl
/-- FedBy: the set of the guests who are fed, or -1 -/
def fedBy (g : Int) (m : List Int) (d : Int) : Int :=
  if MenuOk g m ∧ 0 ≤ d ∧ d < 2 ^ m.length then ((fed (m.map Int.toNat) d.toNat : Nat) : Int) else -1
theorem map_toNat (ms : List Nat) : (ms.map (fun x : Nat => (x : Int))).map Int.toNat = ms := by
  rw [List.map_map]; conv => rhs; rw [← List.map_id ms]
  apply List.map_congr_left; intro x _; simp
theorem two_pow_cast (k : Nat) : ((2 : Int) ^ k) = ((2 ^ k : Nat) : Int) := by simp
theorem specFedBy_eq (g : Int) (m : List Int) (d : Int) (h : m.length ≤ 4611686018427387904) : spec_FedByS g m d = some (fedBy g m d) := by
  unfold spec_FedByS
  rw [specMenuValid_eq g m h, Option.bind_some]
  by_cases hm : MenuOk g m
  · obtain ⟨n, ms, rfl, hn, rfl, hl, hx⟩ := menu_nat hm
    have hlen : (ms.map (fun x : Nat => (x : Int))).length = ms.length := by simp
    rw [decide_eq_true hm, if_neg (by simp), hlen, ishlO_nat (by omega)]
    have hp : 2 ^ ms.length ≤ 64 := Nat.pow_le_pow_right (n := 2) (by omega) hl
    have hp1 : 0 < 2 ^ ms.length := Nat.two_pow_pos _
    simp only [Option.bind_some, l1In_eq]
    rw [wr (x := ((2 ^ ms.length : Nat) : Int) - 1) ⟨by omega, by omega⟩]
    unfold fedBy
    rw [hlen, two_pow_cast, map_toNat]
    by_cases hd : 0 ≤ d ∧ d ≤ ((2 ^ ms.length : Nat) : Int) - 1
    · obtain ⟨e, rfl⟩ := Int.eq_ofNat_of_zero_le hd.1
      rw [decide_eq_true hd, if_neg (by simp), if_pos ⟨hm, by omega, by omega⟩, l6Fed_eq hn hl hx (by omega)]
      simp
    · rw [decide_eq_false hd, if_pos (by simp), if_neg (by rintro ⟨_, h1, h2⟩; exact hd ⟨h1, by omega⟩)]
  · have hn : fedBy g m d = -1 := by unfold fedBy; rw [if_neg (fun h => hm h.1)]
    rw [decide_eq_false hm, hn]
    simp
theorem implFedBy_eq (g : Int) (m : List Int) (d : Int) (h : m.length ≤ 4611686018427387904) : impl_FedByS g m d = some (fedBy g m d) := by
  unfold impl_FedByS
  rw [implMenuValid_eq g m h, Option.bind_some]
  by_cases hm : MenuOk g m
  · obtain ⟨n, ms, rfl, hn, rfl, hl, hx⟩ := menu_nat hm
    have hlen : (ms.map (fun x : Nat => (x : Int))).length = ms.length := by simp
    have hp : 2 ^ ms.length ≤ 64 := Nat.pow_le_pow_right (n := 2) (by omega) hl
    unfold fedBy
    rw [decide_eq_true hm, hlen, ishlO_nat (by omega), two_pow_cast, map_toNat]
    by_cases hd0 : d < 0
    · rw [decide_eq_true hd0, if_pos (by simp), if_neg (by rintro ⟨_, h1, h2⟩; omega)]
      simp
    · rw [decide_eq_false hd0, if_neg (by simp)]
      simp only [Option.bind_some]
      by_cases hd : d < ((2 ^ ms.length : Nat) : Int)
      · obtain ⟨e, rfl⟩ := Int.eq_ofNat_of_zero_le (show 0 ≤ d by omega)
        rw [if_neg (by simp only [ge_iff_le, decide_eq_true_eq]; omega), if_pos ⟨hm, by omega, hd⟩]
        apply Ret.eq
        refine Ret.loopb (fun s => ∃ k : Nat, s.2 = (k : Int) ∧ k ≤ ms.length ∧ s.1 = ((fedTo ms e k : Nat) : Int)) (fun s => ms.length - s.2.toNat) (fun r => r = ((fed ms e : Nat) : Int)) ⟨0, rfl, by omega, rfl⟩ ?_ (fun r hr => Ret.pure hr)
        rintro ⟨out, i⟩ ⟨k, h2, hk, h1⟩
        simp only at h1 h2
        subst h1; subst h2
        refine Ret.ite (fun hlt => ?_) (fun hge => ?_)
        · have hlt' : k < ms.length := by simpa using hlt
          rw [geti_map hlt', Option.bind_some, ishlO_nat (by omega), Option.bind_some, iand_nat (by omega) (by have := pow61 (k := k) (by omega); omega), and_pow_ne, wr_succ (n := ms.length) (by omega) hlt']
          have hxk := p6 hn (hx _ (List.getElem_mem hlt'))
          have hf := p6 hn (fedTo_lt (d := e) hx k)
          rw [ior_nat (by omega) (by omega)]
          have hs := fedTo_succ (d := e) hlt'
          have hms : ms.length - (((k + 1 : Nat) : Int)).toNat < ms.length - ((k : Int)).toNat := by simp; omega
          cases hb : e.testBit k <;> simp only [hb, if_true, if_false, Bool.false_eq_true] at hs ⊢ <;>
            exact Ret.pure ⟨⟨k + 1, rfl, by omega, by rw [hs]⟩, hms⟩
        · have : k = ms.length := by have : ms.length ≤ k := by simpa using hge
                                     omega
          subst this
          exact Ret.pure rfl
      · rw [if_pos (by simp only [ge_iff_le, decide_eq_true_eq]; omega), if_neg (by rintro ⟨_, h1, h2⟩; omega)]
  · have hn : fedBy g m d = -1 := by unfold fedBy; rw [if_neg (fun h => hm h.1)]
    rw [decide_eq_false hm, hn]
    simp
theorem fedBy_nonneg {g : Int} {m : List Int} {d : Int} (h : 0 ≤ fedBy g m d) : MenuOk g m := by
  unfold fedBy at h; split at h
  · rename_i hx; exact hx.1
  · omega
/-- FeedsAll -/
def feedsAll (g : Int) (m : List Int) (d : Int) : Bool := decide (MenuOk g m) && (fedBy g m d == 2 ^ g.toNat - 1)
theorem specFeedsAll_eq (g : Int) (m : List Int) (d : Int) (h : m.length ≤ 4611686018427387904) : spec_FeedsAllS g m d = some (feedsAll g m d) := by
  unfold spec_FeedsAllS
  rw [specFedBy_eq g m d h]
  simp only [Option.bind_some]
  by_cases hf : 0 ≤ fedBy g m d
  · have hm := fedBy_nonneg hf
    have hg := hm
    obtain ⟨h0, h1, _⟩ := hg
    obtain ⟨e1, e2, e3⟩ := ishl_one h0 (by omega : g ≤ 60)
    have hsh : ishlO .i64 1 g = some (2 ^ g.toNat) := by unfold ishlO; rw [if_neg (by simp; omega), e1]
    rw [if_pos (by simpa using hf), hsh]
    simp only [Option.bind_some, wr (x := 2 ^ g.toNat - 1) ⟨by omega, by omega⟩]
    unfold feedsAll
    rw [decide_eq_true hm, Bool.true_and]
  · rw [if_neg (by simpa using hf)]
    have hne : (fedBy g m d == 2 ^ g.toNat - 1) = false := by
      have : (1 : Int) ≤ 2 ^ g.toNat := by rw [two_pow_cast]; have := Nat.two_pow_pos g.toNat; omega
      simp; omega
    simp [feedsAll, hne]
theorem implFeedsAll_eq (g : Int) (m : List Int) (d : Int) (h : m.length ≤ 4611686018427387904) : impl_FeedsAllS g m d = some (feedsAll g m d) := by
  unfold impl_FeedsAllS feedsAll
  rw [implMenuValid_eq g m h, implFedBy_eq g m d h]
  simp only [Option.bind_some]
  by_cases hm : MenuOk g m
  · have hg := hm
    obtain ⟨h0, h1, _⟩ := hg
    rw [decide_eq_true hm, if_pos rfl, everybody_eq h0 (by omega)]
    simp
  · rw [decide_eq_false hm, if_neg (by simp)]
    simp
end Go.Proofs.YtidhmbmollkhdaaDoor
