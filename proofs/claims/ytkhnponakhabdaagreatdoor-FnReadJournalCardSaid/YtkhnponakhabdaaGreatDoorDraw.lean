/- The draws of the law's bytes: bounds alone. Own work; no program in sight. -/
import Derived.Test.YtkhnponakhabdaaGreatDoorMPl
set_option linter.unusedVariables false
namespace Go.Proofs.YtkhnponakhabdaaGreatDoor
open Go Go.RowKit
def By (b : List Int) : Prop := b.length ≤ 2000 ∧ ∀ n ∈ b, 0 ≤ n ∧ n ≤ 255
theorem u8_of {x : List Int} (h : ∀ n ∈ x, InK .u8 n) : ∀ n ∈ x, 0 ≤ n ∧ n ≤ 255 := fun n hn => h n hn
theorem open_spec (x : List Int) (hx : ∀ n ∈ x, 0 ≤ n ∧ n ≤ 255) : Ret (spec_l20OpenS x) (fun r => By r.1 ∧ r.2 = 0) := by
 unfold spec_l20OpenS
 refine Ret.bind (Q := By) ?_ (fun b hb => Ret.pure ⟨hb, rfl⟩)
 refine Ret.ite (fun h => ?_) (fun h => ?_)
 ·have hl : 2000 < x.length := by have := of_decide_eq_true h; omega
  have : subO x 0 2000 = some (x.take 2000) := by
   unfold subO
   rw [if_pos (by simp; omega)]
   simp
  rw [this]
  exact Ret.pure ⟨by simp; omega, fun n hn => hx n (List.mem_of_mem_take hn)⟩
 ·have hl : x.length ≤ 2000 := by have := of_decide_eq_false h; omega
  exact Ret.pure ⟨hl, hx⟩
theorem irem_ret {a n : Int} (ha : 0 ≤ a) (hn : 1 ≤ n) : Ret (iremO .i64 a n) (fun v => 0 ≤ v ∧ v < n ∧ v ≤ a) := by
 unfold iremO
 rw [if_neg (by simp; omega)]
 refine Ret.pure ⟨Int.tmod_nonneg _ ha, Int.tmod_lt_of_pos _ (by omega), ?_⟩
 rw [Int.tmod_eq_emod_of_nonneg ha]
 obtain ⟨a, rfl⟩ := Int.eq_ofNat_of_zero_le ha
 obtain ⟨n, rfl⟩ := Int.eq_ofNat_of_zero_le (by omega : 0 ≤ n)
 exact Int.ofNat_le.2 (Nat.mod_le a n)
theorem geti_ret {b : List Int} {k : Int} (h0 : 0 ≤ k) (h1 : k < (b.length : Int)) : Ret (geti b k) (fun v => v ∈ b) := by
 obtain ⟨n, rfl⟩ := Int.eq_ofNat_of_zero_le h0
 have hn : n < b.length := by omega
 rw [geti_lt' hn]
 exact Ret.pure (List.getElem_mem hn)
theorem iquo_ret {a n : Int} (h0 : 0 ≤ a) (h : a ≤ 1000000000000) (hn : 1 ≤ n) : Ret (iquoO .i64 a n) (fun v => 0 ≤ v ∧ v ≤ a) := by
 obtain ⟨a, rfl⟩ := Int.eq_ofNat_of_zero_le h0
 obtain ⟨n, rfl⟩ := Int.eq_ofNat_of_zero_le (by omega : 0 ≤ n)
 rw [iquoO_nat (by omega) (by omega)]
 exact Ret.pure ⟨Int.natCast_nonneg _, Int.ofNat_le.2 (Nat.div_le_self a n)⟩
theorem xor_lt63 {a b : Nat} (ha : a < 9223372036854775808) (hb : b < 9223372036854775808) : a ^^^ b < 9223372036854775808 := by
 have := @Nat.xor_lt_two_pow a b 63 (by omega) (by omega)
 omega
theorem ixor_nonneg {a b : Int} (ha : 0 ≤ a) (ha2 : a < 9223372036854775808) (hb : 0 ≤ b) (hb2 : b < 9223372036854775808) : 0 ≤ ixor .i64 a b := by
 obtain ⟨a, rfl⟩ := Int.eq_ofNat_of_zero_le ha
 obtain ⟨b, rfl⟩ := Int.eq_ofNat_of_zero_le hb
 unfold ixor
 rw [BitVec.toNat_xor, toNat64 (by omega), toNat64 (by omega), wrn (xor_lt63 (by omega) (by omega))]
 omega
theorem pick_ret {b : List Int} {p n : Int} (hb : By b) (h0 : 0 ≤ p) (h1 : p ≤ 1000000) : Ret (spec_l20Rd__pickS b p n) (fun r => r.1 = p + 1 ∧ 0 ≤ r.2 ∧ (1 ≤ n → r.2 < n)) := by
 unfold spec_l20Rd__pickS
 have e1 : IntKind.wrap .i64 (p + 1) = p + 1 := wr ⟨by omega, by omega⟩
 have e2 : IntKind.wrap .i64 (p + 1 - 1) = p := by rw [wr ⟨by omega, by omega⟩]; omega
 simp only [e1, e2]
 refine Ret.ite (fun h => Ret.pure ⟨rfl, by omega, fun h => by omega⟩) (fun h => ?_)
 have hn : 1 ≤ n ∧ 0 < b.length := by
  simp only [Bool.or_eq_false_iff, decide_eq_false_iff_not, beq_eq_false_iff_ne] at h
  omega
 obtain ⟨hn, hl⟩ := hn
 refine Ret.ite (fun h => ?_) (fun h => ?_)
 ·refine Ret.bind (geti_ret h0 (of_decide_eq_true h)) (fun v hv => ?_)
  have hv := hb.2 v hv
  rw [wr (x := v) ⟨by omega, by omega⟩]
  refine Ret.bind (irem_ret hv.1 hn) (fun u hu => ?_)
  exact Ret.pure ⟨rfl, hu.1, fun _ => hu.2.1⟩
 ·have hlen : (1 : Int) ≤ (b.length : Int) := by omega
  have hlen2 : (b.length : Int) ≤ 2000 := by have := hb.1; omega
  refine Ret.bind (irem_ret h0 hlen) (fun k hk => ?_)
  refine Ret.bind (geti_ret hk.1 hk.2.1) (fun v hv => ?_)
  have hv := hb.2 v hv
  rw [wr (x := p * 7) ⟨by omega, by omega⟩, wr (x := p * 7 + 3) ⟨by omega, by omega⟩]
  refine Ret.bind (irem_ret (by omega) hlen) (fun k2 hk2 => ?_)
  refine Ret.bind (geti_ret hk2.1 hk2.2.1) (fun v2 hv2 => ?_)
  have hv2 := hb.2 v2 hv2
  rw [wr (x := v) ⟨by omega, by omega⟩, wr (x := v2) ⟨by omega, by omega⟩, wr (x := v * 131) ⟨by omega, by omega⟩, wr (x := v2 * 1117) ⟨by omega, by omega⟩, wr (x := v * 131 + v2 * 1117) ⟨by omega, by omega⟩, wr (x := p * 29) ⟨by omega, by omega⟩, wr (x := v * 131 + v2 * 1117 + p * 29) ⟨by omega, by omega⟩]
  refine Ret.bind (Ret.pure (Q := fun z => 0 ≤ z ∧ z ≤ 100000000) ⟨by omega, by omega⟩) (fun z hz => ?_)
  refine Ret.bind (iquo_ret h0 (by omega) hlen) (fun q hq => ?_)
  rw [wr (x := q * 53) ⟨by omega, by omega⟩, wr (x := z + q * 53) ⟨by omega, by omega⟩]
  have hd : Int.tdiv (z + q * 53) 64 = (z + q * 53) / 64 := Int.tdiv_eq_ediv_of_nonneg (by omega)
  rw [hd, wr (x := (z + q * 53) / 64) ⟨by omega, by omega⟩]
  refine Ret.bind (Ret.pure (Q := fun z => 0 ≤ z) (ixor_nonneg (by omega) (by omega) (by omega) (by omega))) (fun y hy => ?_)
  refine Ret.bind (irem_ret hy hn) (fun u hu => ?_)
  exact Ret.pure ⟨rfl, hu.1, fun _ => hu.2.1⟩
theorem odd_ret {b : List Int} {p n : Int} (hb : By b) (h0 : 0 ≤ p) (h1 : p ≤ 1000000) : Ret (spec_l20Rd__oddS b p n) (fun r => p ≤ r.1 ∧ r.1 ≤ p + 1) := by
 unfold spec_l20Rd__oddS
 refine Ret.bind (Q := fun r => p ≤ r.1 ∧ r.1 ≤ p + 1) ?_ (fun r hr => Ret.pure hr)
 refine Ret.ite (fun h => ?_) (fun h => Ret.pure ⟨by omega, by omega⟩)
 refine Ret.bind (pick_ret hb h0 h1) (fun r hr => Ret.pure ⟨?_, ?_⟩)
 ·show p ≤ r.1; omega
 ·show r.1 ≤ p + 1; omega
end Go.Proofs.YtkhnponakhabdaaGreatDoor
