/- What the laws of texts and journals draw. Own work; no program in sight. -/
import Derived.Test.YtkhnponakhabdaaGreatDoorMEq
import Derived.Test.YtkhnponakhabdaaGreatDoorRound
set_option linter.unusedVariables false
namespace Go.Proofs.YtkhnponakhabdaaGreatDoor
open Go Go.RowKit
theorem geti_anyT {α : Type} {b : List α} {k : Int} (h0 : 0 ≤ k) (h1 : k < (b.length : Int)) : Ret (geti b k) (fun v => v ∈ b) := by
 obtain ⟨n, rfl⟩ := Int.eq_ofNat_of_zero_le h0
 have hn : n < b.length := by omega
 rw [geti_lt' hn]
 exact Ret.pure (List.getElem_mem hn)
theorem sub_le {s : List UInt8} {i j : Int} (h0 : 0 ≤ i) (h1 : i ≤ j) (h2 : j ≤ (s.length : Int)) : ∃ t, subO s i j = some t ∧ t.length ≤ s.length := by
 unfold subO
 rw [if_pos (by simp; omega)]
 exact ⟨_, rfl, by simp; omega⟩
theorem spoil_ret {b : List Int} {p : Int} (hb : By b) (h0 : 0 ≤ p) (h1 : p ≤ 900000) {s : List UInt8} (hs : s.length ≤ 10000) : Ret (spec_l20SpoilS b p s) (fun r => p ≤ r.1 ∧ r.1 ≤ p + 2 ∧ r.2.length ≤ 2 * s.length + 3) := by
 unfold spec_l20SpoilS
 refine Ret.ite (fun h => Ret.pure ⟨by show p ≤ p; omega, by show p ≤ p + 2; omega, by simp⟩) (fun h => ?_)
 have hl : 0 < s.length := by
  rw [beq_eq_false_iff_ne] at h; omega
 refine Ret.bind (pick_ret hb h0 (by omega)) (fun r hr => ?_)
 have hk := hr.2.2 (by omega)
 obtain ⟨t, ht, htl⟩ := sub_le (s := s) (i := 0) (j := r.2) (Int.le_refl 0) hr.2.1 (by omega)
 rw [ht, Option.bind_some]
 refine Ret.bind (pick_ret hb (by omega) (by omega)) (fun r2 hr2 => ?_)
 have h6 := hr2.2.2 (by omega)
 refine Ret.bind (geti_anyT hr2.2.1 (by simp; omega)) (fun y hy => ?_)
 have hy3 : y.length ≤ 3 := by
  simp only [List.mem_cons, List.not_mem_nil, or_false] at hy
  rcases hy with rfl | rfl | rfl | rfl | rfl | rfl <;> simp
 obtain ⟨u, hu, hul⟩ := sub_le (s := s) (i := r.2 + 1) (j := (s.length : Int)) (by omega) (by omega) (by omega)
 rw [strAdd_le (by omega), Option.bind_some, wr (x := r.2 + 1) ⟨by omega, by omega⟩, hu, Option.bind_some, strAdd_le (by simp; omega), Option.bind_some]
 exact Ret.pure ⟨by show p ≤ r2.1; omega, by show r2.1 ≤ p + 2; omega, by simp; omega⟩
theorem sameDeeds_self (xs : List HDeed) (h : xs.length ≤ 4611686018427387904) : laws_sameDeedsS xs xs = some true := by
 unfold laws_sameDeedsS
 rw [if_neg (by simp), loopList xs (fun _ _ => true)]
 ·rw [show allI xs (fun _ _ => true) = true from allI_true.2 fun _ _ => rfl]; rfl
 ·intro k hk
  (try dsimp only)
  rw [if_pos (lt_dec hk), geti_lt' hk, Option.bind_some, Option.bind_some, if_neg (by simp), wr_succ h hk]
  rfl
 ·(try dsimp only)
  rw [if_neg (by simp)]
theorem deeds_ret {b : List Int} {p : Int} (hb : By b) (h0 : 0 ≤ p) (h1 : p ≤ 10000) {it : List HItem} {pr st : List Int} {cash : Int} {tb : List HTab} (hL : HouseL it pr st tb) : Ret (spec_l20HouseDeedsS b p it pr st cash tb) (fun r => p ≤ r.1 ∧ r.1 ≤ p + 1000 ∧ r.2.length ≤ 14) := by
 unfold spec_l20HouseDeedsS
 refine Ret.bind (pick_ret hb h0 (by omega)) (fun r hr => ?_)
 have h14 := hr.2.2 (by omega)
 refine Ret.loopb (fun s => 0 ≤ s.2.1 ∧ s.2.1 ≤ 14 ∧ (s.1.length : Int) + s.2.1 ≤ 14 ∧ p + 1 ≤ s.2.2.1 ∧ s.2.2.1 ≤ p + 1 + 10 * (14 - s.2.1) ∧ HouseL s.2.2.2.1 s.2.2.2.2.1 s.2.2.2.2.2.1 s.2.2.2.2.2.2.2) (fun s => s.2.1.toNat) (fun o => p ≤ o.2.1 ∧ o.2.1 ≤ p + 1000 ∧ o.1.length ≤ 14) ⟨hr.2.1, by show r.2 ≤ 14; omega, by show ((0 : Nat) : Int) + r.2 ≤ 14; omega, by show p + 1 ≤ r.1; omega, by show r.1 ≤ p + 1 + 10 * (14 - r.2); omega, hL⟩ ?_ (fun o ho => ?_)
 ·rintro ⟨out, k, q, it, pr, st, cash, tb⟩ ⟨d1, d2, d3, d4, d5, d6⟩
  dsimp only at d1 d2 d3 d4 d5 d6 ⊢
  refine Ret.ite (fun h => ?_) (fun h => Ret.pure ⟨by show p ≤ q; omega, by show q ≤ p + 1000; omega, by show out.length ≤ 14; omega⟩)
  have hk := of_decide_eq_true h
  refine Ret.bind (deed_ret hb (by omega) (by omega) it pr st cash tb) (fun r7 hr7 => ?_)
  have hDL := doZ_L (cash := cash) d6 r7.2.1 r7.2.2.1 r7.2.2.2.1 r7.2.2.2.2
  rw [specDo_eq d6, Option.bind_some, wr (x := k - 1) ⟨by omega, by omega⟩]
  refine Ret.bind (Q := fun h : HH => HouseL h.1 h.2.1 h.2.2.1 h.2.2.2.2) ?_ (fun h hh => ?_)
  ·exact Ret.ite (fun _ => Ret.pure hDL) (fun _ => Ret.pure d6)
  ·obtain ⟨it2, pr2, st2, c2, tb2⟩ := h
   dsimp only
   rw [appO_le (by simp; omega), Option.bind_some]
   exact Ret.pure ⟨⟨by show 0 ≤ k - 1; omega, by show k - 1 ≤ 14; omega, by simp; omega, by have := hr7.1; show p + 1 ≤ r7.1; omega, by have := hr7.2; show r7.1 ≤ p + 1 + 10 * (14 - (k - 1)); omega, hh⟩, by show (k - 1).toNat < k.toNat; omega⟩
 ·obtain ⟨out, q, it, pr, st, cash, tb⟩ := o
  exact Ret.pure ho
theorem written_ret {b : List Int} {p : Int} (hb : By b) (h0 : 0 ≤ p) (h1 : p ≤ 1000) : Ret (spec_l20WrittenS b p) (fun r => p ≤ r.1 ∧ r.1 ≤ p + 3000 ∧ r.2.2.length ≤ 14) := by
 unfold spec_l20WrittenS
 refine Ret.bind (house_ret hb h0 (by omega)) (fun h hh => ?_)
 refine Ret.bind (deeds_ret hb (by omega) (by omega) hh.2.2.1) (fun r hr => ?_)
 have hr14 := hr.2.2
 refine Ret.loopb (fun s => 0 ≤ s.2 ∧ s.2 ≤ (r.2.length : Int) ∧ (s.1.length : Int) ≤ s.2) (fun s => ((r.2.length : Int) - s.2).toNat) (fun o => o.length ≤ 14) ⟨by show (0 : Int) ≤ 0; omega, by show (0 : Int) ≤ _; omega, by show ((0 : Nat) : Int) ≤ 0; omega⟩ ?_ (fun o ho => ?_)
 ·rintro ⟨out, k⟩ ⟨a1, a2, a3⟩
  dsimp only at a1 a2 a3 ⊢
  refine Ret.ite (fun h => ?_) (fun h => Ret.pure (by omega))
  have hk := of_decide_eq_true h
  have hw : IntKind.wrap .i64 (k + 1) = k + 1 := wr ⟨by omega, by omega⟩
  refine Ret.bind (geti_anyT a1 hk) (fun d _ => ?_)
  rw [specDeed_eq, Option.bind_some]
  refine Ret.ite (fun _ => ?_) (fun _ => ?_)
  ·refine Ret.bind (geti_anyT a1 hk) (fun d2 _ => ?_)
   rw [appO_le (by simp; omega), Option.bind_some, hw]
   exact Ret.pure ⟨⟨by show 0 ≤ k + 1; omega, by show k + 1 ≤ _; omega, by simp; omega⟩, by show ((r.2.length : Int) - (k + 1)).toNat < ((r.2.length : Int) - k).toNat; omega⟩
  ·rw [hw]
   exact Ret.pure ⟨⟨by show 0 ≤ k + 1; omega, by show k + 1 ≤ _; omega, by show (out.length : Int) ≤ k + 1; omega⟩, by show ((r.2.length : Int) - (k + 1)).toNat < ((r.2.length : Int) - k).toNat; omega⟩
 ·exact Ret.pure ⟨by show p ≤ r.1; have := hr.1; omega, by show r.1 ≤ p + 3000; have := hr.2.1; omega, ho⟩
theorem flatT_len : ∀ ds : List HDeed, (flatT ds).length ≤ 18 * ds.length
 | [] => by simp [flatT]
 | d :: ds => by
  have := flatT_len ds
  have := dText_len d
  simp [flatT]; omega
end Go.Proofs.YtkhnponakhabdaaGreatDoor
