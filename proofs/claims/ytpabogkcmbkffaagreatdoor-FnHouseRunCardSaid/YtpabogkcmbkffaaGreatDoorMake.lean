/- A run of the kitchen's plan. Own work; no program in sight. -/
import Derived.Test.YtpabogkcmbkffaaGreatDoorTick
set_option linter.unusedVariables false
namespace Go.Proofs.YtpabogkcmbkffaaGreatDoor
open Go Go.RowKit
theorem loop_both {σ ρ β : Type} {f g : σ → Option (σ ⊕ ρ)} {s : σ} {F G : ρ → Option β} {Q : β → Prop} (I : σ → Prop) (μ : σ → Nat) (R : ρ → Prop) (h0 : I s)
    (hs : ∀ s, I s → ∃ o, f s = some o ∧ g s = some o ∧ (match o with | .inl s' => I s' ∧ μ s' < μ s | .inr r => R r))
    (hF : ∀ r, R r → ∃ v, F r = some v ∧ G r = some v ∧ Q v) : ∃ v, (loop (σ := σ) (ρ := ρ) f s).bind F = some v ∧ (loop (σ := σ) (ρ := ρ) g s).bind G = some v ∧ Q v := by
  have key : ∀ n s, μ s < n → I s → ∃ r, Proofs.YtpabogkcmbkffaaGreatDoor.loop f s = some r ∧ Proofs.YtpabogkcmbkffaaGreatDoor.loop g s = some r ∧ R r := by
    intro n
    induction n with
    | zero => intro s h; omega
    | succ n ih =>
      intro s hlt hI
      obtain ⟨o, h1, h2, h3⟩ := hs s hI
      rw [loop_eq, loop_eq, h1, h2]
      cases o with
      | inl s' => exact ih s' (by have := h3.2; omega) h3.1
      | inr r => exact ⟨r, rfl, rfl, h3⟩
  obtain ⟨r, h1, h2, h3⟩ := key (μ s + 1) s (by omega) h0
  obtain ⟨v, h4, h5, h6⟩ := hF r h3
  exact ⟨v, by rw [h1]; exact h4, by rw [h2]; exact h5, h6⟩
theorem copyInts_id (ps : List Int) (h : ps.length ≤ 1048576) : impl_copyIntsS ps = some ps := by
  unfold impl_copyIntsS
  by_cases h0 : ps = []
  · subst h0; rfl
  · rw [if_neg (by simpa using h0), mkO_nat _ (by omega), Option.bind_some]
    simp
theorem amounts_len {xs : List HItem} {m : Int} {ps : List Int} (h : amountsB xs m ps = true) : ps.length = xs.length ∧ ∀ x ∈ ps, 0 ≤ x ∧ x ≤ m := by
  unfold amountsB rangeB at h
  rw [Bool.and_eq_true, decide_eq_true_eq, beq_iff_eq] at h
  exact ⟨by omega, h.1⟩
theorem amounts_of {xs : List HItem} {m : Int} {ps : List Int} (h1 : ps.length = xs.length) (h2 : ∀ x ∈ ps, 0 ≤ x ∧ x ≤ m) : amountsB xs m ps = true := by
  unfold amountsB rangeB
  rw [Bool.and_eq_true, decide_eq_true_eq, beq_iff_eq]
  exact ⟨h2, by omega⟩
theorem makeRun_eq {xs : List HItem} {st plan : List Int} (h : ItemsL xs) (hI : itemsB xs = true) (hs : amountsB xs 50 st = true) (hp : amountsB xs 9999999 plan = true) :
    ∃ r : List Int × Bool, spec_MakeRunS xs st plan [] = some r ∧ impl_MakeRunS xs st plan [] = some r ∧ (r.2 = true → r.1.length = xs.length) := by
  have hn := itemsB_len hI
  obtain ⟨hsl, hsr⟩ := amounts_len hs
  obtain ⟨hpl, hpr⟩ := amounts_len hp
  unfold spec_MakeRunS impl_MakeRunS
  rw [specItems_eq h, implItems_eq h, hI, Option.bind_some, Option.bind_some, if_neg (by simp), if_neg (by simp), specAmounts_eq xs st (by omega), implAmounts_eq xs 50 st (by omega), implAmounts_eq xs 9999999 plan (by omega), hs, hp]
  dsimp only [Option.bind_some]
  rw [if_neg (by simp; omega), appO_le (by simp; omega), List.nil_append]
  simp only [Option.bind_some, Bool.not_true, Bool.false_eq_true, if_false]
  rw [copyInts_id st (by omega), Option.bind_some]
  have hI0 : (0 : Int) ≤ 0 ∧ (0 : Int) ≤ (xs.length : Int) ∧ st.length = xs.length := ⟨by omega, by omega, hsl⟩
  refine loop_both (fun s : Int × List Int => 0 ≤ s.1 ∧ s.1 ≤ (xs.length : Int) ∧ s.2.length = xs.length) (fun s => ((xs.length : Int) - s.1).toNat)
    (fun o => match o with | .inl l => l.length = xs.length | .inr (_, b, _) => b = false) hI0 ?_ ?_
  · rintro ⟨i, l⟩ ⟨hi0, hi1, hl⟩
    replace hi0 : 0 ≤ i := hi0
    replace hi1 : i ≤ (xs.length : Int) := hi1
    replace hl : l.length = xs.length := hl
    show ∃ o, (if decide (i < (xs.length : Int)) = true then _ else _) = some o ∧ (if decide (i < (xs.length : Int)) = true then _ else _) = some o ∧ _
    by_cases hi : i < (xs.length : Int)
    · obtain ⟨k, rfl, hk⟩ := in_nat ⟨hi0, hi⟩
      have hkp : k < plan.length := by omega
      have hpk := hpr _ (List.getElem_mem hkp)
      have hpart := itemsB_part hI hk
      have hmin : 0 ≤ xs[k].1 ∧ xs[k].1 ≤ 6 := by
        have := itemsB_at hI hk
        unfold itemB at this
        simp only [Bool.and_eq_true, decide_eq_true_eq] at this
        exact this.1.1.1.1
      have hml := h.2 _ (List.getElem_mem hk)
      rw [if_pos (decide_eq_true hi), if_pos (decide_eq_true hi), geti_lt' hkp, geti_lt' hk, Option.bind_some, Option.bind_some, l1In_eq, Option.bind_some, decide_eq_true hpk]
      simp only [Bool.not_true, Bool.false_eq_true, if_false]
      refine loop_both (fun s : Int × List Int => 0 ≤ s.1 ∧ s.1 ≤ (xs[k].2.1.length : Int) ∧ s.2.length = xs.length) (fun s => ((xs[k].2.1.length : Int) - s.1).toNat)
        (fun o => match o with | .inl l => l.length = xs.length | .inr (_, b, _) => b = false) ⟨by omega, by simp, hl⟩ ?_ ?_
      · rintro ⟨j, m⟩ ⟨hj0, hj1, hm⟩
        replace hj0 : 0 ≤ j := hj0
        replace hj1 : j ≤ (xs[k].2.1.length : Int) := hj1
        replace hm : m.length = xs.length := hm
        show ∃ o, (Option.bind _ _) = some o ∧ (if decide (j < (xs[k].2.1.length : Int)) = true then _ else _) = some o ∧ _
        rw [Option.bind_some]
        by_cases hj : j < (xs[k].2.1.length : Int)
        · obtain ⟨q, rfl, hq⟩ := in_nat ⟨hj0, hj⟩
          have hy := hpart _ (List.getElem_mem hq)
          obtain ⟨y, hye, hyk⟩ : ∃ y : Nat, xs[k].2.1[q].1 = (y : Int) ∧ y < k := ⟨xs[k].2.1[q].1.toNat, by omega, by omega⟩
          rw [if_pos (decide_eq_true hj), if_pos (decide_eq_true hj), geti_lt' hq]
          simp only [Option.bind_some]
          rw [geti_lt' (show q < xs[k].2.1.length from hq)]
          simp only [Option.bind_some, hye]
          have hym : y < m.length := by omega
          rw [geti_lt' hym]
          simp only [Option.bind_some]
          rw [geti_lt' (show y < (List.set m (Int.toNat (y : Int)) (IntKind.wrap .i64 (m[y] - IntKind.wrap .i64 (plan[k] * xs[k].2.1[q].2)))).length by rw [List.length_set]; exact hym)]
          simp only [Option.bind_some]
          split
          · exact ⟨_, rfl, rfl, rfl⟩
          · have hw := wr_succ (n := xs[k].2.1.length) (by omega) hq
            refine ⟨_, rfl, rfl, ⟨?_, ?_, ?_⟩, ?_⟩
            · show 0 ≤ IntKind.wrap .i64 ((q : Int) + 1)
              omega
            · show IntKind.wrap .i64 ((q : Int) + 1) ≤ _
              omega
            · show (List.set _ _ _).length = _
              rw [List.length_set]; exact hm
            · show ((xs[k].2.1.length : Int) - IntKind.wrap .i64 ((q : Int) + 1)).toNat < ((xs[k].2.1.length : Int) - (q : Int)).toNat
              omega
        · rw [if_neg (by simpa using hj), if_neg (by simpa using hj)]
          exact ⟨_, rfl, rfl, hm⟩
      · rintro (m | ⟨a, b, c⟩) hR
        · dsimp only at hR ⊢
          have hkm : k < m.length := by omega
          rw [geti_lt' hkm]
          simp only [Option.bind_some]
          unfold impl_runMakesS
          have hmx : (if 1 > xs[k].1 then (1 : Int) else xs[k].1) = if (xs[k].1 == 0) = true then 1 else xs[k].1 := by
            by_cases h0 : xs[k].1 = 0
            · rw [h0]; rfl
            · rw [if_neg (by omega), if_neg (by simpa using h0)]
          rw [hmx]
          refine ⟨_, rfl, ?_, ?_⟩
          · split <;> rfl
          · have hw := wr_succ (n := xs.length) (by omega) hk
            refine ⟨⟨?_, ?_, ?_⟩, ?_⟩
            · show 0 ≤ IntKind.wrap .i64 ((k : Int) + 1)
              omega
            · show IntKind.wrap .i64 ((k : Int) + 1) ≤ _
              omega
            · show (List.set _ _ _).length = _
              rw [List.length_set]; exact hR
            · show ((xs.length : Int) - IntKind.wrap .i64 ((k : Int) + 1)).toNat < ((xs.length : Int) - (k : Int)).toNat
              omega
        · exact ⟨_, rfl, rfl, hR⟩
    · rw [if_neg (by simpa using hi), if_neg (by simpa using hi)]
      exact ⟨_, rfl, rfl, hl⟩
  · rintro (m | ⟨a, b, c⟩) hR
    · exact ⟨_, rfl, rfl, fun _ => hR⟩
    · exact ⟨_, rfl, rfl, fun hb => by dsimp only at hR hb; rw [hR] at hb; cases hb⟩
end Go.Proofs.YtpabogkcmbkffaaGreatDoor
