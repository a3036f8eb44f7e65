/- Two loops whose steps agree under an invariant. Own work; no program in sight. -/
import Derived.Test.YtidhmbmollkhdaaDoorSeat
set_option linter.unusedVariables false
namespace Go.Proofs.YtidhmbmollkhdaaDoor
open Go Go.RowKit
theorem loop_congr {σ ρ : Type} {f g : σ → Option (σ ⊕ ρ)} {s : σ} (I : σ → Prop) (μ : σ → Nat) (h0 : I s)
    (hs : ∀ s, I s → f s = g s ∧ Ret (g s) (fun o => match o with | .inl s' => I s' ∧ μ s' < μ s | .inr _ => True)) :
    ∃ r, loop (σ := σ) (ρ := ρ) f s = some r ∧ loop (σ := σ) (ρ := ρ) g s = some r := by
  have key : ∀ n s, μ s < n → I s → ∃ r, Proofs.YtidhmbmollkhdaaDoor.loop f s = some r ∧ Proofs.YtidhmbmollkhdaaDoor.loop g s = some r := by
    intro n
    induction n with
    | zero => intro s h; omega
    | succ n ih =>
      intro s hlt hI
      obtain ⟨he, o, h1, h2⟩ := hs s hI
      rw [loop_eq, loop_eq, he, h1]
      cases o with
      | inl s' => exact ih s' (by have := h2.2; omega) h2.1
      | inr r => exact ⟨r, rfl, rfl⟩
  exact key (μ s + 1) s (by omega) h0
theorem dishesMany_eq (d : Nat) (hd : d < 9223372036854775808) : impl_DishesManyS (d : Int) = some ((pc d : Nat) : Int) := by
  unfold impl_DishesManyS
  rw [if_neg (by simp), wu (by omega), onesCount_eq d (by omega)]; rfl
theorem loop_congr2 {σ ρ : Type} {f g : σ → Option (σ ⊕ ρ)} {s : σ} (I : σ → Prop) (μ : σ → Nat) (h0 : I s)
    (hs : ∀ s, I s → f s = g s ∧ Ret (g s) (fun o => match o with | .inl s' => I s' ∧ μ s' < μ s | .inr _ => True)) :
    ∃ r, (loop (σ := σ) (ρ := ρ) f s).bind (fun r => some r) = some r ∧ (loop (σ := σ) (ρ := ρ) g s).bind (fun r => some r) = some r := by
  obtain ⟨r, h1, h2⟩ := loop_congr I μ h0 hs
  exact ⟨r, by rw [h1]; rfl, by rw [h2]; rfl⟩
theorem dishesLeast_eq (g : Int) (m : List Int) (h : m.length ≤ 4611686018427387904) : ∃ r, spec_DishesLeastS g m = some r ∧ impl_DishesLeastS g m = some r := by
  unfold spec_DishesLeastS impl_DishesLeastS
  rw [implMenuValid_eq g m h, Option.bind_some]
  by_cases hm : MenuOk g m
  · have hl : m.length ≤ 6 := hm.2.2.1
    have hp : 2 ^ m.length ≤ 64 := Nat.pow_le_pow_right (n := 2) (by omega) hl
    have hsh : ishlO .i64 1 (m.length : Int) = some ((2 ^ m.length : Nat) : Int) := ishlO_nat (by omega)
    rw [decide_eq_true hm, if_neg (by simp)]
    simp only [hsh, Option.bind_some, specMenuValid_eq g m h, decide_eq_true hm, specFeedsAll_eq g m _ h, implFeedsAll_eq g m _ h]
    refine loop_congr2 (σ := Int × Int) (ρ := Int) (fun s => ∃ k : Nat, s.2 = (k : Int) ∧ k ≤ 64 ∧ (s.1 = -1 ∨ ∃ b : Nat, s.1 = (b : Int) ∧ b < 64)) (fun s => 64 - s.2.toNat) ⟨0, rfl, by omega, Or.inl rfl⟩ ?_
    · rintro ⟨b0, k0⟩ ⟨k, hk, hk6, hb⟩
      simp only at hk hb
      subst hk
      by_cases hlt : k < 2 ^ m.length
      · have hlt' : decide ((k : Int) < ((2 ^ m.length : Nat) : Int)) = true := by simp only [decide_eq_true_eq]; omega
        have hms : 64 - (((k + 1 : Nat) : Int)).toNat < 64 - ((k : Int)).toNat := by simp; omega
        simp only [hlt', if_true, Option.bind_some, wr_succ (n := 64) (k := k) (by omega) (by omega)]
        cases hf : feedsAll g m (k : Int)
        · exact ⟨by simp, Ret.pure ⟨⟨k + 1, rfl, by omega, hb⟩, hms⟩⟩
        · rcases hb with rfl | ⟨b, rfl, hb6⟩
          · exact ⟨by simp, Ret.pure ⟨⟨k + 1, rfl, by omega, Or.inr ⟨k, rfl, by omega⟩⟩, hms⟩⟩
          · have hnb : decide (((b : Nat) : Int) < 0) = false := by simp only [decide_eq_false_iff_not]; omega
            rw [count_eq k (by omega), count_eq b (by omega), dishesMany_eq k (by omega), dishesMany_eq b (by omega), hnb]
            simp only [Option.bind_some, if_true, Bool.false_eq_true, if_false, Bool.not_true]
            cases decide (((pc k : Nat) : Int) < ((pc b : Nat) : Int))
            · exact ⟨by simp, Ret.pure ⟨⟨k + 1, rfl, by omega, Or.inr ⟨b, rfl, hb6⟩⟩, hms⟩⟩
            · exact ⟨by simp, Ret.pure ⟨⟨k + 1, rfl, by omega, Or.inr ⟨k, rfl, by omega⟩⟩, hms⟩⟩
      · have hlt' : decide ((k : Int) < ((2 ^ m.length : Nat) : Int)) = false := by simp only [decide_eq_false_iff_not]; omega
        simp only [hlt', Bool.false_eq_true, if_false, Option.bind_some]
        exact ⟨by simp, Ret.pure trivial⟩
  · rw [decide_eq_false hm, if_pos (by simp)]
    refine ⟨-1, ?_, rfl⟩
    apply Ret.eq
    refine Ret.loopb (fun s => s = (-1, 0)) (fun _ => 0) (fun r => r = -1) rfl ?_ (fun r hr => Ret.pure hr)
    rintro s rfl
    simp only [ishlO, specMenuValid_eq g m h, decide_eq_false hm, Option.bind_some]
    rw [if_neg (by simp), Option.bind_some]
    cases decide (0 < ishl IntKind.i64 1 (m.length : Int)) <;> exact Ret.pure rfl
end Go.Proofs.YtidhmbmollkhdaaDoor
