/- Two loops whose steps agree under an invariant. Own work; no program in sight. -/
import Derived.Test.YtcjkbcdlpfgbgaaSeat
set_option linter.unusedVariables false
namespace Go.Proofs.Ytcjkbcdlpfgbgaa
open Go Go.RowKit
theorem loop_congr {σ ρ : Type} {f g : σ → Option (σ ⊕ ρ)} {s : σ} (I : σ → Prop) (μ : σ → Nat) (h0 : I s)
    (hs : ∀ s, I s → f s = g s ∧ Ret (g s) (fun o => match o with | .inl s' => I s' ∧ μ s' < μ s | .inr _ => True)) :
    ∃ r, loop (σ := σ) (ρ := ρ) f s = some r ∧ loop (σ := σ) (ρ := ρ) g s = some r := by
  have key : ∀ n s, μ s < n → I s → ∃ r, Proofs.Ytcjkbcdlpfgbgaa.loop f s = some r ∧ Proofs.Ytcjkbcdlpfgbgaa.loop g s = some r := by
    intro n
    induction n with
    | zero => intro s h; omega
    | succ n ih =>
      intro s hlt hI
      obtain ⟨he, o, h1, h2⟩ := hs s hI
      rw [loop_eq, loop_eq, he, h1]
      cases o with
      | inl s' => exact ih s' (by have := h2.2; omega) h2.1
      | inr r => exact ⟨r, rfl, rfl⟩
  exact key (μ s + 1) s (by omega) h0
theorem loop_congr2 {σ ρ : Type} {f g : σ → Option (σ ⊕ ρ)} {s : σ} (I : σ → Prop) (μ : σ → Nat) (h0 : I s)
    (hs : ∀ s, I s → f s = g s ∧ Ret (g s) (fun o => match o with | .inl s' => I s' ∧ μ s' < μ s | .inr _ => True)) :
    ∃ r, (loop (σ := σ) (ρ := ρ) f s).bind (fun r => some r) = some r ∧ (loop (σ := σ) (ρ := ρ) g s).bind (fun r => some r) = some r := by
  obtain ⟨r, h1, h2⟩ := loop_congr I μ h0 hs
  exact ⟨r, by rw [h1]; rfl, by rw [h2]; rfl⟩
end Go.Proofs.Ytcjkbcdlpfgbgaa
