/- Slices that are owned through and through: elements that bear slices of their own. Own work, over any program. -/
import Derived.Test.YthofjabphcheeaaDoorRany
import Derived.Maps.AppendAt
set_option linter.unusedVariables false
namespace Go.Proofs.YthofjabphcheeaaDoor
open Go Go.RowKit
variable {P : Program}
inductive DT where
  | leaf (t : Ty)
  | sl (e : TypeId) (d : DT)
  | pair (a b : DT)
theorem SitAll.app_inv {w : World} : ∀ {L1 L2 : List (Res × List Nat)}, SitAll w (L1 ++ L2) → SitAll w L1 ∧ SitAll w L2
  | [], _, h => ⟨trivial, h⟩
  | f :: L1, L2, ⟨h1, h2⟩ => ⟨⟨h1, (SitAll.app_inv h2).1⟩, (SitAll.app_inv h2).2⟩
theorem ApartL.app_inv {L1 L2 : List (Res × List Nat)} (h : ApartL (L1 ++ L2)) : ApartL L1 ∧ ApartL L2 ∧ ∀ f ∈ L1, ∀ g ∈ L2, Ap f g := by
  obtain ⟨h1, h2⟩ := h
  obtain ⟨h3, h4, h5⟩ := List.pairwise_append.1 h1
  exact ⟨⟨h3, fun f hf => h2 f (List.mem_append_left _ hf)⟩, ⟨h4, fun f hf => h2 f (List.mem_append_right _ hf)⟩, h5⟩
theorem mem_flat_own {L : List (Res × List Nat)} {Rs : List Res} (h : L.map (·.1) = Rs) {k : Nat} : k ∈ Rs.flatMap Res.own ↔ ∃ f ∈ L, k ∈ f.1.own := by
  subst h
  simp only [List.mem_flatMap, List.mem_map]
  constructor
  · rintro ⟨R, ⟨f, hf, rfl⟩, hk⟩; exact ⟨f, hf, hk⟩
  · rintro ⟨f, hf, hk⟩; exact ⟨f.1, ⟨f, hf, rfl⟩, hk⟩
end Go.Proofs.YthofjabphcheeaaDoor
