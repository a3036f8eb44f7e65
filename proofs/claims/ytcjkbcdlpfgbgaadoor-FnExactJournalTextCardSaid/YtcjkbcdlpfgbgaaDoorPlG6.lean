/- Chapter 6: what the shallow functions come to. Own work; no program in sight. -/
import Derived.Test.YtcjkbcdlpfgbgaaDoorShX7D
import Derived.Test.YtcjkbcdlpfgbgaaDoorPl
set_option linter.unusedVariables false
namespace Go.Proofs.YtcjkbcdlpfgbgaaDoor
open Go Go.RowKit
theorem l1In_eq (a b c : Int) : spec_l1InS a b c = some (decide (b ≤ a ∧ a ≤ c)) := by
  unfold spec_l1InS; simp
/-- is it a menu? -/
def MenuOk (g : Int) (m : List Int) : Prop := 0 ≤ g ∧ g ≤ 6 ∧ m.length ≤ 6 ∧ ∀ x ∈ m, 0 ≤ x ∧ x ≤ 2 ^ g.toNat - 1
instance (g : Int) (m : List Int) : Decidable (MenuOk g m) := by unfold MenuOk; infer_instance
theorem ishl_one {g : Int} (h0 : 0 ≤ g) (h : g ≤ 60) : ishl .i64 1 g = 2 ^ g.toNat ∧ (1 : Int) ≤ 2 ^ g.toNat ∧ (2 : Int) ^ g.toNat ≤ 1152921504606846976 := by
  obtain ⟨n, rfl⟩ := Int.eq_ofNat_of_zero_le h0
  have hn : n ≤ 60 := by omega
  have h1 : (2 : Int) ^ n ≤ 2 ^ 60 := by exact_mod_cast Nat.pow_le_pow_right (by omega) hn
  have h2 : (1 : Int) ≤ 2 ^ n := by exact_mod_cast Nat.one_le_two_pow
  have h3 : (2 : Int) ^ 60 = 1152921504606846976 := by decide
  refine ⟨?_, by simpa using h2, by simpa [h3] using h1⟩
  unfold ishl
  simp only [Int.toNat_natCast, Int.one_mul, IntKind.bits]
  rw [Nat.min_eq_left (by omega), wr ⟨by omega, by omega⟩]
end Go.Proofs.YtcjkbcdlpfgbgaaDoor
