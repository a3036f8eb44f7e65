/- Values in memory: a universe of types, what cells stand for a value, and the laws of the quiet operations. Own work, over any program. -/
import Derived.Test.YtcjkbcdlpfgbgaaBase
set_option linter.unusedVariables false
namespace Go.Proofs.Ytcjkbcdlpfgbgaa
open Go Go.RowKit
variable {P : Program}

/-! ### Types and values -/
inductive Ty where
  | int (k : IntKind) | bool | str | slice (t : Ty) | pair (a b : Ty)
@[reducible] def Ty.den : Ty → Type
  | .int _ => Int
  | .bool => Bool
  | .str => List UInt8
  | .slice t => List t.den
  | .pair a b => a.den × b.den
def Ty.size : Ty → Nat
  | .pair a b => a.size + b.size
  | _ => 1
abbrev i64 (n : Int) : Value := .int .i64 n
abbrev strV (l : List UInt8) : Value := .string ⟨l.toArray⟩
def RepL {α : Type} (R : List Value → α → List Nat → Prop) : List Value → List α → List Nat → Prop
  | cs, [], F => cs = [] ∧ F = []
  | cs, x :: xs, F => ∃ c1 c2 F1 F2, cs = c1 ++ c2 ∧ F = F1 ++ F2 ∧ R c1 x F1 ∧ RepL R c2 xs F2
def Rep (w : World) : (t : Ty) → List Value → t.den → List Nat → Prop
  | .int k, cs, x, F => cs = [.int k x] ∧ F = []
  | .bool, cs, x, F => cs = [.bool x] ∧ F = []
  | .str, cs, x, F => cs = [strV x] ∧ F = []
  | .slice t, cs, xs, F => ∃ p cap, cs = [.slice p xs.length cap] ∧ xs.length ≤ cap ∧ ((xs = [] ∧ F = []) ∨ ∃ b off bs F', xs ≠ [] ∧ p = some ⟨b, off, none⟩ ∧ F = b :: F' ∧ RepL (Rep w t) bs xs F' ∧ ∀ j u, bs[j]? = some u → w.cell? ⟨b, off + j, none⟩ = some u)
  | .pair a b, cs, x, F => ∃ c1 c2 F1 F2, cs = c1 ++ c2 ∧ F = F1 ++ F2 ∧ Rep w a c1 x.1 F1 ∧ Rep w b c2 x.2 F2
theorem RepL.imp {α : Type} {R R' : List Value → α → List Nat → Prop} : ∀ {xs : List α} {cs : List Value} {F : List Nat}, RepL R cs xs F → (∀ c x F', (∀ k ∈ F', k ∈ F) → R c x F' → R' c x F') → RepL R' cs xs F
  | [], _, _, h, _ => h
  | x :: xs, cs, F, ⟨c1, c2, F1, F2, h1, h2, h3, h4⟩, hi =>
    ⟨c1, c2, F1, F2, h1, h2, hi _ _ _ (fun k hk => by rw [h2]; exact List.mem_append_left _ hk) h3, h4.imp (fun c x F' hF hR => hi c x F' (fun k hk => by rw [h2]; exact List.mem_append_right _ (hF k hk)) hR)⟩
theorem RepL.length {α : Type} {R : List Value → α → List Nat → Prop} {s : Nat} (hs : ∀ c x F, R c x F → c.length = s) : ∀ {xs : List α} {cs : List Value} {F : List Nat}, RepL R cs xs F → cs.length = xs.length * s
  | [], _, _, h => by simp [h.1]
  | x :: xs, cs, F, ⟨c1, c2, F1, F2, h1, h2, h3, h4⟩ => by
    rw [h1, List.length_append, hs _ _ _ h3, h4.length hs, List.length_cons, Nat.add_mul]; omega
theorem Rep.length {w : World} : ∀ {t : Ty} {cs : List Value} {x : t.den} {F : List Nat}, Rep w t cs x F → cs.length = t.size
  | .int _, _, _, _, h => by simp [h.1, Ty.size]
  | .bool, _, _, _, h => by simp [h.1, Ty.size]
  | .str, _, _, _, h => by simp [h.1, Ty.size]
  | .slice _, _, _, _, ⟨p, cap, h, _⟩ => by simp [h, Ty.size]
  | .pair a b, _, _, _, ⟨c1, c2, F1, F2, h1, h2, h3, h4⟩ => by rw [h1, List.length_append, h3.length, h4.length]; rfl
/-- the place of element k: its first cell's number -/
theorem RepL.get {α : Type} {R : List Value → α → List Nat → Prop} {s : Nat} (hs : ∀ c x F, R c x F → c.length = s) : ∀ {xs : List α} {cs : List Value} {F : List Nat}, RepL R cs xs F → ∀ (k : Nat) (y : α), xs[k]? = some y →
    ∃ c F', R c y F' ∧ (∀ i ∈ F', i ∈ F) ∧ ∀ j u, c[j]? = some u → cs[k * s + j]? = some u
  | [], _, _, _, k, y, hk => by simp at hk
  | x :: xs, cs, F, ⟨c1, c2, F1, F2, h1, h2, h3, h4⟩, k, y, hk => by
    cases k with
    | zero =>
      simp only [List.getElem?_cons_zero, Option.some.injEq] at hk
      subst hk
      refine ⟨c1, F1, h3, fun i hi => by rw [h2]; exact List.mem_append_left _ hi, fun j u hj => ?_⟩
      rw [h1, Nat.zero_mul, Nat.zero_add]
      exact (List.getElem?_append_left (List.getElem?_eq_some_iff.1 hj).1).trans hj
    | succ k =>
      obtain ⟨c, F', hR, hF, hc⟩ := h4.get hs k y (by simpa using hk)
      refine ⟨c, F', hR, fun i hi => by rw [h2]; exact List.mem_append_right _ (hF i hi), fun j u hj => ?_⟩
      have hl := hs _ _ _ h3
      rw [h1, List.getElem?_append_right (by rw [hl, Nat.add_mul]; omega), hl, show (k + 1) * s + j - s = k * s + j from by rw [Nat.add_mul]; omega]
      exact hc j u hj
/-- a world in which the blocks that a value lies in are as they were -/
def Alike (F : List Nat) (w w' : World) : Prop := ∀ k ∈ F, w'.heap[k]? = w.heap[k]?
theorem Rep.keep {w w' : World} : ∀ {t : Ty} {cs : List Value} {x : t.den} {F : List Nat}, Rep w t cs x F → Alike F w w' → Rep w' t cs x F
  | .int _, _, _, _, h, _ => h
  | .bool, _, _, _, h, _ => h
  | .str, _, _, _, h, _ => h
  | .slice t, _, _, F, ⟨p, cap, h, hcap, h2⟩, hA => by
    refine ⟨p, cap, h, hcap, ?_⟩
    rcases h2 with h2 | ⟨b, off, bs, F', h0, h3, h4, h5, h6⟩
    · exact .inl h2
    · refine .inr ⟨b, off, bs, F', h0, h3, h4, h5.imp (fun c x F'' hF hR => hR.keep (fun k hk => hA k (by rw [h4]; exact List.mem_cons_of_mem _ (hF k hk)))), fun j u hj => ?_⟩
      have h7 := hA b (by rw [h4]; exact List.mem_cons_self)
      have h8 := h6 j u hj
      unfold World.cell? at h8 ⊢
      simp only at h8 ⊢
      rw [h7]
      exact h8
  | .pair a b, _, _, _, ⟨c1, c2, F1, F2, h1, h2, h3, h4⟩, hA =>
    ⟨c1, c2, F1, F2, h1, h2, h3.keep (fun k hk => hA k (by rw [h2]; exact List.mem_append_left _ hk)), h4.keep (fun k hk => hA k (by rw [h2]; exact List.mem_append_right _ hk))⟩
theorem RepL.lt {α : Type} {R : List Value → α → List Nat → Prop} {B : Nat} (hR : ∀ c x F, R c x F → ∀ k ∈ F, k < B) : ∀ {xs : List α} {cs : List Value} {F : List Nat}, RepL R cs xs F → ∀ k ∈ F, k < B
  | [], _, _, h, k, hk => by rw [h.2] at hk; cases hk
  | x :: xs, cs, F, ⟨c1, c2, F1, F2, h1, h2, h3, h4⟩, k, hk => by
    rw [h2] at hk
    rcases List.mem_append.1 hk with hk | hk
    · exact hR _ _ _ h3 k hk
    · exact h4.lt hR k hk
theorem cell_lt {w : World} {b off : Nat} {u : Value} (h : w.cell? ⟨b, off, none⟩ = some u) : b < w.heap.size := by
  unfold World.cell? at h
  simp only at h
  rcases Nat.lt_or_ge b w.heap.size with h1 | h1
  · exact h1
  · rw [Array.getElem?_eq_none h1] at h; cases h
theorem Ty.size_pos : ∀ t : Ty, 0 < t.size
  | .int _ => Nat.one_pos
  | .bool => Nat.one_pos
  | .str => Nat.one_pos
  | .slice _ => Nat.one_pos
  | .pair a b => by have := a.size_pos; show 0 < a.size + b.size; omega
theorem Rep.lt {w : World} : ∀ {t : Ty} {cs : List Value} {x : t.den} {F : List Nat}, Rep w t cs x F → ∀ k ∈ F, k < w.heap.size
  | .int _, _, _, _, h, k, hk => by rw [h.2] at hk; cases hk
  | .bool, _, _, _, h, k, hk => by rw [h.2] at hk; cases hk
  | .str, _, _, _, h, k, hk => by rw [h.2] at hk; cases hk
  | .slice t, _, xs, F, ⟨p, cap, h, hcap, h2⟩, k, hk => by
    rcases h2 with h2 | ⟨b, off, bs, F', h0, h3, h4, h5, h6⟩
    · rw [h2.2] at hk; cases hk
    · rw [h4] at hk
      cases xs with
      | nil => exact absurd rfl h0
      | cons x xs =>
        rcases List.mem_cons.1 hk with rfl | hk
        · have hlen := h5.length (fun c x F h => Rep.length h)
          have : 0 < bs.length := by rw [hlen, List.length_cons, Nat.add_mul]; have := t.size_pos; omega
          have h8 := h6 0 bs[0] (List.getElem?_eq_getElem this)
          exact cell_lt h8
        · exact h5.lt (fun c x F h => Rep.lt h) k hk
  | .pair a b, _, _, _, ⟨c1, c2, F1, F2, h1, h2, h3, h4⟩, k, hk => by
    rw [h2] at hk
    rcases List.mem_append.1 hk with hk | hk
    · exact h3.lt k hk
    · exact h4.lt k hk
end Go.Proofs.Ytcjkbcdlpfgbgaa
