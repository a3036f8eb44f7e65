/- Plain reasoning on shallow functions. Own work; no program in sight. -/
import Derived.Test.YtcjkbcdlpfgbgaaBuild
set_option linter.unusedVariables false
namespace Go.Proofs.Ytcjkbcdlpfgbgaa
open Go Go.RowKit
def Ret {α : Type} (o : Option α) (Q : α → Prop) : Prop := ∃ a, o = some a ∧ Q a
theorem Ret.pure {α : Type} {a : α} {Q : α → Prop} (h : Q a) : Ret (some a) Q := ⟨a, rfl, h⟩
theorem Ret.bind {α β : Type} {o : Option α} {f : α → Option β} {Q : α → Prop} {R : β → Prop} (h : Ret o Q) (hf : ∀ a, Q a → Ret (f a) R) : Ret (o.bind f) R := by
  obtain ⟨a, rfl, ha⟩ := h; exact hf a ha
theorem Ret.ite {α : Type} {b : Bool} {x y : Option α} {Q : α → Prop} (ht : b = true → Ret x Q) (hf : b = false → Ret y Q) : Ret (if b then x else y) Q := by
  cases b
  · exact hf rfl
  · exact ht rfl
theorem Ret.mono {α : Type} {o : Option α} {Q R : α → Prop} (h : Ret o Q) (hr : ∀ a, Q a → R a) : Ret o R := let ⟨a, h1, h2⟩ := h; ⟨a, h1, hr a h2⟩
theorem Ret.eq {α : Type} {o : Option α} {v : α} (h : Ret o (· = v)) : o = some v := by obtain ⟨a, h1, rfl⟩ := h; exact h1
theorem Ret.of {α : Type} {o : Option α} {v : α} {Q : α → Prop} (h : o = some v) (hq : Q v) : Ret o Q := ⟨v, h, hq⟩
theorem Ret.loop {σ ρ : Type} {step : σ → Option (σ ⊕ ρ)} {s : σ} (I : σ → Prop) (μ : σ → Nat) {R : ρ → Prop} (h0 : I s)
    (hs : ∀ s, I s → Ret (step s) (fun o => match o with | .inl s' => I s' ∧ μ s' < μ s | .inr r => R r)) : Ret (loop step s) R := by
  have key : ∀ n s, μ s < n → I s → Ret (Proofs.Ytcjkbcdlpfgbgaa.loop step s) R := by
    intro n
    induction n with
    | zero => intro s h; omega
    | succ n ih =>
      intro s hlt hI
      obtain ⟨o, h1, h2⟩ := hs s hI
      rw [loop_eq, h1]
      cases o with
      | inl s' => exact ih s' (by have := h2.2; omega) h2.1
      | inr r => exact ⟨r, rfl, h2⟩
  exact key (μ s + 1) s (by omega) h0
theorem Ret.loopb {σ ρ β : Type} {step : σ → Option (σ ⊕ ρ)} {s : σ} {f : ρ → Option β} {Q : β → Prop} (I : σ → Prop) (μ : σ → Nat) (R : ρ → Prop) (h0 : I s)
    (hs : ∀ s, I s → Ret (step s) (fun o => match o with | .inl s' => I s' ∧ μ s' < μ s | .inr r => R r)) (hf : ∀ r, R r → Ret (f r) Q) : Ret ((Proofs.Ytcjkbcdlpfgbgaa.loop step s).bind f) Q :=
  Ret.bind (Ret.loop I μ h0 hs) hf
def InR (x : Int) : Prop := -9223372036854775808 ≤ x ∧ x ≤ 9223372036854775807
theorem wr {x : Int} (h : InR x) : IntKind.wrap .i64 x = x := IntWalk.i64_in x h
theorem wr_succ {n : Nat} {k : Nat} (hn : n ≤ 4611686018427387904) (hk : k < n) : IntKind.wrap .i64 ((k : Int) + 1) = ((k + 1 : Nat) : Int) := by
  rw [wr ⟨by omega, by omega⟩]; omega
theorem geti_nat {α : Type} (xs : List α) (k : Nat) : geti xs (k : Int) = xs[k]? := by unfold geti; rw [if_pos (by omega)]; simp
theorem geti_lt' {α : Type} {xs : List α} {k : Nat} (h : k < xs.length) : geti xs (k : Int) = some xs[k] := by rw [geti_nat, List.getElem?_eq_getElem h]
theorem inR_of_wf {x : Int} (h : (Lit.int .i64 x).wf = true) : InR x := by
  simpa [Lit.wf, IntKind.min, IntKind.max, IntKind.signed, IntKind.bits, InR] using h
/-- a row of numbers that came in -/
theorem rep_of_row {w : World} {a : Option Addr} {len cap : Nat} {zs : List Int} (h : (a = none ∧ len = 0 ∧ cap = 0 ∧ zs = []) ∨
    ∃ x, a = some x ∧ len ≤ cap ∧ cap ≤ maxLen ∧ zs.length = cap ∧ (∀ i, i < zs.length → w.cell? (x.add i) = some (.int .i64 (zs.getD i 0))) ∧ ∀ n ∈ zs, (Lit.int .i64 n).wf = true) :
    ∃ xs F, Rep w (.slice (.int .i64)) [.slice a len cap] xs F ∧ xs.length = len ∧ len ≤ maxLen ∧ ∀ n ∈ xs, InR n := by
  rcases h with ⟨rfl, rfl, rfl, rfl⟩ | ⟨x, rfl, h1, h2, h3, h4, h5⟩
  · exact ⟨[], [], ⟨none, 0, rfl, Nat.le_refl _, .inl ⟨rfl, rfl⟩⟩, rfl, by simp [maxLen], fun n hn => by cases hn⟩
  · have hlen : (zs.take len).length = len := by rw [List.length_take]; omega
    refine ⟨zs.take len, ?_⟩
    by_cases h0 : len = 0
    · subst h0
      exact ⟨[], ⟨some x, cap, by simp, Nat.zero_le _, .inl ⟨by simp, rfl⟩⟩, by simp, by omega, fun n hn => by simp at hn⟩
    · have hspot : x.spot = none := by
        have := h4 0 (by omega)
        have hx : x.add 0 = x := by simp [Addr.add]
        rw [hx] at this
        unfold World.cell? at this
        split at this
        · rename_i c _ _ _
          cases hs : x.spot with
          | none => rfl
          | some s => rw [hs] at this; simp at this
        · cases this
      obtain ⟨b, off, sp⟩ := x
      simp only at hspot
      subst hspot
      refine ⟨[b], ⟨some ⟨b, off, none⟩, cap, by rw [hlen], by rw [hlen]; omega, .inr ⟨b, off, (zs.take len).map (.int .i64), [], ?_, rfl, rfl, ?_, ?_⟩⟩, hlen, by omega, fun n hn => inR_of_wf (h5 n (List.mem_of_mem_take hn))⟩
      · intro h; rw [h] at hlen; simp at hlen; omega
      · generalize zs.take len = l
        induction l with
        | nil => exact ⟨rfl, rfl⟩
        | cons y l ih => exact ⟨[.int .i64 y], _, [], [], rfl, rfl, ⟨rfl, rfl⟩, ih⟩
      · intro j u hj
        rw [List.getElem?_map] at hj
        have hjl : j < len := by
          rcases Nat.lt_or_ge j len with h | h
          · exact h
          · rw [List.getElem?_eq_none (by rw [hlen]; exact h)] at hj; cases hj
        have := h4 j (by omega)
        rw [Addr.add_none] at this
        rw [this]
        rw [List.getElem?_take, if_pos hjl, List.getElem?_eq_getElem (by omega)] at hj
        simp only [Option.map_some, Option.some.injEq] at hj
        rw [← hj, List.getD_eq_getElem?_getD, List.getElem?_eq_getElem (by omega)]
        rfl
/-- a number of a kind -/
def InK (k : IntKind) (x : Int) : Prop := k.min ≤ x ∧ x ≤ k.max
theorem inK_of_wf {k : IntKind} {x : Int} (h : (Lit.int k x).wf = true) : InK k x := by
  simpa [Lit.wf, InK] using h
/-- a row of numbers of a kind that came in -/
theorem rep_of_rowK {k : IntKind} {w : World} {a : Option Addr} {len cap : Nat} {zs : List Int} (h : (a = none ∧ len = 0 ∧ cap = 0 ∧ zs = []) ∨
    ∃ x, a = some x ∧ len ≤ cap ∧ cap ≤ maxLen ∧ zs.length = cap ∧ (∀ i, i < zs.length → w.cell? (x.add i) = some (.int k (zs.getD i 0))) ∧ ∀ n ∈ zs, (Lit.int k n).wf = true) :
    ∃ xs F, Rep w (.slice (.int k)) [.slice a len cap] xs F ∧ xs.length = len ∧ len ≤ maxLen ∧ ∀ n ∈ xs, InK k n := by
  rcases h with ⟨rfl, rfl, rfl, rfl⟩ | ⟨x, rfl, h1, h2, h3, h4, h5⟩
  · exact ⟨[], [], ⟨none, 0, rfl, Nat.le_refl _, .inl ⟨rfl, rfl⟩⟩, rfl, by simp [maxLen], fun n hn => by cases hn⟩
  · have hlen : (zs.take len).length = len := by rw [List.length_take]; omega
    refine ⟨zs.take len, ?_⟩
    by_cases h0 : len = 0
    · subst h0
      exact ⟨[], ⟨some x, cap, by simp, Nat.zero_le _, .inl ⟨by simp, rfl⟩⟩, by simp, by omega, fun n hn => by simp at hn⟩
    · have hspot : x.spot = none := by
        have := h4 0 (by omega)
        have hx : x.add 0 = x := by simp [Addr.add]
        rw [hx] at this
        unfold World.cell? at this
        split at this
        · rename_i c _ _ _
          cases hs : x.spot with
          | none => rfl
          | some s => rw [hs] at this; simp at this
        · cases this
      obtain ⟨b, off, sp⟩ := x
      simp only at hspot
      subst hspot
      refine ⟨[b], ⟨some ⟨b, off, none⟩, cap, by rw [hlen], by rw [hlen]; omega, .inr ⟨b, off, (zs.take len).map (.int k), [], ?_, rfl, rfl, ?_, ?_⟩⟩, hlen, by omega, fun n hn => inK_of_wf (h5 n (List.mem_of_mem_take hn))⟩
      · intro h; rw [h] at hlen; simp at hlen; omega
      · generalize zs.take len = l
        induction l with
        | nil => exact ⟨rfl, rfl⟩
        | cons y l ih => exact ⟨[.int k y], _, [], [], rfl, rfl, ⟨rfl, rfl⟩, ih⟩
      · intro j u hj
        rw [List.getElem?_map] at hj
        have hjl : j < len := by
          rcases Nat.lt_or_ge j len with h | h
          · exact h
          · rw [List.getElem?_eq_none (by rw [hlen]; exact h)] at hj; cases hj
        have := h4 j (by omega)
        rw [Addr.add_none] at this
        rw [this]
        rw [List.getElem?_take, if_pos hjl, List.getElem?_eq_getElem (by omega)] at hj
        simp only [Option.map_some, Option.some.injEq] at hj
        rw [← hj, List.getD_eq_getElem?_getD, List.getElem?_eq_getElem (by omega)]
        rfl
end Go.Proofs.Ytcjkbcdlpfgbgaa
