/- What a call holds in memory, as a context of resources; how a context goes through a change of the world. Own work, over any program. -/
import Derived.Test.YtkhnponakhabdaaGreatDoorMBase
set_option linter.unusedVariables false
namespace Go.Proofs.YtkhnponakhabdaaGreatDoor
open Go Go.RowKit
variable {P : Program}
def Stab (F : List Nat) (φ : World → Prop) : Prop := ∀ w w' : World, (∀ k ∈ F, w'.heap[k]? = w.heap[k]?) → φ w → φ w'
inductive Res where
 | ro (t : Ty) (v : Value) (x : List t.den)
 | sl (e : TypeId) (t : Ty) (v : Value) (x : List t.den)
 | bx (b : Nat) (T : TypeId) (cs : List Value)
 | rb (b : Nat) (cs : List Value)
 | op (F : List Nat) (φ : World → Prop) (h : Stab F φ)
def RepS (w : World) (t : Ty) (v : Value) (xs : List t.den) (B S : List Nat) : Prop :=
 ∃ p cap, v = .slice p xs.length cap ∧ xs.length ≤ cap ∧ ((xs = [] ∧ B = [] ∧ S = []) ∨ ∃ b off bs, xs ≠ [] ∧ p = some ⟨b, off, none⟩ ∧ B = [b] ∧ RepL (Rep w t) bs xs S ∧ ∀ j u, bs[j]? = some u → w.cell? ⟨b, off + j, none⟩ = some u)
theorem RepS.rep {w : World} {t : Ty} {v : Value} {xs : List t.den} {B S : List Nat} (h : RepS w t v xs B S) : Rep w (.slice t) [v] xs (B ++ S) := by
 obtain ⟨p, cap, rfl, hcap, h⟩ := h
 rcases h with ⟨rfl, rfl, rfl⟩ | ⟨b, off, bs, h0, rfl, rfl, h1, h2⟩
 ·exact ⟨p, cap, rfl, hcap, .inl ⟨rfl, rfl⟩⟩
 ·exact ⟨_, cap, rfl, hcap, .inr ⟨b, off, bs, S, h0, rfl, rfl, h1, h2⟩⟩
theorem RepS.of_rep {w : World} {t : Ty} {v : Value} {xs : List t.den} {F : List Nat} (h : Rep w (.slice t) [v] xs F) : ∃ B S, RepS w t v xs B S ∧ F = B ++ S := by
 obtain ⟨p, cap, h, hcap, h2⟩ := h
 simp only [List.cons.injEq, and_true] at h
 subst h
 rcases h2 with ⟨rfl, rfl⟩ | ⟨b, off, bs, F', h0, rfl, rfl, h1, h2⟩
 ·exact ⟨[], [], ⟨p, cap, rfl, hcap, .inl ⟨rfl, rfl, rfl⟩⟩, rfl⟩
 ·exact ⟨[b], F', ⟨_, cap, rfl, hcap, .inr ⟨b, off, bs, h0, rfl, rfl, h1, h2⟩⟩, rfl⟩
def Res.own : Res → List Nat
 | .ro _ _ _ => []
 | .sl _ _ v _ => v.ownBlock.toList
 | .bx b _ _ => [b]
 | .rb _ _ => []
 | .op F _ _ => F
def Sit (w : World) : Res → List Nat → Prop
 | .ro t v x, S => Rep w (.slice t) [v] x S
 | .sl e t v x, S => ∃ cs, w.ownsRow 0 e t.size v x.length cs ∧ RepL (Rep w t) cs x S
 | .bx b T cs, S => S = [] ∧ w.heap[b]? = some (.cells cs.toArray T)
 | .rb b cs, S => S = [b] ∧ ∃ T fz, w.heap[b]? = some (.cells cs.toArray T fz)
 | .op F φ _, S => S = [] ∧ (∀ k ∈ F, k < w.heap.size) ∧ φ w
theorem Sit.lt {w : World} : ∀ {R : Res} {S : List Nat}, Sit w R S → (∀ k ∈ R.own, k < w.heap.size) ∧ ∀ k ∈ S, k < w.heap.size
 | .ro t v x, S, h2 => ⟨(fun k hk => by cases hk), Rep.lt (t := .slice t) h2⟩
 | .sl e t v x, S, ⟨cs, h2, h3⟩ => ⟨(fun k hk => (h2.lt k (by simpa [Res.own] using hk)).2), h3.lt (fun c x F h => Rep.lt h)⟩
 | .bx b T cs, S, ⟨h2, h3⟩ => ⟨(fun k hk => by
   simp [Res.own] at hk; subst hk
   rcases Nat.lt_or_ge k w.heap.size with h | h
   ·exact h
   ·rw [Array.getElem?_eq_none h] at h3; cases h3), (fun k hk => by rw [h2] at hk; cases hk)⟩
 | .rb b cs, S, ⟨h2, T, fz, h3⟩ => ⟨(fun k hk => by cases hk), (fun k hk => by
   rw [h2] at hk; simp at hk; subst hk
   rcases Nat.lt_or_ge k w.heap.size with h | h
   ·exact h
   ·rw [Array.getElem?_eq_none h] at h3; cases h3)⟩
 | .op F φ _, S, ⟨h2, h3, _⟩ => ⟨h3, (fun k hk => by rw [h2] at hk; cases hk)⟩
theorem Sit.keep {w w' : World} : ∀ {R : Res} {S : List Nat}, Sit w R S → (∀ k, k ∈ R.own ∨ k ∈ S → w'.heap[k]? = w.heap[k]?) → Sit w' R S
 | .ro t v x, S, h2, hA => Rep.keep h2 fun k hk => hA k (.inr hk)
 | .sl e t v x, S, ⟨cs, h2, h3⟩, hA => by
  refine ⟨cs, ?_, h3.imp fun c x F hF hR => hR.keep fun k hk => hA k (.inr (hF k hk))⟩
  obtain ⟨h5, h6⟩ := h2
  refine ⟨h5, ?_⟩
  rcases h6 with h6 | ⟨b, cap, cur, rfl, hb, hg, rest⟩
  ·exact .inl h6
  ·exact .inr ⟨b, cap, cur, rfl, hb, by rw [hA b (.inl (by simp [Res.own, Value.ownBlock]))]; exact hg, rest⟩
 | .bx b T cs, S, ⟨h2, h3⟩, hA => ⟨h2, by rw [hA b (.inl (by simp [Res.own]))]; exact h3⟩
 | .rb b cs, S, ⟨h2, T, fz, h3⟩, hA => ⟨h2, T, fz, by rw [hA b (.inr (by rw [h2]; simp))]; exact h3⟩
 | .op F φ hs, S, ⟨h2, h3, h4⟩, hA => ⟨h2, (fun k hk => by
   have h5 := hA k (.inl hk)
   have h6 := h3 k hk
   rcases Nat.lt_or_ge k w'.heap.size with h | h
   ·exact h
   ·rw [Array.getElem?_eq_none h, Array.getElem?_eq_getElem h6] at h5; cases h5), hs w w' (fun k hk => hA k (.inl hk)) h4⟩
def SitAll (w : World) : List (Res × List Nat) → Prop
 | [] => True
 | f :: L => Sit w f.1 f.2 ∧ SitAll w L
theorem SitAll.keep {w w' : World} : ∀ {L : List (Res × List Nat)}, SitAll w L → (∀ f ∈ L, ∀ k, k ∈ f.1.own ∨ k ∈ f.2 → w'.heap[k]? = w.heap[k]?) → SitAll w' L
 | [], _, _ => trivial
 | f :: L, ⟨h1, h2⟩, hA => ⟨h1.keep (hA f (by simp)), h2.keep fun g hg => hA g (by simp [hg])⟩
theorem SitAll.lt {w : World} : ∀ {L : List (Res × List Nat)}, SitAll w L → ∀ f ∈ L, (∀ k ∈ f.1.own, k < w.heap.size) ∧ ∀ k ∈ f.2, k < w.heap.size
 | [], _, f, hf => by cases hf
 | g :: L, ⟨h1, h2⟩, f, hf => by
  rcases List.mem_cons.1 hf with rfl | hf
  ·exact h1.lt
  ·exact h2.lt f hf
theorem SitAll.of_perm {w : World} {L L' : List (Res × List Nat)} (hp : L'.Perm L) : SitAll w L → SitAll w L' := by
 have key : ∀ L : List (Res × List Nat), SitAll w L ↔ ∀ f ∈ L, Sit w f.1 f.2 := by
  intro L
  induction L with
  | nil => exact ⟨(fun _ f hf => by cases hf), fun _ => trivial⟩
  | cons g L ih => exact ⟨(fun h f hf => by
    rcases List.mem_cons.1 hf with rfl | hf
    ·exact h.1
    ·exact (ih.1 h.2) f hf), fun h => ⟨h g (by simp), ih.2 fun f hf => h f (by simp [hf])⟩⟩
 intro h
 exact (key L').2 fun f hf => (key L).1 h f (hp.mem_iff.1 hf)
def Ap (f g : Res × List Nat) : Prop := Dj f.1.own g.1.own ∧ Dj f.1.own g.2 ∧ Dj g.1.own f.2
theorem Ap.symm {f g : Res × List Nat} (h : Ap f g) : Ap g f := ⟨h.1.symm, h.2.2, h.2.1⟩
def ApartL (L : List (Res × List Nat)) : Prop := L.Pairwise Ap ∧ ∀ f ∈ L, Dj f.1.own f.2
theorem ApartL.cons_inv {f : Res × List Nat} {L : List (Res × List Nat)} (h : ApartL (f :: L)) : (∀ g ∈ L, Ap f g) ∧ Dj f.1.own f.2 ∧ ApartL L :=
 ⟨fun g hg => List.rel_of_pairwise_cons h.1 hg, h.2 f (by simp), (List.pairwise_cons.1 h.1).2, fun g hg => h.2 g (by simp [hg])⟩
theorem ApartL.cons {f : Res × List Nat} {L : List (Res × List Nat)} (h1 : ∀ g ∈ L, Ap f g) (h2 : Dj f.1.own f.2) (h3 : ApartL L) : ApartL (f :: L) :=
 ⟨List.pairwise_cons.2 ⟨h1, h3.1⟩, fun g hg => by
  rcases List.mem_cons.1 hg with rfl | hg
  ·exact h2
  ·exact h3.2 g hg⟩
theorem ApartL.of_perm {L L' : List (Res × List Nat)} (hp : L'.Perm L) (h : ApartL L) : ApartL L' := ⟨(hp.pairwise_iff (fun h => Ap.symm h)).2 h.1, fun f hf => h.2 f (hp.mem_iff.1 hf)⟩
theorem ApartL.zone {L : List (Res × List Nat)} (h : ApartL L) {f g : Res × List Nat} (hf : f ∈ L) (hg : g ∈ L) {k : Nat} (hk : k ∈ f.2) : k ∉ g.1.own := by
 induction L with
 | nil => cases hf
 | cons x L ih =>
  obtain ⟨h1, h2, h3⟩ := h.cons_inv
  rcases List.mem_cons.1 hf with h4 | h4
  ·subst h4
   rcases List.mem_cons.1 hg with h5 | h5
   ·subst h5; exact fun hm => h2 k hm hk
   ·exact fun hm => (h1 g h5).2.2 k hm hk
  ·rcases List.mem_cons.1 hg with h5 | h5
   ·subst h5; exact fun hm => (h1 f h4).2.1 k hm hk
   ·exact ih h3 h4 h5
def Ctx (w : World) (Γ : List Res) : Prop := ∃ L : List (Res × List Nat), L.map (·.1) = Γ ∧ SitAll w L ∧ ApartL L
structure Holds (M : List Nat) (w0 w : World) (Γ G : List Res) : Prop where
 chg : Chg M w0 w
 lo : ∀ R ∈ Γ, ∀ k ∈ R.own, k ∈ M ∨ w0.heap.size ≤ k
 ctx : Ctx w (Γ ++ G)
section
variable {M : List Nat} {w0 w w' : World} {Γ Γ' G : List Res} {R R' : Res}
theorem Ctx.grow (H : Ctx w Γ) (hb : Below w.heap.size w w') : Ctx w' Γ := by
 obtain ⟨L, h1, h2, h3⟩ := H
 exact ⟨L, h1, h2.keep fun f hf k hk => hb.block k (by rcases hk with hk | hk <;> first | exact (h2.lt f hf).1 k hk | exact (h2.lt f hf).2 k hk), h3⟩
theorem Ctx.cons_inv (H : Ctx w (R :: Γ)) : ∃ S L, L.map (·.1) = Γ ∧ Sit w R S ∧ SitAll w L ∧ ApartL ((R, S) :: L) := by
 obtain ⟨L, h1, h2, h3⟩ := H
 cases L with
 | nil => cases h1
 | cons f L =>
  simp only [List.map_cons, List.cons.injEq] at h1
  obtain ⟨R0, S⟩ := f
  obtain ⟨rfl, h1⟩ := h1
  exact ⟨S, L, h1, h2.1, h2.2, h3⟩
theorem Ctx.tail (H : Ctx w (R :: Γ)) : Ctx w Γ := by
 obtain ⟨S, L, h1, h2, h3, h4⟩ := H.cons_inv
 exact ⟨L, h1, h3, h4.cons_inv.2.2⟩
theorem perm_map {α β : Type} {f : α → β} {l : List α} {m : List β} (h : m.Perm (l.map f)) : ∃ l' : List α, l'.Perm l ∧ l'.map f = m := by
 generalize hk : l.map f = k at h
 induction h generalizing l with
 | nil => exact ⟨[], by cases l <;> simp_all, rfl⟩
 | cons x h ih =>
  cases l with
  | nil => cases hk
  | cons a l =>
   simp only [List.map_cons, List.cons.injEq] at hk
   obtain ⟨l', h1, h2⟩ := ih hk.2
   exact ⟨a :: l', h1.cons a, by rw [List.map_cons, h2, hk.1]⟩
 | swap x y l0 =>
  cases l with
  | nil => cases hk
  | cons a l =>
   cases l with
   | nil => simp at hk
   | cons b l =>
    simp only [List.map_cons, List.cons.injEq] at hk
    exact ⟨b :: a :: l, List.Perm.swap a b l, by simp [hk]⟩
 | trans h1 h2 ih1 ih2 =>
  obtain ⟨l', h3, h4⟩ := ih2 hk
  obtain ⟨l'', h5, h6⟩ := ih1 h4
  exact ⟨l'', h5.trans h3, h6⟩
theorem Ctx.perm (H : Ctx w Γ) (hp : Γ'.Perm Γ) : Ctx w Γ' := by
 obtain ⟨L, h1, h2, h3⟩ := H
 obtain ⟨L', h4, h5⟩ := perm_map (h1 ▸ hp)
 exact ⟨L', h5, h2.of_perm h4, h3.of_perm h4⟩
theorem Holds.grow (H : Holds M w0 w Γ G) (hb : Below w.heap.size w w') : Holds M w0 w' Γ G := ⟨chg_trans_below H.chg hb, H.lo, H.ctx.grow hb⟩
theorem Holds.tail (H : Holds M w0 w (R :: Γ) G) : Holds M w0 w Γ G := ⟨H.chg, fun R' h => H.lo R' (by simp [h]), H.ctx.tail⟩
def pull : Nat → List Res → List Res
 | _, [] => []
 | 0, R :: Γ => R :: Γ
 | k + 1, R :: Γ => match pull k Γ with
  | [] => [R]
  | R' :: Γ' => R' :: R :: Γ'
theorem pull_perm : ∀ (k : Nat) (Γ : List Res), (pull k Γ).Perm Γ
 | 0, [] => .nil
 | _ + 1, [] => .nil
 | 0, R :: Γ => .refl _
 | k + 1, R :: Γ => by
  have ih := pull_perm k Γ
  unfold pull
  cases hp : pull k Γ with
  | nil => rw [hp] at ih; have := List.Perm.nil_eq ih; subst this; exact .refl _
  | cons R' Γ' => rw [hp] at ih; exact (List.Perm.swap R R' Γ').trans (ih.cons R)
theorem Holds.pull (k : Nat) (H : Holds M w0 w Γ G) : Holds M w0 w (pull k Γ) G :=
 ⟨H.chg, fun R hR => H.lo R ((pull_perm k Γ).mem_iff.1 hR), H.ctx.perm ((pull_perm k Γ).append_right G)⟩
theorem Holds.drop (n : Nat) (H : Holds M w0 w Γ G) : Holds M w0 w (Γ.drop n) G := by
 induction n generalizing Γ with
 | zero => simpa using H
 | succ n ih =>
  cases Γ with
  | nil => simpa using H
  | cons R Γ => exact ih H.tail
theorem Holds.cut (k : Nat) (H : Holds M w0 w Γ G) : Holds M w0 w ((Proofs.YtkhnponakhabdaaGreatDoor.pull k Γ).drop 1) G := (H.pull k).drop 1
theorem Holds.upd (H : Holds M w0 w (R :: Γ) G)
  (step : ∀ S L, L.map (·.1) = Γ ++ G → Sit w R S → SitAll w L → ApartL ((R, S) :: L) → ∃ S', Chg R.own w w' ∧ Sit w' R' S' ∧ (∀ k ∈ R'.own, k ∈ R.own ∨ w.heap.size ≤ k) ∧ (∀ k ∈ S', w.heap.size ≤ k ∨ ∀ g ∈ L, k ∉ g.1.own) ∧ Dj R'.own S') : Holds M w0 w' (R' :: Γ) G := by
 obtain ⟨hc0, hlo, hctx⟩ := H
 obtain ⟨S, L, h1, hs, ht, ha⟩ := hctx.cons_inv
 obtain ⟨S', hc, hs', hO, hS, hd⟩ := step S L h1 hs ht ha
 obtain ⟨a1, a2, a3⟩ := ha.cons_inv
 have hlt := ht.lt
 refine ⟨⟨hc.os.trans hc0.os, hc.tape.trans hc0.tape, hc.output.trans hc0.output, Nat.le_trans hc0.size hc.size, fun k hk hm => ?_⟩, fun R2 hR2 k hk => ?_, (R', S') :: L, by simp [h1], ⟨hs', ht.keep fun g hg k hk => ?_⟩, .cons (fun g hg => ?_) hd a3⟩
 ·rw [hc.block k (Nat.lt_of_lt_of_le hk hc0.size) fun h => ?_, hc0.block k hk hm]
  rcases hlo R (by simp) k h with h | h
  ·exact hm h
  ·omega
 ·rcases List.mem_cons.1 hR2 with rfl | hR2
  ·rcases hO k hk with h | h
   ·exact hlo R (by simp) k h
   ·right; have := hc0.size; omega
  ·exact hlo R2 (by simp [hR2]) k hk
 ·have hk' : k < w.heap.size := by
   rcases hk with hk | hk
   ·exact (hlt g hg).1 k hk
   ·exact (hlt g hg).2 k hk
  refine hc.block k hk' fun hm => ?_
  rcases hk with hk | hk
  ·exact (a1 g hg).1 k hm hk
  ·exact (a1 g hg).2.1 k hm hk
 ·refine ⟨fun k hk hk' => ?_, fun k hk hk' => ?_, fun k hk hk' => ?_⟩
  ·rcases hO k hk with h | h
   ·exact (a1 g hg).1 k h hk'
   ·have := (hlt g hg).1 k hk'; omega
  ·rcases hO k hk with h | h
   ·exact (a1 g hg).2.1 k h hk'
   ·have := (hlt g hg).2 k hk'; omega
  ·rcases hS k hk' with h | h
   ·have := (hlt g hg).1 k hk; omega
   ·exact h g hg hk
theorem Holds.cons_nil {t : Ty} (H : Holds M w0 w Γ G) : Holds M w0 w (.ro t (.slice none 0 0) [] :: Γ) G := by
 obtain ⟨h0, hlo, L, h1, h2, h3⟩ := H
 exact ⟨h0, fun R hR k hk => by
  rcases List.mem_cons.1 hR with rfl | hR
  ·cases hk
  ·exact hlo R hR k hk, (.ro t (.slice none 0 0) [], []) :: L, by simp [h1], ⟨⟨none, 0, rfl, Nat.le_refl _, .inl ⟨rfl, rfl⟩⟩, h2⟩, .cons (fun g _ => ⟨(fun k hk => by cases hk), (fun k hk => by cases hk), (fun k _ hk => by cases hk)⟩) (fun k hk => by cases hk) h3⟩
theorem Holds.add (H : Holds M w0 w Γ G)
  (step : ∀ L, L.map (·.1) = Γ ++ G → SitAll w L → ApartL L → ∃ S', Below w.heap.size w w' ∧ Sit w' R' S' ∧ (∀ k ∈ R'.own, w.heap.size ≤ k) ∧ (∀ k ∈ S', w.heap.size ≤ k ∨ ∀ g ∈ L, k ∉ g.1.own) ∧ Dj R'.own S') : Holds M w0 w' (R' :: Γ) G :=
 (H.cons_nil (t := .bool)).upd fun S L h1 h2 h3 h4 => by
  obtain ⟨S', h5, h6, h7, h8, h9⟩ := step L h1 h3 h4.cons_inv.2.2
  exact ⟨S', chg_of_below h5, h6, fun k hk => .inr (h7 k hk), h8, h9⟩
theorem Holds.nilSl {e : TypeId} {t : Ty} (H : Holds M w0 w Γ G) : Holds M w0 w (.sl e t (.slice none 0 0) [] :: Γ) G :=
 H.add fun L h1 h2 h3 => ⟨[], Below.refl _ _, ⟨[], World.ownsRow_nil w 0 e t.size, rfl, rfl⟩, (fun k hk => by cases hk), (fun k hk => by cases hk), (fun k hk => by cases hk)⟩
def Has (Γ : List Res) (t : Ty) (v : Value) (xs : List t.den) : Prop := ∀ w L, L.map (·.1) = Γ → SitAll w L → ApartL L → ∃ B S, RepS w t v xs B S ∧ (∀ k ∈ B, ∃ f ∈ L, k ∈ f.1.own ∨ k ∈ f.2) ∧ ∀ k ∈ S, ∃ f ∈ L, k ∈ f.2
def HasRo (Γ : List Res) (t : Ty) (v : Value) (xs : List t.den) : Prop := ∀ w L, L.map (·.1) = Γ → SitAll w L → ApartL L → ∃ B S, RepS w t v xs B S ∧ ∀ k ∈ B ++ S, ∃ f ∈ L, k ∈ f.2
theorem map_cons_inv {L : List (Res × List Nat)} (h : L.map (·.1) = R :: Γ) : ∃ S L', L = (R, S) :: L' ∧ L'.map (·.1) = Γ := by
 cases L with
 | nil => cases h
 | cons f L =>
  obtain ⟨R0, S⟩ := f
  simp only [List.map_cons, List.cons.injEq] at h
  exact ⟨S, L, by rw [h.1], h.2⟩
variable {t : Ty} {v : Value} {xs : List t.den} {e : TypeId}
theorem HasRo.has (h : HasRo Γ t v xs) : Has Γ t v xs := fun w L h0 h1 h2 => by
 obtain ⟨B, S, h3, h4⟩ := h w L h0 h1 h2
 refine ⟨B, S, h3, fun k hk => ?_, fun k hk => h4 k (List.mem_append_right _ hk)⟩
 obtain ⟨f, hf, hk⟩ := h4 k (List.mem_append_left _ hk)
 exact ⟨f, hf, .inr hk⟩
theorem Has.c (h : Has Γ t v xs) : Has (R :: Γ) t v xs := fun w L h0 h1 h2 => by
 obtain ⟨S0, L, rfl, h00⟩ := map_cons_inv h0
 obtain ⟨B, S, h3, h4, h5⟩ := h w L h00 h1.2 h2.cons_inv.2.2
 refine ⟨B, S, h3, fun k hk => ?_, fun k hk => ?_⟩
 ·obtain ⟨g, hg, hk⟩ := h4 k hk; exact ⟨g, by simp [hg], hk⟩
 ·obtain ⟨g, hg, hk⟩ := h5 k hk; exact ⟨g, by simp [hg], hk⟩
theorem HasRo.c (h : HasRo Γ t v xs) : HasRo (R :: Γ) t v xs := fun w L h0 h1 h2 => by
 obtain ⟨S0, L, rfl, h00⟩ := map_cons_inv h0
 obtain ⟨B, S, h3, h4⟩ := h w L h00 h1.2 h2.cons_inv.2.2
 refine ⟨B, S, h3, fun k hk => ?_⟩
 obtain ⟨g, hg, hk⟩ := h4 k hk; exact ⟨g, by simp [hg], hk⟩
theorem HasRo.nil {p : Option Addr} {cap : Nat} : HasRo Γ t (.slice p 0 cap) [] := fun w L _ h1 h2 => ⟨[], [], ⟨p, cap, rfl, Nat.zero_le _, .inl ⟨rfl, rfl, rfl⟩⟩, fun k hk => by cases hk⟩
theorem HasRo.hd : HasRo (.ro t v xs :: Γ) t v xs := fun w L h0 h1 h2 => by
 obtain ⟨S0, L, rfl, h00⟩ := map_cons_inv h0
 obtain ⟨B, S, h5, h6⟩ := RepS.of_rep h1.1
 exact ⟨B, S, h5, fun k hk => ⟨_, List.mem_cons_self, by rw [h6]; exact hk⟩⟩
theorem ownsRow_repS {cs : List Value} {S : List Nat} (h1 : w.ownsRow 0 e t.size v xs.length cs) (h2 : RepL (Rep w t) cs xs S) : ∃ B S', RepS w t v xs B S' ∧ (∀ k ∈ B, k ∈ v.ownBlock.toList) ∧ ∀ k ∈ S', k ∈ S := by
 have hlen := h2.length (fun c x F h => Rep.length h)
 by_cases hx : xs = []
 ·subst hx
  obtain ⟨h5, h6⟩ := h1
  rcases h6 with ⟨rfl, _⟩ | ⟨b, cap, cur, rfl, _⟩
  ·exact ⟨[], [], ⟨none, 0, rfl, Nat.le_refl _, .inl ⟨rfl, rfl, rfl⟩⟩, (fun k hk => by cases hk), (fun k hk => by cases hk)⟩
  ·exact ⟨[], [], ⟨_, cap, rfl, Nat.zero_le _, .inl ⟨rfl, rfl, rfl⟩⟩, (fun k hk => by cases hk), (fun k hk => by cases hk)⟩
 ·have h1' := h1
  obtain ⟨h5, h6⟩ := h1
  rcases h6 with ⟨rfl, h7⟩ | ⟨b, cap, cur, rfl, _, hg, hncap, _⟩
  ·exact absurd (List.eq_nil_of_length_eq_zero h7) hx
  ·refine ⟨[b], S, ⟨_, cap, rfl, hncap, .inr ⟨b, 0, cs, hx, rfl, rfl, h2, fun j u hj => ?_⟩⟩, fun k hk => by simpa [Value.ownBlock] using hk, fun k hk => hk⟩
   have := h1'.cells (g := b) rfl j u hj
   rwa [Addr.add_none] at this
theorem Has.hd : Has (.sl e t v xs :: Γ) t v xs := fun w L h0 h1 h2 => by
 obtain ⟨S0, L, rfl, h00⟩ := map_cons_inv h0
 obtain ⟨cs, h4, h5⟩ := h1.1
 obtain ⟨B, S, h6, h7, h8⟩ := ownsRow_repS h4 h5
 exact ⟨B, S, h6, fun k hk => ⟨_, List.mem_cons_self, .inl (h7 k hk)⟩, fun k hk => ⟨_, List.mem_cons_self, h8 k hk⟩⟩
def subO {α : Type} (xs : List α) (l h : Int) : Option (List α) := if decide (0 ≤ l) && (decide (l ≤ h) && decide (h ≤ (xs.length : Int))) then some ((xs.take h.toNat).drop l.toNat) else none
theorem subO_some {α : Type} {xs ys : List α} {l h : Int} (hs : subO xs l h = some ys) : 0 ≤ l ∧ l ≤ h ∧ h ≤ (xs.length : Int) ∧ ys = (xs.take h.toNat).drop l.toNat := by
 unfold subO at hs
 split at hs
 ·rename_i hr
  simp only [Bool.and_eq_true, decide_eq_true_eq] at hr
  exact ⟨hr.1, hr.2.1, hr.2.2, (Option.some.inj hs).symm⟩
 ·cases hs
theorem RepL.split {α : Type} {Q : List Value → α → List Nat → Prop} {s : Nat} (hs : ∀ c x F, Q c x F → c.length = s) : ∀ (k : Nat) {xs : List α} {cs : List Value} {F : List Nat}, RepL Q cs xs F →
  ∃ F1 F2, F = F1 ++ F2 ∧ RepL Q (cs.take (k * s)) (xs.take k) F1 ∧ RepL Q (cs.drop (k * s)) (xs.drop k) F2
 | 0, xs, cs, F, h => ⟨[], F, rfl, by simp [RepL], by simpa using h⟩
 | k + 1, [], cs, F, h => ⟨[], [], by rw [h.2]; rfl, by rw [h.1]; simp [RepL], by rw [h.1]; simp [RepL]⟩
 | k + 1, x :: xs, cs, F, ⟨c1, c2, F1, F2, h1, h2, h3, h4⟩ => by
  obtain ⟨G1, G2, h5, h6, h7⟩ := h4.split hs k
  have hl := hs _ _ _ h3
  refine ⟨F1 ++ G1, G2, by rw [h2, h5, List.append_assoc], ?_, ?_⟩
  ·rw [h1, List.take_succ_cons, show (k + 1) * s = c1.length + k * s by rw [hl, Nat.add_mul]; omega, List.take_length_add_append]
   exact ⟨c1, _, F1, G1, rfl, rfl, h3, h6⟩
  ·rw [h1, List.drop_succ_cons, show (k + 1) * s = c1.length + k * s by rw [hl, Nat.add_mul]; omega, List.drop_length_add_append]
   exact h7
def subV (size : Nat) (v : Value) (l h : Nat) : Value := match v with
 | .slice a _ cap => .slice (if cap = l then a else a.map (·.add (l * size))) (h - l) (cap - l)
 | v => v
theorem RepS.sub {w : World} {B S : List Nat} {ys : List t.den} {l h : Int} (hr : RepS w t v xs B S) (hs : subO xs l h = some ys) : ∃ B' S', RepS w t (subV t.size v l.toNat h.toNat) ys B' S' ∧ (∀ k ∈ B', k ∈ B) ∧ ∀ k ∈ S', k ∈ S := by
 obtain ⟨h0, h1, h2, rfl⟩ := subO_some hs
 obtain ⟨p, cap, rfl, hcap, hr⟩ := hr
 have hlen : ((xs.take h.toNat).drop l.toNat).length = h.toNat - l.toNat := by simp; omega
 by_cases he : (xs.take h.toNat).drop l.toNat = []
 ·have : h.toNat - l.toNat = 0 := by rw [← hlen, he]; rfl
  exact ⟨[], [], ⟨_, cap - l.toNat, by simp only [subV]; rw [hlen], by rw [hlen]; omega, .inl ⟨he, rfl, rfl⟩⟩, (fun k hk => by cases hk), (fun k hk => by cases hk)⟩
 ·rcases hr with ⟨rfl, _, _⟩ | ⟨b, off, bs, hne, rfl, rfl, h3, h4⟩
  ·simp at he
  ·obtain ⟨F1, F2, hF, h5, _⟩ := h3.split (s := t.size) (fun c x F h => Rep.length h) h.toNat
   obtain ⟨F3, F4, hF2, _, h6⟩ := h5.split (s := t.size) (fun c x F h => Rep.length h) l.toNat
   refine ⟨[b], F4, ⟨some ⟨b, off + l.toNat * t.size, none⟩, cap - l.toNat, ?_, by rw [hlen]; omega, .inr ⟨b, off + l.toNat * t.size, _, he, rfl, rfl, h6, fun j u hj => ?_⟩⟩, fun k hk => hk, fun k hk => by rw [hF, hF2]; simp [hk]⟩
   ·simp only [subV]
    rw [hlen]
    by_cases hc : cap = l.toNat
    ·exact absurd (List.eq_nil_of_length_eq_zero (by rw [hlen]; omega)) he
    ·rw [if_neg hc]; simp [Addr.add_none]
   ·rw [List.getElem?_drop, List.getElem?_take] at hj
    split at hj
    ·have := h4 _ _ hj
     rw [Nat.add_assoc]; exact this
    ·cases hj
end
end Go.Proofs.YtkhnponakhabdaaGreatDoor
