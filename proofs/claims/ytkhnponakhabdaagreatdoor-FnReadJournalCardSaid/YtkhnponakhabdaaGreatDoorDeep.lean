/- Slices that are owned through and through: elements that bear slices of their own. Own work, over any program. -/
import Derived.Test.YtkhnponakhabdaaGreatDoorRany
import Derived.Maps.AppendAt
set_option linter.unusedVariables false
namespace Go.Proofs.YtkhnponakhabdaaGreatDoor
open Go Go.RowKit
variable {P : Program}
inductive DT where
 | leaf (t : Ty)
 | sl (e : TypeId) (d : DT)
 | pair (a b : DT)
@[reducible] def DT.ty : DT → Ty
 | .leaf t => t
 | .sl _ d => .slice d.ty
 | .pair a b => .pair a.ty b.ty
def DRep (w : World) : (d : DT) → List Value → d.ty.den → List Nat → Prop
 | .leaf t, cs, x, F => Rep w t cs x [] ∧ F = []
 | .sl e d, cs, xs, F => ∃ (v : Value) (cells : List Value) (F' : List Nat), cs = [v] ∧ w.ownsRow 0 e d.ty.size v (List.length (α := d.ty.den) xs) cells ∧ RepL (DRep w d) cells xs F' ∧ F = v.ownBlock.toList ++ F'
 | .pair a b, cs, x, F => ∃ c1 c2 F1 F2, cs = c1 ++ c2 ∧ F = F1 ++ F2 ∧ DRep w a c1 x.1 F1 ∧ DRep w b c2 x.2 F2
theorem ownsRow_keep {w w' : World} {e : TypeId} {size n : Nat} {v : Value} {cs : List Value} (h : w.ownsRow 0 e size v n cs) (hA : ∀ k ∈ v.ownBlock.toList, w'.heap[k]? = w.heap[k]?) : w'.ownsRow 0 e size v n cs := by
 obtain ⟨h5, h6⟩ := h
 refine ⟨h5, ?_⟩
 rcases h6 with h6 | ⟨b, cap, cur, rfl, hb, hg, rest⟩
 ·exact .inl h6
 ·exact .inr ⟨b, cap, cur, rfl, hb, by rw [hA b (by simp [Value.ownBlock])]; exact hg, rest⟩
theorem DRep.keep {w w' : World} : ∀ {d : DT} {cs : List Value} {x : d.ty.den} {F : List Nat}, DRep w d cs x F → (∀ k ∈ F, w'.heap[k]? = w.heap[k]?) → DRep w' d cs x F
 | .leaf t, _, _, _, h, _ => ⟨Rep.keep h.1 (fun k hk => by cases hk), h.2⟩
 | .sl e d, _, _, F, ⟨v, cells, F', h1, h2, h3, h4⟩, hA =>
  ⟨v, cells, F', h1, ownsRow_keep h2 (fun k hk => hA k (by rw [h4]; exact List.mem_append_left _ hk)), h3.imp (fun c x F'' hF hR => hR.keep fun k hk => hA k (by rw [h4]; exact List.mem_append_right _ (hF k hk))), h4⟩
 | .pair a b, _, _, _, ⟨c1, c2, F1, F2, h1, h2, h3, h4⟩, hA =>
  ⟨c1, c2, F1, F2, h1, h2, h3.keep (fun k hk => hA k (by rw [h2]; exact List.mem_append_left _ hk)), h4.keep (fun k hk => hA k (by rw [h2]; exact List.mem_append_right _ hk))⟩
theorem DRep.length {w : World} : ∀ {d : DT} {cs : List Value} {x : d.ty.den} {F : List Nat}, DRep w d cs x F → cs.length = d.ty.size
 | .leaf t, _, _, _, h => h.1.length
 | .sl e d, _, _, _, ⟨v, cells, F', h1, _⟩ => by rw [h1]; rfl
 | .pair a b, _, _, _, ⟨c1, c2, F1, F2, h1, h2, h3, h4⟩ => by rw [h1, List.length_append, h3.length, h4.length]; rfl
theorem DRep.lt {w : World} : ∀ {d : DT} {cs : List Value} {x : d.ty.den} {F : List Nat}, DRep w d cs x F → ∀ k ∈ F, k < w.heap.size
 | .leaf t, _, _, _, h, k, hk => by rw [h.2] at hk; cases hk
 | .sl e d, _, _, F, ⟨v, cells, F', h1, h2, h3, h4⟩, k, hk => by
  rw [h4] at hk
  rcases List.mem_append.1 hk with hk | hk
  ·exact (h2.lt k (by simpa using hk)).2
  ·exact h3.lt (fun c x F h => DRep.lt h) k hk
 | .pair a b, _, _, _, ⟨c1, c2, F1, F2, h1, h2, h3, h4⟩, k, hk => by
  rw [h2] at hk
  rcases List.mem_append.1 hk with hk | hk
  ·exact h3.lt k hk
  ·exact h4.lt k hk
theorem RepL.impE {α : Type} {R R' : List Value → α → List Nat → Prop} : ∀ {xs : List α} {cs : List Value} {F : List Nat}, RepL R cs xs F → (∀ c x F', (∀ k ∈ F', k ∈ F) → R c x F' → ∃ F'', R' c x F'' ∧ ∀ k ∈ F'', k ∈ F') → ∃ F'', RepL R' cs xs F'' ∧ ∀ k ∈ F'', k ∈ F
 | [], cs, F, h, _ => ⟨[], ⟨h.1, rfl⟩, fun k hk => by cases hk⟩
 | x :: xs, cs, F, ⟨c1, c2, F1, F2, h1, h2, h3, h4⟩, hi => by
  obtain ⟨G1, h5, h6⟩ := hi c1 x F1 (fun k hk => by rw [h2]; exact List.mem_append_left _ hk) h3
  obtain ⟨G2, h7, h8⟩ := h4.impE (fun c x F' hF hR => hi c x F' (fun k hk => by rw [h2]; exact List.mem_append_right _ (hF k hk)) hR)
  exact ⟨G1 ++ G2, ⟨c1, c2, G1, G2, h1, rfl, h5, h7⟩, fun k hk => by
   rw [h2]
   rcases List.mem_append.1 hk with hk | hk
   ·exact List.mem_append_left _ (h6 k hk)
   ·exact List.mem_append_right _ (h8 k hk)⟩
theorem DRep.rep {w : World} : ∀ {d : DT} {cs : List Value} {x : d.ty.den} {F : List Nat}, DRep w d cs x F → ∃ F', Rep w d.ty cs x F' ∧ ∀ k ∈ F', k ∈ F
 | .leaf t, _, _, F, h => ⟨[], h.1, fun k hk => by cases hk⟩
 | .sl e d, _, xs, F, ⟨v, cells, F', h1, h2, h3, h4⟩ => by
  obtain ⟨G, h5, h6⟩ := h3.impE (R' := Rep w d.ty) (fun c x F' hF hR => hR.rep)
  obtain ⟨B, S, h7, h8, h9⟩ := ownsRow_repS h2 h5
  refine ⟨B ++ S, by rw [h1]; exact h7.rep, fun k hk => ?_⟩
  rw [h4]
  rcases List.mem_append.1 hk with hk | hk
  ·exact List.mem_append_left _ (h8 k hk)
  ·exact List.mem_append_right _ (h6 k (h9 k hk))
 | .pair a b, _, _, _, ⟨c1, c2, F1, F2, h1, h2, h3, h4⟩ => by
  obtain ⟨G1, h5, h6⟩ := h3.rep
  obtain ⟨G2, h7, h8⟩ := h4.rep
  refine ⟨G1 ++ G2, ⟨c1, c2, G1, G2, h1, rfl, h5, h7⟩, fun k hk => ?_⟩
  rw [h2]
  rcases List.mem_append.1 hk with hk | hk
  ·exact List.mem_append_left _ (h6 k hk)
  ·exact List.mem_append_right _ (h8 k hk)
theorem ownsRow_one {w : World} {e : TypeId} {size n : Nat} {v : Value} {cs : List Value} (h : w.ownsRow 0 e size v n cs) : v.oneCell' = true ∧ v.cells = #[v] := by
 obtain ⟨_, h6⟩ := h
 rcases h6 with ⟨rfl, _⟩ | ⟨b, cap, cur, rfl, _⟩ <;> exact ⟨rfl, rfl⟩
theorem DRep.one {w : World} : ∀ {d : DT} {cs : List Value} {x : d.ty.den} {F : List Nat}, DRep w d cs x F → ∀ u ∈ cs, u.oneCell' = true
 | .leaf t, _, _, _, h, u, hu => h.1.one u hu
 | .sl e d, _, _, _, ⟨v, cells, F', h1, h2, _⟩, u, hu => by rw [h1] at hu; simp at hu; subst hu; exact (ownsRow_one h2).1
 | .pair a b, _, _, _, ⟨c1, c2, F1, F2, h1, h2, h3, h4⟩, u, hu => by
  rw [h1] at hu
  rcases List.mem_append.1 hu with hu | hu
  ·exact h3.one u hu
  ·exact h4.one u hu
def DpP (e : TypeId) (d : DT) (v : Value) (cs : List Value) (xs : List d.ty.den) (F : List Nat) (w : World) : Prop :=
 F.Nodup ∧ ∃ F', w.ownsRow 0 e d.ty.size v xs.length cs ∧ RepL (DRep w d) cs xs F' ∧ F = v.ownBlock.toList ++ F'
theorem DpP.stab {e : TypeId} {d : DT} {v : Value} {cs : List Value} {xs : List d.ty.den} {F : List Nat} : Stab F (DpP e d v cs xs F) := fun w w' hA ⟨h0, F', h1, h2, h3⟩ =>
 ⟨h0, F', ownsRow_keep h1 (fun k hk => hA k (by rw [h3]; exact List.mem_append_left _ hk)), h2.imp (fun c x F'' hF hR => hR.keep fun k hk => hA k (by rw [h3]; exact List.mem_append_right _ (hF k hk))), h3⟩
def dpR (e : TypeId) (d : DT) (v : Value) (cs : List Value) (xs : List d.ty.den) (F : List Nat) : Res := .op F (DpP e d v cs xs F) DpP.stab
theorem DpP.lt {e : TypeId} {d : DT} {v : Value} {cs : List Value} {xs : List d.ty.den} {F : List Nat} {w : World} (h : DpP e d v cs xs F w) : ∀ k ∈ F, k < w.heap.size := by
 obtain ⟨h0, F', h1, h2, h3⟩ := h
 intro k hk
 rw [h3] at hk
 rcases List.mem_append.1 hk with hk | hk
 ·exact (h1.lt k (by simpa using hk)).2
 ·exact h2.lt (fun c x F h => DRep.lt h) k hk
theorem DpP.sit {e : TypeId} {d : DT} {v : Value} {cs : List Value} {xs : List d.ty.den} {F : List Nat} {w : World} (h : DpP e d v cs xs F w) : Sit w (dpR e d v cs xs F) [] := ⟨rfl, h.lt, h⟩
theorem DpP.rep {e : TypeId} {d : DT} {v : Value} {cs : List Value} {xs : List d.ty.den} {F : List Nat} {w : World} (h : DpP e d v cs xs F w) : ∃ F', Rep w (.slice d.ty) [v] xs F' ∧ ∀ k ∈ F', k ∈ F := by
 obtain ⟨h0, F', h1, h2, h3⟩ := h
 exact DRep.rep (d := .sl e d) ⟨v, cs, F', rfl, h1, h2, h3⟩
def Foc (d d' : DT) (off : Nat) (get : d.ty.den → d'.ty.den) (put : d.ty.den → d'.ty.den → d.ty.den) : Prop :=
 ∀ w c x F, DRep w d c x F → ∃ c1 cm c2 F1 Fm F2, c = c1 ++ cm ++ c2 ∧ c1.length = off ∧ F = F1 ++ Fm ++ F2 ∧ DRep w d' cm (get x) Fm ∧
  ∀ w' cm' y Fm', (∀ k ∈ F1 ++ F2, w'.heap[k]? = w.heap[k]?) → DRep w' d' cm' y Fm' → DRep w' d (c1 ++ cm' ++ c2) (put x y) (F1 ++ Fm' ++ F2)
theorem Foc.refl {d : DT} : Foc d d 0 (fun x => x) (fun _ y => y) := fun w c x F h =>
 ⟨[], c, [], [], F, [], by simp, rfl, by simp, h, fun w' cm' y Fm' _ h' => by simpa using h'⟩
theorem Foc.fst {a b d' : DT} {off : Nat} {get : a.ty.den → d'.ty.den} {put : a.ty.den → d'.ty.den → a.ty.den} (h : Foc a d' off get put) : Foc (.pair a b) d' off (fun x => get x.1) (fun x y => (put x.1 y, x.2)) := fun w c x F hr => by
 obtain ⟨ca, cb, Fa, Fb, rfl, rfl, h1, h2⟩ := hr
 obtain ⟨c1, cm, c2, F1, Fm, F2, rfl, h3, rfl, h4, h5⟩ := h w ca x.1 Fa h1
 refine ⟨c1, cm, c2 ++ cb, F1, Fm, F2 ++ Fb, by simp, h3, by simp, h4, fun w' cm' y Fm' hA hy => ?_⟩
 refine ⟨c1 ++ cm' ++ c2, cb, F1 ++ Fm' ++ F2, Fb, by simp, by simp, h5 w' cm' y Fm' (fun k hk => hA k ?_) hy, h2.keep fun k hk => hA k (by simp [hk])⟩
 rcases List.mem_append.1 hk with hk | hk <;> simp [hk]
theorem Foc.snd {a b d' : DT} {off : Nat} {get : b.ty.den → d'.ty.den} {put : b.ty.den → d'.ty.den → b.ty.den} (h : Foc b d' off get put) : Foc (.pair a b) d' (a.ty.size + off) (fun x => get x.2) (fun x y => (x.1, put x.2 y)) := fun w c x F hr => by
 obtain ⟨ca, cb, Fa, Fb, rfl, rfl, h1, h2⟩ := hr
 obtain ⟨c1, cm, c2, F1, Fm, F2, rfl, h3, rfl, h4, h5⟩ := h w cb x.2 Fb h2
 refine ⟨ca ++ c1, cm, c2, Fa ++ F1, Fm, F2, by simp, by rw [List.length_append, h1.length, h3], by simp, h4, fun w' cm' y Fm' hA hy => ?_⟩
 refine ⟨ca, c1 ++ cm' ++ c2, Fa, F1 ++ Fm' ++ F2, by simp, by simp, h1.keep fun k hk => hA k (by simp [hk]), h5 w' cm' y Fm' (fun k hk => hA k ?_) hy⟩
 rcases List.mem_append.1 hk with hk | hk <;> simp [hk]
theorem RepL.foc {w : World} {d d' : DT} {off : Nat} {get : d.ty.den → d'.ty.den} {put : d.ty.den → d'.ty.den → d.ty.den} (hf : Foc d d' off get put) : ∀ (k : Nat) {xs : List d.ty.den} {cs : List Value} {F : List Nat} {u : d.ty.den}, RepL (DRep w d) cs xs F → xs[k]? = some u →
  ∃ c1 cm c2 F1 Fm F2, cs = c1 ++ cm ++ c2 ∧ c1.length = k * d.ty.size + off ∧ F = F1 ++ Fm ++ F2 ∧ DRep w d' cm (get u) Fm ∧
   ∀ w' cm' y Fm', (∀ k ∈ F1 ++ F2, w'.heap[k]? = w.heap[k]?) → DRep w' d' cm' y Fm' → RepL (DRep w' d) (c1 ++ cm' ++ c2) (xs.set k (put u y)) (F1 ++ Fm' ++ F2)
 | k, [], cs, F, u, h, hk => by simp at hk
 | 0, x :: xs, cs, F, u, ⟨ca, cb, Fa, Fb, h1, h2, h3, h4⟩, hk => by
  simp only [List.getElem?_cons_zero, Option.some.injEq] at hk
  subst hk
  obtain ⟨c1, cm, c2, F1, Fm, F2, rfl, h5, rfl, h6, h7⟩ := hf w ca x Fa h3
  refine ⟨c1, cm, c2 ++ cb, F1, Fm, F2 ++ Fb, by rw [h1]; simp, by simp [h5], by rw [h2]; simp, h6, fun w' cm' y Fm' hA hy => ?_⟩
  refine ⟨c1 ++ cm' ++ c2, cb, F1 ++ Fm' ++ F2, Fb, by simp, by simp, h7 w' cm' y Fm' (fun k hk => hA k ?_) hy, h4.imp fun c x F' hF hR => hR.keep fun k hk => hA k (by simp [hF k hk])⟩
  rcases List.mem_append.1 hk with hk | hk <;> simp [hk]
 | k + 1, x :: xs, cs, F, u, ⟨ca, cb, Fa, Fb, h1, h2, h3, h4⟩, hk => by
  obtain ⟨c1, cm, c2, F1, Fm, F2, h8, h5, h9, h6, h7⟩ := RepL.foc hf k h4 (by simpa using hk)
  refine ⟨ca ++ c1, cm, c2, Fa ++ F1, Fm, F2, by rw [h1, h8]; simp, by rw [List.length_append, h3.length, h5, Nat.add_mul]; omega, by rw [h2, h9]; simp, h6, fun w' cm' y Fm' hA hy => ?_⟩
  refine ⟨ca, c1 ++ cm' ++ c2, Fa, F1 ++ Fm' ++ F2, by simp, by simp, h3.keep fun k hk => hA k (by simp [hk]), h7 w' cm' y Fm' (fun k hk => hA k ?_) hy⟩
  rcases List.mem_append.1 hk with hk | hk <;> simp [hk]
def DBlt (Rs : List Res) (d : DT) (cs : List Value) (x : d.ty.den) : Prop :=
 ∀ w L, L.map (·.1) = Rs → SitAll w L → ApartL L → DRep w d cs x (Rs.flatMap Res.own) ∧ (Rs.flatMap Res.own).Nodup
theorem DBlt.int {k : IntKind} {n : Int} : DBlt [] (.leaf (.int k)) [.int k n] n := fun w L _ _ _ => ⟨⟨⟨rfl, rfl⟩, rfl⟩, List.nodup_nil⟩
theorem DBlt.bool {n : Bool} : DBlt [] (.leaf .bool) [.bool n] n := fun w L _ _ _ => ⟨⟨⟨rfl, rfl⟩, rfl⟩, List.nodup_nil⟩
theorem DBlt.str {n : List UInt8} : DBlt [] (.leaf .str) [strV n] n := fun w L _ _ _ => ⟨⟨⟨rfl, rfl⟩, rfl⟩, List.nodup_nil⟩
theorem DBlt.nil {e : TypeId} {d : DT} : DBlt [] (.sl e d) [.slice none 0 0] [] := fun w L _ _ _ =>
 ⟨⟨_, [], [], rfl, World.ownsRow_nil w 0 e d.ty.size, ⟨rfl, rfl⟩, rfl⟩, List.nodup_nil⟩
theorem plain_leaf {w : World} {t : Ty} (hp : plainT t = true) : ∀ {xs : List t.den} {cs : List Value} {S : List Nat}, RepL (Rep w t) cs xs S → RepL (DRep w (.leaf t)) cs xs []
 | [], cs, S, h => ⟨h.1, rfl⟩
 | x :: xs, cs, S, ⟨c1, c2, F1, F2, h1, h2, h3, h4⟩ => by
  have h0 := plain_rep hp _ _ _ h3
  subst h0
  exact ⟨c1, c2, [], [], h1, rfl, ⟨h3, rfl⟩, plain_leaf hp h4⟩
theorem leaf_rep {w : World} {t : Ty} : ∀ {xs : List t.den} {cs : List Value} {F : List Nat}, RepL (DRep w (.leaf t)) cs xs F → RepL (Rep w t) cs xs [] ∧ F = []
 | [], cs, F, h => ⟨⟨h.1, rfl⟩, h.2⟩
 | x :: xs, cs, F, ⟨c1, c2, F1, F2, h1, h2, h3, h4⟩ => by
  obtain ⟨h5, h6⟩ := leaf_rep h4
  exact ⟨⟨c1, c2, [], [], h1, rfl, h3.1, h5⟩, by rw [h2, h3.2, h6]; rfl⟩
theorem nodup_ownBlock (v : Value) : v.ownBlock.toList.Nodup := by cases v.ownBlock <;> simp
theorem DBlt.sl {e : TypeId} {t : Ty} {v : Value} {x : List t.den} (hp : plainT t = true) : DBlt [.sl e t v x] (.sl e (.leaf t)) [v] x := fun w L h1 h2 h3 => by
 obtain ⟨S, L', rfl, h4⟩ := map_cons_inv h1
 obtain ⟨cs, h5, h6⟩ := h2.1
 refine ⟨⟨v, cs, [], rfl, h5, plain_leaf hp h6, by simp [Res.own]⟩, ?_⟩
 simpa [Res.own] using nodup_ownBlock v
theorem DBlt.dp {e : TypeId} {d : DT} {v : Value} {cs : List Value} {xs : List d.ty.den} {F : List Nat} : DBlt [dpR e d v cs xs F] (.sl e d) [v] xs := fun w L h1 h2 h3 => by
 obtain ⟨S, L', rfl, h4⟩ := map_cons_inv h1
 obtain ⟨_, _, h5, F', h6, h7, h8⟩ := h2.1
 have e1 : [dpR e d v cs xs F].flatMap Res.own = F := by simp [dpR, Res.own]
 rw [e1]
 exact ⟨⟨v, cs, F', rfl, h6, h7, h8⟩, h5⟩
theorem SitAll.app_inv {w : World} : ∀ {L1 L2 : List (Res × List Nat)}, SitAll w (L1 ++ L2) → SitAll w L1 ∧ SitAll w L2
 | [], _, h => ⟨trivial, h⟩
 | f :: L1, L2, ⟨h1, h2⟩ => ⟨⟨h1, (SitAll.app_inv h2).1⟩, (SitAll.app_inv h2).2⟩
theorem SitAll.app {w : World} : ∀ {L1 L2 : List (Res × List Nat)}, SitAll w L1 → SitAll w L2 → SitAll w (L1 ++ L2)
 | [], _, _, h => h
 | f :: L1, L2, ⟨h1, h2⟩, h => ⟨h1, h2.app h⟩
theorem ApartL.app_inv {L1 L2 : List (Res × List Nat)} (h : ApartL (L1 ++ L2)) : ApartL L1 ∧ ApartL L2 ∧ ∀ f ∈ L1, ∀ g ∈ L2, Ap f g := by
 obtain ⟨h1, h2⟩ := h
 obtain ⟨h3, h4, h5⟩ := List.pairwise_append.1 h1
 exact ⟨⟨h3, fun f hf => h2 f (List.mem_append_left _ hf)⟩, ⟨h4, fun f hf => h2 f (List.mem_append_right _ hf)⟩, h5⟩
theorem ApartL.app {L1 L2 : List (Res × List Nat)} (h1 : ApartL L1) (h2 : ApartL L2) (h3 : ∀ f ∈ L1, ∀ g ∈ L2, Ap f g) : ApartL (L1 ++ L2) :=
 ⟨List.pairwise_append.2 ⟨h1.1, h2.1, h3⟩, fun f hf => by
  rcases List.mem_append.1 hf with hf | hf
  ·exact h1.2 f hf
  ·exact h2.2 f hf⟩
theorem mem_flat_own {L : List (Res × List Nat)} {Rs : List Res} (h : L.map (·.1) = Rs) {k : Nat} : k ∈ Rs.flatMap Res.own ↔ ∃ f ∈ L, k ∈ f.1.own := by
 subst h
 simp only [List.mem_flatMap, List.mem_map]
 constructor
 ·rintro ⟨R, ⟨f, hf, rfl⟩, hk⟩; exact ⟨f, hf, hk⟩
 ·rintro ⟨f, hf, hk⟩; exact ⟨f.1, ⟨f, hf, rfl⟩, hk⟩
theorem DBlt.pair {R1 R2 : List Res} {a b : DT} {c1 c2 : List Value} {x : a.ty.den} {y : b.ty.den} (h1 : DBlt R1 a c1 x) (h2 : DBlt R2 b c2 y) : DBlt (R1 ++ R2) (.pair a b) (c1 ++ c2) (x, y) := fun w L h3 h4 h5 => by
 obtain ⟨L1, L2, rfl, e1, e2⟩ := List.map_eq_append_iff.1 h3
 obtain ⟨s1, s2⟩ := h4.app_inv
 obtain ⟨a1, a2, a3⟩ := h5.app_inv
 obtain ⟨d1, n1⟩ := h1 w L1 e1 s1 a1
 obtain ⟨d2, n2⟩ := h2 w L2 e2 s2 a2
 rw [List.flatMap_append]
 refine ⟨⟨c1, c2, _, _, rfl, rfl, d1, d2⟩, List.nodup_append.2 ⟨n1, n2, fun k hk k' hk' e => ?_⟩⟩
 subst e
 obtain ⟨f, hf, hkf⟩ := (mem_flat_own e1).1 hk
 obtain ⟨g, hg, hkg⟩ := (mem_flat_own e2).1 hk'
 exact (a3 f hf g hg).1 k hkf hkg
def Vw (Γ Γv : List Res) : Prop := ∀ w L, L.map (·.1) = Γ → SitAll w L → ApartL L →
 ∃ Lv : List (Res × List Nat), Lv.map (·.1) = Γv ∧ SitAll w Lv ∧ ApartL Lv ∧ ∀ g ∈ Lv, (∀ k ∈ g.1.own, ∃ f ∈ L, k ∈ f.1.own) ∧ ∀ k ∈ g.2, ∃ f ∈ L, k ∈ f.1.own ∨ k ∈ f.2
theorem Vw.refl {Γ : List Res} : Vw Γ Γ := fun w L h1 h2 h3 => ⟨L, h1, h2, h3, fun g hg => ⟨fun k hk => ⟨g, hg, hk⟩, fun k hk => ⟨g, hg, .inr hk⟩⟩⟩
theorem Vw.ctx {Γ Γv : List Res} {w : World} (h : Vw Γ Γv) (H : Ctx w Γ) : Ctx w Γv := by
 obtain ⟨L, h1, h2, h3⟩ := H
 obtain ⟨Lv, h4, h5, h6, _⟩ := h w L h1 h2 h3
 exact ⟨Lv, h4, h5, h6⟩
theorem Vw.c {Γ Γv : List Res} {R : Res} (h : Vw Γ Γv) : Vw (R :: Γ) (R :: Γv) := fun w L h1 h2 h3 => by
 obtain ⟨S, L, rfl, h4⟩ := map_cons_inv h1
 obtain ⟨a1, a2, a3⟩ := h3.cons_inv
 obtain ⟨Lv, h5, h6, h7, h8⟩ := h w L h4 h2.2 a3
 refine ⟨(R, S) :: Lv, by simp [h5], ⟨h2.1, h6⟩, .cons (fun g hg => ⟨fun k hk hk' => ?_, fun k hk hk' => ?_, fun k hk hk' => ?_⟩) a2 h7, fun g hg => ?_⟩
 ·obtain ⟨f, hf, hk2⟩ := (h8 g hg).1 k hk'
  exact (a1 f hf).1 k hk hk2
 ·obtain ⟨f, hf, hk2⟩ := (h8 g hg).2 k hk'
  rcases hk2 with hk2 | hk2
  ·exact (a1 f hf).1 k hk hk2
  ·exact (a1 f hf).2.1 k hk hk2
 ·obtain ⟨f, hf, hk2⟩ := (h8 g hg).1 k hk
  exact (a1 f hf).2.2 k hk2 hk'
 ·rcases List.mem_cons.1 hg with rfl | hg
  ·exact ⟨fun k hk => ⟨_, List.mem_cons_self, hk⟩, fun k hk => ⟨_, List.mem_cons_self, .inr hk⟩⟩
  ·exact ⟨fun k hk => by
    obtain ⟨f, hf, hk⟩ := (h8 g hg).1 k hk
    exact ⟨f, by simp [hf], hk⟩, fun k hk => by
    obtain ⟨f, hf, hk⟩ := (h8 g hg).2 k hk
    exact ⟨f, by simp [hf], hk⟩⟩
def NsOk (e : TypeId) (d : DT) (v : Value) (cs : List Value) (xs : List d.ty.den) (F : List Nat) (ns : List Res) : Prop :=
 ∀ R ∈ ns, ∃ (t : Ty) (v' : Value) (x : List t.den), R = .ro t v' x ∧ ∀ w, DpP e d v cs xs F w → ∃ S, Rep w (.slice t) [v'] x S ∧ ∀ k ∈ S, k ∈ F
theorem NsOk.nil {e : TypeId} {d : DT} {v : Value} {cs : List Value} {xs : List d.ty.den} {F : List Nat} : NsOk e d v cs xs F [] := fun R hR => by cases hR
theorem NsOk.self {e : TypeId} {d : DT} {v : Value} {cs : List Value} {xs : List d.ty.den} {F : List Nat} {ns : List Res} (h : NsOk e d v cs xs F ns) : NsOk e d v cs xs F (.ro d.ty v xs :: ns) := fun R hR => by
 rcases List.mem_cons.1 hR with rfl | hR
 ·exact ⟨d.ty, v, xs, rfl, fun w hw => hw.rep⟩
 ·exact h R hR
theorem getE_of_geti {α : Type} {xs : List α} {k : Int} {u : α} (h : geti xs k = some u) : xs[k.toNat]? = some u := by
 unfold geti at h
 split at h
 ·exact h
 ·cases h
theorem mid_get {c1 cm c2 : List Value} {n : Nat} {v : Value} (hl : c1.length = n) (hc : (c1 ++ cm ++ c2)[n]? = some v) (hm : cm.length = 1) : cm = [v] := by
 obtain ⟨u, rfl⟩ := List.length_eq_one_iff.1 hm
 subst hl
 simp at hc
 rw [hc]
theorem NsOk.ns {e : TypeId} {d : DT} {v : Value} {cs : List Value} {xs : List d.ty.den} {F : List Nat} {ns : List Res} {e' : TypeId} {d' : DT} {off : Nat} {get : d.ty.den → List d'.ty.den} {put : d.ty.den → List d'.ty.den → d.ty.den} {k : Int} {u : d.ty.den} {v' : Value}
  (hf : Foc d (.sl e' d') off get put) (hg : geti xs k = some u) (hc : cs[k.toNat * d.ty.size + off]? = some v') (h : NsOk e d v cs xs F ns) : NsOk e d v cs xs F (.ro d'.ty v' (get u) :: ns) := fun R hR => by
 rcases List.mem_cons.1 hR with rfl | hR
 ·refine ⟨d'.ty, v', get u, rfl, fun w hw => ?_⟩
  obtain ⟨h0, F', h1, h2, h3⟩ := hw
  obtain ⟨c1, cm, c2, F1, Fm, F2, rfl, h5, rfl, h6, _⟩ := RepL.foc hf k.toNat h2 (getE_of_geti hg)
  have hcm := mid_get h5 hc h6.length
  subst hcm
  obtain ⟨S, h7, h8⟩ := h6.rep
  exact ⟨S, h7, fun k hk => by rw [h3]; simp [h8 k hk]⟩
 ·exact h R hR
theorem ros_ctx {w : World} {F : List Nat} : ∀ {ns : List Res} {Lv : List (Res × List Nat)}, (∀ R ∈ ns, ∃ (t : Ty) (v' : Value) (x : List t.den) (S : List Nat), R = .ro t v' x ∧ Rep w (.slice t) [v'] x S ∧ ∀ k ∈ S, k ∈ F) → SitAll w Lv → ApartL Lv → (∀ g ∈ Lv, Dj g.1.own F) →
  ∃ Ln : List (Res × List Nat), Ln.map (·.1) = ns ∧ SitAll w (Ln ++ Lv) ∧ ApartL (Ln ++ Lv) ∧ ∀ g ∈ Ln, g.1.own = [] ∧ ∀ k ∈ g.2, k ∈ F
 | [], Lv, _, h1, h2, _ => ⟨[], rfl, h1, h2, fun g hg => by cases hg⟩
 | R :: ns, Lv, h0, h1, h2, h3 => by
  obtain ⟨Ln, e1, e2, e3, e4⟩ := ros_ctx (ns := ns) (fun R' hR' => h0 R' (by simp [hR'])) h1 h2 h3
  obtain ⟨t, v', x, S, rfl, hr, hS⟩ := h0 R (by simp)
  refine ⟨(.ro t v' x, S) :: Ln, by simp [e1], ⟨hr, e2⟩, .cons (fun g hg => ⟨(fun k hk => by cases hk), (fun k hk => by cases hk), fun k hk hk' => ?_⟩) (fun k hk => by cases hk) e3, fun g hg => ?_⟩
  ·rcases List.mem_append.1 hg with hg | hg
   ·rw [(e4 g hg).1] at hk; cases hk
   ·exact h3 g hg k hk (hS k hk')
  ·rcases List.mem_cons.1 hg with rfl | hg
   ·exact ⟨rfl, hS⟩
   ·exact e4 g hg
theorem Vw.dp {Γ Γv : List Res} {e : TypeId} {d : DT} {v : Value} {cs : List Value} {xs : List d.ty.den} {F : List Nat} {ns : List Res} (hn : NsOk e d v cs xs F ns) (h : Vw Γ Γv) : Vw (dpR e d v cs xs F :: Γ) (ns ++ Γv) := fun w L h1 h2 h3 => by
 obtain ⟨S, L, rfl, h4⟩ := map_cons_inv h1
 obtain ⟨a1, a2, a3⟩ := h3.cons_inv
 obtain ⟨Lv, h5, h6, h7, h8⟩ := h w L h4 h2.2 a3
 have hsit := h2.1
 obtain ⟨_, _, hw⟩ := hsit
 obtain ⟨Ln, e1, e2, e3, e4⟩ := ros_ctx (w := w) (F := F) (ns := ns) (fun R hR => by
  obtain ⟨t, v', x, rfl, hx⟩ := hn R hR
  obtain ⟨S', h9, h10⟩ := hx w hw
  exact ⟨t, v', x, S', rfl, h9, h10⟩) h6 h7 (fun g hg k hk hk' => by
   obtain ⟨f, hf, hk2⟩ := (h8 g hg).1 k hk
   exact (a1 f hf).1 k hk' hk2)
 refine ⟨Ln ++ Lv, by simp [e1, h5], e2, e3, fun g hg => ?_⟩
 rcases List.mem_append.1 hg with hg | hg
 ·refine ⟨(fun k hk => by rw [(e4 g hg).1] at hk; cases hk), fun k hk => ⟨_, List.mem_cons_self, .inl ((e4 g hg).2 k hk)⟩⟩
 ·exact ⟨fun k hk => by
   obtain ⟨f, hf, hk⟩ := (h8 g hg).1 k hk
   exact ⟨f, by simp [hf], hk⟩, fun k hk => by
   obtain ⟨f, hf, hk⟩ := (h8 g hg).2 k hk
   exact ⟨f, by simp [hf], hk⟩⟩
def Pure (R : Res) : Prop := ∀ w S, Sit w R S → S = []
theorem Pure.op {F : List Nat} {φ : World → Prop} {h : Stab F φ} : Pure (.op F φ h) := fun w S hs => hs.1
theorem Pure.dp {e : TypeId} {d : DT} {v : Value} {cs : List Value} {xs : List d.ty.den} {F : List Nat} : Pure (dpR e d v cs xs F) := Pure.op
theorem Pure.bx {b : Nat} {T : TypeId} {cs : List Value} : Pure (.bx b T cs) := fun w S hs => hs.1
theorem Pure.sl {e : TypeId} {t : Ty} {v : Value} {x : List t.den} (hp : plainT t = true) : Pure (.sl e t v x) := fun w S ⟨cs, _, h⟩ => h.flatF (plain_rep hp)
theorem all_nil {p : Res → Prop} : ∀ R ∈ ([] : List Res), p R := fun R hR => by cases hR
theorem all_cons {p : Res → Prop} {R : Res} {l : List Res} (h : p R) (h2 : ∀ R ∈ l, p R) : ∀ R' ∈ R :: l, p R' := fun R' hR' => by
 rcases List.mem_cons.1 hR' with rfl | hR'
 ·exact h
 ·exact h2 R' hR'
section
variable {M : List Nat} {w0 w w' : World} {Γ Γ' Γv G Gv : List Res} {Rs : List Res} {R : Res}
theorem Holds.calledV (H : Holds M w0 w (Rs ++ Γ) G) (K : Holds (Rs.flatMap Res.own) w w' Γ' Gv) (hp : ∀ R ∈ Γ', Pure R) : Holds M w0 w' (Γ' ++ Γ) G := by
 obtain ⟨L, h1, h2, h3⟩ := H.ctx
 rw [List.append_assoc] at h1
 obtain ⟨L1, L2, rfl, e1, e2⟩ := List.map_eq_append_iff.1 h1
 obtain ⟨s1, s2⟩ := h2.app_inv
 obtain ⟨a1, a2, a3⟩ := h3.app_inv
 obtain ⟨L', h4, h5, h6⟩ := K.ctx
 obtain ⟨L3, L4, rfl, e3, e4⟩ := List.map_eq_append_iff.1 h4
 obtain ⟨s3, _⟩ := h5.app_inv
 obtain ⟨a4, _, _⟩ := h6.app_inv
 have hlt := s2.lt
 have hM : ∀ k ∈ Rs.flatMap Res.own, k ∈ M ∨ w0.heap.size ≤ k := fun k hk => by
  obtain ⟨R, hR, hk⟩ := List.mem_flatMap.1 hk
  exact H.lo R (List.mem_append_left _ hR) k hk
 have hout : ∀ g ∈ L2, ∀ k, k ∈ g.1.own ∨ k ∈ g.2 → k ∉ Rs.flatMap Res.own := fun g hg k hk hk' => by
  obtain ⟨f, hf, hk2⟩ := (mem_flat_own e1).1 hk'
  rcases hk with hk | hk
  ·exact (a3 f hf g hg).1 k hk2 hk
  ·exact (a3 f hf g hg).2.1 k hk2 hk
 have hS0 : ∀ g ∈ L3, g.2 = [] := by
  have key : ∀ {L : List (Res × List Nat)}, SitAll w' L → ∀ g ∈ L, Sit w' g.1 g.2 := by
   intro L
   induction L with
   | nil => intro _ g hg; cases hg
   | cons f L ih =>
    intro h g hg
    rcases List.mem_cons.1 hg with rfl | hg
    ·exact h.1
    ·exact ih h.2 g hg
  intro g hg
  exact hp g.1 (by rw [← e3]; exact List.mem_map_of_mem (f := (·.1)) hg) w' _ (key s3 g hg)
 refine ⟨⟨K.chg.os.trans H.chg.os, K.chg.tape.trans H.chg.tape, K.chg.output.trans H.chg.output, Nat.le_trans H.chg.size K.chg.size, fun k hk hm => ?_⟩, fun R' hR' k hk => ?_, L3 ++ L2, by rw [List.map_append, e3, e2, List.append_assoc], s3.app (s2.keep fun g hg k hk => ?_), a4.app a2 fun f hf g hg => ?_⟩
 ·rw [K.chg.block k (Nat.lt_of_lt_of_le hk H.chg.size) fun h => ?_, H.chg.block k hk hm]
  rcases hM k h with h | h
  ·exact hm h
  ·omega
 ·rcases List.mem_append.1 hR' with h | h
  ·rcases K.lo R' h k hk with h1 | h1
   ·exact hM k h1
   ·right; have := H.chg.size; omega
  ·exact H.lo R' (List.mem_append_right _ h) k hk
 ·have hk' : k < w.heap.size := by
   rcases hk with hk | hk
   ·exact (hlt g hg).1 k hk
   ·exact (hlt g hg).2 k hk
  exact K.chg.block k hk' (hout g hg k hk)
 ·have hfo : ∀ k ∈ f.1.own, k ∈ Rs.flatMap Res.own ∨ w.heap.size ≤ k := fun k hk => K.lo f.1 (by rw [← e3]; exact List.mem_map_of_mem (f := (·.1)) hf) k hk
  refine ⟨fun k hk hk' => ?_, fun k hk hk' => ?_, fun k hk hk' => ?_⟩
  ·rcases hfo k hk with h | h
   ·exact hout g hg k (.inl hk') h
   ·have := (hlt g hg).1 k hk'; omega
  ·rcases hfo k hk with h | h
   ·exact hout g hg k (.inr hk') h
   ·have := (hlt g hg).2 k hk'; omega
  ·rw [hS0 f hf] at hk'; cases hk'
theorem Holds.viewG (H : Holds M w0 w Γ G) (h : Vw Γ Γv) : Ctx w (Γv ++ G) := by
 have key : ∀ {Γ Γv : List Res}, Vw Γ Γv → Vw (Γ ++ G) (Γv ++ G) := fun {Γ Γv} h w L h1 h2 h3 => by
  obtain ⟨L1, L2, rfl, e1, e2⟩ := List.map_eq_append_iff.1 h1
  obtain ⟨s1, s2⟩ := h2.app_inv
  obtain ⟨a1, a2, a3⟩ := h3.app_inv
  obtain ⟨Lv, h4, h5, h6, h7⟩ := h w L1 e1 s1 a1
  refine ⟨Lv ++ L2, by rw [List.map_append, h4, e2], h5.app s2, h6.app a2 (fun f hf g hg => ⟨fun k hk hk' => ?_, fun k hk hk' => ?_, fun k hk hk' => ?_⟩), fun g hg => ?_⟩
  ·obtain ⟨f', hf', hk2⟩ := (h7 f hf).1 k hk
   exact (a3 f' hf' g hg).1 k hk2 hk'
  ·obtain ⟨f', hf', hk2⟩ := (h7 f hf).1 k hk
   exact (a3 f' hf' g hg).2.1 k hk2 hk'
  ·obtain ⟨f', hf', hk2⟩ := (h7 f hf).2 k hk'
   rcases hk2 with hk2 | hk2
   ·exact (a3 f' hf' g hg).1 k hk2 hk
   ·exact (a3 f' hf' g hg).2.2 k hk hk2
  ·rcases List.mem_append.1 hg with hg | hg
   ·exact ⟨fun k hk => by
     obtain ⟨f, hf, hk⟩ := (h7 g hg).1 k hk
     exact ⟨f, by simp [hf], hk⟩, fun k hk => by
     obtain ⟨f, hf, hk⟩ := (h7 g hg).2 k hk
     exact ⟨f, by simp [hf], hk⟩⟩
   ·exact ⟨fun k hk => ⟨g, by simp [hg], hk⟩, fun k hk => ⟨g, by simp [hg], .inr hk⟩⟩
 exact (key h).ctx H.ctx
theorem Holds.updN {R' : Res} (H : Holds M w0 w (Rs ++ Γ) G)
  (step : ∀ L1 L2, L1.map (·.1) = Rs → L2.map (·.1) = Γ ++ G → SitAll w L1 → SitAll w L2 → ApartL L1 → ApartL L2 → (∀ f ∈ L1, ∀ g ∈ L2, Ap f g) →
   Chg (Rs.flatMap Res.own) w w' ∧ Sit w' R' [] ∧ ∀ k ∈ R'.own, k ∈ Rs.flatMap Res.own ∨ w.heap.size ≤ k) : Holds M w0 w' (R' :: Γ) G := by
 obtain ⟨L, h1, h2, h3⟩ := H.ctx
 rw [List.append_assoc] at h1
 obtain ⟨L1, L2, rfl, e1, e2⟩ := List.map_eq_append_iff.1 h1
 obtain ⟨s1, s2⟩ := h2.app_inv
 obtain ⟨a1, a2, a3⟩ := h3.app_inv
 obtain ⟨hc, hs, hO⟩ := step L1 L2 e1 e2 s1 s2 a1 a2 a3
 have hlt := s2.lt
 have hout : ∀ g ∈ L2, ∀ k, k ∈ g.1.own ∨ k ∈ g.2 → k ∉ Rs.flatMap Res.own := fun g hg k hk hk' => by
  obtain ⟨f, hf, hk2⟩ := (mem_flat_own e1).1 hk'
  rcases hk with hk | hk
  ·exact (a3 f hf g hg).1 k hk2 hk
  ·exact (a3 f hf g hg).2.1 k hk2 hk
 refine H.calledN (Rs := Rs) (Γ' := [R']) ⟨hc, fun R hR k hk => ?_, (R', []) :: L2, by simp [e2], ⟨hs, s2.keep fun g hg k hk => ?_⟩, .cons (fun g hg => ⟨fun k hk hk' => ?_, fun k hk hk' => ?_, fun k _ hk => by cases hk⟩) (fun k _ hk => by cases hk) a2⟩
 ·simp at hR; subst hR; exact hO k hk
 ·exact hc.block k (by
   rcases hk with hk | hk
   ·exact (hlt g hg).1 k hk
   ·exact (hlt g hg).2 k hk) (hout g hg k hk)
 ·rcases hO k hk with h | h
  ·exact hout g hg k (.inl hk') h
  ·have := (hlt g hg).1 k hk'; omega
 ·rcases hO k hk with h | h
  ·exact hout g hg k (.inr hk') h
  ·have := (hlt g hg).2 k hk'; omega
end
end Go.Proofs.YtkhnponakhabdaaGreatDoor
