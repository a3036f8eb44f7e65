/- Stores into own slices, copy, slices written out, parts of slices, structs: over a context of resources. Own work, over any program. -/
import Derived.Test.YtkhnponakhabdaaGreatDoorRapp
import Derived.Laws.CopyOwn
set_option linter.unusedVariables false
namespace Go.Proofs.YtkhnponakhabdaaGreatDoor
open Go Go.RowKit
variable {P : Program}
section facts
variable {Γ : List Res} {t a b : Ty}
def Blt (Γ : List Res) (t : Ty) (cs : List Value) (x : t.den) : Prop := ∀ w L, L.map (·.1) = Γ → SitAll w L → ApartL L → ∃ F, Rep w t cs x F ∧ ∀ k ∈ F, ∃ f ∈ L, k ∈ f.2
theorem Blt.int {k : IntKind} {n : Int} : Blt Γ (.int k) [.int k n] n := fun w L _ _ _ => ⟨[], ⟨rfl, rfl⟩, fun k hk => by cases hk⟩
theorem Blt.bool {n : Bool} : Blt Γ .bool [.bool n] n := fun w L _ _ _ => ⟨[], ⟨rfl, rfl⟩, fun k hk => by cases hk⟩
theorem Blt.str {n : List UInt8} : Blt Γ .str [strV n] n := fun w L _ _ _ => ⟨[], ⟨rfl, rfl⟩, fun k hk => by cases hk⟩
theorem Blt.slice {v : Value} {xs : List t.den} (h : HasRo Γ t v xs) : Blt Γ (.slice t) [v] xs := fun w L h1 h2 h3 => by
 obtain ⟨B, S, h4, h5⟩ := h w L h1 h2 h3
 exact ⟨B ++ S, h4.rep, h5⟩
theorem Blt.pair {c : Value} {cs : List Value} {x : a.den} {y : b.den} (h1 : Blt Γ a [c] x) (h2 : Blt Γ b cs y) : Blt Γ (.pair a b) (c :: cs) (x, y) := fun w L h3 h4 h5 => by
 obtain ⟨F1, h6, h7⟩ := h1 w L h3 h4 h5
 obtain ⟨F2, h8, h9⟩ := h2 w L h3 h4 h5
 exact ⟨F1 ++ F2, ⟨[c], cs, F1, F2, rfl, rfl, h6, h8⟩, fun k hk => by
  rcases List.mem_append.1 hk with hk | hk
  ·exact h7 k hk
  ·exact h9 k hk⟩
def Upd (Γ : List Res) (t : Ty) (fo : Nat) (cs' : List Value) (u u' : t.den) : Prop :=
 ∀ w L, L.map (·.1) = Γ → SitAll w L → ApartL L → ∀ c F, Rep w t c u F → ∃ F', Rep w t (c.take fo ++ cs' ++ c.drop (fo + cs'.length)) u' F' ∧ ∀ k ∈ F', (∃ f ∈ L, k ∈ f.2) ∨ k ∈ F
theorem Upd.whole {cs' : List Value} {u u' : t.den} (h : Blt Γ t cs' u') : Upd Γ t 0 cs' u u' := fun w L h1 h2 h3 c F hr => by
 obtain ⟨F', h4, h5⟩ := h w L h1 h2 h3
 have hl := hr.length
 have hl' := h4.length
 refine ⟨F', ?_, fun k hk => .inl (h5 k hk)⟩
 rw [List.take_zero, List.nil_append, Nat.zero_add, List.drop_eq_nil_of_le (by omega), List.append_nil]
 exact h4
theorem Upd.fst {fo : Nat} {cs' : List Value} {u : a.den × b.den} {y : a.den} (h : Upd Γ a fo cs' u.1 y) (hfo : Nat.ble (fo + cs'.length) a.size = true) : Upd Γ (.pair a b) fo cs' u (y, u.2) := fun w L h1 h2 h3 c F hr => by
 obtain ⟨c1, c2, F1, F2, rfl, rfl, h4, h5⟩ := hr
 obtain ⟨F', h6, h7⟩ := h w L h1 h2 h3 c1 F1 h4
 have hl := h4.length
 have hfo' : fo + cs'.length ≤ a.size := by simpa using hfo
 refine ⟨F' ++ F2, ⟨_, c2, F', F2, ?_, rfl, h6, h5⟩, fun k hk => ?_⟩
 ·rw [List.take_append_of_le_length (by omega), List.drop_append_of_le_length (by omega)]; simp
 ·rcases List.mem_append.1 hk with hk | hk
  ·rcases h7 k hk with h | h
   ·exact .inl h
   ·exact .inr (List.mem_append_left _ h)
  ·exact .inr (List.mem_append_right _ hk)
theorem Upd.snd {fo : Nat} {cs' : List Value} {u : a.den × b.den} {y : b.den} (h : Upd Γ b fo cs' u.2 y) : Upd Γ (.pair a b) (a.size + fo) cs' u (u.1, y) := fun w L h1 h2 h3 c F hr => by
 obtain ⟨c1, c2, F1, F2, rfl, rfl, h4, h5⟩ := hr
 obtain ⟨F', h6, h7⟩ := h w L h1 h2 h3 c2 F2 h5
 have hl := h4.length
 refine ⟨F1 ++ F', ⟨c1, _, F1, F', ?_, rfl, h4, h6⟩, fun k hk => ?_⟩
 ·rw [show a.size = c1.length by omega, List.take_length_add_append, Nat.add_assoc, List.drop_length_add_append]; simp
 ·rcases List.mem_append.1 hk with hk | hk
  ·exact .inr (List.mem_append_left _ hk)
  ·rcases h7 k hk with h | h
   ·exact .inl h
   ·exact .inr (List.mem_append_right _ h)
theorem RepL.upd {α : Type} {Q : List Value → α → List Nat → Prop} {s : Nat} (hs : ∀ c x F, Q c x F → c.length = s) {Z : Nat → Prop} {fo : Nat} {cs' : List Value} {u u' : α} (hfo : fo + cs'.length ≤ s)
  (hup : ∀ c F, Q c u F → ∃ F', Q (c.take fo ++ cs' ++ c.drop (fo + cs'.length)) u' F' ∧ ∀ k ∈ F', Z k ∨ k ∈ F) :
  ∀ (k : Nat) {xs : List α} {cs : List Value} {S : List Nat}, RepL Q cs xs S → xs[k]? = some u → ∃ S', RepL Q (cs.take (k * s + fo) ++ cs' ++ cs.drop (k * s + fo + cs'.length)) (xs.set k u') S' ∧ ∀ j ∈ S', Z j ∨ j ∈ S
 | k, [], cs, S, h, hk => by simp at hk
 | 0, x :: xs, cs, S, ⟨c1, c2, F1, F2, h1, h2, h3, h4⟩, hk => by
  simp only [List.getElem?_cons_zero, Option.some.injEq] at hk
  subst hk
  obtain ⟨F', h5, h6⟩ := hup c1 F1 h3
  have hl := hs _ _ _ h3
  refine ⟨F' ++ F2, ⟨_, c2, F', F2, ?_, rfl, h5, h4⟩, fun j hj => ?_⟩
  ·rw [h1, Nat.zero_mul, Nat.zero_add, List.take_append_of_le_length (by omega), List.drop_append_of_le_length (by omega)]; simp
  ·rw [h2]
   rcases List.mem_append.1 hj with hj | hj
   ·rcases h6 j hj with h | h
    ·exact .inl h
    ·exact .inr (List.mem_append_left _ h)
   ·exact .inr (List.mem_append_right _ hj)
 | k + 1, x :: xs, cs, S, ⟨c1, c2, F1, F2, h1, h2, h3, h4⟩, hk => by
  obtain ⟨S', h5, h6⟩ := RepL.upd hs hfo hup k h4 (by simpa using hk)
  have hl := hs _ _ _ h3
  refine ⟨F1 ++ S', ⟨c1, _, F1, S', ?_, rfl, h3, h5⟩, fun j hj => ?_⟩
  ·rw [h1, show (k + 1) * s + fo = c1.length + (k * s + fo) by rw [hl, Nat.add_mul]; omega, List.take_length_add_append, show c1.length + (k * s + fo) + cs'.length = c1.length + (k * s + fo + cs'.length) by omega, List.drop_length_add_append]
   simp
  ·rw [h2]
   rcases List.mem_append.1 hj with hj | hj
   ·exact .inr (List.mem_append_left _ hj)
   ·rcases h6 j hj with h | h
    ·exact .inl h
    ·exact .inr (List.mem_append_right _ h)
end facts
section runs
variable {w : World} {e : TypeId}
theorem setRow_chg {g : Nat} {cs : Array Value} : Chg [g] w (w.setRow g cs) :=
 ⟨rfl, rfl, rfl, by simp [World.setRow], fun k hk hm => setRow_other w g k cs (fun h => hm (by simp [h]))⟩
theorem ownsRow_splice {size b n cap off : Nat} {cs vs : List Value} {cur : Array Value} (hg : w.heap[b]? = some (.cells cur e (0, 0))) (hlen : cs.length = n * size) (hn : n ≤ cap) (hc : cap ≤ maxLen) (hcs : cur.size = cap * size) (ht : cur.toList.take (n * size) = cs) (hoff : off + vs.length ≤ n * size) :
  (w.setRow b (cur.toList.take off ++ vs ++ cur.toList.drop (off + vs.length)).toArray).ownsRow 0 e size (.slice (some ⟨b, 0, none⟩) n cap) n (cs.take off ++ vs ++ cs.drop (off + vs.length)) := by
 have hle : n * size ≤ cap * size := Nat.mul_le_mul_right _ hn
 refine ⟨by simp; omega, .inr ⟨b, cap, _, rfl, Nat.zero_le _, setRow_heap w b cur _ e _ hg, hn, hc, ?_, ?_⟩⟩
 ·simp; omega
 ·rw [← ht]
  apply List.ext_getElem?
  intro j
  simp only [List.getElem?_take, List.getElem?_append, List.getElem?_drop, List.length_take, List.length_append, Array.length_toList]
  by_cases h1 : j < off
  ·have e1 : min off cur.size = off := by omega
   have e2 : min off (min (n * size) cur.size) = off := by omega
   have h0 : j < n * size := by omega
   simp [h1, e1, e2, h0, show j < off + vs.length by omega]
  ·by_cases h2 : j < off + vs.length
   ·have e1 : min off cur.size = off := by omega
    have e2 : min off (min (n * size) cur.size) = off := by omega
    have h0 : j < n * size := by omega
    simp [h1, h2, e1, e2, h0]
   ·have e1 : min off cur.size = off := by omega
    have e2 : min off (min (n * size) cur.size) = off := by omega
    simp only [h2, e1, e2, if_false]
    by_cases h0 : j < n * size
    ·have : off + vs.length + (j - (off + vs.length)) < n * size := by omega
     simp [h0, this]
    ·have : ¬ off + vs.length + (j - (off + vs.length)) < n * size := by omega
     simp [h0, this]
end runs
section walk
variable {ops : Array Oper} {Q : Exit → Act → World → Prop} {n : Nat} {md : Md} {l : List Oper} {E : Env} {o : Oper} {d : Nat} {ty : TypeId} {ps : String} {af : Array Edge} {g : Option (Nat × Bool)} {x y z : Operand} {T : TypeId}
variable {M : List Nat} {w0 w w' : World} {Γ Γ' G : List Res} {R R' : Res} {t : Ty} {v u : Value} {xs ys zs : List t.den} {e : TypeId}
theorem WL_storeH {k : Int} {a a' : t.den} {b off cap fo : Nat} {c : Value} {cs' : List Value} (H : Holds M w0 w (.sl e t v xs :: Γ) G) (hg : geti xs k = some a) (hv : v = .slice (some ⟨b, off, none⟩) xs.length cap)
  (hup : Upd (.sl e t v xs :: (Γ ++ G)) t fo cs' a a') (hcs : c.cells.toList = cs') (hi : (P.info? T).map (·.size) = some cs'.length) (hfo : Nat.ble (fo + cs'.length) t.size = true)
  (hw : wantedE ops E ⟨none, .store T x y, ty, ps, af, g⟩ = some true) (hx : ev E x = some (.pointer (some ⟨b, off + k.toNat * t.size + fo, none⟩))) (hy : ev E y = some c)
  (h : ∀ w', Holds M w0 w' (.sl e t v (xs.set k.toNat a') :: Γ) G → XL P ops n (.seq Q) l E w') :
  XL P ops n (.seq Q) (⟨none, .store T x y, ty, ps, af, g⟩ :: l) E w := by
 have hfo' : fo + cs'.length ≤ t.size := by simpa using hfo
 have h0 := (geti_lt hg).1
 have hlt := (geti_lt hg).2
 have hz : xs[k.toNat]? = some a := by unfold geti at hg; rw [if_pos h0] at hg; exact hg
 obtain ⟨ti, hi, hs⟩ := Option.map_eq_some_iff.1 hi
 have key : ∀ S L, L.map (·.1) = Γ ++ G → Sit w (.sl e t v xs) S → SitAll w L → ApartL ((.sl e t v xs, S) :: L) → ∃ w', (storeVar T ⟨b, off + k.toNat * t.size + fo, none⟩ c).run P w = .ok () w' ∧ ∃ S', Chg v.ownBlock.toList w w' ∧ Sit w' (.sl e t v (xs.set k.toNat a')) S' ∧ (∀ k ∈ S', w.heap.size ≤ k ∨ ∀ g ∈ L, k ∉ g.1.own) ∧ Dj v.ownBlock.toList S' := by
  intro S L h1 hS ht' ha
  obtain ⟨cs, h2, h3⟩ := hS
  have hS : Sit w (.sl e t v xs) S := ⟨cs, h2, h3⟩
  have hlen := h3.length (fun c x F h => Rep.length h)
  have hlenS := hS.lt.2
  obtain ⟨h5, h6⟩ := h2
  rcases h6 with ⟨h7, _⟩ | ⟨g, cap', cur, h7, _, hgg, hnc, hcm, hcz, htk⟩
  ·rw [hv] at h7; cases h7
  ·have e1 := h7
   rw [hv] at e1
   simp only [Value.slice.injEq, Option.some.injEq, Addr.mk.injEq, and_true, true_and] at e1
   obtain ⟨⟨rfl, rfl⟩, rfl⟩ := e1
   have hzone : ∀ k, (∃ f ∈ (Res.sl e t v xs, S) :: L, k ∈ f.2) → ∀ g ∈ (Res.sl e t v xs, S) :: L, k ∉ g.1.own := fun k ⟨f, hf, hk⟩ g hg => ha.zone hf hg hk
   obtain ⟨S', h8, h9⟩ := h3.upd (s := t.size) (fun c x F h => Rep.length h) hfo' (Z := fun k => ∃ f ∈ (Res.sl e t v xs, S) :: L, k ∈ f.2) (hup w ((.sl e t v xs, S) :: L) (by simp [h1]) ⟨hS, ht'⟩ ha) k.toNat hz
   have hS'z : ∀ k ∈ S', ∃ f ∈ (Res.sl e t v xs, S) :: L, k ∈ f.2 := fun k hk => by
    rcases h9 k hk with h | h
    ·exact h
    ·exact ⟨_, List.mem_cons_self, h⟩
   have hbnd : k.toNat * t.size + fo + cs'.length ≤ xs.length * t.size := by
    have : (k.toNat + 1) * t.size ≤ xs.length * t.size := Nat.mul_le_mul_right _ hlt
    rw [Nat.add_mul] at this; omega
   have hone : ∀ v ∈ cs', v.oneCell' = true := fun c hc => h8.one (fun c x F h => Rep.one h) c (by simp [hc])
   have hcap : xs.length * t.size ≤ cap * t.size := Nat.mul_le_mul_right _ hnc
   have hrun := run_storeCells_at P b (k.toNat * t.size + fo) e cs' 0 cur w hgg (by rw [hcz]; omega) hone
   simp only [Nat.add_zero] at hrun
   have hstv : (storeVar T ⟨b, 0 + k.toNat * t.size + fo, none⟩ c).run P w = .ok () (w.setRow b (cur.toList.take (k.toNat * t.size + fo) ++ cs' ++ cur.toList.drop (k.toNat * t.size + fo + cs'.length)).toArray) := by
    have hsz : c.cells.size = ti.size := by rw [hs, ← hcs]; simp
    simp [storeVar, sizeOf, typeInfo, hi, hsz, hcs, hrun]
   refine ⟨_, hstv, S', ?_, ⟨cs.take (k.toNat * t.size + fo) ++ cs' ++ cs.drop (k.toNat * t.size + fo + cs'.length), ?_, ?_⟩, fun k hk => .inr fun g hg => hzone k (hS'z k hk) g (by simp [hg]), fun k hk hk' => hzone k (hS'z k hk') _ List.mem_cons_self hk⟩
   ·rw [h7]; exact setRow_chg
   ·have := ownsRow_splice (w := w) (size := t.size) (off := k.toNat * t.size + fo) (vs := cs') hgg (by rw [hlen]) hnc hcm hcz htk (by omega)
    rw [h7, List.length_set]; exact this
   ·refine h8.imp fun c x F hF hR => hR.keep fun j hj => ?_
    have hz2 := hzone j (hS'z j (hF j hj)) _ List.mem_cons_self
    have hjb : ¬ j = b := fun e1 => hz2 (by simp [Res.own, h7, Value.ownBlock, e1])
    exact setRow_other w b j _ hjb
 obtain ⟨S, L, h1, hS, ht', ha⟩ := H.ctx.cons_inv
 obtain ⟨w', hrun, _⟩ := key S L h1 hS ht' ha
 refine WL_do (w' := w') hw (fun ρ hρ => ?_) rfl (h w' (H.upd fun S L h1 hS ht' ha => ?_))
 ·simp [execOp, hρ x _ hx, hρ y _ hy, Instr.storeAt, Instr.sureAddr, hrun]
 ·obtain ⟨w2, hrun2, S', h2, h3, h4, h5⟩ := key S L h1 hS ht' ha
  rw [hrun] at hrun2
  injection hrun2 with e1 e2
  subst e2
  exact ⟨S', h2, h3, fun k hk => .inl hk, h4, h5⟩
end walk
end Go.Proofs.YtkhnponakhabdaaGreatDoor
