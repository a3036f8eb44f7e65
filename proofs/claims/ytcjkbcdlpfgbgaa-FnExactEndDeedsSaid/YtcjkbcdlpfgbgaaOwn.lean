/- Slices that a call owns: made, appended to, written to. Own work, over any program. -/
import Derived.Test.YtcjkbcdlpfgbgaaMem
set_option linter.unusedVariables false
namespace Go.Proofs.Ytcjkbcdlpfgbgaa
open Go Go.RowKit
variable {P : Program}
/-- nothing that was there has changed but the blocks F -/
structure Chg (F : List Nat) (w w' : World) : Prop where
  os : w'.os = w.os
  tape : w'.tape = w.tape
  output : w'.output = w.output
  size : w.heap.size ≤ w'.heap.size
  block : ∀ k, k < w.heap.size → k ∉ F → w'.heap[k]? = w.heap[k]?
theorem Chg.below {F : List Nat} {w0 w w' : World} (h : Chg F w w') (hb : Below w0.heap.size w0 w) (hF : ∀ k ∈ F, w0.heap.size ≤ k) : Below w0.heap.size w0 w' :=
  hb.trans ⟨h.os, h.tape, h.output, h.size, fun k hk => h.block k (Nat.lt_of_lt_of_le hk hb.size) (fun hm => by have := hF k hm; omega)⟩
theorem Chg.refl (F : List Nat) (w : World) : Chg F w w := ⟨rfl, rfl, rfl, Nat.le_refl _, fun _ _ _ => rfl⟩
theorem Chg.trans {F : List Nat} {a b c : World} (h : Chg F a b) (k : Chg F b c) : Chg F a c :=
  ⟨k.os.trans h.os, k.tape.trans h.tape, k.output.trans h.output, Nat.le_trans h.size k.size, fun i hi hm => (k.block i (Nat.lt_of_lt_of_le hi h.size) hm).trans (h.block i hi hm)⟩
theorem chg_trans_below {F : List Nat} {a b c : World} (h : Chg F a b) (k : Below b.heap.size b c) : Chg F a c :=
  h.trans ⟨k.os, k.tape, k.output, k.size, fun i hi _ => k.block i hi⟩
def Dj (F G : List Nat) : Prop := ∀ k ∈ F, k ∉ G
theorem Dj.symm {F G : List Nat} (h : Dj F G) : Dj G F := fun k hk hk' => h k hk' hk
theorem Rep.chg {F G : List Nat} {w w' : World} {t : Ty} {cs : List Value} {x : t.den} (h : Rep w t cs x G) (hc : Chg F w w') (hd : Dj F G) : Rep w' t cs x G :=
  h.keep fun k hk => hc.block k (h.lt k hk) (fun hm => hd k hm hk)
theorem chg_of_below {w w' : World} (h : Below w.heap.size w w') : Chg [] w w' := ⟨h.os, h.tape, h.output, h.size, fun k hk _ => h.block k hk⟩
theorem grown_chg {w w' : World} {v : Value} (h : w.grownBy w' v.ownBlock) : Chg v.ownBlock.toList w w' :=
  ⟨h.os, h.tape, h.output, h.size, fun k hk hm => h.block k hk (fun e => hm (by rw [← e]; simp))⟩
/-- a slice of the call's own -/
def Own (w : World) (e : TypeId) (t : Ty) (v : Value) (xs : List t.den) (F : List Nat) : Prop :=
  ∃ cs Fe, w.ownsRow 0 e t.size v xs.length cs ∧ RepL (Rep w t) cs xs Fe ∧ F = v.ownBlock.toList ++ Fe ∧ Dj v.ownBlock.toList Fe
theorem Own.nil (w : World) (e : TypeId) (t : Ty) : Own w e t (.slice none 0 0) [] [] :=
  ⟨[], [], World.ownsRow_nil w 0 e t.size, ⟨rfl, rfl⟩, rfl, fun k hk => by cases hk⟩
theorem Own.lt {w : World} {e : TypeId} {t : Ty} {v : Value} {xs : List t.den} {F : List Nat} (h : Own w e t v xs F) : ∀ k ∈ F, k < w.heap.size := by
  obtain ⟨cs, Fe, h1, h2, rfl, _⟩ := h
  intro k hk
  rcases List.mem_append.1 hk with hk | hk
  · exact (h1.lt k (by simpa using hk)).2
  · exact h2.lt (fun c x F h => Rep.lt h) k hk
theorem Own.chg {F G : List Nat} {w w' : World} {e : TypeId} {t : Ty} {v : Value} {xs : List t.den} (h : Own w e t v xs G) (hc : Chg F w w') (hd : Dj F G) : Own w' e t v xs G := by
  have hlt := h.lt
  obtain ⟨cs, Fe, h1, h2, rfl, h4⟩ := h
  have hA : ∀ k ∈ v.ownBlock.toList ++ Fe, w'.heap[k]? = w.heap[k]? := fun k hk => hc.block k (hlt k hk) (fun hm => hd k hm hk)
  refine ⟨cs, Fe, ?_, h2.imp (fun c x F' hF hR => hR.keep (fun k hk => hA k (List.mem_append_right _ (hF k hk)))), rfl, h4⟩
  obtain ⟨h5, h6⟩ := h1
  refine ⟨h5, ?_⟩
  rcases h6 with h6 | ⟨b, cap, cur, rfl, hb, hg, rest⟩
  · exact .inl h6
  · exact .inr ⟨b, cap, cur, rfl, hb, by rw [hA b (by simp [Value.ownBlock])]; exact hg, rest⟩
theorem Own.below {G : List Nat} {w w' : World} {e : TypeId} {t : Ty} {v : Value} {xs : List t.den} (h : Own w e t v xs G) (hb : Below w.heap.size w w') : Own w' e t v xs G :=
  h.chg (chg_of_below hb) (fun k hk => by cases hk)
theorem Own.rep {w : World} {e : TypeId} {t : Ty} {v : Value} {xs : List t.den} {F : List Nat} (h : Own w e t v xs F) : ∃ F', Rep w (.slice t) [v] xs F' ∧ ∀ k ∈ F', k ∈ F := by
  obtain ⟨cs, Fe, h1, h2, rfl, _⟩ := h
  have hlen := h2.length (fun c x F h => Rep.length h)
  by_cases hx : xs = []
  · subst hx
    obtain ⟨h5, h6⟩ := h1
    rcases h6 with ⟨rfl, _⟩ | ⟨b, cap, cur, rfl, _⟩
    · exact ⟨[], ⟨none, 0, rfl, Nat.le_refl _, .inl ⟨rfl, rfl⟩⟩, fun k hk => by cases hk⟩
    · exact ⟨[], ⟨some ⟨b, 0, none⟩, cap, rfl, Nat.zero_le _, .inl ⟨rfl, rfl⟩⟩, fun k hk => by cases hk⟩
  · have h1' := h1
    obtain ⟨h5, h6⟩ := h1
    rcases h6 with ⟨rfl, h7⟩ | ⟨b, cap, cur, rfl, _, hg, hncap, _⟩
    · exact absurd (List.eq_nil_of_length_eq_zero h7) hx
    · refine ⟨b :: Fe, ⟨some ⟨b, 0, none⟩, cap, rfl, hncap, .inr ⟨b, 0, cs, Fe, hx, rfl, rfl, h2, fun j u hj => ?_⟩⟩, fun k hk => ?_⟩
      · have := h1'.cells (g := b) rfl j u hj
        rwa [Addr.add_none] at this
      · simpa [Value.ownBlock] using hk
/-- the room that a slice takes is bounded -/
def room (n : Nat) : Bool := Nat.ble n 1099511627776
def appO {α : Type} (xs ys : List α) : Option (List α) := if room (xs.length + ys.length) then some (xs ++ ys) else none
theorem appO_some {α : Type} {xs ys zs : List α} (h : appO xs ys = some zs) : xs.length + ys.length ≤ 1099511627776 ∧ zs = xs ++ ys := by
  unfold appO at h
  split at h
  · rename_i hr; exact ⟨by simpa [room] using hr, (Option.some.inj h).symm⟩
  · cases h
theorem RepL.append {α : Type} {R : List Value → α → List Nat → Prop} : ∀ {xs ys : List α} {cs ds : List Value} {F G : List Nat}, RepL R cs xs F → RepL R ds ys G → RepL R (cs ++ ds) (xs ++ ys) (F ++ G)
  | [], _, _, _, _, _, h, k => by rw [h.1, h.2]; exact k
  | x :: xs, ys, cs, ds, F, G, ⟨c1, c2, F1, F2, h1, h2, h3, h4⟩, k => ⟨c1, c2 ++ ds, F1, F2 ++ G, by rw [h1, List.append_assoc], by rw [h2, List.append_assoc], h3, h4.append k⟩
/-- cells of values are single cells -/
theorem Rep.one {w : World} : ∀ {t : Ty} {cs : List Value} {x : t.den} {F : List Nat}, Rep w t cs x F → ∀ u ∈ cs, u.oneCell' = true
  | .int _, _, _, _, h, u, hu => by rw [h.1] at hu; simp at hu; subst hu; rfl
  | .bool, _, _, _, h, u, hu => by rw [h.1] at hu; simp at hu; subst hu; rfl
  | .str, _, _, _, h, u, hu => by rw [h.1] at hu; simp at hu; subst hu; rfl
  | .slice _, _, _, _, ⟨p, cap, h, _⟩, u, hu => by rw [h] at hu; simp at hu; subst hu; rfl
  | .pair a b, _, _, _, ⟨c1, c2, F1, F2, h1, h2, h3, h4⟩, u, hu => by
    rw [h1] at hu
    rcases List.mem_append.1 hu with hu | hu
    · exact h3.one u hu
    · exact h4.one u hu
theorem RepL.one {α : Type} {R : List Value → α → List Nat → Prop} (hR : ∀ c x F, R c x F → ∀ u ∈ c, u.oneCell' = true) : ∀ {xs : List α} {cs : List Value} {F : List Nat}, RepL R cs xs F → ∀ u ∈ cs, u.oneCell' = true
  | [], _, _, h, u, hu => by rw [h.1] at hu; cases hu
  | x :: xs, cs, F, ⟨c1, c2, F1, F2, h1, h2, h3, h4⟩, u, hu => by
    rw [h1] at hu
    rcases List.mem_append.1 hu with hu | hu
    · exact hR _ _ _ h3 u hu
    · exact h4.one hR u hu

theorem Own.isLen {w : World} {e : TypeId} {t : Ty} {v : Value} {xs : List t.den} {F : List Nat} (h : Own w e t v xs F) : ∃ p cap, v = .slice p xs.length cap := by
  obtain ⟨F', hr, _⟩ := h.rep
  exact hr.len
theorem dj_fresh {w : World} {F G : List Nat} (hF : ∀ k ∈ F, w.heap.size ≤ k) (hG : ∀ k ∈ G, k < w.heap.size) : Dj F G := fun k hk hk' => by have := hF k hk; have := hG k hk'; omega
theorem dj_app {w : World} {F F' G : List Nat} (hF : ∀ k ∈ F', k ∈ F ∨ w.heap.size ≤ k) (hd : Dj F G) (hG : ∀ k ∈ G, k < w.heap.size) : Dj F' G := fun k hk hk' => by
  rcases hF k hk with h | h
  · exact hd k h hk'
  · have := hG k hk'; omega
theorem lo_fresh {w0 w : World} {F : List Nat} (hb : Below w0.heap.size w0 w) (hF : ∀ k ∈ F, w.heap.size ≤ k) : ∀ k ∈ F, w0.heap.size ≤ k := fun k hk => Nat.le_trans hb.size (hF k hk)
theorem lo_app {w0 w : World} {F F' : List Nat} (hb : Below w0.heap.size w0 w) (hF : ∀ k ∈ F', k ∈ F ∨ w.heap.size ≤ k) (hlo : ∀ k ∈ F, w0.heap.size ≤ k) : ∀ k ∈ F', w0.heap.size ≤ k := fun k hk => by
  rcases hF k hk with h | h
  · exact hlo k h
  · exact Nat.le_trans hb.size h
theorem dj_sub {F F' G : List Nat} (h : Dj F G) (hs : ∀ k ∈ F', k ∈ F) : Dj F' G := fun k hk => h k (hs k hk)
theorem lo_nil {w : World} : ∀ k ∈ ([] : List Nat), w.heap.size ≤ k := fun k hk => by cases hk
theorem dj_nil {G : List Nat} : Dj [] G := fun k hk => by cases hk
/-! ### append -/
theorem info3 {e : TypeId} {z : Option Value} {sz by_ : Nat} (h : (P.info? e).map (fun i => (i.zero, i.size, i.bytes)) = some (z, sz, by_)) : ∃ i, P.info? e = some i ∧ i.zero = z ∧ i.size = sz ∧ i.bytes = by_ := by
  cases hi : P.info? e with
  | none => rw [hi] at h; cases h
  | some i => rw [hi] at h; simp only [Option.map_some, Option.some.injEq, Prod.mk.injEq] at h; exact ⟨i, rfl, h.1, h.2.1, h.2.2⟩
theorem run_append_nothing' {T ty e : TypeId} {i : TypeInfo} (w : World) (ht : P.underlying T = some (.slice e)) (hi : P.info? e = some i) (p q : Option Addr) (n cap c : Nat) (hle : n ≤ cap) :
    (Builtin.append_ #[T, T] ty #[.slice p n cap, .slice q 0 c]).run P w = .ok (.slice p n cap) w := by
  cases p <;> cases q <;> simp [Builtin.append_, run_underlying ht, sizeOf, typeInfo, hi, Builtin.lenOf, hle, Builtin.firstCells, loadCells, loadCellsFrom, storeCells]
theorem append_run {T ty e : TypeId} {t : Ty} {z : Value} {by_ : Nat} {w : World} {v u : Value} {xs ys zs : List t.den} {F G : List Nat}
    (ht : P.underlying T = some (.slice e)) (hi : (P.info? e).map (fun i => (i.zero, i.size, i.bytes)) = some (some z, t.size, by_)) (hzs : z.cells.size = t.size) (hby : by_ ≤ 128)
    (hown : Own w e t v xs F) (hr : Rep w (.slice t) [u] ys G) (hd : Dj F G) (hz : appO xs ys = some zs) :
    ∃ v' w' F', (Builtin.append_ #[T, T] ty #[v, u]).run P w = .ok v' w' ∧ Own w' e t v' zs F' ∧ Chg F w w' ∧ (∀ k ∈ F', k ∈ F ∨ k ∈ G ∨ w.heap.size ≤ k) ∧ (∀ k ∈ v'.ownBlock.toList, k ∈ v.ownBlock.toList ∨ w.heap.size ≤ k) := by
  obtain ⟨i, hi, hz0, hsz, hbyt⟩ := info3 hi
  obtain ⟨hroom, rfl⟩ := appO_some hz
  have hlt := hown.lt
  obtain ⟨cs, Fe, h1, h2, rfl, h4⟩ := hown
  have hmax : xs.length + ys.length ≤ maxLen := by simp only [maxLen]; omega
  have hbytes : (xs.length + ys.length) * i.bytes ≤ 140737488355328 := by
    have : (xs.length + ys.length) * i.bytes ≤ 1099511627776 * 128 := Nat.mul_le_mul hroom (by omega)
    omega
  have hlen := h2.length (fun c x F h => Rep.length h)
  obtain ⟨p, cap, hu, hcapu, hrest⟩ := hr
  simp only [List.cons.injEq, and_true] at hu
  rcases hrest with ⟨rfl, rfl⟩ | ⟨b, off, bs, G', hne, rfl, rfl, h6, h7⟩
  · -- nothing is appended
    subst hu
    have h1' := h1
    obtain ⟨h5, h8⟩ := h1
    have hle : ∃ q c, v = .slice q xs.length c ∧ xs.length ≤ c := by
      rcases h8 with ⟨rfl, h9⟩ | ⟨b, cap, cur, rfl, _, _, h9, _⟩
      · exact ⟨none, 0, by rw [h9], by omega⟩
      · exact ⟨_, _, rfl, h9⟩
    obtain ⟨q, c, rfl, hle⟩ := hle
    refine ⟨_, w, _, run_append_nothing' w ht hi q p _ _ _ hle, ⟨cs, Fe, by simpa using h1', by simpa using h2, rfl, h4⟩, ⟨rfl, rfl, rfl, Nat.le_refl _, fun _ _ _ => rfl⟩, fun k hk => .inl hk, fun k hk => .inl hk⟩
  · subst hu
    have hbl := h6.length (fun c x F h => Rep.length h)
    have hnews : ∀ j x, bs[j]? = some x → w.cell? ((⟨b, off, none⟩ : Addr).add j) = some x := fun j x hj => by rw [Addr.add_none]; exact h7 j x hj
    have hone : ∀ x ∈ bs, x.oneCell' = true := h6.one (fun c x F h => Rep.one h)
    obtain ⟨v', w', hrun, hown', hg, _⟩ := run_append_own (P := P) w 0 T ty e i z t.size i.bytes ht hi hz0 hsz rfl hzs t.size_pos v xs.length cs h1 ⟨b, off, none⟩ ys.length cap bs hbl hnews hone hmax hbytes (Nat.zero_le _)
    have hblock : v'.ownBlock = v.ownBlock ∨ v'.ownBlock = some w.heap.size := by
      have h1' := h1
      obtain ⟨h5, h8⟩ := h1
      rcases h8 with ⟨rfl, h9⟩ | ⟨g, cap', cur, rfl, hb0, hgg, hnc, hcm, hcs, htake⟩
      · obtain ⟨v2, w2, hrun2, hown2, _, _⟩ := run_append_own (P := P) w w.heap.size T ty e i z t.size i.bytes ht hi hz0 hsz rfl hzs t.size_pos (.slice none 0 0) xs.length cs ⟨h5, .inl ⟨rfl, h9⟩⟩ ⟨b, off, none⟩ ys.length cap bs hbl hnews hone hmax hbytes (Nat.le_refl _)
        rw [hrun] at hrun2
        injection hrun2 with e1 e2
        subst e1; subst e2
        have hypos : 0 < ys.length := List.length_pos_iff.2 hne
        have hcs0 : cs = [] := List.eq_nil_of_length_eq_zero (by rw [h5, h9]; simp)
        subst hcs0
        have hr := run_append_nil (P := P) w T ty e i z ht hi hz0 ⟨b, off, none⟩ ys.length cap bs (by rw [hsz]; exact hbl) hnews hypos (by omega) (by
          have : ys.length * i.bytes ≤ 1099511627776 * 128 := Nat.mul_le_mul (by omega) (by omega)
          omega)
        rw [hrun] at hr
        injection hr with e1 e2
        right; rw [e1]; rfl
      · by_cases hroom' : xs.length + ys.length ≤ cap'
        · have hfit : xs.length * i.size + bs.length ≤ cur.size := by rw [hbl, hcs, hsz, ← Nat.add_mul]; exact Nat.mul_le_mul_right _ hroom'
          have hr := run_append_room (P := P) w T ty e i ht hi g xs.length cap' cur hgg ⟨b, off, none⟩ ys.length cap bs (by rw [hsz]; exact hbl) hnews hone hroom' hfit
          rw [hrun] at hr
          injection hr with e1 e2
          left; rw [e1]; rfl
        · have holds : ∀ j u, cs[j]? = some u → w.cell? ((⟨g, 0, none⟩ : Addr).add j) = some u := h1'.cells (g := g) rfl
          have hr := run_append_grow (P := P) w T ty e i z ht hi hz0 ⟨g, 0, none⟩ xs.length cap' cs (by rw [hsz]; exact h5) holds ⟨b, off, none⟩ ys.length cap bs (by rw [hsz]; exact hbl) hnews (by omega) (by omega) (growslice_fits (by omega) hbytes)
          rw [hrun] at hr
          injection hr with e1 e2
          right; rw [e1]; rfl
    have hchg : Chg (v.ownBlock.toList ++ Fe) w w' := ⟨hg.os, hg.tape, hg.output, hg.size, fun k hk hm => hg.block k hk (fun e => hm (List.mem_append_left _ (by rw [← e]; simp)))⟩
    have hA : ∀ k, k < w.heap.size → k ∉ v.ownBlock.toList → w'.heap[k]? = w.heap[k]? := fun k hk hm => hg.block k hk (fun e => hm (by rw [← e]; simp))
    have hsub : ∀ k ∈ v'.ownBlock.toList, k ∈ v.ownBlock.toList ∨ w.heap.size ≤ k := fun k hk => by
      rcases hblock with e | e
      · rw [e] at hk; exact .inl hk
      · rw [e] at hk; simp at hk; right; omega
    have hGlt : ∀ k ∈ G', k < w.heap.size := h6.lt (fun c x F h => Rep.lt h)
    have hFelt : ∀ k ∈ Fe, k < w.heap.size := fun k hk => hlt k (List.mem_append_right _ hk)
    refine ⟨v', w', v'.ownBlock.toList ++ (Fe ++ G'), hrun, ⟨cs ++ bs, Fe ++ G', by rw [List.length_append]; exact hown', ?_, rfl, fun k hk hk' => ?_⟩, hchg, fun k hk => ?_, hsub⟩
    · refine RepL.append (h2.imp fun c x F' hF hR => hR.keep fun k hk => hA k (hFelt k (hF k hk)) (fun hm => h4 k hm (hF k hk))) (h6.imp fun c x F' hF hR => hR.keep fun k hk => hA k (hGlt k (hF k hk)) (fun hm => hd k (List.mem_append_left _ hm) (List.mem_cons_of_mem _ (hF k hk))))
    · rcases List.mem_append.1 hk' with hk' | hk'
      · rcases hsub k hk with h | h
        · exact h4 k h hk'
        · have := hFelt k hk'; omega
      · rcases hsub k hk with h | h
        · exact hd k (List.mem_append_left _ h) (List.mem_cons_of_mem _ hk')
        · have := hGlt k hk'; omega
    · rcases List.mem_append.1 hk with hk | hk
      · rcases hsub k hk with h | h
        · exact .inl (List.mem_append_left _ h)
        · exact .inr (.inr h)
      · rcases List.mem_append.1 hk with hk | hk
        · exact .inl (List.mem_append_right _ hk)
        · exact .inr (.inl (List.mem_cons_of_mem _ hk))

/-- types whose values are one cell each, and point nowhere -/
def flat : Ty → Bool
  | .int _ => true
  | .bool => true
  | .str => true
  | _ => false
theorem flat_rep {w : World} {t : Ty} (ht : flat t = true) : ∀ c x F, Rep w t c x F → F = [] ∧ c.length = 1 := by
  intro c x F h
  cases t <;> first | exact ⟨h.2, by rw [h.1]; rfl⟩ | cases ht
theorem flat_w {w w' : World} {t : Ty} (ht : flat t = true) {c : List Value} {x : t.den} {F : List Nat} (h : Rep w t c x F) : Rep w' t c x F := by
  cases t <;> first | exact h | cases ht
theorem RepL.flatF {α : Type} {R : List Value → α → List Nat → Prop} (hF : ∀ c x F, R c x F → F = []) : ∀ {xs : List α} {cs : List Value} {F : List Nat}, RepL R cs xs F → F = []
  | [], _, _, h => h.2
  | x :: xs, cs, F, ⟨c1, c2, F1, F2, h1, h2, h3, h4⟩ => by rw [h2, hF _ _ _ h3, h4.flatF hF]; rfl
/-! ### The operations that write, in a walk -/
section walk
variable {ops : Array Oper} {Q : Exit → Act → World → Prop} {n : Nat} {l : List Oper} {E : Env} {w : World} {o : Oper} {d : Nat} {ty : TypeId} {ps : String} {af : Array Edge} {g : Option (Nat × Bool)} {x y z : Operand} {T : TypeId}
/-- one operation that changes the world -/
theorem WL_run {v : Value} {w' : World} (hw : wantedE ops E o = some true) (hrun : ∀ ρ, Sat ρ E → (execOp ρ o).run P w = .ok (.value v) w') (hd : o.dst = some d) (hn : Nat.blt d n = true) (h : XL P ops n (.seq Q) l ((d, v) :: E) w') :
    XL P ops n (.seq Q) (o :: l) E w := by
  intro a ha
  unfold wpList
  rw [if_pos (wanted_of ha hw)]
  refine .inl ?_
  unfold Oper.wp
  rw [hrun a.eval (fun x u hx => ha.eval hx)]
  show wpList P ops Q l (a.put o.dst v) w'
  rw [hd]
  exact h _ (ha.put hn v)
theorem WL_do {w' : World} (hw : wantedE ops E o = some true) (hrun : ∀ ρ, Sat ρ E → (execOp ρ o).run P w = .ok .skip w') (hd : o.dst = none) (h : XL P ops n (.seq Q) l E w') :
    XL P ops n (.seq Q) (o :: l) E w := by
  intro a ha
  unfold wpList
  rw [if_pos (wanted_of ha hw)]
  refine .inl ?_
  unfold Oper.wp
  rw [hrun a.eval (fun x u hx => ha.eval hx)]
  show wpList P ops Q l (a.put o.dst undef) w'
  rw [hd]
  exact h _ ha
theorem WL_append {e : TypeId} {t : Ty} {z : Value} {by_ : Nat} {v u : Value} {xs ys zs : List t.den} {F G : List Nat}
    (ht : P.underlying T = some (.slice e)) (hi : (P.info? e).map (fun i => (i.zero, i.size, i.bytes)) = some (some z, t.size, by_)) (hzs : z.cells.size = t.size) (hby : Nat.ble by_ 128 = true)
    (hown : Own w e t v xs F) (hr : Rep w (.slice t) [u] ys G) (hdj : Dj F G) (hz : appO xs ys = some zs)
    (hw : wantedE ops E ⟨some d, .call ⟨.builtin .append, #[x, y], #[T, T]⟩, ty, ps, af, g⟩ = some true) (hx : ev E x = some v) (hy : ev E y = some u) (hn : Nat.blt d n = true)
    (h : ∀ v' w' F', Own w' e t v' zs F' → Chg F w w' → (∀ k ∈ F', k ∈ F ∨ k ∈ G ∨ w.heap.size ≤ k) → (∀ k ∈ v'.ownBlock.toList, k ∈ v.ownBlock.toList ∨ w.heap.size ≤ k) → XL P ops n (.seq Q) l ((d, v') :: E) w') :
    XL P ops n (.seq Q) (⟨some d, .call ⟨.builtin .append, #[x, y], #[T, T]⟩, ty, ps, af, g⟩ :: l) E w := by
  obtain ⟨v', w', F', hrun, h1, h2, h3, h4⟩ := append_run (ty := ty) ht hi hzs (by simpa using hby) hown hr hdj hz
  refine WL_run hw (fun ρ hρ => ?_) rfl hn (h v' w' F' h1 h2 h3 h4)
  simp [execOp, resolve, invoke, builtin, hρ x _ hx, hρ y _ hy, hrun]
theorem WL_appendF {e : TypeId} {t : Ty} {z : Value} {by_ : Nat} {v u : Value} {xs ys zs : List t.den} {F G : List Nat} (hfl : flat t = true)
    (ht : P.underlying T = some (.slice e)) (hi : (P.info? e).map (fun i => (i.zero, i.size, i.bytes)) = some (some z, t.size, by_)) (hzs : z.cells.size = t.size) (hby : Nat.ble by_ 128 = true)
    (hown : Own w e t v xs F) (hr : Rep w (.slice t) [u] ys G) (hdj : Dj F G) (hz : appO xs ys = some zs)
    (hw : wantedE ops E ⟨some d, .call ⟨.builtin .append, #[x, y], #[T, T]⟩, ty, ps, af, g⟩ = some true) (hx : ev E x = some v) (hy : ev E y = some u) (hn : Nat.blt d n = true)
    (h : ∀ v' w' F', Own w' e t v' zs F' → Chg F w w' → (∀ k ∈ F', k ∈ F ∨ w.heap.size ≤ k) → XL P ops n (.seq Q) l ((d, v') :: E) w') :
    XL P ops n (.seq Q) (⟨some d, .call ⟨.builtin .append, #[x, y], #[T, T]⟩, ty, ps, af, g⟩ :: l) E w := by
  refine WL_append ht hi hzs hby hown hr hdj hz hw hx hy hn fun v' w' F' h1 h2 _ h7 => h v' w' F' h1 h2 fun k hk => ?_
  have hlt : ∀ k ∈ G, k < w.heap.size := hr.lt
  obtain ⟨cs, Fe, h4, h5, rfl, h6⟩ := h1
  have hFe : Fe = [] := h5.flatF (fun c x F h => (flat_rep hfl c x F h).1)
  subst hFe
  have hk2 : k ∈ v'.ownBlock.toList := by simpa using hk
  rcases h7 k hk2 with h8 | h8
  · obtain ⟨cs0, Fe0, _, _, rfl, _⟩ := hown
    exact .inl (List.mem_append_left _ h8)
  · exact .inr h8
def mkO {α : Type} (z : α) (n : Int) : Option (List α) := if decide (0 ≤ n) && room n.toNat then some (List.replicate n.toNat z) else none
theorem mkO_some {α : Type} {z : α} {n : Int} {zs : List α} (h : mkO z n = some zs) : 0 ≤ n ∧ n.toNat ≤ 1099511627776 ∧ zs = List.replicate n.toNat z := by
  unfold mkO at h
  split at h
  · rename_i hr
    simp only [Bool.and_eq_true, decide_eq_true_eq, room, Nat.ble_eq] at hr
    exact ⟨hr.1, hr.2, (Option.some.inj h).symm⟩
  · cases h
theorem RepL.replicate {α : Type} {R : List Value → α → List Nat → Prop} {c : Value} {x : α} (h : R [c] x []) : ∀ n, RepL R (List.replicate n c) (List.replicate n x) []
  | 0 => ⟨rfl, rfl⟩
  | n + 1 => ⟨[c], List.replicate n c, [], [], rfl, rfl, h, RepL.replicate h n⟩
/-- make, for elements of one cell -/
theorem WL_make {e : TypeId} {t : Ty} {c : Value} {by_ : Nat} {zx : t.den} {k : IntKind} {m : Int} {zs : List t.den}
    (ht : P.underlying T = some (.slice e)) (hi : (P.info? e).map (fun i => (i.zero, i.size, i.bytes)) = some (some c, t.size, by_)) (hone : t.size = 1) (hzc : c.cells = #[c]) (hz : ∀ w, Rep w t [c] zx []) (hby : Nat.ble by_ 128 = true)
    (hm : mkO zx m = some zs)
    (hw : wantedE ops E ⟨some d, .makeSlice T x y, ty, ps, af, g⟩ = some true) (hx : ev E x = some (.int k m)) (hy : ev E y = some (.int k m)) (hn : Nat.blt d n = true)
    (h : ∀ v' w' F', Own w' e t v' zs F' → Below w.heap.size w w' → (∀ k ∈ F', w.heap.size ≤ k) → XL P ops n (.seq Q) l ((d, v') :: E) w') :
    XL P ops n (.seq Q) (⟨some d, .makeSlice T x y, ty, ps, af, g⟩ :: l) E w := by
  obtain ⟨h0, hr, rfl⟩ := mkO_some hm
  obtain ⟨i, hi, hz0, hsz, hbyt⟩ := info3 hi
  have hby' : by_ ≤ 128 := by simpa using hby
  have hb : i.bytes * m.toNat ≤ 281474976710656 := by
    have : i.bytes * m.toNat ≤ 128 * 1099511627776 := Nat.mul_le_mul (by omega) hr
    omega
  obtain ⟨w', hrun, hown, hg⟩ := run_make_full (P := P) w 0 T e i c t.size ht hi hz0 hsz k k m.toNat hb (by simp only [maxLen]; omega) (Nat.zero_le _)
  have hbelow : Below w.heap.size w w' := ⟨hg.os, hg.tape, hg.output, hg.size, fun k hk => hg.block k hk (by simp)⟩
  have hmm : ((m.toNat : Nat) : Int) = m := by omega
  refine WL_run (v := .slice (some ⟨w.heap.size, 0, none⟩) m.toNat m.toNat) (w' := w') hw (fun ρ hρ => ?_) rfl hn (h _ w' [w.heap.size] ⟨List.replicate m.toNat c, [], ?_, RepL.replicate (hz w') _, by simp [Value.ownBlock], fun k _ hk => by cases hk⟩ hbelow (fun k hk => by simp at hk; omega))
  · rw [hmm] at hrun
    simp [execOp, hρ x _ hx, hρ y _ hy, hrun]
  · rw [List.length_replicate]
    rw [hzc, hone, Nat.mul_one, toList_madeCells_one] at hown
    rw [hone]
    exact hown
theorem RepL.set_one {α : Type} {R : List Value → α → List Nat → Prop} (hR1 : ∀ c x F, R c x F → c.length = 1) : ∀ {xs : List α} {cs : List Value} (k : Nat) {c : Value} {x : α}, R [c] x [] → (∀ c x F, R c x F → F = []) → RepL R cs xs [] → RepL R (cs.set k c) (xs.set k x) []
  | [], cs, k, c, x, h, hF, hr => by rw [hr.1]; simp; exact ⟨rfl, rfl⟩
  | y :: ys, cs, k, c, x, h, hF, ⟨c1, c2, F1, F2, h1, h2, h3, h4⟩ => by
    have hl := hR1 _ _ _ h3
    obtain ⟨c0, rfl⟩ := List.length_eq_one_iff.1 hl
    obtain rfl := hF _ _ _ h3
    have hF2 : F2 = [] := by simpa using h2.symm
    subst hF2
    subst h1
    cases k with
    | zero => exact ⟨[c], c2, [], [], rfl, rfl, h, h4⟩
    | succ k => exact ⟨[c0], c2.set k c, [], [], rfl, rfl, h3, RepL.set_one hR1 k h hF h4⟩
/-- the place of an element of the call's own slice -/
theorem XL_indexO {md : Md} {e : TypeId} {t : Ty} {v : Value} {xs : List t.den} {F : List Nat} {k : Int} {u : t.den} (hT : P.underlying T = some (.slice e)) (hi : (P.info? e).map (·.size) = some t.size)
    (hown : Own w e t v xs F) (hg : geti xs k = some u)
    (hw : wantedE ops E ⟨some d, .indexAddr T x y, ty, ps, af, g⟩ = some true) (hx : ev E x = some v) (hy : ev E y = some (i64 k)) (hn : Nat.blt d n = true)
    (h : ∀ b cap F', v = .slice (some ⟨b, 0, none⟩) xs.length cap → b ∈ F → AtP w t b (k.toNat * t.size) u F' → (∀ i ∈ F', i ∈ F) → XL P ops n md l ((d, .pointer (some ⟨b, k.toNat * t.size, none⟩)) :: E) w) : XL P ops n md (⟨some d, .indexAddr T x y, ty, ps, af, g⟩ :: l) E w := by
  obtain ⟨F1, hr, hsub⟩ := hown.rep
  obtain ⟨b, o, cap, F', rfl, h0, hlt, hb, hat, hs2⟩ := hr.at hg
  have ho : o = 0 := by
    obtain ⟨cs, Fe, h1, _⟩ := hown
    rcases h1.2 with ⟨h3, _⟩ | ⟨_, _, _, h3, _⟩
    · simp at h3
    · simp only [Value.slice.injEq, Option.some.injEq, Addr.mk.injEq] at h3; exact h3.1.2.1
  subst ho
  obtain ⟨i, hi, hs⟩ := Option.map_eq_some_iff.1 hi
  rw [Nat.zero_add] at hat
  refine XL_q (v := .pointer (some ⟨b, k.toNat * t.size, none⟩)) hw ?_ rfl hn (h b cap F' rfl (hsub b hb) hat (fun i hi => hsub i (hs2 i hi)))
  intro w' _ ρ hρ
  have hk : k < (xs.length : Int) := by omega
  simp [execOp, hρ x _ hx, hρ y _ hy, Instr.indexAt, asIntOf, run_underlying hT, h0, hk, sizeOf, typeInfo, hi, hs, Addr.add_none]
/-- a store into the call's own slice, elements of one cell -/
theorem WL_store {e : TypeId} {t : Ty} {b cap : Nat} {xs : List t.den} {F : List Nat} {k : Int} {u : t.den} {c : Value} (hf : flat t = true)
    (hi : (P.info? T).map (·.size) = some 1) (hown : Own w e t (.slice (some ⟨b, 0, none⟩) xs.length cap) xs F) (hc : Rep w t [c] u [])
    (hw : wantedE ops E ⟨none, .store T x y, ty, ps, af, g⟩ = some true) (hx : ev E x = some (.pointer (some ⟨b, k.toNat * t.size, none⟩))) (hy : ev E y = some c) (hk : k.toNat < xs.length)
    (h : ∀ w', Own w' e t (.slice (some ⟨b, 0, none⟩) xs.length cap) (xs.set k.toNat u) F → Chg F w w' → XL P ops n (.seq Q) l E w') :
    XL P ops n (.seq Q) (⟨none, .store T x y, ty, ps, af, g⟩ :: l) E w := by
  have hs1 : t.size = 1 := by cases t <;> first | rfl | cases hf
  obtain ⟨i, hi, hs⟩ := Option.map_eq_some_iff.1 hi
  obtain ⟨cs, Fe, h1, h2, rfl, h4⟩ := hown
  have hFe : Fe = [] := h2.flatF (fun c x F h => (flat_rep hf c x F h).1)
  subst hFe
  have hst := h1.stored k.toNat c
  have hlen := h2.length (fun c x F h => (flat_rep hf c x F h).2)
  have hcell := h1.cellAt k.toNat (by rw [hs1]; omega)
  have hfz := h1.frozenAt k.toNat
  have hsome : ∃ c0, cs[k.toNat]? = some c0 := ⟨cs[k.toNat]'(by rw [hlen]; omega), List.getElem?_eq_getElem (by rw [hlen]; omega)⟩
  obtain ⟨c0, hc0⟩ := hsome
  rw [hc0] at hcell
  have hone : c.oneCell' = true := Rep.one hc c (by simp)
  have hcc : c.cells = #[c] := by cases t <;> first | (have := hc.1; simp at this; subst this; rfl) | cases hf
  refine WL_do (w' := w.setCell ⟨b, k.toNat, none⟩ c) hw (fun ρ hρ => ?_) rfl (h _ ⟨cs.set k.toNat c, [], by rw [List.length_set]; exact hst.1, ?_, rfl, fun k _ hk => by cases hk⟩ (by simpa [Value.ownBlock] using grown_chg (v := .slice (some ⟨b, 0, none⟩) xs.length cap) hst.2))
  · have hna : ∀ x, c ≠ .agg x := fun x e => by rw [e] at hcc; cases t <;> first | (have := hc.1; simp at this; rw [e] at this; cases this) | cases hf
    have hnt : ∀ x, c ≠ .tuple x := fun x e => by cases t <;> first | (have := hc.1; simp at this; rw [e] at this; cases this) | cases hf
    have hsz : c.cells.size = 1 := by rw [hcc]; rfl
    rw [hs1, Nat.mul_one] at hx
    have hstore : (store ⟨b, k.toNat, none⟩ c).run P w = .ok () (w.setCell ⟨b, k.toNat, none⟩ c) := by
      cases t <;> first | (have := hc.1; simp at this; subst this; simp [store, Sem.run, hcell, hfz]) | cases hf
    simp [execOp, hρ x _ hx, hρ y _ hy, Instr.storeAt, Instr.sureAddr, storeVar, sizeOf, typeInfo, hi, hs, hcc, storeCells, Addr.add_none, hstore]
  · exact RepL.set_one (fun c x F h => (flat_rep hf c x F h).2) _ (flat_w hf hc) (fun c x F h => (flat_rep hf c x F h).1) (h2.imp fun c x F hF hR => flat_w hf hR)
end walk
end Go.Proofs.Ytcjkbcdlpfgbgaa
