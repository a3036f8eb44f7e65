/- Regions that draw their order: what reads where nobody writes comes first; the rest in every order. Own work, over any program. -/
import Derived.Test.YtkhnponakhabdaaGreatDoorDeep2
import Derived.StillTail
set_option linter.unusedVariables false
namespace Go.Proofs.YtkhnponakhabdaaGreatDoor
open Go Go.RowKit
variable {P : Program}
def wpAnyT (P : Program) (ops : Array Oper) (Q : Exit → Act → World → Prop) (S : World → Prop) (tl : Nat) : Nat → Array Bool → Act → World → Prop
 | 0, listed, a, w => Region.ready .any ops listed = [] ∧ Q .normal a w
 | fuel + 1, listed, a, w => (Region.ready .any ops listed = [] → Q .normal a w) ∧
  ∀ i ∈ Region.ready .any ops listed, wpOp P ops Q i (fun a' w' => (i < tl → S w') ∧ wpAnyT P ops Q S tl fuel (listed.setIfInBounds i true) a' w') a w
section
variable {ops : Array Oper} {Q : Exit → Act → World → Prop} {S : World → Prop} {tl : Nat}
theorem wpAnyT_any : ∀ (fuel : Nat) (listed : Array Bool) (a : Act) (w : World), wpAnyT P ops Q S tl fuel listed a w → wpAny P .any ops Q fuel listed a w
 | 0, _, _, _, h => h
 | fuel + 1, _, _, _, h => ⟨h.1, fun i hi => wpOp_mono (fun a' w' h' => wpAnyT_any fuel _ a' w' h'.2) (h.2 i hi)⟩
theorem lt_of_blt {i n : Nat} (h : Nat.blt i n = true) : i < n := by
 have : i + 1 ≤ n := by simpa [Nat.blt, Nat.ble_eq] using h
 omega
def tailB (ops : Array Oper) (tl i : Nat) : Bool := (List.range ops.size).all fun j => Nat.blt j tl || Region.waitsFor .any ops j i
theorem tail_lt {i j : Nat} {listed : Array Bool} (ht : tailB ops tl i = true) (hi : i ∈ Region.ready .any ops listed) (hj : j ∈ Region.ready .any ops listed) : j < tl := by
 obtain ⟨_, oj, hoj, hall⟩ := mem_ready.1 hj
 have hjs : j < ops.size := (Array.getElem?_eq_some_iff.1 hoj).1
 have h1 := List.all_eq_true.1 ht j (List.mem_range.2 hjs)
 rcases Nat.lt_or_ge j tl with h | h
 ·exact h
 ·have h2 : Nat.blt j tl = false := by
   rw [Bool.eq_false_iff]; intro hb; have := lt_of_blt hb; omega
  rw [h2, Bool.false_or] at h1
  obtain ⟨oj', hoj', e, he, hb, hon⟩ := Region.waitsFor_spec h1
  rw [hoj] at hoj'
  obtain rfl := Option.some.inj hoj'
  have h3 := hall e he hb
  have h0 := (mem_ready.1 hi).1
  rw [hon] at h3
  rcases Nat.lt_or_ge i listed.size with h' | h'
  ·simp [h'] at h0 h3; rw [h0] at h3; cases h3
  ·simp [Array.getElem?_eq_none h'] at h3
theorem wpAnyT_first {i : Nat} {oi : Oper} {v : Value} (hi : ops[i]? = some oi) (hsel : ∀ (j : Nat) (o : Oper) cs b, ops[j]? = some o → o.op ≠ .select cs b)
  (hQ : ∀ c a w, Q (.panic c) (a.put oi.dst v) w → Q (.panic c) a w) (ht : tailB ops tl i = true) (hit : i < tl) :
  ∀ (fuel : Nat) (listed : Array Bool) (a : Act) (w : World),
   (∀ j oj, ops[j]? = some oj → j ≠ i → listed.getD j true = false → (∀ e ∈ oj.after, Region.binds .any e = true → e.on ≠ i) → oi.apart ops oj = true) →
   i ∈ Region.ready .any ops listed → YieldsIf P ops S oi v a → S w →
   wpAnyT P ops Q S tl fuel (listed.setIfInBounds i true) (a.put oi.dst v) w → wpAnyT P ops Q S tl (fuel + 1) listed a w
 | fuel, listed, a, w, hfree, hr, hy, hS, H => by
  refine ⟨fun h => absurd (h ▸ hr) (by simp), fun j hj => ?_⟩
  rcases Nat.decEq j i with hji | hji
  ·have hjt := tail_lt ht hr hj
   cases fuel with
   | zero =>
    have h9 := ready_mono hj hji
    rw [H.1] at h9
    cases h9
   | succ fuel =>
    obtain ⟨hjun, oj, hoj, hall⟩ := mem_ready.1 hj
    have hnot : ∀ e ∈ oj.after, Region.binds .any e = true → e.on ≠ i := fun e he hb heq => by
     have h1 := hall e he hb
     have h0 := (mem_ready.1 hr).1
     rw [heq] at h1
     rcases Nat.lt_or_ge i listed.size with h' | h'
     ·simp [h'] at h0 h1; rw [h0] at h1; cases h1
     ·simp [Array.getElem?_eq_none h'] at h1
    have keep : ∀ k ok, ops[k]? = some ok → k ≠ i → (listed.setIfInBounds j true).getD k true = false → (∀ e ∈ ok.after, Region.binds .any e = true → e.on ≠ i) → oi.apart ops ok = true := fun k ok hk hki hun hno => by
     refine hfree k ok hk hki ?_ hno
     rcases Nat.decEq j k with hjk | hjk
     ·rw [getD_set_ne true hjk] at hun; exact hun
     ·subst hjk; exact hjun
    have h2 := wpOp_putIf hoj (hfree j oj hoj hji hjun hnot) (fun cs b => hsel i oi cs b hi) (fun cs b => hsel j oj cs b hoj) hQ hy (H.2 j (ready_mono hj hji))
    exact wpOp_mono (fun a' w' h3 => ⟨fun _ => h3.2.1 hjt, wpAnyT_first hi hsel hQ ht hit fuel _ a' w' keep (ready_mono hr (Ne.symm hji)) h3.1 (h3.2.1 hjt) (by rw [Array.setIfInBounds_comm _ _ hji]; exact h3.2.2)⟩) h2
  ·subst hji
   exact hy.wpOp hi hS ⟨fun _ => hS, H⟩
end
section walk
variable {ops : Array Oper} {Q : Exit → Act → World → Prop} {n : Nat} {l : List Oper} {E : Env} {o : Oper} {d : Nat} {ty : TypeId} {ps : String} {af : Array Edge} {g : Option (Nat × Bool)} {x y z : Operand} {T : TypeId}
variable {M Mx : List Nat} {w0 w1 w w' : World} {Γ Γ' G Rs : List Res} {R R' : Res} {t : Ty} {v : Value} {xs ys zs : List t.den} {e : TypeId}
variable {Mid : Act → World → Prop} {S : World → Prop} {tl fuel : Nat} {listed : Array Bool} {i : Nat}
def XC (P : Program) (ops : Array Oper) (n : Nat) (Mid : Act → World → Prop) (S : World → Prop) (tl fuel : Nat) (listed : Array Bool) (E : Env) (w : World) : Prop :=
 ∀ a, Fr a n E → wpAnyT P ops (fun e a w => e = .normal ∧ Mid a w) S tl fuel listed a w
theorem WP_ordersT {Mid : Act → World → Prop} {id : Nat} (S : World → World → Prop) (tl : Nat) (hm : P.follows .mixedOrders = true)
  (h : ∀ w1, Below w.heap.size w w1 → XC P l.toArray n Mid (S w1) tl l.toArray.size (Array.replicate l.toArray.size false) E w1) : WP P (Exit.then Mid Q) n (.region id l.toArray true) E w := fun a ha =>
 wp_mono (wp_region_any hm (wpAnyT_any _ _ _ _ (h { w with drawn := w.drawn + 1 } ⟨rfl, rfl, rfl, Nat.le_refl _, fun _ _ => rfl⟩ a ha))) (fun e a w h => by obtain ⟨rfl, h⟩ := h; exact h)
def QtS (P : Program) (o : Oper) (E : Env) (S : World → Prop) (v : Value) : Prop := ∀ w', S w' → ∀ ρ, Sat ρ E → (execOp ρ o).run P w' = .ok (.value v) w'
theorem QtS.of {v : Value} (h : ∀ w, Qt P o E w v) : QtS P o E S v := fun w' _ ρ hρ => h w' w' (Below.refl _ _) ρ hρ
theorem XC_take {v : Value} (hi : ops[i]? = some o) (hs : Region.noSelect ops = true) (hf : Region.free .any ops listed i = true) (hr : (Region.ready .any ops listed).contains i = true) (ht : tailB ops tl i = true) (hit : Nat.blt i tl = true)
  (hS : S w) (hw : wantedE ops E o = some true) (hq : QtS P o E S v) (hd : o.dst = some d) (hn : Nat.blt d n = true)
  (h : XC P ops n Mid S tl fuel (listed.setIfInBounds i true) ((d, v) :: E) w) : XC P ops n Mid S tl (fuel + 1) listed E w := fun a ha =>
 wpAnyT_first hi (Region.noSelect_spec hs) (fun c a w h => by cases h.1) ht (lt_of_blt hit) fuel listed a w (Region.free_spec hi hf) (by simpa using hr) (.inl ⟨wanted_of ha hw, fun w' hw' => hq w' hw' a.eval (fun x u hx => ha.eval hx)⟩) hS (by rw [hd]; exact h _ (ha.put hn v))
theorem XC_takee {v u : Value} (hi : ops[i]? = some o) (hs : Region.noSelect ops = true) (hf : Region.free .any ops listed i = true) (hr : (Region.ready .any ops listed).contains i = true) (ht : tailB ops tl i = true) (hit : Nat.blt i tl = true)
  (hS : S w) (hw : wantedE ops E o = some true) (hq : QtS P o E S v) (hv : v = u) (hd : o.dst = some d) (hn : Nat.blt d n = true)
  (h : XC P ops n Mid S tl fuel (listed.setIfInBounds i true) ((d, u) :: E) w) : XC P ops n Mid S tl (fuel + 1) listed E w := XC_take hi hs hf hr ht hit hS hw hq hd hn (hv ▸ h)
theorem XC_skip (hi : ops[i]? = some o) (hs : Region.noSelect ops = true) (hf : Region.free .any ops listed i = true) (hr : (Region.ready .any ops listed).contains i = true) (ht : tailB ops tl i = true) (hit : Nat.blt i tl = true)
  (hS : S w) (hw : wantedE ops E o = some false) (hd : o.dst = some d) (hn : Nat.blt d n = true)
  (h : XC P ops n Mid S tl fuel (listed.setIfInBounds i true) ((d, undef) :: E) w) : XC P ops n Mid S tl (fuel + 1) listed E w := fun a ha =>
 wpAnyT_first (v := undef) hi (Region.noSelect_spec hs) (fun c a w h => by cases h.1) ht (lt_of_blt hit) fuel listed a w (Region.free_spec hi hf) (by simpa using hr) (.inr ⟨wanted_of ha hw, rfl⟩) hS (by rw [hd]; exact h _ (ha.put hn undef))
theorem XC_all (rs : List Nat) (hr : Region.ready .any ops listed = rs) (hne : rs ≠ [])
  (h : ∀ i ∈ rs, ∀ a, Fr a n E → wpOp P ops (fun e a w => e = .normal ∧ Mid a w) i (fun a' w' => (i < tl → S w') ∧ wpAnyT P ops (fun e a w => e = .normal ∧ Mid a w) S tl fuel (listed.setIfInBounds i true) a' w') a w) : XC P ops n Mid S tl (fuel + 1) listed E w := fun a ha =>
 ⟨fun h0 => absurd (hr ▸ h0) hne, fun i hi => h i (hr ▸ hi) a ha⟩
theorem XC_do (hi : ops[i]? = some o)
  (h : XL P ops n (.seq (fun e a w' => e = .normal ∧ (i < tl → S w') ∧ wpAnyT P ops (fun e a w => e = .normal ∧ Mid a w) S tl fuel (listed.setIfInBounds i true) a w')) [o] E w) :
  ∀ a, Fr a n E → wpOp P ops (fun e a w => e = .normal ∧ Mid a w) i (fun a' w' => (i < tl → S w') ∧ wpAnyT P ops (fun e a w => e = .normal ∧ Mid a w) S tl fuel (listed.setIfInBounds i true) a' w') a w := by
 intro a ha
 have h1 := h a ha
 unfold wpList at h1
 unfold wpOp
 simp only [hi]
 split
 ·rename_i hw
  rw [if_pos hw] at h1
  rcases h1 with h1 | h1
  ·left
   unfold Oper.wp at h1 ⊢
   generalize (execOp a.eval o).run P w = r at h1
   cases r with
   | ok x w2 =>
    cases x <;> simp only [Oper.upon] at h1 ⊢ <;> first
     | exact h1.2
     | exact Calls.mono h1 (fun e w'' he => by cases e <;> first | exact he.2 | exact absurd he.1 (by simp) | (obtain ⟨a, w, h, _⟩ := he; cases h))
     | exact Rows.mono h1 (fun _ _ he => he.2)
     | exact absurd h1.1 (by simp)
     | exact h1
   | halt x w2 => cases x <;> simp only [Oper.upon] at h1 ⊢ <;> first | exact absurd h1.1 (by simp) | exact h1
  ·obtain ⟨_, a, w, h, _⟩ := h1
   cases h
 ·rename_i hw
  rw [if_neg hw] at h1
  exact h1.2
theorem XC_done (hr : Region.ready .any ops listed = []) (h : ∀ a, Fr a n E → Mid a w) : XC P ops n Mid S tl fuel listed E w := fun a ha => by
 cases fuel with
 | zero => exact ⟨hr, rfl, h a ha⟩
 | succ f => exact ⟨fun _ => ⟨rfl, h a ha⟩, by rw [hr]; simp⟩
def bitA (n m : Nat) : Array Bool := ((List.range n).map fun i => Nat.testBit m i).toArray
def Out (Mx : List Nat) (w1 : World) (b : Nat) : Prop := b < w1.heap.size ∧ b ∉ Mx
theorem Out.same {b : Nat} (h : Out Mx w1 b) (hS : Chg Mx w1 w) (hS' : Chg Mx w1 w') : w'.heap[b]? = w.heap[b]? := (hS'.block b h.1 h.2).trans (hS.block b h.1 h.2).symm
theorem Out.cell {b o : Nat} (h : Out Mx w1 b) (hS : Chg Mx w1 w) (hS' : Chg Mx w1 w') : w'.cell? ⟨b, o, none⟩ = w.cell? ⟨b, o, none⟩ := by
 unfold World.cell?
 simp only [h.same hS hS']
theorem Ctx.outHas {b off cap : Nat} {k : Int} {u : t.den} (H : Ctx w1 (Rs ++ Γ)) (h : Has Γ t v xs) (hg : geti xs k = some u) (hv : v = .slice (some ⟨b, off, none⟩) xs.length cap) : Out (Rs.flatMap Res.own) w1 b := by
 obtain ⟨L, h1, h2, h3⟩ := H
 obtain ⟨L1, L2, rfl, e1, e2⟩ := List.map_eq_append_iff.1 h1
 obtain ⟨s1, s2⟩ := h2.app_inv
 obtain ⟨a1, a2, a3⟩ := h3.app_inv
 obtain ⟨B, S, ⟨p, cap', h4, h5, h6⟩, hB, hS⟩ := h w1 L2 e2 s2 a2
 rw [hv] at h4
 simp only [Value.slice.injEq] at h4
 obtain ⟨rfl, _, rfl⟩ := h4
 have hlt := (geti_lt hg).2
 rcases h6 with ⟨rfl, _⟩ | ⟨b', off', bs, hne, hp, rfl, h7, h8⟩
 ·simp at hlt
 ·simp only [Option.some.injEq, Addr.mk.injEq, and_true] at hp
  obtain ⟨rfl, rfl⟩ := hp
  obtain ⟨f, hf, hk⟩ := hB b (by simp)
  refine ⟨?_, fun hm => ?_⟩
  ·rcases hk with hk | hk
   ·exact (s2.lt f hf).1 b hk
   ·exact (s2.lt f hf).2 b hk
  ·obtain ⟨f', hf', hk'⟩ := (mem_flat_own e1).1 hm
   rcases hk with hk | hk
   ·exact (a3 f' hf' f hf).1 b hk' hk
   ·exact (a3 f' hf' f hf).2.1 b hk' hk
theorem Ctx.outB {b : Nat} {Tb : TypeId} {cs : List Value} (H : Ctx w1 (Rs ++ Γ)) (h : HasB Γ b Tb cs) : Out (Rs.flatMap Res.own) w1 b := by
 obtain ⟨L, h1, h2, h3⟩ := H
 obtain ⟨L1, L2, rfl, e1, e2⟩ := List.map_eq_append_iff.1 h1
 obtain ⟨s1, s2⟩ := h2.app_inv
 obtain ⟨a1, a2, a3⟩ := h3.app_inv
 have h' : .bx b Tb cs ∈ L2.map (·.1) := by rw [e2]; exact h
 obtain ⟨f, hf, he⟩ := List.mem_map.1 h'
 have hb : b ∈ f.1.own := by rw [he]; simp [Res.own]
 exact ⟨(s2.lt f hf).1 b hb, fun hm => by
  obtain ⟨f', hf', hk'⟩ := (mem_flat_own e1).1 hm
  exact (a3 f' hf' f hf).1 b hk' hb⟩
theorem qs_cell {dd : Option Nat} {ds : TypeDesc} {b o : Nat} {c : Value} (hT : P.underlying T = some ds) (ho : oneB ds = true) (hx : ev E x = some (.pointer (some ⟨b, o, none⟩))) (hcell : w.cell? ⟨b, o, none⟩ = some c) (hS : Chg Mx w1 w) (hb : Out Mx w1 b) :
  QtS P ⟨dd, .load T x, ty, ps, af, g⟩ E (Chg Mx w1) c := fun w' hS' ρ hρ => by
 have hcell' : w'.cell? ⟨b, o, none⟩ = some c := by rw [hb.cell hS hS']; exact hcell
 simp [execOp, hρ x _ hx, Instr.loadAt, Instr.sureAddr, loadVar, run_isAgg hT ho, load, Sem.run, hcell']
theorem qs_agg {dd : Option Nat} {ds : TypeDesc} {b o : Nat} {cs : List Value} (hT : P.underlying T = some ds) (ho : oneB ds = false) (hs : (P.info? T).map (·.size) = some cs.length) (hx : ev E x = some (.pointer (some ⟨b, o, none⟩))) (hc : ∀ j u, cs[j]? = some u → w.cell? ⟨b, o + j, none⟩ = some u) (hS : Chg Mx w1 w) (hb : Out Mx w1 b) :
  QtS P ⟨dd, .load T x, ty, ps, af, g⟩ E (Chg Mx w1) (.agg cs.toArray) := fun w' hS' ρ hρ => by
 obtain ⟨ti, hi, hs⟩ := Option.map_eq_some_iff.1 hs
 have hload := run_loadCells_list (P := P) w' ⟨b, o, none⟩ cs (fun j z hj => by
  rw [Addr.add_none, hb.cell hS hS']; exact hc j z hj)
 rw [← hs] at hload
 simp [execOp, hρ x _ hx, Instr.loadAt, Instr.sureAddr, loadVar, run_isAggT hT ho, sizeOf, typeInfo, hi, hload]
theorem AtP.one {b o : Nat} {u : t.den} {F : List Nat} (h : AtP w t b o u F) (ht : t.size = 1) : ∃ c, w.cell? ⟨b, o, none⟩ = some c ∧ Rep w t [c] u F := by
 obtain ⟨cs, hr, hc⟩ := h
 have hl := hr.length
 rw [ht] at hl
 obtain ⟨c, rfl⟩ := List.length_eq_one_iff.1 hl
 exact ⟨c, by simpa using hc 0 c rfl, hr⟩
theorem AtP.cInt {k : IntKind} {b o : Nat} {u : Int} {F : List Nat} (h : AtP w (.int k) b o u F) : w.cell? ⟨b, o, none⟩ = some (.int k u) := by
 obtain ⟨c, h1, h2, _⟩ := h.one rfl
 simp only [List.cons.injEq, and_true] at h2
 rw [h1, h2]
theorem AtP.cStr {b o : Nat} {u : List UInt8} {F : List Nat} (h : AtP w .str b o u F) : w.cell? ⟨b, o, none⟩ = some (strV u) := by
 obtain ⟨c, h1, h2, _⟩ := h.one rfl
 simp only [List.cons.injEq, and_true] at h2
 rw [h1, h2]
theorem geti_set {α : Type} {xs : List α} {k : Int} {u u' : α} (h : geti xs k = some u) : geti (xs.set k.toNat u') k = some u' := by
 have h0 := geti_lt h
 unfold geti
 rw [if_pos h0.1]
 simp [h0.2]
theorem set_len {α : Type} {xs : List α} {k : Nat} {u' : α} {v : Value} {b off cap : Nat} (h : v = .slice (some ⟨b, off, none⟩) xs.length cap) : v = .slice (some ⟨b, off, none⟩) (xs.set k u').length cap := by rw [List.length_set]; exact h
theorem DBlt.leaf {t : Ty} {cs : List Value} {u : t.den} (h : ∀ w, Rep w t cs u []) : DBlt [] (.leaf t) cs u := fun w L _ _ _ => ⟨⟨h w, rfl⟩, List.nodup_nil⟩
theorem DBlt.cast {Rs Rs' : List Res} {d : DT} {cs cs' : List Value} {u : d.ty.den} (h : DBlt Rs d cs u) (h1 : Rs = Rs') (h2 : cs = cs') : DBlt Rs' d cs' u := by subst h1; subst h2; exact h
theorem DBltL.nil {d : DT} : DBltL [] d [] [] := fun w L _ _ _ => ⟨⟨rfl, rfl⟩, List.nodup_nil, rfl, fun v hv => by cases hv⟩
theorem qs_len {dd : Option Nat} (H : Ctx w Γ) (hh : Has Γ t v xs) (hT : P.underlying T = some (.slice e)) (hx : ev E x = some v) : QtS P ⟨dd, .call ⟨.builtin .len, #[x], #[T]⟩, ty, ps, af, g⟩ E S (i64 xs.length) := by
 obtain ⟨p, cap, rfl, _⟩ := H.isLen hh
 exact QtS.of fun w => qt_len hT hx
theorem qs_index {dd : Option Nat} {k : Int} {kk : IntKind} {b off cap : Nat} {u : t.den} (hg : geti xs k = some u) (hv : v = .slice (some ⟨b, off, none⟩) xs.length cap) (hT : P.underlying T = some (.slice e)) (hz : (P.info? e).map (·.size) = some t.size) (hx : ev E x = some v) (hy : ev E y = some (.int kk k)) :
  QtS P ⟨dd, .indexAddr T x y, ty, ps, af, g⟩ E S (.pointer (some ⟨b, off + k.toNat * t.size, none⟩)) := fun w' _ ρ hρ => by
 obtain ⟨ti, hti, hsz⟩ := Option.map_eq_some_iff.1 hz
 have h0 := (geti_lt hg).1
 have hlt := (geti_lt hg).2
 subst hv
 have hk : k < (xs.length : Int) := by omega
 simp [execOp, hρ x _ hx, hρ y _ hy, Instr.indexAt, asIntOf, run_underlying hT, h0, hk, sizeOf, typeInfo, hti, hsz, Addr.add_none]
theorem qs_slice {dd : Option Nat} {lo hi : Option Operand} {lv hv : Int} (H : Ctx w Γ) (hh : Has Γ t v xs) (hs : subO xs lv hv = some ys) (hT : P.underlying T = some (.slice e)) (hsz : (P.info? e).map (·.size) = some t.size)
  (hlo : bndE E lo 0 lv) (hhi : bndE E hi xs.length hv) (hx : ev E x = some v) : QtS P ⟨dd, .slice T x lo hi none, ty, ps, af, g⟩ E S (subV t.size v lv.toNat hv.toNat) := fun w' _ ρ hρ => by
 obtain ⟨p, cap, rfl, hcap⟩ := H.isLen hh
 obtain ⟨h0, h1, h2, _⟩ := subO_some hs
 obtain ⟨ti, hi2, hsz⟩ := Option.map_eq_some_iff.1 hsz
 have hhb : ∀ k : IntKind, (Instr.sliceBound (.int k hv) cap .sliceAcap).run P w' = .ok hv.toNat w' := fun k => by
  have : 0 ≤ hv ∧ hv ≤ (cap : Int) := by omega
  simp [Instr.sliceBound, asIntOf, this]
 have hlb : ∀ k : IntKind, (Instr.sliceBound (.int k lv) hv.toNat .sliceB).run P w' = .ok lv.toNat w' := fun k => by
  have hn0 : ((hv.toNat : Nat) : Int) = hv := Int.toNat_of_nonneg (by omega)
  have : 0 ≤ lv ∧ lv ≤ hv := by omega
  simp only [Instr.sliceBound, asIntOf, hn0]
  simp [this]
 cases lo with
 | none =>
  simp only [bndE] at hlo
  subst hlo
  cases hi with
  | none =>
   simp only [bndE] at hhi
   subst hhi
   by_cases hc : cap = 0 <;> simp [execOp, hρ x _ hx, Instr.sliceAt, Instr.slice, run_underlying hT, Instr.sliceBounds, sizeOf, typeInfo, hi2, hsz, subV, hc]
  | some xh =>
   obtain ⟨k, hxh⟩ := hhi
   by_cases hc : cap = 0
   ·have hh0 : hv.toNat = 0 := by omega
    have := hhb k
    simp [execOp, hρ x _ hx, hρ xh _ hxh, Instr.sliceAt, Instr.slice, run_underlying hT, Instr.sliceBounds, sizeOf, typeInfo, hi2, hsz, subV, hc] at this ⊢
    simp [this]
   ·simp [execOp, hρ x _ hx, hρ xh _ hxh, Instr.sliceAt, Instr.slice, run_underlying hT, Instr.sliceBounds, sizeOf, typeInfo, hi2, hsz, subV, hc, hhb k]
 | some xl =>
  obtain ⟨k', hxl⟩ := hlo
  cases hi with
  | none =>
   simp only [bndE] at hhi
   subst hhi
   have hl2 := hlb k'
   simp only [Int.toNat_natCast] at hl2
   by_cases hc : cap = lv.toNat <;> simp [execOp, hρ x _ hx, hρ xl _ hxl, Instr.sliceAt, Instr.slice, run_underlying hT, Instr.sliceBounds, sizeOf, typeInfo, hi2, hsz, subV, hc, hl2]
  | some xh =>
   obtain ⟨k, hxh⟩ := hhi
   by_cases hc : cap = lv.toNat
   ·have h3 := hhb k
    rw [hc] at h3
    simp [execOp, hρ x _ hx, hρ xl _ hxl, hρ xh _ hxh, Instr.sliceAt, Instr.slice, run_underlying hT, Instr.sliceBounds, sizeOf, typeInfo, hi2, hsz, subV, hc, h3, hlb k']
   ·simp [execOp, hρ x _ hx, hρ xl _ hxl, hρ xh _ hxh, Instr.sliceAt, Instr.slice, run_underlying hT, Instr.sliceBounds, sizeOf, typeInfo, hi2, hsz, subV, hc, hhb k, hlb k']
end walk
end Go.Proofs.YtkhnponakhabdaaGreatDoor
