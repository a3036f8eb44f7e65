/- Reading memory: elements of slices, fields, loads. Own work, over any program. -/
import Derived.Test.YtcjkbcdlpfgbgaaRun
set_option linter.unusedVariables false
namespace Go.Proofs.Ytcjkbcdlpfgbgaa
open Go Go.RowKit
variable {P : Program}
def geti {α : Type} (xs : List α) (k : Int) : Option α := if 0 ≤ k then xs[k.toNat]? else none
theorem geti_lt {α : Type} {xs : List α} {k : Int} {u : α} (h : geti xs k = some u) : 0 ≤ k ∧ k.toNat < xs.length := by
  unfold geti at h
  split at h
  · rename_i h0; exact ⟨h0, (List.getElem?_eq_some_iff.1 h).1⟩
  · cases h
/-- at this place lie the cells of x -/
def AtP (w : World) (t : Ty) (b off : Nat) (x : t.den) (F : List Nat) : Prop := ∃ cs, Rep w t cs x F ∧ ∀ j u, cs[j]? = some u → w.cell? ⟨b, off + j, none⟩ = some u
theorem AtP.below {w w' : World} {t : Ty} {b off : Nat} {x : t.den} {F : List Nat} (h : AtP w t b off x F) (hb : Below w.heap.size w w') : AtP w' t b off x F := by
  obtain ⟨cs, h1, h2⟩ := h
  exact ⟨cs, h1.below hb, fun j u hj => by have := h2 j u hj; rw [hb.cell (p := ⟨b, off + j, none⟩) (cell_lt this)]; exact this⟩
theorem Addr.add_none (b off n : Nat) : (⟨b, off, none⟩ : Addr).add n = ⟨b, off + n, none⟩ := by
  unfold Addr.add; split <;> simp_all
theorem Rep.at {w : World} {t : Ty} {v : Value} {xs : List t.den} {F : List Nat} {k : Int} {z : t.den} (h : Rep w (.slice t) [v] xs F) (hk : geti xs k = some z) :
    ∃ b o cap F', v = .slice (some ⟨b, o, none⟩) xs.length cap ∧ 0 ≤ k ∧ k.toNat < xs.length ∧ b ∈ F ∧ AtP w t b (o + k.toNat * t.size) z F' ∧ ∀ i ∈ F', i ∈ F := by
  obtain ⟨p, cap, h1, hcap, h2⟩ := h
  have h0 : 0 ≤ k := by unfold geti at hk; split at hk <;> first | assumption | cases hk
  have hz : xs[k.toNat]? = some z := by unfold geti at hk; rw [if_pos h0] at hk; exact hk
  have hlt := (List.getElem?_eq_some_iff.1 hz).1
  rcases h2 with h2 | ⟨b, off, bs, F', h0', h3, h4, h5, h6⟩
  · rw [h2.1] at hlt; simp at hlt
  · simp only [List.cons.injEq, and_true] at h1
    obtain ⟨c, F'', hR, hF, hc⟩ := h5.get (fun c x F h => Rep.length h) k.toNat z hz
    exact ⟨b, off, cap, F'', by rw [h1, h3], h0, hlt, by rw [h4]; exact List.mem_cons_self, ⟨c, hR, fun j u hj => by rw [Nat.add_assoc]; exact h6 _ _ (hc j u hj)⟩, fun i hi => by rw [h4]; exact List.mem_cons_of_mem _ (hF i hi)⟩
theorem Rep.len {w : World} {t : Ty} {v : Value} {xs : List t.den} {F : List Nat} (h : Rep w (.slice t) [v] xs F) : ∃ p cap, v = .slice p xs.length cap := by
  obtain ⟨p, cap, h1, h2⟩ := h
  simp only [List.cons.injEq, and_true] at h1
  exact ⟨p, cap, h1⟩
section
variable {ops : Array Oper} {n : Nat} {md : Md} {l : List Oper} {E : Env} {w : World} {d : Nat} {ty : TypeId} {ps : String} {af : Array Edge} {g : Option (Nat × Bool)} {x y z : Operand} {T : TypeId}
theorem XL_len {t : Ty} {e : TypeId} {v : Value} {xs : List t.den} {F : List Nat} (hT : P.underlying T = some (.slice e)) (hr : Rep w (.slice t) [v] xs F)
    (hw : wantedE ops E ⟨some d, .call ⟨.builtin .len, #[x], #[T]⟩, ty, ps, af, g⟩ = some true) (hx : ev E x = some v) (hn : Nat.blt d n = true)
    (h : XL P ops n md l ((d, i64 xs.length) :: E) w) : XL P ops n md (⟨some d, .call ⟨.builtin .len, #[x], #[T]⟩, ty, ps, af, g⟩ :: l) E w := by
  obtain ⟨p, cap, rfl⟩ := hr.len
  exact XL_q hw (qt_len hT hx) rfl hn h
theorem XL_index {t : Ty} {e : TypeId} {v : Value} {xs : List t.den} {F : List Nat} {k : Int} {u : t.den} (hT : P.underlying T = some (.slice e)) (hi : (P.info? e).map (·.size) = some t.size)
    (hr : Rep w (.slice t) [v] xs F) (hg : geti xs k = some u)
    (hw : wantedE ops E ⟨some d, .indexAddr T x y, ty, ps, af, g⟩ = some true) (hx : ev E x = some v) (hy : ev E y = some (i64 k)) (hn : Nat.blt d n = true)
    (h : ∀ b o F', AtP w t b o u F' → (∀ i ∈ F', i ∈ F) → b ∈ F → XL P ops n md l ((d, .pointer (some ⟨b, o, none⟩)) :: E) w) : XL P ops n md (⟨some d, .indexAddr T x y, ty, ps, af, g⟩ :: l) E w := by
  obtain ⟨b, o, cap, F', rfl, h0, hlt, hb, hat, hsub⟩ := hr.at hg
  obtain ⟨i, hi, hs⟩ := Option.map_eq_some_iff.1 hi
  refine XL_q (v := .pointer (some ⟨b, o + k.toNat * t.size, none⟩)) hw ?_ rfl hn (h b _ F' hat hsub hb)
  intro w' _ ρ hρ
  have hk : k < (xs.length : Int) := by omega
  simp [execOp, hρ x _ hx, hρ y _ hy, Instr.indexAt, asIntOf, run_underlying hT, h0, hk, sizeOf, typeInfo, hi, hs, Addr.add_none]
/-- is a value of this type one cell? -/
def oneB : TypeDesc → Bool
  | .struct _ => false
  | .array _ _ => false
  | _ => true
theorem run_isAgg {ds : TypeDesc} (hT : P.underlying T = some ds) (h : oneB ds = true) (w : World) : (isAgg T).run P w = .ok false w := by
  cases ds <;> simp_all [isAgg, run_underlying hT, oneB]
theorem XL_load {t : Ty} {ds : TypeDesc} {b o : Nat} {u : t.den} {F : List Nat} (hT : P.underlying T = some ds) (ho : oneB ds = true) (ht : t.size = 1) (hat : AtP w t b o u F)
    (hw : wantedE ops E ⟨some d, .load T x, ty, ps, af, g⟩ = some true) (hx : ev E x = some (.pointer (some ⟨b, o, none⟩))) (hn : Nat.blt d n = true)
    (h : ∀ v, Rep w t [v] u F → XL P ops n md l ((d, v) :: E) w) : XL P ops n md (⟨some d, .load T x, ty, ps, af, g⟩ :: l) E w := by
  obtain ⟨cs, hr, hc⟩ := hat
  have hl := hr.length
  rw [ht] at hl
  obtain ⟨v, rfl⟩ := List.length_eq_one_iff.1 hl
  have hcell := hc 0 v rfl
  refine XL_q (v := v) hw ?_ rfl hn (h v hr)
  intro w' hb ρ hρ
  have hcell' : w'.cell? ⟨b, o, none⟩ = some v := by rw [hb.cell (p := ⟨b, o, none⟩) (cell_lt hcell)]; exact hcell
  simp [execOp, hρ x _ hx, Instr.loadAt, Instr.sureAddr, loadVar, run_isAgg hT ho, load, Sem.run, hcell']
theorem XL_load_int {k : IntKind} {ds : TypeDesc} {b o : Nat} {u : Int} {F : List Nat} (hT : P.underlying T = some ds) (ho : oneB ds = true) (hat : AtP w (.int k) b o u F)
    (hw : wantedE ops E ⟨some d, .load T x, ty, ps, af, g⟩ = some true) (hx : ev E x = some (.pointer (some ⟨b, o, none⟩))) (hn : Nat.blt d n = true)
    (h : XL P ops n md l ((d, .int k u) :: E) w) : XL P ops n md (⟨some d, .load T x, ty, ps, af, g⟩ :: l) E w :=
  XL_load hT ho rfl hat hw hx hn fun v hv => by obtain ⟨h1, _⟩ := hv; simp only [List.cons.injEq, and_true] at h1; rw [h1]; exact h
end
end Go.Proofs.Ytcjkbcdlpfgbgaa
