/- What came in, opened by its type: it stands for a value. Own work, over any program. -/
import Derived.Test.YtkhnponakhabdaaGreatDoorMPl
import Derived.ChangeArms
import Derived.DataReads
set_option linter.unusedVariables false
namespace Go.Proofs.YtkhnponakhabdaaGreatDoor
open Go Go.RowKit
section
variable {P : Program} {w : World} {H : Type} {enc : TypeId × Value → H} {spare : Nat → Bool} {held : Bool}
def Opn (P : Program) (w : World) (enc : TypeId × Value → H) (spare : Nat → Bool) (held : Bool) (t : TypeId) (T : Ty) (L : T.den → Prop) : Prop :=
 ∀ fuel cs x, DataW.trod enc P w 0 spare held fuel t cs = some x → ∃ (y : T.den) (F : List Nat), Rep w T cs y F ∧ L y
theorem Opn.int {t : TypeId} {k : IntKind} (hu : P.underlying t = some (.int k)) : Opn P w enc spare held t (.int k) (fun n => (Lit.int k n).wf = true) := by
 intro fuel cs x h
 obtain ⟨n, h1, _, h2⟩ := DataW.trod_int hu h
 exact ⟨n, [], ⟨h1, rfl⟩, h2⟩
theorem Opn.bool {t : TypeId} (hu : P.underlying t = some .bool) : Opn P w enc spare held t .bool (fun _ => True) := by
 intro fuel cs x h
 obtain ⟨n, h1, _⟩ := DataW.trod_bool hu h
 exact ⟨n, [], ⟨h1, rfl⟩, trivial⟩
theorem Opn.str {t : TypeId} (hu : P.underlying t = some .string) : Opn P w enc spare held t .str (fun l => l.length ≤ maxLen) := by
 intro fuel cs x h
 obtain ⟨s, h1, _, h2⟩ := DataW.trod_string hu h
 exact ⟨s.data.toList, [], ⟨by rw [h1], rfl⟩, by simpa using h2⟩
theorem cells_get {a : Addr} {n : Nat} {cs : List Value} (h : w.cells? 0 a n = some cs) : cs.length = n ∧ ∀ j u, cs[j]? = some u → w.cell? (a.add j) = some u := by
 unfold World.cells? at h
 rw [if_pos (Nat.zero_le _)] at h
 have hl : cs.length = n := by simpa using mapM_some_length h
 refine ⟨hl, fun j u hj => ?_⟩
 have hj' : j < n := by rw [← hl]; exact (List.getElem?_eq_some_iff.1 hj).1
 have := mapM_some_get h j j (by simp [hj'])
 rw [this]; exact hj
theorem spot_none {a : Addr} {u : Value} (h : w.cell? a = some u) : a.spot = none := by
 unfold World.cell? at h
 split at h
 ·cases hs : a.spot with
  | none => rfl
  | some s => rw [hs] at h; simp at h
 ·cases h
theorem Opn.slice {t e : TypeId} {T : Ty} {L : T.den → Prop} (hu : P.underlying t = some (.slice e)) (hs : P.cellsOf e = T.size) (ho : Opn P w enc spare held e T L) :
  Opn P w enc spare held t (.slice T) (fun xs => xs.length ≤ maxLen ∧ ∀ x ∈ xs, L x) := by
 intro fuel cs x h
 rcases DataW.trod_slice hu h with ⟨rfl, _⟩ | ⟨a, len, cap, elems, rest, n, _, rfl, _, _, hlc, hcm, hel, hg, _, _⟩
 ·exact ⟨[], [], ⟨none, 0, rfl, Nat.le_refl _, .inl ⟨rfl, rfl⟩⟩, Nat.zero_le _, fun x hx => by cases hx⟩
 ·rcases Nat.eq_zero_or_pos len with h0 | h0
  ·subst h0
   exact ⟨[], [], ⟨some a, cap, rfl, Nat.zero_le _, .inl ⟨rfl, rfl⟩⟩, Nat.zero_le _, fun x hx => by cases hx⟩
  ·have hpos := T.size_pos
   have hone : ∀ i, i < len → ∃ c y F, w.cells? 0 (a.add (i * T.size)) T.size = some c ∧ Rep w T c y F ∧ L y := by
    intro i hi
    have h1 := hg i hi
    rw [List.getElem?_eq_getElem (by omega), hs] at h1
    cases hc : w.cells? 0 (a.add (i * T.size)) T.size with
    | none => rw [hc] at h1; cases h1
    | some c =>
     rw [hc] at h1
     obtain ⟨y, F, h2, h3⟩ := ho _ _ _ h1
     exact ⟨c, y, F, rfl, h2, h3⟩
   have hspot : a.spot = none := by
    obtain ⟨c, y, F, h1, _, _⟩ := hone 0 h0
    obtain ⟨h2, h3⟩ := cells_get h1
    have := h3 0 _ (List.getElem?_eq_getElem (by omega))
    have e : (a.add (0 * T.size)).add 0 = a := by simp [Addr.add]
    rw [e] at this
    exact spot_none this
   obtain ⟨b, off, sp⟩ := a
   simp only at hspot
   subst hspot
   have key : ∀ d i, i + d = len → ∃ (xs : List T.den) (bs : List Value) (F : List Nat), xs.length = d ∧ RepL (Rep w T) bs xs F ∧ (∀ x ∈ xs, L x) ∧ ∀ j u, bs[j]? = some u → w.cell? ⟨b, off + (i * T.size + j), none⟩ = some u := by
    intro d
    induction d with
    | zero => intro i hi; exact ⟨[], [], [], rfl, ⟨rfl, rfl⟩, (fun x hx => by cases hx), (fun j u hj => by simp at hj)⟩
    | succ d ih =>
     intro i hi
     obtain ⟨c, y, F, h1, h2, h3⟩ := hone i (by omega)
     obtain ⟨xs, bs, F', h4, h5, h6, h7⟩ := ih (i + 1) (by omega)
     obtain ⟨h8, h9⟩ := cells_get h1
     refine ⟨y :: xs, c ++ bs, F ++ F', by simp [h4], ⟨c, bs, F, F', rfl, rfl, h2, h5⟩, (fun x hx => ?_), (fun j u hj => ?_)⟩
     ·rcases List.mem_cons.1 hx with rfl | hx
      ·exact h3
      ·exact h6 x hx
     ·rcases Nat.lt_or_ge j c.length with hj' | hj'
      ·rw [List.getElem?_append_left hj'] at hj
       have := h9 j u hj
       rw [Addr.add_none, Addr.add_none] at this
       rw [← Nat.add_assoc]; exact this
      ·rw [List.getElem?_append_right hj'] at hj
       have := h7 _ u hj
       rw [show i * T.size + j = (i + 1) * T.size + (j - c.length) by rw [Nat.add_mul]; omega]
       exact this
   obtain ⟨xs, bs, F, h1, h2, h3, h4⟩ := key len 0 (by omega)
   refine ⟨xs, b :: F, ⟨some ⟨b, off, none⟩, cap, by rw [h1], by omega, .inr ⟨b, off, bs, F, ?_, rfl, rfl, h2, fun j u hj => ?_⟩⟩, by omega, h3⟩
   ·intro hx; rw [hx] at h1; simp at h1; omega
   ·have := h4 j u hj
    simpa using this
def OpnF (P : Program) (w : World) (enc : TypeId × Value → H) (spare : Nat → Bool) (held : Bool) (fs : Array Field) (i off : Nat) (T : Ty) (L : T.den → Prop) : Prop :=
 ∀ (n : Nat) (cs : List Value) (xs : List (DataW H × List MemPlace)), xs.length = fs.size → (∀ (k : Nat) (f : Field), fs[k]? = some f → DataW.trod enc P w 0 spare held n f.type ((cs.drop f.offset).take (P.cellsOf f.type)) = xs[k]?) →
  ∃ (y : T.den) (F : List Nat), Rep w T ((cs.drop off).take T.size) y F ∧ L y
theorem OpnF.last {fs : Array Field} {i off : Nat} {T : Ty} {L : T.den → Prop} {f : Field} (hf : fs[i]? = some f) (hoff : f.offset = off) (hs : P.cellsOf f.type = T.size) (ho : Opn P w enc spare held f.type T L) : OpnF P w enc spare held fs i off T L := by
 intro n cs xs hl h
 have h1 := h i f hf
 have hi : i < xs.length := by rw [hl]; exact (Array.getElem?_eq_some_iff.1 hf).1
 rw [List.getElem?_eq_getElem hi, hoff, hs] at h1
 exact ho _ _ _ h1
theorem OpnF.cons {fs : Array Field} {i off : Nat} {T T' : Ty} {L : T.den → Prop} {L' : T'.den → Prop} {f : Field} (hf : fs[i]? = some f) (hoff : f.offset = off) (hs : P.cellsOf f.type = T.size) (ho : Opn P w enc spare held f.type T L)
  (hr : OpnF P w enc spare held fs (i + 1) (off + T.size) T' L') : OpnF P w enc spare held fs i off (.pair T T') (fun y => L y.1 ∧ L' y.2) := by
 intro n cs xs hl h
 obtain ⟨y, F, h1, h2⟩ := OpnF.last hf hoff hs ho n cs xs hl h
 obtain ⟨y', F', h3, h4⟩ := hr n cs xs hl h
 refine ⟨(y, y'), F ++ F', ⟨_, _, F, F', ?_, rfl, h1, h3⟩, h2, h4⟩
 show (cs.drop off).take (T.size + T'.size) = _
 rw [List.take_add, List.drop_drop]
theorem Opn.struct {t : TypeId} {fs : Array Field} {T : Ty} {L : T.den → Prop} (hu : P.underlying t = some (.struct fs)) (hs : P.cellsOf t = T.size) (hf : OpnF P w enc spare held fs 0 0 T L) : Opn P w enc spare held t T L := by
 intro fuel cs x h
 obtain ⟨xs, n, _, _, hl, hlen, hd⟩ := DataW.trod_struct hu h
 obtain ⟨y, F, h1, h2⟩ := hf n cs xs hlen hd
 rw [List.drop_zero, List.take_of_length_le (by omega)] at h1
 exact ⟨y, F, h1, h2⟩
end
end Go.Proofs.YtkhnponakhabdaaGreatDoor
