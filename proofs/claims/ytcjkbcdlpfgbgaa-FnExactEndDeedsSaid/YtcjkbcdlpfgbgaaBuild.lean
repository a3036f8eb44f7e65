/- Slices written out ([]T{a, b}). Own work, over any program. -/
import Derived.Test.YtcjkbcdlpfgbgaaOwn
set_option linter.unusedVariables false
namespace Go.Proofs.Ytcjkbcdlpfgbgaa
open Go Go.RowKit
variable {P : Program}
theorem splice (off : Nat) : ∀ (l : List Value) (j : Nat) (cells : Array Value), off + j + l.length ≤ cells.size →
    ((l.zipIdx j).foldl (fun cs p => cs.setIfInBounds (off + p.2) p.1) cells).toList = cells.toList.take (off + j) ++ l ++ cells.toList.drop (off + j + l.length)
  | [], j, cells, h => by simp
  | c :: l, j, cells, h => by
    simp only [List.length_cons] at h
    simp only [List.zipIdx_cons, List.foldl_cons, List.length_cons]
    have hs : (cells.setIfInBounds (off + j) c).size = cells.size := by simp
    rw [splice off l (j + 1) _ (by rw [hs]; omega)]
    have hlt : off + j < cells.toList.length := by simp; omega
    simp only [Array.toList_setIfInBounds]
    rw [show off + (j + 1) = (off + j) + 1 from by omega, List.take_set, List.take_succ_eq_append_getElem hlt, List.set_append, List.length_take, Nat.min_eq_left (by omega), if_neg (by omega), Nat.sub_self]
    simp only [List.set_cons_zero, List.append_assoc, List.singleton_append, List.cons_append, List.nil_append]
    rw [List.drop_set, if_pos (by omega), show off + j + 1 + l.length = off + j + (l.length + 1) from by omega]
theorem fill_all (size : Nat) : ∀ (vs : List Value) (k : Nat) (cells : Array Value), (∀ v ∈ vs, v.cells.size = size) → (k + vs.length) * size = cells.size →
    ∃ r, Instr.fill (fun i => some (i * size, size)) cells ((vs.zipIdx k).map fun p => (p.2, p.1)) = some r ∧ r.toList = cells.toList.take (k * size) ++ vs.flatMap (fun v => v.cells.toList)
  | [], k, cells, _, hc => ⟨cells, by simp [Instr.fill], by simp at hc; rw [hc, List.take_of_length_le (by simp)]; simp⟩
  | v :: vs, k, cells, hv, hc => by
    have hvs := hv v (by simp)
    have hle : k * size + size ≤ cells.size := by
      rw [← hc, List.length_cons, ← Nat.succ_mul]
      exact Nat.mul_le_mul_right _ (by omega)
    have hsp := splice (k * size) v.cells.toList 0 cells (by simp [hvs]; omega)
    simp only [Nat.add_zero] at hsp
    have harr : (v.cells.zipIdx.foldl (fun cs p => cs.setIfInBounds (k * size + p.2) p.1) cells) = ((v.cells.toList.zipIdx 0).foldl (fun cs p => cs.setIfInBounds (k * size + p.2) p.1) cells) := by
      rw [← Array.foldl_toList, Array.toList_zipIdx]
    have hsz : (v.cells.zipIdx.foldl (fun cs p => cs.setIfInBounds (k * size + p.2) p.1) cells).size = cells.size := by
      rw [harr, ← Array.length_toList, hsp]; simp [hvs]; omega
    obtain ⟨r, h1, h2⟩ := fill_all size vs (k + 1) (v.cells.zipIdx.foldl (fun cs p => cs.setIfInBounds (k * size + p.2) p.1) cells) (fun u hu => hv u (by simp [hu])) (by rw [hsz, ← hc, List.length_cons]; congr 1; omega)
    refine ⟨r, ?_, ?_⟩
    · simp only [List.zipIdx_cons, List.map_cons, Instr.fill]
      rw [if_neg (by simp [hvs]; omega)]
      exact h1
    · rw [h2, harr, hsp, List.flatMap_cons, ← List.append_assoc]
      congr 1
      have hl : (cells.toList.take (k * size) ++ v.cells.toList).length = (k + 1) * size := by simp [hvs, Nat.succ_mul]; omega
      rw [← hl, List.take_left]
section walk
variable {ops : Array Oper} {Q : Exit → Act → World → Prop} {n : Nat} {l : List Oper} {E : Env} {w : World} {o : Oper} {d : Nat} {ty : TypeId} {ps : String} {af : Array Edge} {g : Option (Nat × Bool)} {x y z : Operand} {T : TypeId}
def partsFrom : Nat → List Operand → List (Nat × Operand)
  | _, [] => []
  | k, x :: l => (k, x) :: partsFrom (k + 1) l
theorem partsFrom_map {ρ : Operand → Value} : ∀ (xs : List Operand) (vs : List Value) (k : Nat), xs.map ρ = vs → (partsFrom k xs).map (fun p => (p.1, ρ p.2)) = (vs.zipIdx k).map fun p => (p.2, p.1)
  | [], vs, k, h => by subst h; rfl
  | x :: xs, vs, k, h => by subst h; simp only [partsFrom, List.map_cons, List.zipIdx_cons]; rw [partsFrom_map xs _ (k + 1) rfl]
/-- values that stand for list elements -/
def RepVs (w : World) (t : Ty) : List Value → List t.den → List Nat → Prop
  | [], [], F => F = []
  | v :: vs, x :: xs, F => ∃ F1 F2, F = F1 ++ F2 ∧ Rep w t v.cells.toList x F1 ∧ RepVs w t vs xs F2
  | _, _, _ => False
theorem RepVs.repL {w : World} {t : Ty} : ∀ {vs : List Value} {xs : List t.den} {F : List Nat}, RepVs w t vs xs F → RepL (Rep w t) (vs.flatMap fun v => v.cells.toList) xs F ∧ vs.length = xs.length ∧ ∀ v ∈ vs, v.cells.size = t.size
  | [], [], F, h => ⟨⟨rfl, h⟩, rfl, fun v hv => by cases hv⟩
  | v :: vs, x :: xs, F, ⟨F1, F2, h1, h2, h3⟩ => by
    obtain ⟨h4, h5, h6⟩ := h3.repL
    refine ⟨⟨_, _, F1, F2, rfl, h1, h2, h4⟩, by simp [h5], fun u hu => ?_⟩
    rcases List.mem_cons.1 hu with rfl | hu
    · have := h2.length; simpa using this
    · exact h6 u hu
theorem RepVs.below {w w' : World} {t : Ty} (hb : Below w.heap.size w w') : ∀ {vs : List Value} {xs : List t.den} {F : List Nat}, RepVs w t vs xs F → RepVs w' t vs xs F
  | [], [], F, h => h
  | v :: vs, x :: xs, F, ⟨F1, F2, h1, h2, h3⟩ => ⟨F1, F2, h1, h2.below hb, h3.below hb⟩
theorem RepVs.lt {w : World} {t : Ty} : ∀ {vs : List Value} {xs : List t.den} {F : List Nat}, RepVs w t vs xs F → ∀ k ∈ F, k < w.heap.size
  | [], [], F, h, k, hk => by rw [h] at hk; cases hk
  | v :: vs, x :: xs, F, ⟨F1, F2, h1, h2, h3⟩, k, hk => by
    rw [h1] at hk
    rcases List.mem_append.1 hk with hk | hk
    · exact h2.lt k hk
    · exact h3.lt k hk
theorem WL_buildSlice {e : TypeId} {t : Ty} {c : Option Value} {by_ len : Nat} {args : List Operand} {vs : List Value} {xs : List t.den} {F : List Nat}
    (ht : P.underlying T = some (.slice e)) (hi : (P.info? e).map (fun i => (i.zero, i.size, i.bytes)) = some (c, t.size, by_)) (hz : (c.map fun c => c.cells.size) = some t.size)
    (hlen : Nat.ble (len * t.size) 16777216 = true) (hvs : evs E args = some vs) (hr : RepVs w t vs xs F) (hl : Nat.beq len xs.length = true)
    (hw : wantedE ops E ⟨some d, .buildSlice T len (partsFrom 0 args).toArray, ty, ps, af, g⟩ = some true) (hn : Nat.blt d n = true)
    (h : ∀ v' w' F', Own w' e t v' xs F' → Below w.heap.size w w' → (∀ k ∈ F', k ∈ F ∨ w.heap.size ≤ k) → XL P ops n (.seq Q) l ((d, v') :: E) w') :
    XL P ops n (.seq Q) (⟨some d, .buildSlice T len (partsFrom 0 args).toArray, ty, ps, af, g⟩ :: l) E w := by
  obtain ⟨i, hi2, hz0, hsz, hbyt⟩ := info3 hi
  obtain ⟨h1, h2, h3⟩ := hr.repL
  have hl' : len = xs.length := Nat.eq_of_beq_eq_true hl
  have hlen' : len * t.size ≤ 16777216 := by simpa using hlen
  cases c with
  | none => cases hz
  | some c =>
  simp only [Option.map_some, Option.some.injEq] at hz
  let cells0 : Array Value := (Array.range (len * t.size)).map ((if len * t.size = 0 then #[] else c.cells)[· % (if len * t.size = 0 then (#[] : Array Value) else c.cells).size]!)
  have hs0 : cells0.size = len * t.size := by simp [cells0]
  obtain ⟨r, hf, hrl⟩ := fill_all t.size vs 0 cells0 h3 (by rw [hs0, h2, hl', Nat.zero_add])
  simp only [Nat.zero_mul, List.take_zero, List.nil_append] at hrl
  let w' : World := { w with heap := w.heap.push (.cells r e) }
  have hb : Below w.heap.size w w' := ⟨rfl, rfl, rfl, by simp [w'], fun k hk => by simp only [w']; rw [Array.getElem?_push, if_neg (by omega)]⟩
  have hrs : r.toList.length = xs.length * t.size := by rw [hrl]; exact h1.length (fun c x F h => Rep.length h)
  have hFlt := hr.lt
  refine WL_run (v := .slice (some ⟨w.heap.size, 0, none⟩) len len) (w' := w') hw (fun ρ hρ => ?_) rfl hn (h _ w' ([w.heap.size] ++ F) ⟨r.toList, F, ⟨hrs, .inr ⟨w.heap.size, len, r, by rw [hl'], Nat.zero_le _, by simp [w'], by omega, by simp only [maxLen]; have := t.size_pos; have : len * 1 ≤ len * t.size := Nat.mul_le_mul_left _ this; omega, by rw [← Array.length_toList, hrs, hl'], by rw [← hrs, List.take_length]⟩⟩, by rw [hrl]; exact h1.imp (fun c x F _ hR => hR.below hb), rfl, fun k hk hk' => ?_⟩ hb (fun k hk => ?_))
  · have hmap := args_of hρ hvs
    have hmap2 : ((partsFrom 0 args).map fun p => (p.1, ρ p.2)) = (vs.zipIdx 0).map fun p => (p.2, p.1) := partsFrom_map args vs 0 hmap
    have hno : ¬ 16777216 < len * t.size := by omega
    by_cases h0 : len * t.size = 0
    · have hmr : ∀ f : Nat → Value, Array.map f (Array.range 0) = #[] := fun f => by apply Array.eq_empty_of_size_eq_zero; simp
      simp only [cells0, h0, if_true, hmr] at hf
      simp [execOp, Instr.buildSlice, run_underlying ht, sizeOf, typeInfo, hi2, hsz, h0, hmap2, hmr, hf, newRow, newObj, Sem.run, w']
    · simp only [cells0, h0, if_false] at hf
      simp [execOp, Instr.buildSlice, run_underlying ht, sizeOf, typeInfo, zeroValue, hi2, hsz, hz0, hno, h0, hmap2, hf, newRow, newObj, Sem.run, w']
  · simp [Value.ownBlock] at hk
    have := hFlt k hk'; omega
  · rcases List.mem_append.1 hk with hk | hk
    · right; simp at hk; omega
    · exact .inl hk
end walk
end Go.Proofs.Ytcjkbcdlpfgbgaa
