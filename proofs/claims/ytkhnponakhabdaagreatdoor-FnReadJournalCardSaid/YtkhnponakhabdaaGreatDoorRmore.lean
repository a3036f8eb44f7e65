/- Slices written out, copy, parts of slices, structs, calls, joins, ways out: over a context of resources. Own work, over any program. -/
import Derived.Test.YtkhnponakhabdaaGreatDoorRset
set_option linter.unusedVariables false
namespace Go.Proofs.YtkhnponakhabdaaGreatDoor
open Go Go.RowKit
variable {P : Program}
section facts
variable {Γ : List Res} {t a b : Ty}
def BltL (Γ : List Res) (t : Ty) (vs : List Value) (xs : List t.den) : Prop := ∀ w L, L.map (·.1) = Γ → SitAll w L → ApartL L → ∃ F, RepVs w t vs xs F ∧ ∀ k ∈ F, ∃ f ∈ L, k ∈ f.2
theorem BltL.nil : BltL Γ t [] [] := fun w L _ _ _ => ⟨[], rfl, fun k hk => by cases hk⟩
theorem BltL.cons {v : Value} {vs : List Value} {cs : List Value} {x : t.den} {xs : List t.den} (h : Blt Γ t cs x) (hv : v.cells.toList = cs) (h2 : BltL Γ t vs xs) : BltL Γ t (v :: vs) (x :: xs) := fun w L h3 h4 h5 => by
 obtain ⟨F1, h6, h7⟩ := h w L h3 h4 h5
 obtain ⟨F2, h8, h9⟩ := h2 w L h3 h4 h5
 exact ⟨F1 ++ F2, ⟨F1, F2, rfl, by rw [hv]; exact h6, h8⟩, fun k hk => by
  rcases List.mem_append.1 hk with hk | hk
  ·exact h7 k hk
  ·exact h9 k hk⟩
def plainT : Ty → Bool
 | .int _ => true
 | .bool => true
 | .str => true
 | .slice _ => false
 | .pair a b => plainT a && plainT b
theorem plain_rep {w : World} : ∀ {t : Ty}, plainT t = true → ∀ c x F, Rep w t c x F → F = []
 | .int _, _, c, x, F, h => h.2
 | .bool, _, c, x, F, h => h.2
 | .str, _, c, x, F, h => h.2
 | .slice _, h, _, _, _, _ => by cases h
 | .pair a b, hp, c, x, F, ⟨c1, c2, F1, F2, h1, h2, h3, h4⟩ => by
  simp only [plainT, Bool.and_eq_true] at hp
  rw [h2, plain_rep hp.1 _ _ _ h3, plain_rep hp.2 _ _ _ h4]; rfl
theorem Rep.sl_inv {w : World} {c : List Value} {x : List t.den} {F : List Nat} (h : Rep w (.slice t) c x F) : ∃ v, c = [v] ∧ Rep w (.slice t) [v] x F := by
 have h' := h
 obtain ⟨p, cap, h1, _⟩ := h
 exact ⟨_, h1, by rw [← h1]; exact h'⟩
end facts
section walk
variable {ops : Array Oper} {Q : Exit → Act → World → Prop} {n : Nat} {md : Md} {l : List Oper} {E : Env} {o : Oper} {d : Nat} {ty : TypeId} {ps : String} {af : Array Edge} {g : Option (Nat × Bool)} {x y z : Operand} {T : TypeId}
variable {M : List Nat} {w0 w w' : World} {Γ Γ' G : List Res} {R R' : Res} {t : Ty} {v u : Value} {xs ys zs : List t.den} {e : TypeId}
theorem build_run {c : Value} {by_ len : Nat} {vs : List Value} {parts : Array (Nat × Value)} (ht : P.underlying T = some (.slice e)) (hi : (P.info? e).map (fun i => (i.zero, i.size, i.bytes)) = some (some c, t.size, by_)) (hz : c.cells.size = t.size)
  (hlen : len * t.size ≤ 16777216) (hv : ∀ v ∈ vs, v.cells.size = t.size) (hl : vs.length = len) (hp : parts.toList = (vs.zipIdx 0).map fun p => (p.2, p.1)) :
  (Instr.buildSlice T len parts).run P w = .ok (.slice (some ⟨w.heap.size, 0, none⟩) len len) { w with heap := w.heap.push (.cells (vs.flatMap fun v => v.cells.toList).toArray e) } := by
 obtain ⟨i, hi2, hz0, hsz, hbyt⟩ := info3 hi
 let cells0 : Array Value := (Array.range (len * t.size)).map ((if len * t.size = 0 then #[] else c.cells)[· % (if len * t.size = 0 then (#[] : Array Value) else c.cells).size]!)
 have hs0 : cells0.size = len * t.size := by simp [cells0]
 obtain ⟨r, hf, hrl⟩ := fill_all t.size vs 0 cells0 hv (by rw [hs0, hl, Nat.zero_add])
 simp only [Nat.zero_mul, List.take_zero, List.nil_append] at hrl
 have hr : r = (vs.flatMap fun v => v.cells.toList).toArray := by rw [← hrl]
 have hno : ¬ 16777216 < len * t.size := by omega
 rw [← hr]
 by_cases h0 : len * t.size = 0
 ·have hmr : ∀ f : Nat → Value, Array.map f (Array.range 0) = #[] := fun f => by apply Array.eq_empty_of_size_eq_zero; simp
  simp only [cells0, h0, if_true, hmr] at hf
  simp [Instr.buildSlice, run_underlying ht, sizeOf, typeInfo, hi2, hsz, h0, hp, hmr, hf, newRow, newObj, Sem.run]
 ·simp only [cells0, h0, if_false] at hf
  simp [Instr.buildSlice, run_underlying ht, sizeOf, typeInfo, zeroValue, hi2, hsz, hz0, hno, h0, hp, hf, newRow, newObj, Sem.run]
theorem WL_buildH {c : Value} {by_ len : Nat} {args : List Operand} {vs : List Value} (H : Holds M w0 w Γ G) (hr : BltL (Γ ++ G) t vs xs)
  (ht : P.underlying T = some (.slice e)) (hi : (P.info? e).map (fun i => (i.zero, i.size, i.bytes)) = some (some c, t.size, by_)) (hz : c.cells.size = t.size)
  (hlen : Nat.ble (len * t.size) 16777216 = true) (hvs : evs E args = some vs) (hl : Nat.beq len xs.length = true)
  (hw : wantedE ops E ⟨some d, .buildSlice T len (partsFrom 0 args).toArray, ty, ps, af, g⟩ = some true) (hn : Nat.blt d n = true)
  (h : ∀ v' w', Holds M w0 w' (.sl e t v' xs :: Γ) G → XL P ops n (.seq Q) l ((d, v') :: E) w') :
  XL P ops n (.seq Q) (⟨some d, .buildSlice T len (partsFrom 0 args).toArray, ty, ps, af, g⟩ :: l) E w := by
 have hlen' : len * t.size ≤ 16777216 := by simpa using hlen
 have hl' : len = xs.length := Nat.eq_of_beq_eq_true hl
 obtain ⟨L0, h01, h02, h03⟩ := H.ctx
 obtain ⟨F0, hF0, _⟩ := hr w L0 h01 h02 h03
 obtain ⟨_, hlv, hcv⟩ := hF0.repL
 have hpos := t.size_pos
 have hle : len ≤ 16777216 := Nat.le_trans (Nat.le_mul_of_pos_right _ hpos) hlen'
 refine WL_run hw (fun ρ hρ => ?_) rfl hn (h (.slice (some ⟨w.heap.size, 0, none⟩) len len) { w with heap := w.heap.push (.cells (vs.flatMap fun v => v.cells.toList).toArray e) } (H.add fun L h1 h2 h3 => ?_))
 ·have hmap := args_of hρ hvs
  have hmap2 : ((partsFrom 0 args).map fun p => (p.1, ρ p.2)) = (vs.zipIdx 0).map fun p => (p.2, p.1) := partsFrom_map args vs 0 hmap
  have hrun := build_run (P := P) (w := w) (t := t) (vs := vs) (parts := ((partsFrom 0 args).map fun p => (p.1, ρ p.2)).toArray) ht hi hz hlen' hcv (by omega) (by simp [hmap2])
  simp [execOp, hrun]
 ·obtain ⟨F, hF, hz2⟩ := hr w L h1 h2 h3
  obtain ⟨h4, h5, h6⟩ := hF.repL
  have hlenc := h4.length (fun c x F h => Rep.length h)
  have hrow : World.ownsRow { w with heap := w.heap.push (.cells (vs.flatMap fun v => v.cells.toList).toArray e) } 0 e t.size (.slice (some ⟨w.heap.size, 0, none⟩) len len) xs.length (vs.flatMap fun v => v.cells.toList) := by
   refine ⟨hlenc, .inr ⟨w.heap.size, len, (vs.flatMap fun v => v.cells.toList).toArray, by rw [hl'], Nat.zero_le _, by simp, by omega, by simp only [maxLen]; omega, ?_, ?_⟩⟩
   ·rw [List.size_toArray, hlenc, hl']
   ·show List.take _ (vs.flatMap fun v => v.cells.toList) = _
    rw [← hlenc, List.take_length]
  refine ⟨F, push_below, ⟨_, hrow, h4.imp fun c x F' hF' hR => hR.below push_below⟩, fun k hk => ?_, fun k hk => .inr fun g hg => ?_, fun k hk hk' => ?_⟩
  ·simp [Res.own, Value.ownBlock] at hk; omega
  ·obtain ⟨f, hf, hk2⟩ := hz2 k hk
   exact h3.zone hf hg hk2
  ·obtain ⟨f, hf, hk2⟩ := hz2 k hk'
   have := (h2.lt f hf).2 k hk2
   simp [Res.own, Value.ownBlock] at hk; omega
theorem WL_copyH {nn : Nat} (hpl : plainT t = true) (H : Holds M w0 w (.sl e t v xs :: Γ) G) (hh : Has (.sl e t v xs :: (Γ ++ G)) t u ys) (hnn : nn = min ys.length xs.length)
  (ht : P.underlying T = some (.slice e)) (hi : (P.info? e).map (·.size) = some t.size)
  (hw : wantedE ops E ⟨some d, .call ⟨.builtin .copy, #[x, y], #[T, T]⟩, ty, ps, af, g⟩ = some true) (hx : ev E x = some v) (hy : ev E y = some u) (hn : Nat.blt d n = true)
  (h : ∀ w', Holds M w0 w' (.sl e t v (ys.take xs.length ++ xs.drop ys.length) :: Γ) G → XL P ops n (.seq Q) l ((d, i64 nn) :: E) w') :
  XL P ops n (.seq Q) (⟨some d, .call ⟨.builtin .copy, #[x, y], #[T, T]⟩, ty, ps, af, g⟩ :: l) E w := by
 obtain ⟨ti, hi, hs⟩ := Option.map_eq_some_iff.1 hi
 have key : ∀ S L, L.map (·.1) = Γ ++ G → Sit w (.sl e t v xs) S → SitAll w L → ApartL ((.sl e t v xs, S) :: L) → ∃ w', (Builtin.copy_ #[T, T] ty #[v, u]).run P w = .ok (goInt nn) w' ∧ ∃ S', Chg v.ownBlock.toList w w' ∧ Sit w' (.sl e t v (ys.take xs.length ++ xs.drop ys.length)) S' ∧ S' = [] := by
  intro S L h1 hS ht' ha
  obtain ⟨B, Se, ⟨p, cap, rfl, hcap, hr⟩, _, hSe⟩ := hh w ((.sl e t v xs, S) :: L) (by simp [h1]) ⟨hS, ht'⟩ ha
  obtain ⟨cs, h2, h3⟩ := hS
  have hlen := h3.length (fun c x F h => Rep.length h)
  have hS0 : S = [] := h3.flatF (plain_rep hpl)
  subst hS0
  have h2' := h2
  obtain ⟨h5, h6⟩ := h2
  rcases h6 with ⟨rfl, hx0⟩ | ⟨g, cap', cur, hv, _, hgg, hnc, hcm, hcz, htk⟩
  ·have hxs : xs = [] := List.eq_nil_of_length_eq_zero hx0
   subst hxs
   have h00 : nn = 0 := by rw [hnn]; simp
   rw [h00]
   refine ⟨w, ?_, [], Chg.refl _ _, ⟨cs, by simpa using h2', by simpa using h3⟩, rfl⟩
   cases p <;> simp [Builtin.copy_, run_underlying ht, Builtin.lenOf, Builtin.firstCells, sizeOf, typeInfo, hi, loadCells, loadCellsFrom, storeCells]
  ·rcases hr with ⟨rfl, _, _⟩ | ⟨b, off, bs, hne, rfl, _, h7, h8⟩
   ·have h00 : nn = 0 := by rw [hnn]; simp
    rw [h00]
    refine ⟨w, ?_, [], Chg.refl _ _, ⟨cs, by simpa using h2', by simpa using h3⟩, rfl⟩
    rw [hv]
    cases p <;> simp [Builtin.copy_, run_underlying ht, Builtin.lenOf, Builtin.firstCells, sizeOf, typeInfo, hi, loadCells, loadCellsFrom, storeCells]
   ·have hbl := h7.length (fun c x F h => Rep.length h)
    have hSe0 : Se = [] := h7.flatF (plain_rep hpl)
    subst hSe0
    obtain ⟨G1, G2, hG, h9, _⟩ := h7.split (s := t.size) (fun c x F h => Rep.length h) nn
    obtain ⟨G3, G4, hG', _, h10⟩ := h3.split (s := t.size) (fun c x F h => Rep.length h) nn
    have hG1 : G1 = [] := (List.append_eq_nil_iff.1 hG.symm).1
    have hG4 : G4 = [] := (List.append_eq_nil_iff.1 hG'.symm).2
    subst hG1; subst hG4
    have hml : nn * t.size ≤ ys.length * t.size := Nat.mul_le_mul_right _ (by omega)
    have hmx : nn * t.size ≤ xs.length * t.size := Nat.mul_le_mul_right _ (by omega)
    have hcapx : xs.length * t.size ≤ cap' * t.size := Nat.mul_le_mul_right _ hnc
    have htl : (bs.take (nn * t.size)).length = nn * t.size := by rw [List.length_take]; omega
    have hload := run_loadCells_list (P := P) w ⟨b, off, none⟩ (bs.take (nn * t.size)) (fun j z hj => by
     rw [Addr.add_none]
     rw [List.getElem?_take] at hj
     split at hj
     ·exact h8 j z hj
     ·cases hj)
    rw [htl] at hload
    have hone : ∀ v ∈ bs.take (nn * t.size), v.oneCell' = true := fun c hc => h7.one (fun c x F h => Rep.one h) c (List.mem_of_mem_take hc)
    have hst := run_storeCells_at P g 0 e (bs.take (nn * t.size)) 0 cur w hgg (by rw [hcz, htl]; omega) hone
    simp only [Nat.add_zero] at hst
    refine ⟨w.setRow g (cur.toList.take 0 ++ bs.take (nn * t.size) ++ cur.toList.drop (0 + (bs.take (nn * t.size)).length)).toArray, ?_, [], ?_, ⟨bs.take (nn * t.size) ++ cs.drop (nn * t.size), ?_, ?_⟩, rfl⟩
    ·rw [hv]
     have hmm : Nat.min ys.length xs.length = nn := hnn.symm
     simp only [Nat.zero_add] at hst
     simp [Builtin.copy_, run_underlying ht, Builtin.lenOf, Builtin.firstCells, sizeOf, typeInfo, hi, hs, hmm, hload, hst]
    ·rw [hv]; exact setRow_chg
    ·have := ownsRow_splice (w := w) (size := t.size) (off := 0) (vs := bs.take (nn * t.size)) hgg hlen hnc hcm hcz htk (by rw [htl]; omega)
     have hxl : (ys.take xs.length ++ xs.drop ys.length).length = xs.length := by simp; omega
     rw [hxl, hv]
     simpa [htl] using this
    ·have hq : ys.take xs.length ++ xs.drop ys.length = ys.take nn ++ xs.drop nn := by
      rcases Nat.le_total ys.length xs.length with h | h
      ·have hm : nn = ys.length := by omega
       rw [hm, List.take_of_length_le h, List.take_length]
      ·have hm : nn = xs.length := by omega
       rw [hm, List.drop_eq_nil_of_le h, List.drop_length]
     rw [hq]
     have := RepL.append h9 h10
     simp only [List.append_nil] at this
     exact this.imp fun c x F hF hR => hR.keep fun k hk => by have := hF k hk; cases this
 obtain ⟨S, L, h1, hS, ht', ha⟩ := H.ctx.cons_inv
 obtain ⟨w', hrun, _⟩ := key S L h1 hS ht' ha
 refine WL_run (v := i64 nn) (w' := w') hw (fun ρ hρ => ?_) rfl hn (h w' (H.upd fun S L h1 hS ht' ha => ?_))
 ·simp [execOp, resolve, invoke, builtin, hρ x _ hx, hρ y _ hy, hrun, goInt]
 ·obtain ⟨w2, hrun2, S', h2, h3, h4⟩ := key S L h1 hS ht' ha
  rw [hrun] at hrun2
  injection hrun2 with e1 e2
  subst e2
  subst h4
  exact ⟨[], h2, h3, fun k hk => .inl hk, (fun k hk => by cases hk), (fun k _ hk => by cases hk)⟩
def bndE (E : Env) (o : Option Operand) (dflt val : Int) : Prop := match o with
 | none => val = dflt
 | some x => ∃ k, ev E x = some (.int k val)
theorem XL_sliceH {lo hi : Option Operand} {lv hv : Int} (H : Ctx w Γ) (hh : Has Γ t v xs) (hs : subO xs lv hv = some ys) (hT : P.underlying T = some (.slice e)) (hsz : (P.info? e).map (·.size) = some t.size)
  (hlo : bndE E lo 0 lv) (hhi : bndE E hi xs.length hv)
  (hw : wantedE ops E ⟨some d, .slice T x lo hi none, ty, ps, af, g⟩ = some true) (hx : ev E x = some v) (hn : Nat.blt d n = true)
  (h : XL P ops n md l ((d, subV t.size v lv.toNat hv.toNat) :: E) w) : XL P ops n md (⟨some d, .slice T x lo hi none, ty, ps, af, g⟩ :: l) E w := by
 obtain ⟨p, cap, rfl, hcap⟩ := H.isLen hh
 obtain ⟨h0, h1, h2, _⟩ := subO_some hs
 obtain ⟨ti, hi2, hsz⟩ := Option.map_eq_some_iff.1 hsz
 refine XL_q hw ?_ rfl hn h
 intro w' _ ρ hρ
 have hhb : ∀ k : IntKind, (Instr.sliceBound (.int k hv) cap .sliceAcap).run P w' = .ok hv.toNat w' := fun k => by
  have : 0 ≤ hv ∧ hv ≤ (cap : Int) := by omega
  simp [Instr.sliceBound, asIntOf, this]
 have hlb : ∀ k : IntKind, (Instr.sliceBound (.int k lv) hv.toNat .sliceB).run P w' = .ok lv.toNat w' := fun k => by
  have hn0 : ((hv.toNat : Nat) : Int) = hv := Int.toNat_of_nonneg (by omega)
  have : 0 ≤ lv ∧ lv ≤ hv := by omega
  simp only [Instr.sliceBound, asIntOf, hn0]
  simp [this]
 cases lo with
 | none =>
  simp only [bndE] at hlo
  subst hlo
  cases hi with
  | none =>
   simp only [bndE] at hhi
   subst hhi
   by_cases hc : cap = 0 <;> simp [execOp, hρ x _ hx, Instr.sliceAt, Instr.slice, run_underlying hT, Instr.sliceBounds, sizeOf, typeInfo, hi2, hsz, subV, hc]
  | some xh =>
   obtain ⟨k, hxh⟩ := hhi
   by_cases hc : cap = 0
   ·have hh0 : hv.toNat = 0 := by omega
    have := hhb k
    simp [execOp, hρ x _ hx, hρ xh _ hxh, Instr.sliceAt, Instr.slice, run_underlying hT, Instr.sliceBounds, sizeOf, typeInfo, hi2, hsz, subV, hc] at this ⊢
    simp [this]
   ·simp [execOp, hρ x _ hx, hρ xh _ hxh, Instr.sliceAt, Instr.slice, run_underlying hT, Instr.sliceBounds, sizeOf, typeInfo, hi2, hsz, subV, hc, hhb k]
 | some xl =>
  obtain ⟨k', hxl⟩ := hlo
  cases hi with
  | none =>
   simp only [bndE] at hhi
   subst hhi
   have hl2 := hlb k'
   simp only [Int.toNat_natCast] at hl2
   by_cases hc : cap = lv.toNat <;> simp [execOp, hρ x _ hx, hρ xl _ hxl, Instr.sliceAt, Instr.slice, run_underlying hT, Instr.sliceBounds, sizeOf, typeInfo, hi2, hsz, subV, hc, hl2]
  | some xh =>
   obtain ⟨k, hxh⟩ := hhi
   by_cases hc : cap = lv.toNat
   ·have h3 := hhb k
    rw [hc] at h3
    simp [execOp, hρ x _ hx, hρ xl _ hxl, hρ xh _ hxh, Instr.sliceAt, Instr.slice, run_underlying hT, Instr.sliceBounds, sizeOf, typeInfo, hi2, hsz, subV, hc, h3, hlb k']
   ·simp [execOp, hρ x _ hx, hρ xl _ hxl, hρ xh _ hxh, Instr.sliceAt, Instr.slice, run_underlying hT, Instr.sliceBounds, sizeOf, typeInfo, hi2, hsz, subV, hc, hhb k, hlb k']
theorem run_isAggT {ds : TypeDesc} (hT : P.underlying T = some ds) (h : oneB ds = false) (w : World) : (isAgg T).run P w = .ok true w := by
 cases ds <;> simp_all [isAgg, run_underlying hT, oneB]
theorem XL_load_agg {ds : TypeDesc} {b o : Nat} {u : t.den} {F : List Nat} (hT : P.underlying T = some ds) (ho : oneB ds = false) (hs : (P.info? T).map (·.size) = some t.size) (hat : AtP w t b o u F)
  (hw : wantedE ops E ⟨some d, .load T x, ty, ps, af, g⟩ = some true) (hx : ev E x = some (.pointer (some ⟨b, o, none⟩))) (hn : Nat.blt d n = true)
  (h : ∀ cs, Rep w t cs u F → XL P ops n md l ((d, .agg cs.toArray) :: E) w) : XL P ops n md (⟨some d, .load T x, ty, ps, af, g⟩ :: l) E w := by
 obtain ⟨cs, hr, hc⟩ := hat
 have hl := hr.length
 obtain ⟨ti, hi, hs⟩ := Option.map_eq_some_iff.1 hs
 have hpos := t.size_pos
 refine XL_q (v := .agg cs.toArray) hw ?_ rfl hn (h cs hr)
 intro w' hb ρ hρ
 have hlt : b < w.heap.size := cell_lt (hc 0 cs[0] (List.getElem?_eq_getElem (by omega)))
 have hload := run_loadCells_list (P := P) w' ⟨b, o, none⟩ cs (fun j z hj => by
  rw [Addr.add_none, hb.cell (p := ⟨b, o + j, none⟩) hlt]; exact hc j z hj)
 rw [hl, ← hs] at hload
 simp [execOp, hρ x _ hx, Instr.loadAt, Instr.sureAddr, loadVar, run_isAggT hT ho, sizeOf, typeInfo, hi, hload]
theorem XL_load_bxA {b : Nat} {Tb : TypeId} {cs : List Value} {ds : TypeDesc} (hT : P.underlying T = some ds) (ho : oneB ds = false) (hs : (P.info? T).map (·.size) = some cs.length) (hB : Bx w b Tb cs)
  (hw : wantedE ops E ⟨some d, .load T x, ty, ps, af, g⟩ = some true) (hx : ev E x = some (.pointer (some ⟨b, 0, none⟩))) (hn : Nat.blt d n = true)
  (h : XL P ops n md l ((d, .agg cs.toArray) :: E) w) : XL P ops n md (⟨some d, .load T x, ty, ps, af, g⟩ :: l) E w := by
 obtain ⟨ti, hi, hs⟩ := Option.map_eq_some_iff.1 hs
 refine XL_q (v := .agg cs.toArray) hw ?_ rfl hn h
 intro w' hb ρ hρ
 have hload := run_loadCells_list (P := P) w' ⟨b, 0, none⟩ cs (fun j z hj => by
  rw [Addr.add_none, Nat.zero_add, hb.cell (p := ⟨b, j, none⟩) hB.lt]; exact hB.cell hj)
 rw [← hs] at hload
 simp [execOp, hρ x _ hx, Instr.loadAt, Instr.sureAddr, loadVar, run_isAggT hT ho, sizeOf, typeInfo, hi, hload]
theorem WL_store_bxA {b : Nat} {Tb : TypeId} {cs cs' : List Value} {c : Value} (H : Holds M w0 w (.bx b Tb cs :: Γ) G) (hl : cs'.length = cs.length) (hi : (P.info? T).map (·.size) = some cs'.length) (hcs : c.cells.toList = cs') (hone : (cs'.all (·.oneCell')) = true)
  (hw : wantedE ops E ⟨none, .store T x y, ty, ps, af, g⟩ = some true) (hx : ev E x = some (.pointer (some ⟨b, 0, none⟩))) (hy : ev E y = some c)
  (h : ∀ w', Holds M w0 w' (.bx b Tb cs' :: Γ) G → XL P ops n (.seq Q) l E w') :
  XL P ops n (.seq Q) (⟨none, .store T x y, ty, ps, af, g⟩ :: l) E w := by
 obtain ⟨ti, hi, hs⟩ := Option.map_eq_some_iff.1 hi
 have hB := H.bx
 have hrun := run_storeCells_at P b 0 Tb cs' 0 cs.toArray w hB (by simp [hl]) (fun v hv => by simpa using List.all_eq_true.1 hone v hv)
 have hrow : ((cs.toArray.toList.take (0 + 0) ++ cs' ++ cs.toArray.toList.drop (0 + 0 + cs'.length)).toArray) = cs'.toArray := by simp [hl]
 rw [hrow] at hrun
 refine WL_do (w' := w.setRow b cs'.toArray) hw (fun ρ hρ => ?_) rfl (h _ (H.upd fun S L h1 h2 h3 h4 => ⟨[], setRow_chg, ⟨rfl, setRow_heap w b _ _ Tb _ hB⟩, fun k hk => .inl hk, (fun k hk => by cases hk), (fun k _ hk => by cases hk)⟩))
 have hsz : c.cells.size = ti.size := by rw [hs, ← hcs]; simp
 simp [execOp, hρ x _ hx, hρ y _ hy, Instr.storeAt, Instr.sureAddr, storeVar, sizeOf, typeInfo, hi, hsz, hcs, hrun]
theorem WL_cutM (k : Nat) (Mid : Act → World → Prop) (h1 : XL P ops n (.seq (Exit.then Mid Q)) (l.take k) E w) (h2 : ∀ a w', Mid a w' → wpList P ops Q (l.drop k) a w') : XL P ops n (.seq Q) l E w := by
 have hl : l = l.take k ++ l.drop k := (List.take_append_drop k l).symm
 intro a ha
 have := h1 a ha
 rw [hl]
 have key : ∀ (l1 : List Oper) (a : Act) (w1 : World), wpList P ops (Exit.then Mid Q) l1 a w1 → wpList P ops Q (l1 ++ l.drop k) a w1 := by
  intro l1
  induction l1 with
  | nil => intro a w1 h; exact h2 a w1 h
  | cons o l1 ih =>
   intro a w1 h
   simp only [List.cons_append]
   unfold wpList at h ⊢
   split
   ·rename_i hw
    rw [if_pos hw] at h
    rcases h with h | h
    ·refine .inl ?_
     unfold Oper.wp at h ⊢
     generalize (execOp a.eval o).run P w1 = r at h
     cases r with
     | ok x w2 =>
      cases x <;> first
       | exact ih _ _ h
       | exact Calls.mono h (fun e w'' he => by cases e <;> first | exact ih _ _ he | exact he)
       | exact Rows.mono h (fun _ _ he => ih _ _ he)
       | exact h
     | halt x w2 => cases x <;> exact h
    ·exact .inr h
   ·rename_i hw
    rw [if_neg hw] at h
    exact ih _ _ h
 exact key _ a w this
theorem SL_app {a : Act} (h : XL P ops n (.seq Q) l E w) (ha : Fr a n E) : wpList P ops Q l a w := h a ha
theorem allc {p : Nat → Prop} {i : Nat} {l : List Nat} (h1 : p i) (h2 : ∀ k ∈ l, p k) : ∀ k ∈ i :: l, p k := fun k hk => by
 rcases List.mem_cons.1 hk with rfl | hk
 ·exact h1
 ·exact h2 k hk
theorem alln {p : Nat → Prop} : ∀ k ∈ ([] : List Nat), p k := fun k hk => by cases hk
end walk
theorem Holds.startN {w : World} {Rs G : List Res} (h : Ctx w (Rs ++ G)) : Holds (Rs.flatMap Res.own) w w Rs G :=
 ⟨Chg.refl _ _, (fun R hR k hk => .inl (List.mem_flatMap.2 ⟨R, hR, hk⟩)), h⟩
theorem Holds.calledN {M : List Nat} {w0 w w' : World} {Rs Γ Γ' G : List Res} (H : Holds M w0 w (Rs ++ Γ) G) (K : Holds (Rs.flatMap Res.own) w w' Γ' (Γ ++ G)) : Holds M w0 w' (Γ' ++ Γ) G := by
 have hM : ∀ k ∈ Rs.flatMap Res.own, k ∈ M ∨ w0.heap.size ≤ k := fun k hk => by
  obtain ⟨R, hR, hk⟩ := List.mem_flatMap.1 hk
  exact H.lo R (List.mem_append_left _ hR) k hk
 refine ⟨⟨K.chg.os.trans H.chg.os, K.chg.tape.trans H.chg.tape, K.chg.output.trans H.chg.output, Nat.le_trans H.chg.size K.chg.size, fun k hk hm => ?_⟩, fun R' hR' k hk => ?_, by rw [List.append_assoc]; exact K.ctx⟩
 ·rw [K.chg.block k (Nat.lt_of_lt_of_le hk H.chg.size) fun h => ?_, H.chg.block k hk hm]
  rcases hM k h with h | h
  ·exact hm h
  ·omega
 ·rcases List.mem_append.1 hR' with h | h
  ·rcases K.lo R' h k hk with h1 | h1
   ·exact hM k h1
   ·right; have := H.chg.size; omega
  ·exact H.lo R' (List.mem_append_right _ h) k hk
theorem Holds.addRo {M : List Nat} {w0 w : World} {Γ : List Res} {t : Ty} {v : Value} {x : List t.den} {F : List Nat} (H : Holds M w0 w Γ []) (hr : Rep w (.slice t) [v] x F) (hno : ∀ R ∈ Γ, R.own = []) : Holds M w0 w (.ro t v x :: Γ) [] := by
 obtain ⟨h0, hlo, L, h1, h2, h3⟩ := H
 refine ⟨h0, fun R hR k hk => ?_, (.ro t v x, F) :: L, by simp [h1], ⟨hr, h2⟩, .cons (fun g hg => ⟨(fun k hk => by cases hk), (fun k hk => by cases hk), fun k hk hk' => ?_⟩) (fun k hk => by cases hk) h3⟩
 ·rcases List.mem_cons.1 hR with rfl | hR
  ·cases hk
  ·exact hlo R hR k hk
 ·have : g.1 ∈ Γ := by have := List.mem_map_of_mem (f := (·.1)) hg; rw [h1] at this; simpa using this
  rw [hno _ this] at hk; cases hk
theorem Holds.bel {w0 w : World} {Γ G : List Res} (H : Holds [] w0 w Γ G) : Below w0.heap.size w0 w := H.chg.below (Below.refl _ _) (fun k hk => by cases hk)
end Go.Proofs.YtkhnponakhabdaaGreatDoor
