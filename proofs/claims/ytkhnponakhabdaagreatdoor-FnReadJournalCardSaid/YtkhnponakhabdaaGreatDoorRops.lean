/- The operations over a context of resources. Own work, over any program. -/
import Derived.Test.YtkhnponakhabdaaGreatDoorRes
import Derived.Laws.Tables
set_option linter.unusedVariables false
namespace Go.Proofs.YtkhnponakhabdaaGreatDoor
open Go Go.RowKit
variable {P : Program}
section facts
variable {M : List Nat} {w0 w w' : World} {Γ Γ' G : List Res} {R R' : Res} {t : Ty} {v : Value} {xs ys zs : List t.den} {e : TypeId}
theorem Ctx.has (H : Ctx w Γ) (h : Has Γ t v xs) : ∃ L, L.map (·.1) = Γ ∧ SitAll w L ∧ ApartL L ∧ ∃ B S, RepS w t v xs B S ∧ (∀ k ∈ B, ∃ f ∈ L, k ∈ f.1.own ∨ k ∈ f.2) ∧ ∀ k ∈ S, ∃ f ∈ L, k ∈ f.2 := by
 obtain ⟨L, h1, h2, h3⟩ := H
 exact ⟨L, h1, h2, h3, h w L h1 h2 h3⟩
theorem Ctx.isLen (H : Ctx w Γ) (h : Has Γ t v xs) : ∃ p cap, v = .slice p xs.length cap ∧ xs.length ≤ cap := by
 obtain ⟨L, _, _, _, B, S, ⟨p, cap, h1, h2, _⟩, _⟩ := H.has h
 exact ⟨p, cap, h1, h2⟩
theorem Ctx.sliceCells (H : Ctx w Γ) (h : Has Γ t v xs) : v.cells = #[v] := by
 obtain ⟨p, cap, rfl, _⟩ := H.isLen h; rfl
theorem Ctx.sliceList (H : Ctx w Γ) (h : Has Γ t v xs) : v.cells.toList = [v] := by rw [H.sliceCells h]
theorem Ctx.sliceOne (H : Ctx w Γ) (h : Has Γ t v xs) : v.oneCell' = true := by
 obtain ⟨p, cap, rfl, _⟩ := H.isLen h; rfl
theorem Ctx.isAt (H : Ctx w Γ) (h : Has Γ t v xs) {k : Int} {u : t.den} (hg : geti xs k = some u) : ∃ b off cap, v = .slice (some ⟨b, off, none⟩) xs.length cap := by
 obtain ⟨L, _, _, _, B, S, ⟨p, cap, h1, h2, h3⟩, _⟩ := H.has h
 rcases h3 with ⟨rfl, _⟩ | ⟨b, off, bs, _, rfl, _⟩
 ·have := (geti_lt hg).2; simp at this
 ·exact ⟨b, off, cap, h1⟩
theorem Holds.dupRo {t : Ty} {v : Value} {xs : List t.den} {F : List Nat} {L : List (Res × List Nat)} (H : Holds M w0 w Γ G) (h1 : L.map (·.1) = Γ ++ G) (h2 : SitAll w L) (h3 : ApartL L) (hr : Rep w (.slice t) [v] xs F) (hF : ∀ k ∈ F, ∃ f ∈ L, k ∈ f.2) : Holds M w0 w (.ro t v xs :: Γ) G := by
 refine ⟨H.chg, fun R hR k hk => ?_, (.ro t v xs, F) :: L, by simp [h1], ⟨hr, h2⟩, .cons (fun g hg => ⟨(fun k hk => by cases hk), (fun k hk => by cases hk), fun k hk hk' => ?_⟩) (fun k hk => by cases hk) h3⟩
 ·rcases List.mem_cons.1 hR with rfl | hR
  ·cases hk
  ·exact H.lo R hR k hk
 ·obtain ⟨f, hf, hk2⟩ := hF k hk'
  exact h3.zone hf hg hk2 hk
theorem Holds.dup (H : Holds M w0 w Γ G) (h : HasRo (Γ ++ G) t v xs) : Holds M w0 w (.ro t v xs :: Γ) G := by
 obtain ⟨L, h1, h2, h3⟩ := H.ctx
 obtain ⟨B, S, h4, h5⟩ := h w L h1 h2 h3
 exact H.dupRo h1 h2 h3 h4.rep h5
theorem Holds.at (H : Holds M w0 w Γ G) (h : Has (Γ ++ G) t v xs) {k : Int} {u : t.den} (hg : geti xs k = some u) {b off cap : Nat} (hv : v = .slice (some ⟨b, off, none⟩) xs.length cap) :
  ∃ F, AtP w t b (off + k.toNat * t.size) u F ∧ ∀ (t' : Ty) (v' : Value) (x' : List t'.den) (F' : List Nat), Rep w (.slice t') [v'] x' F' → (∀ k ∈ F', k ∈ F) → Holds M w0 w (.ro t' v' x' :: Γ) G := by
 obtain ⟨L, h1, h2, h3, B, S, hr, hB, hS⟩ := H.ctx.has h
 obtain ⟨p, cap', h4, h5, h6⟩ := hr
 rw [hv] at h4
 simp only [Value.slice.injEq] at h4
 obtain ⟨rfl, _, rfl⟩ := h4
 have hlt := (geti_lt hg).2
 have h0 := (geti_lt hg).1
 have hz : xs[k.toNat]? = some u := by unfold geti at hg; rw [if_pos h0] at hg; exact hg
 rcases h6 with ⟨rfl, _⟩ | ⟨b', off', bs, hne, hp, rfl, h7, h8⟩
 ·simp at hlt
 ·simp only [Option.some.injEq, Addr.mk.injEq, and_true] at hp
  obtain ⟨rfl, rfl⟩ := hp
  obtain ⟨c, F, hR, hF, hc⟩ := h7.get (fun c x F h => Rep.length h) k.toNat u hz
  exact ⟨F, ⟨c, hR, fun j z hj => by rw [Nat.add_assoc]; exact h8 _ _ (hc j z hj)⟩, fun t' v' x' F' hr' hsub => H.dupRo h1 h2 h3 hr' fun k hk => hS k (hF k (hsub k hk))⟩
theorem AtP.fst {w : World} {a b : Ty} {blk o : Nat} {x : a.den × b.den} {F : List Nat} (h : AtP w (.pair a b) blk o x F) : ∃ F1, AtP w a blk o x.1 F1 ∧ ∀ k ∈ F1, k ∈ F := by
 obtain ⟨cs, ⟨c1, c2, F1, F2, rfl, rfl, h1, h2⟩, h3⟩ := h
 exact ⟨F1, ⟨c1, h1, fun j u hj => h3 j u ((List.getElem?_append_left (List.getElem?_eq_some_iff.1 hj).1).trans hj)⟩, fun k hk => List.mem_append_left _ hk⟩
theorem AtP.snd {w : World} {a b : Ty} {blk o : Nat} {x : a.den × b.den} {F : List Nat} (h : AtP w (.pair a b) blk o x F) : ∃ F1, AtP w b blk (o + a.size) x.2 F1 ∧ ∀ k ∈ F1, k ∈ F := by
 obtain ⟨cs, ⟨c1, c2, F1, F2, rfl, rfl, h1, h2⟩, h3⟩ := h
 refine ⟨F2, ⟨c2, h2, fun j u hj => ?_⟩, fun k hk => List.mem_append_right _ hk⟩
 have hl := h1.length
 rw [Nat.add_assoc]
 exact h3 (a.size + j) u (by rw [List.getElem?_append_right (by omega), hl, Nat.add_sub_cancel_left]; exact hj)
theorem Has.sub (h : Has Γ t v xs) {l r : Int} (hs : subO xs l r = some ys) : Has Γ t (subV t.size v l.toNat r.toNat) ys := fun w L h0 h1 h2 => by
 obtain ⟨B, S, h3, h4, h5⟩ := h w L h0 h1 h2
 obtain ⟨B', S', h6, h7, h8⟩ := h3.sub hs
 exact ⟨B', S', h6, fun k hk => h4 k (h7 k hk), fun k hk => h5 k (h8 k hk)⟩
theorem HasRo.sub (h : HasRo Γ t v xs) {l r : Int} (hs : subO xs l r = some ys) : HasRo Γ t (subV t.size v l.toNat r.toNat) ys := fun w L h0 h1 h2 => by
 obtain ⟨B, S, h3, h4⟩ := h w L h0 h1 h2
 obtain ⟨B', S', h6, h7, h8⟩ := h3.sub hs
 exact ⟨B', S', h6, fun k hk => by
  rcases List.mem_append.1 hk with hk | hk
  ·exact h4 k (List.mem_append_left _ (h7 k hk))
  ·exact h4 k (List.mem_append_right _ (h8 k hk))⟩
theorem Holds.freeze (H : Holds M w0 w (.sl e t v xs :: Γ) G) : Holds M w0 w (.ro t v xs :: Γ) G := by
 obtain ⟨h0, hlo, hctx⟩ := H
 obtain ⟨S, L, h1, hs, ht, ha⟩ := hctx.cons_inv
 obtain ⟨cs, h2, h3⟩ := hs
 obtain ⟨B, S', h4, h5, h6⟩ := ownsRow_repS h2 h3
 obtain ⟨a1, a2, a3⟩ := ha.cons_inv
 refine ⟨h0, fun R hR k hk => ?_, (.ro t v xs, B ++ S') :: L, by simp [h1], ⟨h4.rep, ht⟩, .cons (fun g hg => ⟨(fun k hk => by cases hk), (fun k hk => by cases hk), fun k hk hk' => ?_⟩) (fun k hk => by cases hk) a3⟩
 ·rcases List.mem_cons.1 hR with rfl | hR
  ·cases hk
  ·exact hlo R (by simp [hR]) k hk
 ·rcases List.mem_append.1 hk' with hk' | hk'
  ·exact (a1 g hg).1 k (h5 k hk') hk
  ·exact (a1 g hg).2.2 k hk (h6 k hk')
def Bx (w : World) (b : Nat) (T : TypeId) (cs : List Value) : Prop := w.heap[b]? = some (.cells cs.toArray T)
theorem Holds.bx {b : Nat} {T : TypeId} {cs : List Value} (H : Holds M w0 w (.bx b T cs :: Γ) G) : Bx w b T cs := by
 obtain ⟨S, L, h1, hs, _⟩ := H.ctx.cons_inv
 exact hs.2
theorem Bx.lt {b : Nat} {T : TypeId} {cs : List Value} (h : Bx w b T cs) : b < w.heap.size := by
 rcases Nat.lt_or_ge b w.heap.size with h1 | h1
 ·exact h1
 ·unfold Bx at h; rw [Array.getElem?_eq_none h1] at h; cases h
theorem Bx.cell {b : Nat} {T : TypeId} {cs : List Value} (h : Bx w b T cs) {i : Nat} {c : Value} (hc : cs[i]? = some c) : w.cell? ⟨b, i, none⟩ = some c := by
 unfold Bx at h
 unfold World.cell?
 simp only [h]
 simpa using hc
theorem Bx.frozen {b : Nat} {T : TypeId} {cs : List Value} (h : Bx w b T cs) (i : Nat) : w.frozen? ⟨b, i, none⟩ = false := by
 unfold Bx at h
 unfold World.frozen?
 simp only [h]
 simp
end facts
def CellsOf : List Value → List (Array Value) → Prop
 | [], [] => True
 | v :: vs, c :: cs => v.cells = c ∧ CellsOf vs cs
 | _, _ => False
def fillC (place : Nat → Option (Nat × Nat)) (cells : Array Value) : List (Nat × Array Value) → Option (Array Value)
 | [] => some cells
 | (i, v) :: rest => match place i with
  | none => none
  | some (off, size) => if v.size ≠ size || off + v.size > cells.size then none else fillC place (v.zipIdx.foldl (fun cs (c, j) => cs.setIfInBounds (off + j) c) cells) rest
theorem fill_eq {place : Nat → Option (Nat × Nat)} : ∀ {ids : List Nat} {vs : List Value} {css : List (Array Value)} {cells : Array Value}, CellsOf vs css → Instr.fill place cells (ids.zip vs) = fillC place cells (ids.zip css)
 | [], _, _, _, _ => by simp [Instr.fill, fillC]
 | i :: ids, [], [], _, _ => by simp [Instr.fill, fillC]
 | i :: ids, v :: vs, c :: css, cells, ⟨h1, h2⟩ => by
  simp only [List.zip_cons_cons, Instr.fill, fillC]
  cases place i with
  | none => rfl
  | some p =>
   simp only [h1]
   split
   ·rfl
   ·exact fill_eq h2
def builtC (P : Program) (t : TypeId) (parts : List (Nat × Array Value)) : Option (Array Value) :=
 match P.info? t, P.underlying t with
 | some it, some (.array _ e) =>
  match it.zero, P.info? e with
  | some z, some ie => fillC (fun i => some (i * ie.size, ie.size)) z.cells parts
  | _, _ => none
 | some it, some (.struct fields) =>
  match it.zero, fields.toList.mapM (fun f => (P.info? f.type).map fun i => (f.offset, i.size)) with
  | some z, some places => fillC (places.toArray[·]?) z.cells parts
  | _, _ => none
 | _, _ => none
theorem built_eq {T : TypeId} {vs : List Value} {css : List (Array Value)} (h : CellsOf vs css) (ids : List Nat) : P.built T (ids.zip vs) = builtC P T (ids.zip css) := by
 unfold Program.built builtC
 simp only [fill_eq h]
 cases P.info? T with
 | none => rfl
 | some it =>
  cases P.underlying T with
  | none => rfl
  | some ds => cases ds <;> rfl
section walk
variable {ops : Array Oper} {Q : Exit → Act → World → Prop} {n : Nat} {md : Md} {l : List Oper} {E : Env} {o : Oper} {d : Nat} {ty : TypeId} {ps : String} {af : Array Edge} {g : Option (Nat × Bool)} {x y z : Operand} {T : TypeId}
variable {M : List Nat} {w0 w w' : World} {Γ Γ' G : List Res} {R R' : Res} {t : Ty} {v : Value} {xs ys zs : List t.den} {e : TypeId}
theorem qt_extract {d : Option Nat} {vs : Array Value} {i : Nat} {u : Value} (hx : ev E x = some (.tuple vs)) (hu : vs[i]? = some u) : Qt P ⟨d, .extract x i, ty, ps, af, g⟩ E w u := fun w' _ ρ hρ => by
 simp [execOp, hρ x _ hx, Instr.extract, hu]
theorem qt_nilCheck {d : Option Nat} {a : Addr} (hx : ev E x = some (.pointer (some a))) : Qt P ⟨d, .nilCheck x, ty, ps, af, g⟩ E w (.pointer (some a)) := fun w' _ ρ hρ => by
 simp [execOp, hρ x _ hx]
theorem qt_build {args : List (Nat × Operand)} {vs : List Value} {css : List (Array Value)} {cells : Array Value} {d : Option Nat} (hvs : evs E (args.map (·.2)) = some vs) (hcs : CellsOf vs css) (hb : builtC P T ((args.map (·.1)).zip css) = some cells) :
  Qt P ⟨d, .build T args.toArray, ty, ps, af, g⟩ E w (.agg cells) := fun w' _ ρ hρ => by
 have hm := args_of hρ hvs
 have h2 : (args.map fun p => (p.1, ρ p.2)) = (args.map (·.1)).zip vs := by
  rw [← hm, List.map_map]
  clear hvs hb hm hcs
  induction args with
  | nil => rfl
  | cons p l ih => simp only [List.map_cons, List.zip_cons_cons, ih]; rfl
 have hb2 : P.built T ((args.map (·.1)).zip vs) = some cells := by rw [← hb]; exact built_eq hcs _
 have h3 : (Instr.build T (args.map fun p => (p.1, ρ p.2)).toArray).run P w' = .ok (.agg cells) w' := run_build w' T _ cells (by simpa [h2] using hb2)
 simp [execOp, h3]
theorem qt_fieldAddr {d : Option Nat} {S : TypeId} {fs : Array Field} {i : Nat} {fo b o' : Nat} (hT : P.underlying S = some (.struct fs)) (hf : (fs[i]?).map (fun f => (f.type, f.offset)) = some (T, fo)) (hs : (P.info? T).map (fun i => Nat.beq i.size 0) = some false) (hx : ev E x = some (.pointer (some ⟨b, o', none⟩))) :
  Qt P ⟨d, .fieldAddr S x i, ty, ps, af, g⟩ E w (.pointer (some ⟨b, o' + fo, none⟩)) := fun w' _ ρ hρ => by
 obtain ⟨f, hf1, hf2⟩ := Option.map_eq_some_iff.1 hf
 simp only [Prod.mk.injEq] at hf2
 obtain ⟨rfl, rfl⟩ := hf2
 obtain ⟨ti, hi, hz⟩ := Option.map_eq_some_iff.1 hs
 have hz' : ¬ ti.size = 0 := Nat.ne_of_beq_eq_false hz
 simp [execOp, hρ x _ hx, Instr.fieldAt, Instr.sureAddr, run_underlying hT, hf1, fieldPlace, sizeOf, typeInfo, hi, hz', Addr.add_none]
theorem XL_lenH {e : TypeId} (H : Ctx w Γ) (hh : Has Γ t v xs) (hT : P.underlying T = some (.slice e))
  (hw : wantedE ops E ⟨some d, .call ⟨.builtin .len, #[x], #[T]⟩, ty, ps, af, g⟩ = some true) (hx : ev E x = some v) (hn : Nat.blt d n = true)
  (h : XL P ops n md l ((d, i64 xs.length) :: E) w) : XL P ops n md (⟨some d, .call ⟨.builtin .len, #[x], #[T]⟩, ty, ps, af, g⟩ :: l) E w := by
 obtain ⟨p, cap, rfl, _⟩ := H.isLen hh
 exact XL_q hw (qt_len hT hx) rfl hn h
theorem XL_indexH {k : Int} {kk : IntKind} {u : t.den} (H : Ctx w Γ) (hh : Has Γ t v xs) (hg : geti xs k = some u) (hT : P.underlying T = some (.slice e)) (hi : (P.info? e).map (·.size) = some t.size)
  (hw : wantedE ops E ⟨some d, .indexAddr T x y, ty, ps, af, g⟩ = some true) (hx : ev E x = some v) (hy : ev E y = some (.int kk k)) (hn : Nat.blt d n = true)
  (h : ∀ b off cap, v = .slice (some ⟨b, off, none⟩) xs.length cap → XL P ops n md l ((d, .pointer (some ⟨b, off + k.toNat * t.size, none⟩)) :: E) w) : XL P ops n md (⟨some d, .indexAddr T x y, ty, ps, af, g⟩ :: l) E w := by
 obtain ⟨b, off, cap, hv⟩ := H.isAt hh hg
 have h0 := (geti_lt hg).1
 have hlt := (geti_lt hg).2
 obtain ⟨i, hi, hs⟩ := Option.map_eq_some_iff.1 hi
 refine XL_q (v := .pointer (some ⟨b, off + k.toNat * t.size, none⟩)) hw ?_ rfl hn (h b off cap hv)
 intro w' _ ρ hρ
 subst hv
 have hk : k < (xs.length : Int) := by omega
 simp [execOp, hρ x _ hx, hρ y _ hy, Instr.indexAt, asIntOf, run_underlying hT, h0, hk, sizeOf, typeInfo, hi, hs, Addr.add_none]
theorem XL_load_bx {b i : Nat} {Tb : TypeId} {cs : List Value} {c : Value} {ds : TypeDesc} (hT : P.underlying T = some ds) (ho : oneB ds = true) (hB : Bx w b Tb cs) (hc : cs[i]? = some c)
  (hw : wantedE ops E ⟨some d, .load T x, ty, ps, af, g⟩ = some true) (hx : ev E x = some (.pointer (some ⟨b, i, none⟩))) (hn : Nat.blt d n = true)
  (h : XL P ops n md l ((d, c) :: E) w) : XL P ops n md (⟨some d, .load T x, ty, ps, af, g⟩ :: l) E w := by
 refine XL_q (v := c) hw ?_ rfl hn h
 intro w' hb ρ hρ
 have hcell := hB.cell hc
 have hcell' : w'.cell? ⟨b, i, none⟩ = some c := by rw [hb.cell (p := ⟨b, i, none⟩) hB.lt]; exact hcell
 simp [execOp, hρ x _ hx, Instr.loadAt, Instr.sureAddr, loadVar, run_isAgg hT ho, load, Sem.run, hcell']
theorem XL_load_str {ds : TypeDesc} {b o : Nat} {u : List UInt8} {F : List Nat} (hT : P.underlying T = some ds) (ho : oneB ds = true) (hat : AtP w .str b o u F)
  (hw : wantedE ops E ⟨some d, .load T x, ty, ps, af, g⟩ = some true) (hx : ev E x = some (.pointer (some ⟨b, o, none⟩))) (hn : Nat.blt d n = true)
  (h : XL P ops n md l ((d, strV u) :: E) w) : XL P ops n md (⟨some d, .load T x, ty, ps, af, g⟩ :: l) E w :=
 XL_load hT ho rfl hat hw hx hn fun v hv => by obtain ⟨h1, _⟩ := hv; simp only [List.cons.injEq, and_true] at h1; rw [h1]; exact h
theorem setCell_grown {b i : Nat} {c : Value} : Chg [b] w (w.setCell ⟨b, i, none⟩ c) := by
 refine ⟨rfl, rfl, rfl, by simp [World.setCell], fun k hk hm => ?_⟩
 simp only [World.setCell]
 rw [Array.getElem?_modify]
 have : ¬ b = k := fun e => hm (by simp [e])
 rw [if_neg this]
theorem setCell_bx {b i : Nat} {Tb : TypeId} {cs : List Value} {c : Value} (h : Bx w b Tb cs) : Bx (w.setCell ⟨b, i, none⟩ c) b Tb (cs.set i c) := by
 unfold Bx at *
 simp only [World.setCell]
 rw [Array.getElem?_modify, if_pos rfl, h]
 simp
theorem WL_store_bx {b i : Nat} {Tb : TypeId} {cs : List Value} {c c0 : Value} (H : Holds M w0 w (.bx b Tb cs :: Γ) G) (hc : cs[i]? = some c0)
  (hi : (P.info? T).map (·.size) = some 1) (hone : c.cells = #[c]) (hna : c.oneCell' = true)
  (hw : wantedE ops E ⟨none, .store T x y, ty, ps, af, g⟩ = some true) (hx : ev E x = some (.pointer (some ⟨b, i, none⟩))) (hy : ev E y = some c)
  (h : ∀ w', Holds M w0 w' (.bx b Tb (cs.set i c) :: Γ) G → XL P ops n (.seq Q) l E w') :
  XL P ops n (.seq Q) (⟨none, .store T x y, ty, ps, af, g⟩ :: l) E w := by
 obtain ⟨ti, hi, hs⟩ := Option.map_eq_some_iff.1 hi
 have hB := H.bx
 have hcell := hB.cell hc
 have hfz := hB.frozen i
 refine WL_do (w' := w.setCell ⟨b, i, none⟩ c) hw (fun ρ hρ => ?_) rfl (h _ (H.upd fun S L h1 h2 h3 h4 => ⟨[], setCell_grown, ⟨rfl, setCell_bx hB⟩, fun k hk => .inl hk, (fun k hk => by cases hk), (fun k _ hk => by cases hk)⟩))
 have hstore : (store ⟨b, i, none⟩ c).run P w = .ok () (w.setCell ⟨b, i, none⟩ c) := by
  cases c <;> first | (simp [store, Sem.run, hcell, hfz]; done) | cases hna
 simp [execOp, hρ x _ hx, hρ y _ hy, Instr.storeAt, Instr.sureAddr, storeVar, sizeOf, typeInfo, hi, hs, hone, storeCells, Addr.add_none, hstore]
theorem push_below {ob : Obj} : Below w.heap.size w { w with heap := w.heap.push ob } := ⟨rfl, rfl, rfl, by simp, fun k hk => by simp only; rw [Array.getElem?_push, if_neg (by omega)]⟩
theorem Holds.newBx {Tb : TypeId} {cs : List Value} (H : Holds M w0 w Γ G) : Holds M w0 { w with heap := w.heap.push (.cells cs.toArray Tb) } (.bx w.heap.size Tb cs :: Γ) G :=
 H.add fun L h1 h2 h3 => ⟨[], push_below, ⟨rfl, by simp⟩, (fun k hk => by simp [Res.own] at hk; omega), (fun k hk => by cases hk), (fun k _ hk => by cases hk)⟩
theorem WL_box {u : Value} {Tb : TypeId} {cs : List Value} (H : Holds M w0 w Γ G) (hw : wantedE ops E ⟨some d, .box Tb x, ty, ps, af, g⟩ = some true) (hx : ev E x = some u) (hcs : u.cells.toList = cs) (hn : Nat.blt d n = true)
  (h : ∀ b w', Holds M w0 w' (.bx b Tb cs :: Γ) G → XL P ops n (.seq Q) l ((d, .pointer (some ⟨b, 0, none⟩)) :: E) w') :
  XL P ops n (.seq Q) (⟨some d, .box Tb x, ty, ps, af, g⟩ :: l) E w := by
 subst hcs
 refine WL_run (v := .pointer (some ⟨w.heap.size, 0, none⟩)) (w' := { w with heap := w.heap.push (.cells u.cells Tb) }) hw (fun ρ hρ => ?_) rfl hn (h _ _ (by simpa using H.newBx (Tb := Tb) (cs := u.cells.toList)))
 simp [execOp, hρ x _ hx, Instr.box, newVar, newRow, newObj, Sem.run]
theorem WL_alloc {z : Value} {Tb : TypeId} {cs : List Value} (H : Holds M w0 w Γ G) (hz : (P.info? Tb).map (·.zero) = some (some z)) (hcs : z.cells.toList = cs) (hw : wantedE ops E ⟨some d, .alloc Tb, ty, ps, af, g⟩ = some true) (hn : Nat.blt d n = true)
  (h : ∀ b w', Holds M w0 w' (.bx b Tb cs :: Γ) G → XL P ops n (.seq Q) l ((d, .pointer (some ⟨b, 0, none⟩)) :: E) w') :
  XL P ops n (.seq Q) (⟨some d, .alloc Tb, ty, ps, af, g⟩ :: l) E w := by
 subst hcs
 obtain ⟨ti, hi, hz⟩ := Option.map_eq_some_iff.1 hz
 refine WL_run (v := .pointer (some ⟨w.heap.size, 0, none⟩)) (w' := { w with heap := w.heap.push (.cells z.cells Tb) }) hw (fun ρ hρ => ?_) rfl hn (h _ _ (by simpa using H.newBx (Tb := Tb) (cs := z.cells.toList)))
 simp [execOp, Instr.alloc, zeroValue, typeInfo, hi, hz, newVar, newRow, newObj, Sem.run]
end walk
end Go.Proofs.YtkhnponakhabdaaGreatDoor
