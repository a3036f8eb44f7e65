/- Regions that draw their order and do more than read: every order, operation by operation. Closures that read. Structs held against each other. Own work, over any program. -/
import Derived.Test.YtkhnponakhabdaaGreatDoorRmore
import Derived.Laws.StructEq
set_option linter.unusedVariables false
namespace Go.Proofs.YtkhnponakhabdaaGreatDoor
open Go Go.RowKit
variable {P : Program}
section walk
variable {ops : Array Oper} {Q : Exit → Act → World → Prop} {n : Nat} {l : List Oper} {E : Env} {o : Oper} {d : Nat} {ty : TypeId} {ps : String} {af : Array Edge} {g : Option (Nat × Bool)} {x y z : Operand} {T : TypeId}
variable {M : List Nat} {w0 w w' : World} {Γ Γ' G : List Res} {R R' : Res} {t : Ty} {v : Value} {xs ys zs : List t.den} {e : TypeId}
theorem WP_mid {Mid : Act → World → Prop} {c : Code} (h : WP P (Exit.then Mid Q) n c E w) (hy : ∀ a w, Mid a w → Q .normal a w) : WP P Q n c E w := fun a ha =>
 wp_mono (h a ha) (fun e a w h => by cases e <;> first | exact hy a w h | exact h)
variable {Mid : Act → World → Prop} {fuel : Nat} {listed : Array Bool} {i : Nat}
end walk
def DupAll (w : World) (F : List Nat) : List Res → Prop
 | [] => True
 | R :: L => (∃ (t : Ty) (v : Value) (x : List t.den) (F' : List Nat), R = .ro t v x ∧ Rep w (.slice t) [v] x F' ∧ ∀ k ∈ F', k ∈ F) ∧ DupAll w F L
section atn
variable {M : List Nat} {w0 w : World} {Γ G : List Res} {t : Ty} {v : Value} {xs : List t.den}
theorem dupAll_ctx {F : List Nat} : ∀ {Rs : List Res} {L : List (Res × List Nat)}, SitAll w L → ApartL L → (∀ k ∈ F, ∃ f ∈ L, k ∈ f.2) → DupAll w F Rs →
  ∃ L', L'.map (·.1) = Rs ++ L.map (·.1) ∧ SitAll w L' ∧ ApartL L' ∧ ∀ k ∈ F, ∃ f ∈ L', k ∈ f.2
 | [], L, h1, h2, h3, _ => ⟨L, rfl, h1, h2, h3⟩
 | R :: Rs, L, h1, h2, h3, hRs => by
  obtain ⟨⟨t, v, x, F', rfl, hr, hsub⟩, hd⟩ := hRs
  obtain ⟨L', e1, e2, e3, e4⟩ := dupAll_ctx h1 h2 h3 hd
  refine ⟨(.ro t v x, F') :: L', by simp [e1], ⟨hr, e2⟩, .cons (fun g hg => ⟨(fun k hk => by cases hk), (fun k hk => by cases hk), fun k hk hk' => ?_⟩) (fun k hk => by cases hk) e3, fun k hk => ?_⟩
  ·obtain ⟨f, hf, hk2⟩ := e4 k (hsub k hk')
   exact e3.zone hf hg hk2 hk
  ·obtain ⟨f, hf, hk2⟩ := e4 k hk
   exact ⟨f, by simp [hf], hk2⟩
theorem Holds.atN (H : Holds M w0 w Γ G) (h : Has (Γ ++ G) t v xs) {k : Int} {u : t.den} (hg : geti xs k = some u) {b off cap : Nat} (hv : v = .slice (some ⟨b, off, none⟩) xs.length cap) :
  ∃ F, AtP w t b (off + k.toNat * t.size) u F ∧ ∀ Rs : List Res, DupAll w F Rs → Holds M w0 w (Rs ++ Γ) G := by
 obtain ⟨L, h1, h2, h3, B, S, hr, hB, hS⟩ := H.ctx.has h
 obtain ⟨p, cap', h4, h5, h6⟩ := hr
 rw [hv] at h4
 simp only [Value.slice.injEq] at h4
 obtain ⟨rfl, _, rfl⟩ := h4
 have hlt := (geti_lt hg).2
 have h0 := (geti_lt hg).1
 have hz : xs[k.toNat]? = some u := by unfold geti at hg; rw [if_pos h0] at hg; exact hg
 rcases h6 with ⟨rfl, _⟩ | ⟨b', off', bs, hne, hp, rfl, h7, h8⟩
 ·simp at hlt
 ·simp only [Option.some.injEq, Addr.mk.injEq, and_true] at hp
  obtain ⟨rfl, rfl⟩ := hp
  obtain ⟨c, F, hR, hF, hc⟩ := h7.get (fun c x F h => Rep.length h) k.toNat u hz
  refine ⟨F, ⟨c, hR, fun j z hj => by rw [Nat.add_assoc]; exact h8 _ _ (hc j z hj)⟩, fun Rs hd => ?_⟩
  obtain ⟨L', e1, e2, e3, _⟩ := dupAll_ctx h2 h3 (fun k hk => hS k (hF k hk)) hd
  have hno : ∀ R ∈ Rs, R.own = [] := by
   clear e1
   induction Rs with
   | nil => intro R hR; cases hR
   | cons R Rs ih =>
    intro R' hR'
    obtain ⟨⟨t, v, x, F', rfl, _, _⟩, hd2⟩ := hd
    rcases List.mem_cons.1 hR' with rfl | hR'
    ·rfl
    ·exact ih hd2 R' hR'
  refine ⟨H.chg, fun R hR k hk => ?_, L', by rw [e1, h1, List.append_assoc], e2, e3⟩
  rcases List.mem_append.1 hR with hR | hR
  ·rw [hno R hR] at hk; cases hk
  ·exact H.lo R hR k hk
end atn
theorem run_loadVar_bx {T Tb : TypeId} {ds : TypeDesc} {b : Nat} {cs : List Value} {w : World} (hT : P.underlying T = some ds) (ho : oneB ds = false) (hs : (P.info? T).map (·.size) = some cs.length) (hB : Bx w b Tb cs) : (loadVar T ⟨b, 0, none⟩).run P w = .ok (.agg cs.toArray) w := by
 obtain ⟨ti, hi, hs⟩ := Option.map_eq_some_iff.1 hs
 have hload := run_loadCells_list (P := P) w ⟨b, 0, none⟩ cs (fun j z hj => by rw [Addr.add_none, Nat.zero_add]; exact hB.cell hj)
 rw [← hs] at hload
 simp [loadVar, run_isAggT hT ho, sizeOf, typeInfo, hi, hload]
theorem retc {fn : Func} {R : Ending → World → Prop} {n s : Nat} {E : Env} {a : Act} {w : World} {T : TypeId} {b : Nat} {v : Value} (hres : fn.results = #[.cell s T]) (ha : Fr a n E) (hs : lk E s = some (.pointer (some ⟨b, 0, none⟩))) (hl : (loadVar T ⟨b, 0, none⟩).run P w = .ok v w) (hR : R (.returned v) w) : bodyPost P fn R .ret a w :=
 ⟨ha.defers, v, by simp [results, hres, ha.get s _ hs, asAddr, hl], hR⟩
theorem retct {fn : Func} {R : Ending → World → Prop} {n s t : Nat} {E : Env} {a : Act} {w : World} {T : TypeId} {b : Nat} {v u : Value} (hres : fn.results = #[.cell s T, .tmp t]) (ha : Fr a n E) (hs : lk E s = some (.pointer (some ⟨b, 0, none⟩))) (ht : lk E t = some u) (hl : (loadVar T ⟨b, 0, none⟩).run P w = .ok v w) (hR : R (.returned (.tuple #[v, u])) w) : bodyPost P fn R .ret a w :=
 ⟨ha.defers, _, by simp [results, hres, ha.get s _ hs, ha.get t _ ht, asAddr, hl], hR⟩
theorem allOne {c : Value} {l : List Value} (h : c.oneCell' = true) (ht : l.all (·.oneCell') = true) : (c :: l).all (·.oneCell') = true := by rw [List.all_cons, h, ht]; rfl
def CloOk (P : Program) (g : FuncId) (cs : Array Value) (p : Int → Int → Option Int) (G : List Res) : Prop :=
 ∀ w Γ, Ctx w (Γ ++ G) → ∀ x y r, p x y = some r → Calls P g (#[i64 x, i64 y] ++ cs) w (fun e w' => e = .returned (i64 r) ∧ Below w.heap.size w w')
theorem CloOk.app {g : FuncId} {cs : Array Value} {p : Int → Int → Option Int} {G : List Res} (h : CloOk P g cs p G) (X : List Res) : CloOk P g cs p (X ++ G) := fun w Γ H => h w (Γ ++ X) (by rw [List.append_assoc]; exact H)
def HasB (Γ : List Res) (b : Nat) (T : TypeId) (cs : List Value) : Prop := .bx b T cs ∈ Γ
theorem HasB.hd {Γ : List Res} {b : Nat} {T : TypeId} {cs : List Value} : HasB (.bx b T cs :: Γ) b T cs := List.mem_cons_self
theorem HasB.c {Γ : List Res} {R : Res} {b : Nat} {T : TypeId} {cs : List Value} (h : HasB Γ b T cs) : HasB (R :: Γ) b T cs := List.mem_cons_of_mem _ h
theorem HasB.app {Γ : List Res} {b : Nat} {T : TypeId} {cs : List Value} (h : HasB Γ b T cs) (X : List Res) : HasB (X ++ Γ) b T cs := List.mem_append_right _ h
theorem HasB.bx {w : World} {Γ : List Res} {b : Nat} {T : TypeId} {cs : List Value} (h : HasB Γ b T cs) (H : Ctx w Γ) : Bx w b T cs := by
 obtain ⟨L, rfl, h2, _⟩ := H
 obtain ⟨f, hf, he⟩ := List.mem_map.1 h
 have key : ∀ L : List (Res × List Nat), SitAll w L → ∀ f ∈ L, Sit w f.1 f.2 := by
  intro L
  induction L with
  | nil => intro _ f hf; cases hf
  | cons g L ih =>
   intro h f hf
   rcases List.mem_cons.1 hf with rfl | hf
   ·exact h.1
   ·exact ih h.2 f hf
 have := key L h2 f hf
 rw [he] at this
 exact this.2
theorem Has.app {Γ : List Res} {t : Ty} {v : Value} {xs : List t.den} (h : Has Γ t v xs) : ∀ X : List Res, Has (X ++ Γ) t v xs
 | [] => h
 | R :: X => (h.app X).c
section eqs
variable {E : Env} {d : Option Nat} {ty : TypeId} {ps : String} {af : Array Edge} {g : Option (Nat × Bool)} {x y : Operand} {T U : TypeId} {w : World}
theorem qt_neqA {xs ys : Array Value} {b : Bool} (hx : ev E x = some (.agg xs)) (hy : ev E y = some (.agg ys)) (hg : P.eqGuardType P.depth T = false) (h : ∀ w, (Op.equalIn 10000 T (.agg xs) (.agg ys)).run P w = .ok b w) :
  Qt P ⟨d, .binOp .neq T x y U, ty, ps, af, g⟩ E w (.bool (!b)) := fun w' _ ρ hρ => by
 simp [execOp, hρ x _ hx, hρ y _ hy, run_eqGuard_agg w' .neq T x y xs ys hg, run_neq_struct, h]
def keysI (T : TypeId) : Nat → Nat → List (Bool × TypeId × Nat)
 | _, 0 => []
 | o, n + 1 => (false, T, o) :: keysI T (o + 1) n
theorem run_eqFields_int {d : Nat} (hT : P.underlying T = some (.int .i64)) (xs ys : Array Value) : ∀ (as bs : List Int) (fs : List Field) (o : Nat) (w : World), as.length = bs.length → fs.map (fun f => (f.name == "_", f.type, f.offset)) = keysI T o as.length →
  (∀ i a, as[i]? = some a → xs[o + i]? = some (i64 a)) → (∀ i b, bs[i]? = some b → ys[o + i]? = some (i64 b)) → (Op.eqFields (d + 1) xs ys fs).run P w = .ok (decide (as = bs)) w
 | [], [], fs, o, w, _, hk, _, _ => by
  have : fs = [] := by simpa [keysI] using hk
  subst this
  simp [Op.eqFields]
 | [], b :: bs, _, _, _, hl, _, _, _ => by simp at hl
 | a :: as, [], _, _, _, hl, _, _, _ => by simp at hl
 | a :: as, b :: bs, fs, o, w, hl, hk, hx, hy => by
  cases fs with
  | nil => simp [keysI] at hk
  | cons f fs =>
   simp only [List.map_cons, List.length_cons, keysI, List.cons.injEq, Prod.mk.injEq] at hk
   obtain ⟨⟨h1, h2, h3⟩, hk⟩ := hk
   have hne : f.name ≠ "_" := by simpa using h1
   have hx0 := hx 0 a rfl
   have hy0 := hy 0 b rfl
   have ih := run_eqFields_int (d := d) hT xs ys as bs fs (o + 1) w (by simpa using hl) hk (fun i c hc => by rw [show o + 1 + i = o + (i + 1) by omega]; exact hx (i + 1) c (by simpa using hc)) (fun i c hc => by rw [show o + 1 + i = o + (i + 1) by omega]; exact hy (i + 1) c (by simpa using hc))
   simp only [Op.eqFields, hne, ne_eq, not_false_eq_true, if_true, h2, h3]
   simp only [Nat.add_zero] at hx0 hy0
   have hag : ∀ w, (isAgg T).run P w = .ok false w := fun w => run_isAgg hT rfl w
   by_cases hab : a = b
   ·subst hab
    simp [part, hag, hx0, hy0, Op.equalIn, run_underlying hT, ih]
   ·simp [part, hag, hx0, hy0, Op.equalIn, run_underlying hT, hab]
end eqs
end Go.Proofs.YtkhnponakhabdaaGreatDoor
