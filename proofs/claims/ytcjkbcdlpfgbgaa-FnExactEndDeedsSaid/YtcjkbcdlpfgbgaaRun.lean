/- The laws of the operations that leave the world alone. Own work, over any program. -/
import Derived.Test.YtcjkbcdlpfgbgaaOps
import Derived.StillTail
set_option linter.unusedVariables false
namespace Go.Proofs.Ytcjkbcdlpfgbgaa
open Go Go.RowKit
variable {P : Program}

theorem Rep.below {w w' : World} {t : Ty} {cs : List Value} {x : t.den} {F : List Nat} (h : Rep w t cs x F) (hb : Below w.heap.size w w') : Rep w' t cs x F :=
  h.keep fun k hk => hb.block k (h.lt k hk)
def Sat (ρ : Operand → Value) (E : Env) : Prop := ∀ x u, ev E x = some u → ρ x = u
/-- in every world that has grown out of w, from every frame that holds E, the operation yields v and does nothing else -/
def Qt (P : Program) (o : Oper) (E : Env) (w : World) (v : Value) : Prop := ∀ w', Below w.heap.size w w' → ∀ ρ, Sat ρ E → (execOp ρ o).run P w' = .ok (.value v) w'
def wantedE (ops : Array Oper) (E : Env) (o : Oper) : Option Bool :=
  match o.guard with
  | none => some true
  | some (j, b) => match ops[j]? with
    | none => none
    | some oj => match oj.dst with
      | none => none
      | some t => match lk E t with
        | some (.bool c) => some (bif c then b else bif b then false else true)
        | some _ => some false
        | none => none
theorem w_take {ops : Array Oper} {E : Env} {o : Oper} {c b : Bool} (h : wantedE ops E o = some (bif c then b else bif b then false else true)) (hc : c = b) : wantedE ops E o = some true := by rw [h, hc]; cases b <;> rfl
theorem w_skip {ops : Array Oper} {E : Env} {o : Oper} {c b : Bool} (h : wantedE ops E o = some (bif c then b else bif b then false else true)) (hc : c = !b) : wantedE ops E o = some false := by rw [h, hc]; cases b <;> rfl
theorem wanted_of {ops : Array Oper} {E : Env} {o : Oper} {a : Act} {n : Nat} {r : Bool} (ha : Fr a n E) (h : wantedE ops E o = some r) : Region.wanted o (yielded ops a.tmps) = r := by
  unfold wantedE at h
  unfold Region.wanted
  split at h
  · rename_i hg; rw [hg]; simpa using h
  · rename_i j b hg
    rw [hg]
    simp only
    split at h
    · cases h
    · rename_i oj hj
      split at h
      · cases h
      · rename_i t ht
        split at h
        · rename_i c hc
          have := ha.get t _ hc
          simp only [yielded, hj, Option.bind_some, ht, this]
          simp only [Option.some.injEq] at h
          rw [← h]
          cases c <;> cases b <;> rfl
        · rename_i v hv hne
          have := ha.get t _ hne
          simp only [yielded, hj, Option.bind_some, ht, this]
          simp only [Option.some.injEq] at h
          rw [← h]
          cases v <;> first | rfl | exact absurd rfl (hv _)
        · cases h
def evs (E : Env) : List Operand → Option (List Value)
  | [] => some []
  | x :: l => match ev E x with
    | none => none
    | some v => match evs E l with
      | none => none
      | some vs => some (v :: vs)
def Callable (P : Program) (f : FuncId) : Prop := ∃ fn, P.funcs[f]? = some fn ∧ fn.body.isNone = false ∧ (fn.name == "runtime.NumGoroutine") = false
theorem args_of {E : Env} {ρ : Operand → Value} (hρ : Sat ρ E) : ∀ {args : List Operand} {vs : List Value}, evs E args = some vs → args.map ρ = vs
  | [], vs, h => by simpa [evs] using h
  | x :: args, vs, h => by
    simp only [evs] at h
    split at h
    · cases h
    · rename_i v hx
      split at h
      · cases h
      · rename_i vs' ha
        simp only [Option.some.injEq] at h
        rw [← h, List.map_cons, hρ x v hx, args_of hρ ha]
theorem run_call {E : Env} {d : Option Nat} {f : FuncId} {args : List Operand} {vs : List Value} {tys : Array TypeId} {ty : TypeId} {ps : String} {af : Array Edge} {g : Option (Nat × Bool)} {fn : Func}
    (hf : P.funcs[f]? = some fn) (hbody : fn.body.isNone = false) (hname : (fn.name == "runtime.NumGoroutine") = false) (hvs : evs E args = some vs) (ρ : Operand → Value) (hρ : Sat ρ E) (w : World) :
    (execOp ρ ⟨d, .call ⟨.value (.func f), args.toArray, tys⟩, ty, ps, af, g⟩).run P w = .ok (.enter f vs.toArray) w := by
  have hfun : ρ (.func f) = .func (.func f) #[] #[] := hρ _ _ rfl
  have h1 : ¬ fn.name = "runtime.NumGoroutine" := by simpa using hname
  have h2 : ¬ fn.body = none := by intro h; rw [h] at hbody; simp at hbody
  simp [execOp, resolve, Deferred.ofValue, hfun, invoke, callFunc, hf, h1, h2, args_of hρ hvs]
/-- two ways to walk a region: operation by operation, the world at hand; or quietly, in whatever order, for every world that has grown out of w -/
inductive Md where
  | seq (Q : Exit → Act → World → Prop)
  | quiet (Q : Act → Prop)
  | still (Q : Act → Prop)
def Md.kind : Md → Nat
  | .seq _ => 0
  | .quiet _ => 1
  | .still _ => 2
theorem Md.quiet_of {md : Md} (h : md.kind = 1) : ∃ K, md = .quiet K := by cases md <;> first | exact ⟨_, rfl⟩ | cases h
theorem Md.seq_of {md : Md} (h : md.kind = 0) : ∃ Q, md = .seq Q := by cases md <;> first | exact ⟨_, rfl⟩ | cases h
def XL (P : Program) (ops : Array Oper) (n : Nat) (md : Md) (l : List Oper) (E : Env) (w : World) : Prop :=
  match md with
  | .seq Q => ∀ a, Fr a n E → wpList P ops Q l a w
  | .quiet Q => ∀ a, Fr a n E → wpQuiet P ops (fun w' => Below w.heap.size w w') Q l a
  | .still Q => ∀ a, Fr a n E → wpStill P ops w Q l a
section walk
variable {ops : Array Oper} {Q : Exit → Act → World → Prop} {K : Act → Prop} {n : Nat} {md : Md} {l : List Oper} {E : Env} {w : World} {o : Oper}
theorem XL_q {d : Nat} {v : Value} (hw : wantedE ops E o = some true) (hq : Qt P o E w v) (hd : o.dst = some d) (hn : Nat.blt d n = true) (h : XL P ops n md l ((d, v) :: E) w) : XL P ops n md (o :: l) E w := by
  cases md with
  | seq Q =>
    intro a ha
    unfold wpList
    rw [if_pos (wanted_of ha hw)]
    refine .inl ?_
    unfold Oper.wp
    rw [hq w (Below.refl _ _) a.eval (fun x u hx => ha.eval hx)]
    show wpList P ops Q l (a.put o.dst v) w
    rw [hd]
    exact h _ (ha.put hn v)
  | quiet K =>
    intro a ha
    unfold wpQuiet
    rw [if_pos (wanted_of ha hw)]
    refine ⟨v, fun w' hw' => ?_, by rw [hd]; exact h _ (ha.put hn v)⟩
    unfold Oper.quietAt
    rw [hq w' hw' a.eval (fun x u hx => ha.eval hx)]
    exact ⟨rfl, rfl⟩
  | still K =>
    intro a ha
    unfold wpStill
    rw [if_pos (wanted_of ha hw)]
    unfold Oper.still
    rw [hq w (Below.refl _ _) a.eval (fun x u hx => ha.eval hx)]
    exact ⟨rfl, by rw [hd]; exact h _ (ha.put hn v)⟩
theorem vi {k : IntKind} {a b : Int} (h : some a = some b) : Value.int k a = Value.int k b := by rw [Option.some.inj h]
theorem XL_qe {d : Nat} {v u : Value} (hw : wantedE ops E o = some true) (hq : Qt P o E w v) (hv : v = u) (hd : o.dst = some d) (hn : Nat.blt d n = true) (h : XL P ops n md l ((d, u) :: E) w) : XL P ops n md (o :: l) E w := XL_q hw hq hd hn (hv ▸ h)
theorem XL_skip {d : Nat} (hw : wantedE ops E o = some false) (hd : o.dst = some d) (hn : Nat.blt d n = true) (h : XL P ops n md l ((d, undef) :: E) w) : XL P ops n md (o :: l) E w := by
  cases md with
  | seq Q =>
    intro a ha
    unfold wpList
    rw [if_neg (by rw [wanted_of ha hw]; simp), hd]
    exact h _ (ha.put hn undef)
  | quiet K =>
    intro a ha
    unfold wpQuiet
    rw [if_neg (by rw [wanted_of ha hw]; simp), hd]
    exact h _ (ha.put hn undef)
  | still K =>
    intro a ha
    unfold wpStill
    rw [if_neg (by rw [wanted_of ha hw]; simp), hd]
    exact h _ (ha.put hn undef)
theorem XL.sub {E' : Env} (h : XL P ops n md l E' w) (hc : covers E E') : XL P ops n md l E w := by
  cases md with
  | seq Q => exact fun a ha => h a (ha.sub hc)
  | quiet K => exact fun a ha => h a (ha.sub hc)
  | still K => exact fun a ha => h a (ha.sub hc)
theorem SL_nil {Q : Exit → Act → World → Prop} {l2 : List Oper} (h : XL P ops n (.seq Q) l2 E w) : XL P ops n (.still (fun a => wpList P ops Q l2 a w)) [] E w := fun a ha => h a ha
theorem WL_nil (h : ∀ a, Fr a n E → Q .normal a w) : XL P ops n (.seq Q) [] E w := fun a ha => h a ha
theorem WL_nil_seq {y : Code} (h : WP P Q n y E w) : XL P ops n (.seq (Exit.then (y.wp P Q) Q)) [] E w := fun a ha => h a ha
theorem QL_nil (h : ∀ a, Fr a n E → K a) : XL P ops n (.quiet K) [] E w := fun a ha => h a ha
theorem QL_nil_seq {y : Code} (h : ∀ w', Below w.heap.size w w' → WP P Q n y E w') : XL P ops n (.quiet (fun a => ∀ w', Below w.heap.size w w' → Exit.then (y.wp P Q) Q .normal a w')) [] E w := fun a ha w' hw' => h w' hw' a ha
/-- up to operation k first, with what holds there -/
theorem XL_cut (k : Nat) (E' : Env) (h2 : XL P ops n md (l.drop k) E' w) (h1 : ∀ md', md'.kind = md.kind → (∀ E'', Cov E'' E' → XL P ops n md' [] E'' w) → XL P ops n md' (l.take k) E w) : XL P ops n md l E w := by
  have hl : l = l.take k ++ l.drop k := (List.take_append_drop k l).symm
  cases md with
  | seq Q =>
    intro a ha
    have := h1 (.seq (fun e a w' => match e with | .normal => w' = w ∧ Fr a n E' | e => Q e a w')) rfl (fun E'' hc a ha => ⟨rfl, ha.sub' hc⟩) a ha
    rw [hl]
    have key : ∀ (l1 : List Oper) (a : Act) (w1 : World), wpList P ops (fun e a w' => match e with | .normal => w' = w ∧ Fr a n E' | e => Q e a w') l1 a w1 → wpList P ops Q (l1 ++ l.drop k) a w1 := by
      intro l1
      induction l1 with
      | nil => intro a w1 h; obtain ⟨rfl, h⟩ := h; exact h2 a h
      | cons o l1 ih =>
        intro a w1 h
        simp only [List.cons_append]
        unfold wpList at h ⊢
        split
        · rename_i hw
          rw [if_pos hw] at h
          rcases h with h | h
          · refine .inl ?_
            unfold Oper.wp at h ⊢
            generalize (execOp a.eval o).run P w1 = r at h
            cases r with
            | ok x w2 =>
              cases x <;> first
                | exact ih _ _ h
                | exact Calls.mono h (fun e w'' he => by cases e <;> first | exact ih _ _ he | exact he)
                | exact Rows.mono h (fun _ _ he => ih _ _ he)
                | exact h
            | halt x w2 => cases x <;> exact h
          · exact .inr h
        · rename_i hw
          rw [if_neg hw] at h
          exact ih _ _ h
    exact key _ a w this
  | quiet K =>
    intro a ha
    have := h1 (.quiet (fun a => Fr a n E')) rfl (fun E'' hc a ha => ha.sub' hc) a ha
    rw [hl]
    have key : ∀ (l1 : List Oper) (a : Act), wpQuiet P ops (fun w' => Below w.heap.size w w') (fun a => Fr a n E') l1 a → wpQuiet P ops (fun w' => Below w.heap.size w w') K (l1 ++ l.drop k) a := by
      intro l1
      induction l1 with
      | nil => intro a h; exact h2 a h
      | cons o l1 ih =>
        intro a h
        simp only [List.cons_append]
        unfold wpQuiet at h ⊢
        split
        · rename_i hw
          rw [if_pos hw] at h
          obtain ⟨v, h3, h4⟩ := h
          exact ⟨v, h3, ih _ h4⟩
        · rename_i hw
          rw [if_neg hw] at h
          exact ih _ h
    exact key _ a this
  | still K =>
    intro a ha
    have := h1 (.still (fun a => Fr a n E')) rfl (fun E'' hc a ha => ha.sub' hc) a ha
    rw [hl]
    have key : ∀ (l1 : List Oper) (a : Act), wpStill P ops w (fun a => Fr a n E') l1 a → wpStill P ops w K (l1 ++ l.drop k) a := by
      intro l1
      induction l1 with
      | nil => intro a h; exact h2 a h
      | cons o l1 ih =>
        intro a h
        simp only [List.cons_append]
        unfold wpStill at h ⊢
        split
        · rename_i hw
          rw [if_pos hw] at h
          unfold Oper.still at h ⊢
          generalize (execOp a.eval o).run P w = r at h
          cases r with
          | ok x w2 =>
            cases x <;> first
              | exact ⟨h.1, ih _ h.2⟩
              | (obtain ⟨e1, v, h3, h4⟩ := h; exact ⟨e1, v, h3, ih _ h4⟩)
              | exact h
          | halt x w2 => exact h
        · rename_i hw
          rw [if_neg hw] at h
          exact ih _ h
    exact key _ a this
theorem XL_join (k d : Nat) (v : Value) (h2 : XL P ops n md (l.drop k) ((d, v) :: E) w) (h1 : ∀ md', md'.kind = md.kind → (∀ E'', Cov E'' ((d, v) :: E) → XL P ops n md' [] E'' w) → XL P ops n md' (l.take k) E w) : XL P ops n md l E w :=
  XL_cut k ((d, v) :: E) h2 h1
/-- a call by its contract -/
theorem WL_call {d : Nat} {f : FuncId} {args : List Operand} {vs : List Value} {tys : Array TypeId} {ty : TypeId} {ps : String} {af : Array Edge} {g : Option (Nat × Bool)} {R : Ending → World → Prop}
    (hw : wantedE ops E ⟨some d, .call ⟨.value (.func f), args.toArray, tys⟩, ty, ps, af, g⟩ = some true) (hvs : evs E args = some vs)
    (hf : Callable P f) (hc : Calls P f vs.toArray w R) (hn : Nat.blt d n = true) (h : ∀ e w', R e w' → ∃ v, e = .returned v ∧ XL P ops n (.seq Q) l ((d, v) :: E) w') :
    XL P ops n (.seq Q) (⟨some d, .call ⟨.value (.func f), args.toArray, tys⟩, ty, ps, af, g⟩ :: l) E w := by
  obtain ⟨fn, hfn, hbody, hname⟩ := hf
  intro a ha
  unfold wpList
  rw [if_pos (wanted_of ha hw)]
  refine .inl ?_
  unfold Oper.wp
  rw [run_call hfn hbody hname hvs a.eval (fun x u hx => ha.eval hx) w]
  refine hc.mono fun e w' hR => ?_
  obtain ⟨v, rfl, hk⟩ := h e w' hR
  exact hk _ (ha.put hn v)
theorem QL_call {d : Nat} {f : FuncId} {args : List Operand} {vs : List Value} {tys : Array TypeId} {ty : TypeId} {ps : String} {af : Array Edge} {g : Option (Nat × Bool)} {v : Value}
    (hw : wantedE ops E ⟨some d, .call ⟨.value (.func f), args.toArray, tys⟩, ty, ps, af, g⟩ = some true) (hvs : evs E args = some vs)
    (hf : Callable P f) (hc : ∀ w', Below w.heap.size w w' → Calls P f vs.toArray w' (fun e w'' => e = .returned v ∧ Below w'.heap.size w' w'')) (hn : Nat.blt d n = true) (h : XL P ops n (.quiet K) l ((d, v) :: E) w) :
    XL P ops n (.quiet K) (⟨some d, .call ⟨.value (.func f), args.toArray, tys⟩, ty, ps, af, g⟩ :: l) E w := by
  obtain ⟨fn, hfn, hbody, hname⟩ := hf
  intro a ha
  unfold wpQuiet
  rw [if_pos (wanted_of ha hw)]
  refine ⟨v, fun w' hw' => ?_, h _ (ha.put hn v)⟩
  unfold Oper.quietAt
  rw [run_call hfn hbody hname hvs a.eval (fun x u hx => ha.eval hx) w']
  exact ⟨rfl, (hc w' hw').mono fun e w'' ⟨he, hb⟩ => ⟨he, hw'.trans (hb.mono hw'.size)⟩⟩
end walk
theorem WP_region {Q : Exit → Act → World → Prop} {n id : Nat} {l : List Oper} {E : Env} {w : World} (h : XL P l.toArray n (.seq Q) l E w) : WP P Q n (.region id l.toArray false) E w := fun a ha => wp_region_lit (h a ha)
theorem WP_quiet {Q : Exit → Act → World → Prop} {n id : Nat} {l : List Oper} {E : Env} {w : World} (hm : P.follows .mixedOrders = true) (hB : Region.lexB .any l.toArray = true)
    (h : XL P l.toArray n (.quiet (fun a => ∀ w', Below w.heap.size w w' → Q .normal a w')) l E w) : WP P Q n (.region id l.toArray true) E w := fun a ha =>
  wp_region_quiet (C := fun w' => Below w.heap.size w w') hm hB ⟨rfl, rfl, rfl, Nat.le_refl _, fun _ _ => rfl⟩ (by simpa using h a ha)
theorem wpList_of_quiet {ops : Array Oper} {C : World → Prop} {K : Act → Prop} {Q : Exit → Act → World → Prop} (hK : ∀ a w, C w → K a → Q .normal a w) : ∀ (l : List Oper) (a : Act) (w : World), C w → wpQuiet P ops C K l a → wpList P ops Q l a w
  | [], a, w, hw, h => hK a w hw h
  | o :: l, a, w, hw, h => by
    unfold wpQuiet at h
    unfold wpList
    split
    · rename_i hx
      rw [if_pos hx] at h
      exact .inl (Oper.wp_of_quiet hw (fun a' w' hw' h' => wpList_of_quiet hK l a' w' hw' h') h)
    · rename_i hx
      rw [if_neg hx] at h
      exact wpList_of_quiet hK l _ w hw h
/-- the quiet walk of a region that draws nothing -/
theorem WP_still {Q : Exit → Act → World → Prop} {n id : Nat} {l : List Oper} {E : Env} {w : World}
    (h : XL P l.toArray n (.quiet (fun a => ∀ w', Below w.heap.size w w' → Q .normal a w')) l E w) : WP P Q n (.region id l.toArray false) E w := fun a ha =>
  wp_region_lit (wpList_of_quiet (C := fun w' => Below w.heap.size w w') (fun a w' hw' h => h w' hw') l a w (Below.refl _ _) (h a ha))

/-- reads first, in whatever order, then operation k and those behind it, one by one -/
theorem WP_tail {Q : Exit → Act → World → Prop} {n id : Nat} {l : List Oper} {E : Env} {w : World} (k : Nat) (hm : P.follows .mixedOrders = true) (hB : Region.lexTailB .any l.toArray k = true)
    (h : ∀ w', Below w.heap.size w w' → XL P l.toArray n (.still (fun a => wpList P l.toArray Q (l.drop k) a w')) (l.take k) E w') : WP P Q n (.region id l.toArray true) E w := fun a ha =>
  wp_region_still_tail k hm hB (h { w with drawn := w.drawn + 1 } ⟨rfl, rfl, rfl, Nat.le_refl _, fun _ _ => rfl⟩ a ha)

/-! ### The operations -/
section ops
variable {E : Env} {w : World} {d : Option Nat} {ty : TypeId} {ps : String} {af : Array Edge} {g : Option (Nat × Bool)} {x y z : Operand} {T U : TypeId}
theorem qt_move {v : Value} (hx : ev E x = some v) : Qt P ⟨d, .move x, ty, ps, af, g⟩ E w v := fun w' _ ρ hρ => by simp [execOp, hρ x v hx]
theorem qt_assign {v : Value} (hx : ev E x = some v) : Qt P ⟨d, .assign x, ty, ps, af, g⟩ E w v := fun w' _ ρ hρ => by simp [execOp, hρ x v hx]
theorem qt_pick_t {v : Value} (hc : ev E x = some (.bool true)) (hx : ev E y = some v) : Qt P ⟨d, .pick x y z, ty, ps, af, g⟩ E w v := fun w' _ ρ hρ => by simp [execOp, hρ x _ hc, hρ y _ hx, asBool]
theorem qt_pick_f {v : Value} (hc : ev E x = some (.bool false)) (hx : ev E z = some v) : Qt P ⟨d, .pick x y z, ty, ps, af, g⟩ E w v := fun w' _ ρ hρ => by simp [execOp, hρ x _ hc, hρ z _ hx, asBool]
theorem qt_pickT {v : Value} {c : Bool} (hc : ev E x = some (.bool c)) (h : c = true) (hx : ev E y = some v) : Qt P ⟨d, .pick x y z, ty, ps, af, g⟩ E w v := qt_pick_t (by rw [hc, h]) hx
theorem qt_pickF {v : Value} {c : Bool} (hc : ev E x = some (.bool c)) (h : c = false) (hx : ev E z = some v) : Qt P ⟨d, .pick x y z, ty, ps, af, g⟩ E w v := qt_pick_f (by rw [hc, h]) hx
variable {k : IntKind} {m n : Int}
theorem qt_add (hx : ev E x = some (.int k m)) (hy : ev E y = some (.int k n)) : Qt P ⟨d, .binOp .add T x y U, ty, ps, af, g⟩ E w (.int k (k.wrap (m + n))) := fun w' _ ρ hρ => by
  simp [execOp, hρ x _ hx, hρ y _ hy, eqGuard, binOp, Op.intArith]
theorem qt_sub (hx : ev E x = some (.int k m)) (hy : ev E y = some (.int k n)) : Qt P ⟨d, .binOp .sub T x y U, ty, ps, af, g⟩ E w (.int k (k.wrap (m - n))) := fun w' _ ρ hρ => by
  simp [execOp, hρ x _ hx, hρ y _ hy, eqGuard, binOp, Op.intArith]
theorem qt_mul (hx : ev E x = some (.int k m)) (hy : ev E y = some (.int k n)) : Qt P ⟨d, .binOp .mul T x y U, ty, ps, af, g⟩ E w (.int k (k.wrap (m * n))) := fun w' _ ρ hρ => by
  simp [execOp, hρ x _ hx, hρ y _ hy, eqGuard, binOp, Op.intArith]
theorem qt_quo (hx : ev E x = some (.int k m)) (hy : ev E y = some (.int k n)) (hn : (n == 0) = false) : Qt P ⟨d, .binOp .quo T x y U, ty, ps, af, g⟩ E w (.int k (k.wrap (m.tdiv n))) := fun w' _ ρ hρ => by
  have : ¬ n = 0 := by simpa using hn
  simp [execOp, hρ x _ hx, hρ y _ hy, eqGuard, binOp, Op.intDiv, this]
theorem qt_rem (hx : ev E x = some (.int k m)) (hy : ev E y = some (.int k n)) (hn : (n == 0) = false) : Qt P ⟨d, .binOp .rem T x y U, ty, ps, af, g⟩ E w (.int k (m.tmod n)) := fun w' _ ρ hρ => by
  have : ¬ n = 0 := by simpa using hn
  simp [execOp, hρ x _ hx, hρ y _ hy, eqGuard, binOp, Op.intDiv, this]
def iand (k : IntKind) (m n : Int) : Int := k.wrap (BitVec.ofInt k.bits m &&& BitVec.ofInt k.bits n).toNat
def ior (k : IntKind) (m n : Int) : Int := k.wrap (BitVec.ofInt k.bits m ||| BitVec.ofInt k.bits n).toNat
def ixor (k : IntKind) (m n : Int) : Int := k.wrap (BitVec.ofInt k.bits m ^^^ BitVec.ofInt k.bits n).toNat
def iandNot (k : IntKind) (m n : Int) : Int := k.wrap (BitVec.ofInt k.bits m &&& ~~~ BitVec.ofInt k.bits n).toNat
theorem qt_and (hx : ev E x = some (.int k m)) (hy : ev E y = some (.int k n)) : Qt P ⟨d, .binOp .and T x y U, ty, ps, af, g⟩ E w (.int k (iand k m n)) := fun w' _ ρ hρ => by
  simp [execOp, hρ x _ hx, hρ y _ hy, eqGuard, binOp, Op.intBits, iand]
theorem qt_or (hx : ev E x = some (.int k m)) (hy : ev E y = some (.int k n)) : Qt P ⟨d, .binOp .or T x y U, ty, ps, af, g⟩ E w (.int k (ior k m n)) := fun w' _ ρ hρ => by
  simp [execOp, hρ x _ hx, hρ y _ hy, eqGuard, binOp, Op.intBits, ior]
theorem qt_xor (hx : ev E x = some (.int k m)) (hy : ev E y = some (.int k n)) : Qt P ⟨d, .binOp .xor T x y U, ty, ps, af, g⟩ E w (.int k (ixor k m n)) := fun w' _ ρ hρ => by
  simp [execOp, hρ x _ hx, hρ y _ hy, eqGuard, binOp, Op.intBits, ixor]
theorem qt_andNot (hx : ev E x = some (.int k m)) (hy : ev E y = some (.int k n)) : Qt P ⟨d, .binOp .andNot T x y U, ty, ps, af, g⟩ E w (.int k (iandNot k m n)) := fun w' _ ρ hρ => by
  simp [execOp, hρ x _ hx, hρ y _ hy, eqGuard, binOp, Op.intBits, iandNot]
def ishl (k : IntKind) (m n : Int) : Int := k.wrap (m * 2 ^ min n.toNat k.bits)
def ishr (k : IntKind) (m n : Int) : Int := m.fdiv (2 ^ min n.toNat k.bits)
def iquoO (k : IntKind) (m n : Int) : Option Int := if n == 0 then none else some (k.wrap (m.tdiv n))
def iremO (_k : IntKind) (m n : Int) : Option Int := if n == 0 then none else some (m.tmod n)
def ishlO (k : IntKind) (m n : Int) : Option Int := if decide (n < 0) then none else some (ishl k m n)
def ishrO (k : IntKind) (m n : Int) : Option Int := if decide (n < 0) then none else some (ishr k m n)
variable {k' : IntKind}
theorem qt_shl (hx : ev E x = some (.int k m)) (hy : ev E y = some (.int k' n)) (hn : decide (n < 0) = false) : Qt P ⟨d, .binOp .shl T x y U, ty, ps, af, g⟩ E w (.int k (ishl k m n)) := fun w' _ ρ hρ => by
  have : ¬ n < 0 := by simpa using hn
  simp [execOp, hρ x _ hx, hρ y _ hy, eqGuard, binOp, Op.shift, this, ishl]
theorem qt_shr (hx : ev E x = some (.int k m)) (hy : ev E y = some (.int k' n)) (hn : decide (n < 0) = false) : Qt P ⟨d, .binOp .shr T x y U, ty, ps, af, g⟩ E w (.int k (ishr k m n)) := fun w' _ ρ hρ => by
  have : ¬ n < 0 := by simpa using hn
  simp [execOp, hρ x _ hx, hρ y _ hy, eqGuard, binOp, Op.shift, this, ishr]
theorem opt_if {b : Bool} {α : Type} {x u : α} (h : (if b then none else some x) = some u) : b = false ∧ x = u := by cases b <;> simp_all
theorem qt_quoO {u : Int} (hx : ev E x = some (.int k m)) (hy : ev E y = some (.int k n)) (hu : iquoO k m n = some u) : Qt P ⟨d, .binOp .quo T x y U, ty, ps, af, g⟩ E w (.int k u) := by obtain ⟨h1, rfl⟩ := opt_if hu; exact qt_quo hx hy h1
theorem qt_remO {u : Int} (hx : ev E x = some (.int k m)) (hy : ev E y = some (.int k n)) (hu : iremO k m n = some u) : Qt P ⟨d, .binOp .rem T x y U, ty, ps, af, g⟩ E w (.int k u) := by obtain ⟨h1, rfl⟩ := opt_if hu; exact qt_rem hx hy h1
theorem qt_shlO {u : Int} (hx : ev E x = some (.int k m)) (hy : ev E y = some (.int k' n)) (hu : ishlO k m n = some u) : Qt P ⟨d, .binOp .shl T x y U, ty, ps, af, g⟩ E w (.int k u) := by obtain ⟨h1, rfl⟩ := opt_if hu; exact qt_shl hx hy h1
theorem qt_shrO {u : Int} (hx : ev E x = some (.int k m)) (hy : ev E y = some (.int k' n)) (hu : ishrO k m n = some u) : Qt P ⟨d, .binOp .shr T x y U, ty, ps, af, g⟩ E w (.int k u) := by obtain ⟨h1, rfl⟩ := opt_if hu; exact qt_shr hx hy h1
theorem qt_eql (hx : ev E x = some (.int k m)) (hy : ev E y = some (.int k n)) : Qt P ⟨d, .binOp .eql T x y U, ty, ps, af, g⟩ E w (.bool (m == n)) := fun w' _ ρ hρ => by
  simp [execOp, hρ x _ hx, hρ y _ hy, eqGuard, binOp, Op.intCmp]
theorem qt_neq (hx : ev E x = some (.int k m)) (hy : ev E y = some (.int k n)) : Qt P ⟨d, .binOp .neq T x y U, ty, ps, af, g⟩ E w (.bool (m != n)) := fun w' _ ρ hρ => by
  simp [execOp, hρ x _ hx, hρ y _ hy, eqGuard, binOp, Op.intCmp]
theorem qt_lss (hx : ev E x = some (.int k m)) (hy : ev E y = some (.int k n)) : Qt P ⟨d, .binOp .lss T x y U, ty, ps, af, g⟩ E w (.bool (decide (m < n))) := fun w' _ ρ hρ => by
  simp [execOp, hρ x _ hx, hρ y _ hy, eqGuard, binOp, Op.intCmp]
theorem qt_leq (hx : ev E x = some (.int k m)) (hy : ev E y = some (.int k n)) : Qt P ⟨d, .binOp .leq T x y U, ty, ps, af, g⟩ E w (.bool (decide (m ≤ n))) := fun w' _ ρ hρ => by
  simp [execOp, hρ x _ hx, hρ y _ hy, eqGuard, binOp, Op.intCmp]
theorem qt_gtr (hx : ev E x = some (.int k m)) (hy : ev E y = some (.int k n)) : Qt P ⟨d, .binOp .gtr T x y U, ty, ps, af, g⟩ E w (.bool (decide (m > n))) := fun w' _ ρ hρ => by
  simp [execOp, hρ x _ hx, hρ y _ hy, eqGuard, binOp, Op.intCmp]
theorem qt_geq (hx : ev E x = some (.int k m)) (hy : ev E y = some (.int k n)) : Qt P ⟨d, .binOp .geq T x y U, ty, ps, af, g⟩ E w (.bool (decide (m ≥ n))) := fun w' _ ρ hρ => by
  simp [execOp, hρ x _ hx, hρ y _ hy, eqGuard, binOp, Op.intCmp]
theorem qt_not {b : Bool} (hx : ev E x = some (.bool b)) : Qt P ⟨d, .unOp .not T x, ty, ps, af, g⟩ E w (.bool (!b)) := fun w' _ ρ hρ => by
  simp [execOp, hρ x _ hx, Op.unary]
theorem qt_neg (hx : ev E x = some (.int k m)) : Qt P ⟨d, .unOp .neg T x, ty, ps, af, g⟩ E w (.int k (k.wrap (-m))) := fun w' _ ρ hρ => by
  simp [execOp, hρ x _ hx, Op.unary, Op.intArith]
theorem run_equal_bool {a b : Bool} (hT : P.underlying T = some .bool) (w : World) : (Op.equal T (.bool a) (.bool b)).run P w = .ok (a == b) w := by
  show (Op.equalIn (9999 + 1) T _ _).run P w = _
  unfold Op.equalIn
  simp [run_underlying hT]
theorem qt_beql {a b : Bool} (hT : P.underlying T = some .bool) (hx : ev E x = some (.bool a)) (hy : ev E y = some (.bool b)) : Qt P ⟨d, .binOp .eql T x y U, ty, ps, af, g⟩ E w (.bool (a == b)) := fun w' _ ρ hρ => by
  have hb : binOp .eql T (.bool a) (.bool b) = (do pure (.bool (← Op.equal T (.bool a) (.bool b)))) := rfl
  simp [execOp, hρ x _ hx, hρ y _ hy, eqGuard, hb, run_equal_bool hT]
theorem qt_bneq {a b : Bool} (hT : P.underlying T = some .bool) (hx : ev E x = some (.bool a)) (hy : ev E y = some (.bool b)) : Qt P ⟨d, .binOp .neq T x y U, ty, ps, af, g⟩ E w (.bool (!(a == b))) := fun w' _ ρ hρ => by
  have hb : binOp .neq T (.bool a) (.bool b) = (do pure (.bool (!(← Op.equal T (.bool a) (.bool b))))) := rfl
  simp [execOp, hρ x _ hx, hρ y _ hy, eqGuard, hb, run_equal_bool hT]
theorem qt_int (hT : P.underlying T = some (.int k)) {k0 : IntKind} (hx : ev E x = some (.int k0 m)) {S : TypeId} (hS : P.underlying S = some (.int k0)) : Qt P ⟨d, .convert S T x, ty, ps, af, g⟩ E w (.int k (k.wrap m)) := fun w' _ ρ hρ => by
  simp [execOp, hρ x _ hx, convert, run_underlying hT, run_underlying hS, Conv.intToInt]
theorem qt_len {e : TypeId} {p : Option Addr} {len cap : Nat} (hT : P.underlying T = some (.slice e)) (hx : ev E x = some (.slice p len cap)) : Qt P ⟨d, .call ⟨.builtin .len, #[x], #[T]⟩, ty, ps, af, g⟩ E w (i64 len) := fun w' _ ρ hρ => by
  simp [execOp, hρ x _ hx, resolve, invoke, builtin, Builtin.len_, run_underlying hT, goInt]
theorem qt_lenS {s : ByteArray} (hT : P.underlying T = some .string) (hx : ev E x = some (.string s)) : Qt P ⟨d, .call ⟨.builtin .len, #[x], #[T]⟩, ty, ps, af, g⟩ E w (i64 s.size) := fun w' _ ρ hρ => by
  simp [execOp, hρ x _ hx, resolve, invoke, builtin, Builtin.len_, run_underlying hT, goInt]
theorem qt_min (hx : ev E x = some (.int k m)) (hy : ev E y = some (.int k n)) {tys : Array TypeId} : Qt P ⟨d, .call ⟨.builtin .min, #[x, y], tys⟩, ty, ps, af, g⟩ E w (.int k (if n < m then n else m)) := fun w' _ ρ hρ => by
  simp [execOp, hρ x _ hx, hρ y _ hy, resolve, invoke, builtin, Builtin.min_, Builtin.min2]
theorem qt_max (hx : ev E x = some (.int k m)) (hy : ev E y = some (.int k n)) {tys : Array TypeId} : Qt P ⟨d, .call ⟨.builtin .max, #[x, y], tys⟩, ty, ps, af, g⟩ E w (.int k (if n > m then n else m)) := fun w' _ ρ hρ => by
  simp [execOp, hρ x _ hx, hρ y _ hy, resolve, invoke, builtin, Builtin.max_, Builtin.max2]
end ops
end Go.Proofs.Ytcjkbcdlpfgbgaa
