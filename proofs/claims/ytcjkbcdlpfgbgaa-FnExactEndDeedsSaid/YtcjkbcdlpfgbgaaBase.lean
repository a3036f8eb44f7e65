/- What a call's frame holds, slot by slot; one law a kind of operation; loops as least fixed points. Own work, over any program. -/
import Derived.WalkKit
import Derived.Deep.QuietTactic
import Derived.Lib.QuietBelow
import Derived.OrdersHeld
import Derived.KernelRfl
set_option linter.unusedVariables false
namespace Go.Proofs.Ytcjkbcdlpfgbgaa
open Go Go.RowKit

/-! ### Loops as least fixed points -/
def iter {σ ρ : Type} (step : σ → Option (σ ⊕ ρ)) : Nat → σ → Option ρ
  | 0, _ => none
  | n + 1, s => match step s with
    | none => none
    | some (.inl s') => iter step n s'
    | some (.inr r) => some r
theorem iter_mono {σ ρ : Type} {step : σ → Option (σ ⊕ ρ)} : ∀ {n : Nat} {s : σ} {r : ρ}, iter step n s = some r → ∀ m, n ≤ m → iter step m s = some r := by
  intro n
  induction n with
  | zero => intro s r h; simp [iter] at h
  | succ n ih =>
    intro s r h m hm
    obtain ⟨m', rfl⟩ : ∃ m', m = m' + 1 := ⟨m - 1, by omega⟩
    simp only [iter] at h ⊢
    cases hs : step s with
    | none => simp [hs] at h
    | some o =>
      cases o with
      | inl s' => simp only [hs] at h ⊢; exact ih h m' (by omega)
      | inr r' => simpa [hs] using h
open Classical in
noncomputable def loop {σ ρ : Type} (step : σ → Option (σ ⊕ ρ)) (s : σ) : Option ρ :=
  if h : ∃ r n, iter step n s = some r then some h.choose else none
theorem loop_some {σ ρ : Type} {step : σ → Option (σ ⊕ ρ)} {s : σ} {r : ρ} : loop step s = some r ↔ ∃ n, iter step n s = some r := by
  unfold loop
  constructor
  · intro h
    split at h
    · rename_i hx
      have := hx.choose_spec
      obtain ⟨n, hn⟩ := this
      simp only [Option.some.injEq] at h
      exact ⟨n, by rw [← h]; exact hn⟩
    · cases h
  · rintro ⟨n, hn⟩
    have hx : ∃ r n, iter step n s = some r := ⟨r, n, hn⟩
    rw [dif_pos hx]
    obtain ⟨m, hm⟩ := hx.choose_spec
    have h1 := iter_mono hn (max n m) (by omega)
    have h2 := iter_mono hm (max n m) (by omega)
    rw [h1] at h2
    exact congrArg some (Option.some.inj h2).symm
theorem loop_eq {σ ρ : Type} (step : σ → Option (σ ⊕ ρ)) (s : σ) : loop step s = match step s with
    | none => none
    | some (.inl s') => loop step s'
    | some (.inr r) => some r := by
  have key : ∀ r, loop step s = some r ↔ (match step s with
    | none => none
    | some (.inl s') => loop step s'
    | some (.inr r) => some r) = some r := by
    intro r
    rw [loop_some]
    constructor
    · rintro ⟨n, hn⟩
      cases n with
      | zero => simp [iter] at hn
      | succ n =>
        simp only [iter] at hn
        split at hn <;> rename_i hs
        · cases hn
        · rw [loop_some.2 ⟨n, hn⟩]
        · exact hn
    · intro h
      split at h <;> rename_i hs
      · cases h
      · obtain ⟨n, hn⟩ := loop_some.1 h
        exact ⟨n + 1, by simp only [iter, hs]; exact hn⟩
      · exact ⟨1, by simp only [iter, hs]; exact h⟩
  cases h : loop step s with
  | some r => exact ((key r).1 h).symm
  | none =>
    generalize hm : (match step s with
      | none => none
      | some (.inl s') => loop step s'
      | some (.inr r) => some r) = o
    cases o with
    | none => rfl
    | some r => have := (key r).2 hm; rw [h] at this; cases this

/-! ### Frames -/
abbrev Env := List (Nat × Value)
def lk : Env → Nat → Option Value
  | [], _ => none
  | (j, v) :: l, k => bif Nat.beq j k then some v else lk l k
structure Fr (a : Act) (n : Nat) (E : Env) : Prop where
  size : a.tmps.size = n
  defers : a.defers = []
  get : ∀ k v, lk E k = some v → a.tmps[k]? = some v
def ev (E : Env) : Operand → Option Value
  | .tmp t => lk E t
  | .const v => some v
  | .global g => some (.pointer (some ⟨g, 0, none⟩))
  | .func f => some (.func (.func f) #[] #[])
theorem Fr.eval {a : Act} {n : Nat} {E : Env} (h : Fr a n E) {x : Operand} {v : Value} (hv : ev E x = some v) : a.eval x = v := by
  cases x with
  | tmp t => have := h.get t v hv; simp [Act.eval, this]
  | const u => simpa [ev, Act.eval] using hv
  | global g => simpa [ev, Act.eval] using hv
  | func f => simpa [ev, Act.eval] using hv
theorem Fr.put {a : Act} {n : Nat} {E : Env} (h : Fr a n E) {d : Nat} (hd : Nat.blt d n = true) (v : Value) : Fr (a.put (some d) v) n ((d, v) :: E) := by
  have hd' : d < n := by have : d + 1 ≤ n := by simpa [Nat.blt, Nat.ble_eq] using hd
                         omega
  refine ⟨by simp [Act.put, h.size], h.defers, fun k u hk => ?_⟩
  simp only [lk] at hk
  simp only [Act.put, Array.getElem?_setIfInBounds]
  cases hb : Nat.beq d k with
  | true =>
    rw [hb] at hk
    have hdk : d = k := Nat.eq_of_beq_eq_true hb
    subst hdk
    simp only [cond_true, Option.some.injEq] at hk
    rw [if_pos rfl, if_pos (by rw [h.size]; exact hd'), hk]
  | false =>
    rw [hb] at hk
    have hdk : ¬ d = k := Nat.ne_of_beq_eq_false hb
    rw [if_neg hdk]
    exact h.get k u (by simpa using hk)
theorem Fr.put_none {a : Act} {n : Nat} {E : Env} (h : Fr a n E) (v : Value) : Fr (a.put none v) n E := h
/-- every slot that the lesser frame names, the greater one holds -/
def covers (E : Env) : Env → Prop
  | [] => True
  | (k, v) :: l => lk E k = some v ∧ covers E l
theorem covers.lk {E : Env} : ∀ {E' : Env}, covers E E' → ∀ k v, lk E' k = some v → lk E k = some v
  | [], _, _, _, h => by simp [Proofs.Ytcjkbcdlpfgbgaa.lk] at h
  | (j, u) :: l, ⟨h1, h2⟩, k, v, h => by
    simp only [Proofs.Ytcjkbcdlpfgbgaa.lk] at h
    cases hb : Nat.beq j k with
    | true =>
      rw [hb] at h
      have := Nat.eq_of_beq_eq_true hb
      subst this
      simp only [cond_true, Option.some.injEq] at h
      rw [← h]; exact h1
    | false => rw [hb] at h; exact h2.lk k v (by simpa using h)
theorem Fr.sub {a : Act} {n : Nat} {E E' : Env} (h : Fr a n E) (hc : covers E E') : Fr a n E' := ⟨h.size, h.defers, fun k v hk => h.get k v (hc.lk k v hk)⟩
/-- the greater frame holds what the lesser one holds -/
def Cov (E E' : Env) : Prop := ∀ k v, lk E' k = some v → lk E k = some v
theorem Cov.refl {E : Env} : Cov E E := fun _ _ h => h
theorem Cov.fresh {E E' : Env} {k : Nat} {u : Value} (hk : lk E' k = none) (h : Cov E E') : Cov ((k, u) :: E) E' := fun j v hj => by
  simp only [Proofs.Ytcjkbcdlpfgbgaa.lk]
  cases hb : Nat.beq k j with
  | true => have := Nat.eq_of_beq_eq_true hb; subst this; rw [hk] at hj; cases hj
  | false => exact h j v hj
theorem Cov.same {E E' : Env} {k : Nat} {u u' : Value} (hu : u = u') (h : Cov E E') : Cov ((k, u) :: E) ((k, u') :: E') := fun j v hj => by
  simp only [Proofs.Ytcjkbcdlpfgbgaa.lk] at hj ⊢
  cases hb : Nat.beq k j with
  | true => rw [hb] at hj; rw [hu]; exact hj
  | false => rw [hb] at hj; exact h j v hj
theorem Fr.sub' {a : Act} {n : Nat} {E E' : Env} (h : Fr a n E) (hc : Cov E E') : Fr a n E' := ⟨h.size, h.defers, fun k v hk => h.get k v (hc k v hk)⟩
def enterEnv : Nat → List Value → Env
  | _, [] => []
  | k, v :: l => (k, v) :: enterEnv (k + 1) l
theorem lk_enter : ∀ (l : List Value) (j k : Nat) (v : Value), lk (enterEnv j l) k = some v → j ≤ k ∧ l[k - j]? = some v
  | [], _, _, _, h => by simp [enterEnv, lk] at h
  | u :: l, j, k, v, h => by
    simp only [enterEnv, lk] at h
    cases hb : Nat.beq j k with
    | true =>
      rw [hb] at h
      have := Nat.eq_of_beq_eq_true hb
      subst this
      simpa using h
    | false =>
      rw [hb] at h
      have hne := Nat.ne_of_beq_eq_false hb
      obtain ⟨h1, h2⟩ := lk_enter l (j + 1) k v (by simpa using h)
      refine ⟨by omega, ?_⟩
      rw [show k - j = (k - (j + 1)) + 1 from by omega, List.getElem?_cons_succ]
      exact h2
theorem Fr.enter (args : List Value) (n : Nat) (h : Nat.ble args.length n = true) : Fr { tmps := args.toArray ++ Array.replicate (n - args.toArray.size) undef, defers := [] } n (enterEnv 0 args) := by
  have h' : args.length ≤ n := by simpa using h
  refine ⟨by simp; omega, rfl, fun k v hk => ?_⟩
  obtain ⟨_, hv⟩ := lk_enter args 0 k v hk
  simp only [Nat.sub_zero] at hv
  have hlt : k < args.length := (List.getElem?_eq_some_iff.1 hv).1
  rw [List.getElem?_eq_getElem hlt] at hv
  simp only [Option.some.injEq] at hv
  simp [Array.getElem?_append, hlt, hv]

/-! ### Code over a frame -/
variable {P : Program}
/-- from every frame that holds E -/
def WP (P : Program) (Q : Exit → Act → World → Prop) (n : Nat) (c : Code) (E : Env) (w : World) : Prop := ∀ a, Fr a n E → c.wp P Q a w
theorem WP.sub {Q : Exit → Act → World → Prop} {n : Nat} {c : Code} {E E' : Env} {w : World} (h : WP P Q n c E' w) (hc : covers E E') : WP P Q n c E w := fun a ha => h a (ha.sub hc)
theorem calls_enter {f : FuncId} {fn : Func} {c : Code} {args : List Value} {w : World} {R : Ending → World → Prop} {n : Nat}
    (hf : P.funcs[f]? = some fn) (hn : fn.ntmps = n) (hb : fn.body = some c) (hl : Nat.ble args.length n = true)
    (h : WP P (bodyPost P fn R) n c (enterEnv 0 args) w) : Calls P f args.toArray w R :=
  calls_of_wp hf hb (by rw [hn]; exact h _ (Fr.enter args n hl))
theorem WP_seq {Q : Exit → Act → World → Prop} {n : Nat} {x y : Code} {E : Env} {w : World} (h : WP P (Exit.then (y.wp P Q) Q) n x E w) : WP P Q n (.seq x y) E w := fun a ha => wp_seq (h a ha)
theorem WP_seq_cut {Q : Exit → Act → World → Prop} {n : Nat} {x y : Code} {E : Env} {w : World} (M : Act → World → Prop) (h : WP P (Exit.then M Q) n x E w) (hy : ∀ a w, M a w → y.wp P Q a w) : WP P Q n (.seq x y) E w :=
  fun a ha => wp_seq (wp_mono (h a ha) (fun e a w h => by cases e <;> first | exact hy a w h | exact h))
theorem WP_cond {Q : Exit → Act → World → Prop} {n : Nat} {c : Operand} {x y : Code} {E : Env} {w : World} {b : Bool} (hb : ev E c = some (.bool b)) (ht : b = true → WP P Q n x E w) (hf : b = false → WP P Q n y E w) : WP P Q n (.cond c x y) E w :=
  fun a ha => wp_cond_split (ha.eval hb) (fun e => ht e a ha) (fun e => hf e a ha)
theorem WP_cond_true {Q : Exit → Act → World → Prop} {n : Nat} {c : Operand} {x y : Code} {E : Env} {w : World} (hb : ev E c = some (.bool true)) (h : WP P Q n x E w) : WP P Q n (.cond c x y) E w :=
  fun a ha => wp_cond_true (ha.eval hb) (h a ha)
theorem WP_cond_false {Q : Exit → Act → World → Prop} {n : Nat} {c : Operand} {x y : Code} {E : Env} {w : World} (hb : ev E c = some (.bool false)) (h : WP P Q n y E w) : WP P Q n (.cond c x y) E w :=
  fun a ha => wp_cond_false (ha.eval hb) (h a ha)
theorem WP_block {Q : Exit → Act → World → Prop} {n id : Nat} {c : Code} {E : Env} {w : World} (h : WP P (Exit.inBlock id Q) n c E w) : WP P Q n (.block id c) E w := fun a ha => wp_block (h a ha)
theorem WP_skip {Q : Exit → Act → World → Prop} {n : Nat} {E : Env} {w : World} (h : ∀ a, Fr a n E → Q .normal a w) : WP P Q n .skip E w := fun a ha => wp_skip (h a ha)
theorem WP_exit {Q : Exit → Act → World → Prop} {n id : Nat} {E : Env} {w : World} (h : ∀ a, Fr a n E → Q (.exit id) a w) : WP P Q n (.exit id) E w := fun a ha => wp_exit (h a ha)
theorem WP_ret {Q : Exit → Act → World → Prop} {n : Nat} {E : Env} {w : World} (h : ∀ a, Fr a n E → Q .ret a w) : WP P Q n .ret E w := fun a ha => wp_ret (h a ha)
theorem least {p : Nat → Prop} (h : ∃ n, p n) : ∃ m, p m ∧ ∀ k, p k → m ≤ k := by
  obtain ⟨n, hn⟩ := h
  induction n using Nat.strongRecOn with
  | _ n ih =>
    by_cases hk : ∃ k, k < n ∧ p k
    · obtain ⟨k, h1, h2⟩ := hk; exact ih k h1 h2
    · exact ⟨n, hn, fun k h => by
        rcases Nat.lt_or_ge k n with h1 | h1
        · exact absurd ⟨k, h1, h⟩ hk
        · exact h1⟩
theorem WP.app {Q : Exit → Act → World → Prop} {n : Nat} {c : Code} {E : Env} {a : Act} {w : World} (h : WP P Q n c E w) (ha : Fr a n E) : c.wp P Q a w := h a ha
theorem WP_skip_seq {Q : Exit → Act → World → Prop} {n : Nat} {y : Code} {E : Env} {w : World} (h : WP P Q n y E w) : WP P (Exit.then (y.wp P Q) Q) n .skip E w := fun a ha => wp_skip (h a ha)
section posts
variable {K : Act → World → Prop} {Q : Exit → Act → World → Prop} {a : Act} {w : World} {i id : Nat}
theorem nrm_block (h : Q .normal a w) : Exit.inBlock id Q .normal a w := h
theorem nrm_seq (h : K a w) : Exit.then K Q .normal a w := h
theorem ret_block (h : Q .ret a w) : Exit.inBlock id Q .ret a w := h
theorem ret_seq (h : Q .ret a w) : Exit.then K Q .ret a w := h
theorem exit_seq (h : Q (.exit i) a w) : Exit.then K Q (.exit i) a w := h
theorem exit_block_eq (h : Q .normal a w) : Exit.inBlock id Q (.exit id) a w := by simp [Exit.inBlock, h]
theorem exit_block_ne (hne : Nat.beq i id = false) (h : Q (.exit i) a w) : Exit.inBlock id Q (.exit i) a w := by simp [Exit.inBlock, Nat.ne_of_beq_eq_false hne, h]
theorem ret_ne : Exit.ret ≠ Exit.normal := nofun
theorem exit_ne : Exit.exit i ≠ Exit.normal := nofun
end posts
theorem ret1 {fn : Func} {R : Ending → World → Prop} {n s : Nat} {E : Env} {a : Act} {w : World} {v : Value} (hres : fn.results = #[.tmp s]) (ha : Fr a n E) (hs : lk E s = some v) (hR : R (.returned v) w) : bodyPost P fn R .ret a w :=
  ⟨ha.defers, v, by rw [results_tmp hres]; simp [ha.get s v hs], hR⟩
theorem ret2 {fn : Func} {R : Ending → World → Prop} {n s t : Nat} {E : Env} {a : Act} {w : World} {v u : Value} (hres : fn.results = #[.tmp s, .tmp t]) (ha : Fr a n E) (hs : lk E s = some v) (ht : lk E t = some u) (hR : R (.returned (.tuple #[v, u])) w) : bodyPost P fn R .ret a w :=
  ⟨ha.defers, _, by rw [results_tmp2 hres]; simp [ha.get s v hs, ha.get t u ht], hR⟩
theorem if_t {α : Type} {b : Bool} {x y z : α} (hb : b = true) (h : (if b then x else y) = z) : x = z := by rw [if_pos hb] at h; exact h
theorem if_f {α : Type} {b : Bool} {x y z : α} (hb : b = false) (h : (if b then x else y) = z) : y = z := by rw [if_neg (by rw [hb]; exact Bool.false_ne_true)] at h; exact h
theorem btf (b : Bool) : b = true ∨ b = false := by cases b <;> simp
theorem vb {a b : Bool} (h : some a = some b) : Value.bool a = Value.bool b := by rw [Option.some.inj h]
theorem bl_trans {w w1 w2 : World} (h : Below w.heap.size w w1) (k : Below w1.heap.size w1 w2) : Below w.heap.size w w2 := h.trans (k.mono h.size)
theorem WP_join {x y : Code} {Q : Exit → Act → World → Prop} {n : Nat} {E : Env} {w : World} (M : Act → World → Prop) (h : WP P (Exit.then M Q) n x E w) (hy : ∀ a w, M a w → y.wp P Q a w) : WP P (Exit.then (y.wp P Q) Q) n x E w :=
  fun a ha => wp_mono (h a ha) (fun e a w h => by cases e <;> first | exact hy a w h | exact h)
theorem bind_some {α β : Type} {o : Option α} {f : α → Option β} {r : β} (h : o.bind f = some r) : ∃ x, o = some x ∧ f x = some r := by
  cases o with
  | none => cases h
  | some x => exact ⟨x, rfl, h⟩
/-- The loop's law: the least fixed point has come to r. -/
theorem wp_loop_fix {σ ρ : Type} {step : σ → Option (σ ⊕ ρ)} {c : Code} {Q : Exit → Act → World → Prop} {s : σ} {r : ρ} {a : Act} {w : World}
    (I : σ → Act → World → Prop) (O : ρ → Exit → Act → World → Prop) (hr : loop step s = some r) (h0 : I s a w)
    (round : ∀ s o a w, step s = some o → I s a w → c.wp P (fun e a' w' => match o with | .inl s' => e = .normal ∧ I s' a' w' | .inr r' => e ≠ .normal ∧ O r' e a' w') a w)
    (after : ∀ e a' w', O r e a' w' → Q e a' w') :
    (Code.loop c).wp P Q a w := by
  obtain ⟨n, hn⟩ := loop_some.1 hr
  let J : Nat → Act → World → Prop := fun n a w => ∃ s, iter step n s = some r ∧ I s a w
  classical
  let μ : Act → World → Nat := fun a w => if h : ∃ n, J n a w then (least h).choose else 0
  refine wp_loop (fun a w => ∃ n, J n a w) μ ⟨n, s, hn, h0⟩ ?_
  intro a w hex
  have hμ : μ a w = (least hex).choose := by simp only [μ]; rw [dif_pos hex]
  obtain ⟨⟨s, hs, hI⟩, _⟩ := (least hex).choose_spec
  generalize hm : (least hex).choose = m at hs hμ
  cases m with
  | zero => simp [iter] at hs
  | succ m =>
    simp only [iter] at hs
    cases ho : step s with
    | none => simp [ho] at hs
    | some o =>
      refine wp_mono (round s o a w ho hI) fun e a' w' h => ?_
      cases o with
      | inl s' =>
        obtain ⟨rfl, h2⟩ := h
        simp only [ho] at hs
        have hJ : ∃ n, J n a' w' := ⟨m, s', hs, h2⟩
        refine ⟨hJ, ?_⟩
        have : μ a' w' = (least hJ).choose := by simp only [μ]; rw [dif_pos hJ]
        rw [this, hμ]
        exact Nat.lt_succ_of_le ((least hJ).choose_spec.2 m ⟨s', hs, h2⟩)
      | inr r' =>
        simp only [ho, Option.some.injEq] at hs
        obtain ⟨h1, h2⟩ := h
        have h3 := after _ _ _ (hs ▸ h2)
        cases e <;> first | exact absurd rfl h1 | exact h3
end Go.Proofs.Ytcjkbcdlpfgbgaa
