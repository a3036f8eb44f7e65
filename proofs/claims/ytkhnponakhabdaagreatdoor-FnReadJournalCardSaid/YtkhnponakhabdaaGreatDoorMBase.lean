import Derived.WalkKit
import Derived.Deep.QuietTactic
import Derived.Lib.QuietBelow
import Derived.OrdersHeld
import Derived.KernelRfl
import Derived.StillTail
set_option linter.unusedVariables false
namespace Go.Proofs.YtkhnponakhabdaaGreatDoor
open Go Go.RowKit
def iter {σ ρ : Type} (step : σ → Option (σ ⊕ ρ)) : Nat → σ → Option ρ
  | 0, _ => none
  | n + 1, s => match step s with
    | none => none
    | some (.inl s') => iter step n s'
    | some (.inr r) => some r
theorem iter_mono {σ ρ : Type} {step : σ → Option (σ ⊕ ρ)} : ∀ {n : Nat} {s : σ} {r : ρ}, iter step n s = some r → ∀ m, n ≤ m → iter step m s = some r := by
  intro n
  induction n with
  | zero => intro s r h; simp [iter] at h
  | succ n ih =>
    intro s r h m hm
    obtain ⟨m', rfl⟩ : ∃ m', m = m' + 1 := ⟨m - 1, by omega⟩
    simp only [iter] at h ⊢
    cases hs : step s with
    | none => simp [hs] at h
    | some o =>
      cases o with
      | inl s' => simp only [hs] at h ⊢; exact ih h m' (by omega)
      | inr r' => simpa [hs] using h
open Classical in
noncomputable def loop {σ ρ : Type} (step : σ → Option (σ ⊕ ρ)) (s : σ) : Option ρ :=
  if h : ∃ r n, iter step n s = some r then some h.choose else none
theorem loop_some {σ ρ : Type} {step : σ → Option (σ ⊕ ρ)} {s : σ} {r : ρ} : loop step s = some r ↔ ∃ n, iter step n s = some r := by
  unfold loop
  constructor
  · intro h
    split at h
    · rename_i hx
      have := hx.choose_spec
      obtain ⟨n, hn⟩ := this
      simp only [Option.some.injEq] at h
      exact ⟨n, by rw [← h]; exact hn⟩
    · cases h
  · rintro ⟨n, hn⟩
    have hx : ∃ r n, iter step n s = some r := ⟨r, n, hn⟩
    rw [dif_pos hx]
    obtain ⟨m, hm⟩ := hx.choose_spec
    have h1 := iter_mono hn (max n m) (by omega)
    have h2 := iter_mono hm (max n m) (by omega)
    rw [h1] at h2
    exact congrArg some (Option.some.inj h2).symm
theorem loop_eq {σ ρ : Type} (step : σ → Option (σ ⊕ ρ)) (s : σ) : loop step s = match step s with
    | none => none
    | some (.inl s') => loop step s'
    | some (.inr r) => some r := by
  have key : ∀ r, loop step s = some r ↔ (match step s with
    | none => none
    | some (.inl s') => loop step s'
    | some (.inr r) => some r) = some r := by
    intro r
    rw [loop_some]
    constructor
    · rintro ⟨n, hn⟩
      cases n with
      | zero => simp [iter] at hn
      | succ n =>
        simp only [iter] at hn
        split at hn <;> rename_i hs
        · cases hn
        · rw [loop_some.2 ⟨n, hn⟩]
        · exact hn
    · intro h
      split at h <;> rename_i hs
      · cases h
      · obtain ⟨n, hn⟩ := loop_some.1 h
        exact ⟨n + 1, by simp only [iter, hs]; exact hn⟩
      · exact ⟨1, by simp only [iter, hs]; exact h⟩
  cases h : loop step s with
  | some r => exact ((key r).1 h).symm
  | none =>
    generalize hm : (match step s with
      | none => none
      | some (.inl s') => loop step s'
      | some (.inr r) => some r) = o
    cases o with
    | none => rfl
    | some r => have := (key r).2 hm; rw [h] at this; cases this
abbrev Env := List (Nat × Value)
def lk : Env → Nat → Option Value
  | [], _ => none
  | (j, v) :: l, k => bif Nat.beq j k then some v else lk l k
structure Fr (a : Act) (n : Nat) (E : Env) : Prop where
  size : a.tmps.size = n
  defers : a.defers = []
  get : ∀ k v, lk E k = some v → a.tmps[k]? = some v
def ev (E : Env) : Operand → Option Value
  | .tmp t => lk E t
  | .const v => some v
  | .global g => some (.pointer (some ⟨g, 0, none⟩))
  | .func f => some (.func (.func f) #[] #[])
theorem Fr.eval {a : Act} {n : Nat} {E : Env} (h : Fr a n E) {x : Operand} {v : Value} (hv : ev E x = some v) : a.eval x = v := by
  cases x with
  | tmp t => have := h.get t v hv; simp [Act.eval, this]
  | const u => simpa [ev, Act.eval] using hv
  | global g => simpa [ev, Act.eval] using hv
  | func f => simpa [ev, Act.eval] using hv
theorem Fr.put {a : Act} {n : Nat} {E : Env} (h : Fr a n E) {d : Nat} (hd : Nat.blt d n = true) (v : Value) : Fr (a.put (some d) v) n ((d, v) :: E) := by
  have hd' : d < n := by have : d + 1 ≤ n := by simpa [Nat.blt, Nat.ble_eq] using hd
                         omega
  refine ⟨by simp [Act.put, h.size], h.defers, fun k u hk => ?_⟩
  simp only [lk] at hk
  simp only [Act.put, Array.getElem?_setIfInBounds]
  cases hb : Nat.beq d k with
  | true =>
    rw [hb] at hk
    have hdk : d = k := Nat.eq_of_beq_eq_true hb
    subst hdk
    simp only [cond_true, Option.some.injEq] at hk
    rw [if_pos rfl, if_pos (by rw [h.size]; exact hd'), hk]
  | false =>
    rw [hb] at hk
    have hdk : ¬ d = k := Nat.ne_of_beq_eq_false hb
    rw [if_neg hdk]
    exact h.get k u (by simpa using hk)
def covers (E : Env) : Env → Prop
  | [] => True
  | (k, v) :: l => lk E k = some v ∧ covers E l
theorem covers.lk {E : Env} : ∀ {E' : Env}, covers E E' → ∀ k v, lk E' k = some v → lk E k = some v
  | [], _, _, _, h => by simp [Proofs.YtkhnponakhabdaaGreatDoor.lk] at h
  | (j, u) :: l, ⟨h1, h2⟩, k, v, h => by
    simp only [Proofs.YtkhnponakhabdaaGreatDoor.lk] at h
    cases hb : Nat.beq j k with
    | true =>
      rw [hb] at h
      have := Nat.eq_of_beq_eq_true hb
      subst this
      simp only [cond_true, Option.some.injEq] at h
      rw [← h]; exact h1
    | false => rw [hb] at h; exact h2.lk k v (by simpa using h)
theorem Fr.sub {a : Act} {n : Nat} {E E' : Env} (h : Fr a n E) (hc : covers E E') : Fr a n E' := ⟨h.size, h.defers, fun k v hk => h.get k v (hc.lk k v hk)⟩
def Cov (E E' : Env) : Prop := ∀ k v, lk E' k = some v → lk E k = some v
theorem Cov.refl {E : Env} : Cov E E := fun _ _ h => h
theorem Cov.fresh {E E' : Env} {k : Nat} {u : Value} (hk : lk E' k = none) (h : Cov E E') : Cov ((k, u) :: E) E' := fun j v hj => by
  simp only [Proofs.YtkhnponakhabdaaGreatDoor.lk]
  cases hb : Nat.beq k j with
  | true => have := Nat.eq_of_beq_eq_true hb; subst this; rw [hk] at hj; cases hj
  | false => exact h j v hj
theorem Cov.same {E E' : Env} {k : Nat} {u u' : Value} (hu : u = u') (h : Cov E E') : Cov ((k, u) :: E) ((k, u') :: E') := fun j v hj => by
  simp only [Proofs.YtkhnponakhabdaaGreatDoor.lk] at hj ⊢
  cases hb : Nat.beq k j with
  | true => rw [hb] at hj; rw [hu]; exact hj
  | false => rw [hb] at hj; exact h j v hj
theorem Fr.sub' {a : Act} {n : Nat} {E E' : Env} (h : Fr a n E) (hc : Cov E E') : Fr a n E' := ⟨h.size, h.defers, fun k v hk => h.get k v (hc k v hk)⟩
def enterEnv : Nat → List Value → Env
  | _, [] => []
  | k, v :: l => (k, v) :: enterEnv (k + 1) l
theorem lk_enter : ∀ (l : List Value) (j k : Nat) (v : Value), lk (enterEnv j l) k = some v → j ≤ k ∧ l[k - j]? = some v
  | [], _, _, _, h => by simp [enterEnv, lk] at h
  | u :: l, j, k, v, h => by
    simp only [enterEnv, lk] at h
    cases hb : Nat.beq j k with
    | true =>
      rw [hb] at h
      have := Nat.eq_of_beq_eq_true hb
      subst this
      simpa using h
    | false =>
      rw [hb] at h
      have hne := Nat.ne_of_beq_eq_false hb
      obtain ⟨h1, h2⟩ := lk_enter l (j + 1) k v (by simpa using h)
      refine ⟨by omega, ?_⟩
      rw [show k - j = (k - (j + 1)) + 1 from by omega, List.getElem?_cons_succ]
      exact h2
theorem Fr.enter (args : List Value) (n : Nat) (h : Nat.ble args.length n = true) : Fr { tmps := args.toArray ++ Array.replicate (n - args.toArray.size) undef, defers := [] } n (enterEnv 0 args) := by
  have h' : args.length ≤ n := by simpa using h
  refine ⟨by simp; omega, rfl, fun k v hk => ?_⟩
  obtain ⟨_, hv⟩ := lk_enter args 0 k v hk
  simp only [Nat.sub_zero] at hv
  have hlt : k < args.length := (List.getElem?_eq_some_iff.1 hv).1
  rw [List.getElem?_eq_getElem hlt] at hv
  simp only [Option.some.injEq] at hv
  simp [Array.getElem?_append, hlt, hv]
variable {P : Program}
def WP (P : Program) (Q : Exit → Act → World → Prop) (n : Nat) (c : Code) (E : Env) (w : World) : Prop := ∀ a, Fr a n E → c.wp P Q a w
theorem WP.sub {Q : Exit → Act → World → Prop} {n : Nat} {c : Code} {E E' : Env} {w : World} (h : WP P Q n c E' w) (hc : covers E E') : WP P Q n c E w := fun a ha => h a (ha.sub hc)
theorem calls_enter {f : FuncId} {fn : Func} {c : Code} {args : List Value} {w : World} {R : Ending → World → Prop} {n : Nat}
    (hf : P.funcs[f]? = some fn) (hn : fn.ntmps = n) (hb : fn.body = some c) (hl : Nat.ble args.length n = true)
    (h : WP P (bodyPost P fn R) n c (enterEnv 0 args) w) : Calls P f args.toArray w R :=
  calls_of_wp hf hb (by rw [hn]; exact h _ (Fr.enter args n hl))
theorem WP_seq {Q : Exit → Act → World → Prop} {n : Nat} {x y : Code} {E : Env} {w : World} (h : WP P (Exit.then (y.wp P Q) Q) n x E w) : WP P Q n (.seq x y) E w := fun a ha => wp_seq (h a ha)
theorem WP_cond {Q : Exit → Act → World → Prop} {n : Nat} {c : Operand} {x y : Code} {E : Env} {w : World} {b : Bool} (hb : ev E c = some (.bool b)) (ht : b = true → WP P Q n x E w) (hf : b = false → WP P Q n y E w) : WP P Q n (.cond c x y) E w :=
  fun a ha => wp_cond_split (ha.eval hb) (fun e => ht e a ha) (fun e => hf e a ha)
theorem WP_block {Q : Exit → Act → World → Prop} {n id : Nat} {c : Code} {E : Env} {w : World} (h : WP P (Exit.inBlock id Q) n c E w) : WP P Q n (.block id c) E w := fun a ha => wp_block (h a ha)
theorem WP_skip {Q : Exit → Act → World → Prop} {n : Nat} {E : Env} {w : World} (h : ∀ a, Fr a n E → Q .normal a w) : WP P Q n .skip E w := fun a ha => wp_skip (h a ha)
theorem WP_exit {Q : Exit → Act → World → Prop} {n id : Nat} {E : Env} {w : World} (h : ∀ a, Fr a n E → Q (.exit id) a w) : WP P Q n (.exit id) E w := fun a ha => wp_exit (h a ha)
theorem WP_ret {Q : Exit → Act → World → Prop} {n : Nat} {E : Env} {w : World} (h : ∀ a, Fr a n E → Q .ret a w) : WP P Q n .ret E w := fun a ha => wp_ret (h a ha)
theorem least {p : Nat → Prop} (h : ∃ n, p n) : ∃ m, p m ∧ ∀ k, p k → m ≤ k := by
  obtain ⟨n, hn⟩ := h
  induction n using Nat.strongRecOn with
  | _ n ih =>
    by_cases hk : ∃ k, k < n ∧ p k
    · obtain ⟨k, h1, h2⟩ := hk; exact ih k h1 h2
    · exact ⟨n, hn, fun k h => by
        rcases Nat.lt_or_ge k n with h1 | h1
        · exact absurd ⟨k, h1, h⟩ hk
        · exact h1⟩
theorem WP.app {Q : Exit → Act → World → Prop} {n : Nat} {c : Code} {E : Env} {a : Act} {w : World} (h : WP P Q n c E w) (ha : Fr a n E) : c.wp P Q a w := h a ha
theorem WP_skip_seq {Q : Exit → Act → World → Prop} {n : Nat} {y : Code} {E : Env} {w : World} (h : WP P Q n y E w) : WP P (Exit.then (y.wp P Q) Q) n .skip E w := fun a ha => wp_skip (h a ha)
section posts
variable {K : Act → World → Prop} {Q : Exit → Act → World → Prop} {a : Act} {w : World} {i id : Nat}
theorem nrm_block (h : Q .normal a w) : Exit.inBlock id Q .normal a w := h
theorem nrm_seq (h : K a w) : Exit.then K Q .normal a w := h
theorem ret_block (h : Q .ret a w) : Exit.inBlock id Q .ret a w := h
theorem ret_seq (h : Q .ret a w) : Exit.then K Q .ret a w := h
theorem exit_seq (h : Q (.exit i) a w) : Exit.then K Q (.exit i) a w := h
theorem exit_block_eq (h : Q .normal a w) : Exit.inBlock id Q (.exit id) a w := by simp [Exit.inBlock, h]
theorem ret_ne : Exit.ret ≠ Exit.normal := nofun
theorem exit_ne : Exit.exit i ≠ Exit.normal := nofun
end posts
theorem ret1 {fn : Func} {R : Ending → World → Prop} {n s : Nat} {E : Env} {a : Act} {w : World} {v : Value} (hres : fn.results = #[.tmp s]) (ha : Fr a n E) (hs : lk E s = some v) (hR : R (.returned v) w) : bodyPost P fn R .ret a w :=
  ⟨ha.defers, v, by rw [results_tmp hres]; simp [ha.get s v hs], hR⟩
theorem ret2 {fn : Func} {R : Ending → World → Prop} {n s t : Nat} {E : Env} {a : Act} {w : World} {v u : Value} (hres : fn.results = #[.tmp s, .tmp t]) (ha : Fr a n E) (hs : lk E s = some v) (ht : lk E t = some u) (hR : R (.returned (.tuple #[v, u])) w) : bodyPost P fn R .ret a w :=
  ⟨ha.defers, _, by rw [results_tmp2 hres]; simp [ha.get s v hs, ha.get t u ht], hR⟩
theorem if_t {α : Type} {b : Bool} {x y z : α} (hb : b = true) (h : (if b then x else y) = z) : x = z := by rw [if_pos hb] at h; exact h
theorem if_f {α : Type} {b : Bool} {x y z : α} (hb : b = false) (h : (if b then x else y) = z) : y = z := by rw [if_neg (by rw [hb]; exact Bool.false_ne_true)] at h; exact h
theorem btf (b : Bool) : b = true ∨ b = false := by cases b <;> simp
theorem vb {a b : Bool} (h : some a = some b) : Value.bool a = Value.bool b := by rw [Option.some.inj h]
theorem WP_join {x y : Code} {Q : Exit → Act → World → Prop} {n : Nat} {E : Env} {w : World} (M : Act → World → Prop) (h : WP P (Exit.then M Q) n x E w) (hy : ∀ a w, M a w → y.wp P Q a w) : WP P (Exit.then (y.wp P Q) Q) n x E w :=
  fun a ha => wp_mono (h a ha) (fun e a w h => by cases e <;> first | exact hy a w h | exact h)
theorem bind_some {α β : Type} {o : Option α} {f : α → Option β} {r : β} (h : o.bind f = some r) : ∃ x, o = some x ∧ f x = some r := by
  cases o with
  | none => cases h
  | some x => exact ⟨x, rfl, h⟩
theorem wp_loop_fix {σ ρ : Type} {step : σ → Option (σ ⊕ ρ)} {c : Code} {Q : Exit → Act → World → Prop} {s : σ} {r : ρ} {a : Act} {w : World}
    (I : σ → Act → World → Prop) (O : ρ → Exit → Act → World → Prop) (hr : loop step s = some r) (h0 : I s a w)
    (round : ∀ s o a w, step s = some o → I s a w → c.wp P (fun e a' w' => match o with | .inl s' => e = .normal ∧ I s' a' w' | .inr r' => e ≠ .normal ∧ O r' e a' w') a w)
    (after : ∀ e a' w', O r e a' w' → Q e a' w') :
    (Code.loop c).wp P Q a w := by
  obtain ⟨n, hn⟩ := loop_some.1 hr
  let J : Nat → Act → World → Prop := fun n a w => ∃ s, iter step n s = some r ∧ I s a w
  classical
  let μ : Act → World → Nat := fun a w => if h : ∃ n, J n a w then (least h).choose else 0
  refine wp_loop (fun a w => ∃ n, J n a w) μ ⟨n, s, hn, h0⟩ ?_
  intro a w hex
  have hμ : μ a w = (least hex).choose := by simp only [μ]; rw [dif_pos hex]
  obtain ⟨⟨s, hs, hI⟩, _⟩ := (least hex).choose_spec
  generalize hm : (least hex).choose = m at hs hμ
  cases m with
  | zero => simp [iter] at hs
  | succ m =>
    simp only [iter] at hs
    cases ho : step s with
    | none => simp [ho] at hs
    | some o =>
      refine wp_mono (round s o a w ho hI) fun e a' w' h => ?_
      cases o with
      | inl s' =>
        obtain ⟨rfl, h2⟩ := h
        simp only [ho] at hs
        have hJ : ∃ n, J n a' w' := ⟨m, s', hs, h2⟩
        refine ⟨hJ, ?_⟩
        have : μ a' w' = (least hJ).choose := by simp only [μ]; rw [dif_pos hJ]
        rw [this, hμ]
        exact Nat.lt_succ_of_le ((least hJ).choose_spec.2 m ⟨s', hs, h2⟩)
      | inr r' =>
        simp only [ho, Option.some.injEq] at hs
        obtain ⟨h1, h2⟩ := h
        have h3 := after _ _ _ (hs ▸ h2)
        cases e <;> first | exact absurd rfl h1 | exact h3
end Go.Proofs.YtkhnponakhabdaaGreatDoor
set_option linter.unusedVariables false
namespace Go.Proofs.YtkhnponakhabdaaGreatDoor
open Go Go.RowKit
variable {P : Program}
inductive Ty where
  | int (k : IntKind) | bool | str | slice (t : Ty) | pair (a b : Ty)
@[reducible] def Ty.den : Ty → Type
  | .int _ => Int
  | .bool => Bool
  | .str => List UInt8
  | .slice t => List t.den
  | .pair a b => a.den × b.den
def Ty.size : Ty → Nat
  | .pair a b => a.size + b.size
  | _ => 1
abbrev i64 (n : Int) : Value := .int .i64 n
abbrev strV (l : List UInt8) : Value := .string ⟨l.toArray⟩
def RepL {α : Type} (R : List Value → α → List Nat → Prop) : List Value → List α → List Nat → Prop
  | cs, [], F => cs = [] ∧ F = []
  | cs, x :: xs, F => ∃ c1 c2 F1 F2, cs = c1 ++ c2 ∧ F = F1 ++ F2 ∧ R c1 x F1 ∧ RepL R c2 xs F2
def Rep (w : World) : (t : Ty) → List Value → t.den → List Nat → Prop
  | .int k, cs, x, F => cs = [.int k x] ∧ F = []
  | .bool, cs, x, F => cs = [.bool x] ∧ F = []
  | .str, cs, x, F => cs = [strV x] ∧ F = []
  | .slice t, cs, xs, F => ∃ p cap, cs = [.slice p xs.length cap] ∧ xs.length ≤ cap ∧ ((xs = [] ∧ F = []) ∨ ∃ b off bs F', xs ≠ [] ∧ p = some ⟨b, off, none⟩ ∧ F = b :: F' ∧ RepL (Rep w t) bs xs F' ∧ ∀ j u, bs[j]? = some u → w.cell? ⟨b, off + j, none⟩ = some u)
  | .pair a b, cs, x, F => ∃ c1 c2 F1 F2, cs = c1 ++ c2 ∧ F = F1 ++ F2 ∧ Rep w a c1 x.1 F1 ∧ Rep w b c2 x.2 F2
theorem RepL.imp {α : Type} {R R' : List Value → α → List Nat → Prop} : ∀ {xs : List α} {cs : List Value} {F : List Nat}, RepL R cs xs F → (∀ c x F', (∀ k ∈ F', k ∈ F) → R c x F' → R' c x F') → RepL R' cs xs F
  | [], _, _, h, _ => h
  | x :: xs, cs, F, ⟨c1, c2, F1, F2, h1, h2, h3, h4⟩, hi =>
    ⟨c1, c2, F1, F2, h1, h2, hi _ _ _ (fun k hk => by rw [h2]; exact List.mem_append_left _ hk) h3, h4.imp (fun c x F' hF hR => hi c x F' (fun k hk => by rw [h2]; exact List.mem_append_right _ (hF k hk)) hR)⟩
theorem RepL.length {α : Type} {R : List Value → α → List Nat → Prop} {s : Nat} (hs : ∀ c x F, R c x F → c.length = s) : ∀ {xs : List α} {cs : List Value} {F : List Nat}, RepL R cs xs F → cs.length = xs.length * s
  | [], _, _, h => by simp [h.1]
  | x :: xs, cs, F, ⟨c1, c2, F1, F2, h1, h2, h3, h4⟩ => by
    rw [h1, List.length_append, hs _ _ _ h3, h4.length hs, List.length_cons, Nat.add_mul]; omega
theorem Rep.length {w : World} : ∀ {t : Ty} {cs : List Value} {x : t.den} {F : List Nat}, Rep w t cs x F → cs.length = t.size
  | .int _, _, _, _, h => by simp [h.1, Ty.size]
  | .bool, _, _, _, h => by simp [h.1, Ty.size]
  | .str, _, _, _, h => by simp [h.1, Ty.size]
  | .slice _, _, _, _, ⟨p, cap, h, _⟩ => by simp [h, Ty.size]
  | .pair a b, _, _, _, ⟨c1, c2, F1, F2, h1, h2, h3, h4⟩ => by rw [h1, List.length_append, h3.length, h4.length]; rfl
theorem RepL.get {α : Type} {R : List Value → α → List Nat → Prop} {s : Nat} (hs : ∀ c x F, R c x F → c.length = s) : ∀ {xs : List α} {cs : List Value} {F : List Nat}, RepL R cs xs F → ∀ (k : Nat) (y : α), xs[k]? = some y →
    ∃ c F', R c y F' ∧ (∀ i ∈ F', i ∈ F) ∧ ∀ j u, c[j]? = some u → cs[k * s + j]? = some u
  | [], _, _, _, k, y, hk => by simp at hk
  | x :: xs, cs, F, ⟨c1, c2, F1, F2, h1, h2, h3, h4⟩, k, y, hk => by
    cases k with
    | zero =>
      simp only [List.getElem?_cons_zero, Option.some.injEq] at hk
      subst hk
      refine ⟨c1, F1, h3, fun i hi => by rw [h2]; exact List.mem_append_left _ hi, fun j u hj => ?_⟩
      rw [h1, Nat.zero_mul, Nat.zero_add]
      exact (List.getElem?_append_left (List.getElem?_eq_some_iff.1 hj).1).trans hj
    | succ k =>
      obtain ⟨c, F', hR, hF, hc⟩ := h4.get hs k y (by simpa using hk)
      refine ⟨c, F', hR, fun i hi => by rw [h2]; exact List.mem_append_right _ (hF i hi), fun j u hj => ?_⟩
      have hl := hs _ _ _ h3
      rw [h1, List.getElem?_append_right (by rw [hl, Nat.add_mul]; omega), hl, show (k + 1) * s + j - s = k * s + j from by rw [Nat.add_mul]; omega]
      exact hc j u hj
def Alike (F : List Nat) (w w' : World) : Prop := ∀ k ∈ F, w'.heap[k]? = w.heap[k]?
theorem Rep.keep {w w' : World} : ∀ {t : Ty} {cs : List Value} {x : t.den} {F : List Nat}, Rep w t cs x F → Alike F w w' → Rep w' t cs x F
  | .int _, _, _, _, h, _ => h
  | .bool, _, _, _, h, _ => h
  | .str, _, _, _, h, _ => h
  | .slice t, _, _, F, ⟨p, cap, h, hcap, h2⟩, hA => by
    refine ⟨p, cap, h, hcap, ?_⟩
    rcases h2 with h2 | ⟨b, off, bs, F', h0, h3, h4, h5, h6⟩
    · exact .inl h2
    · refine .inr ⟨b, off, bs, F', h0, h3, h4, h5.imp (fun c x F'' hF hR => hR.keep (fun k hk => hA k (by rw [h4]; exact List.mem_cons_of_mem _ (hF k hk)))), fun j u hj => ?_⟩
      have h7 := hA b (by rw [h4]; exact List.mem_cons_self)
      have h8 := h6 j u hj
      unfold World.cell? at h8 ⊢
      simp only at h8 ⊢
      rw [h7]
      exact h8
  | .pair a b, _, _, _, ⟨c1, c2, F1, F2, h1, h2, h3, h4⟩, hA =>
    ⟨c1, c2, F1, F2, h1, h2, h3.keep (fun k hk => hA k (by rw [h2]; exact List.mem_append_left _ hk)), h4.keep (fun k hk => hA k (by rw [h2]; exact List.mem_append_right _ hk))⟩
theorem RepL.lt {α : Type} {R : List Value → α → List Nat → Prop} {B : Nat} (hR : ∀ c x F, R c x F → ∀ k ∈ F, k < B) : ∀ {xs : List α} {cs : List Value} {F : List Nat}, RepL R cs xs F → ∀ k ∈ F, k < B
  | [], _, _, h, k, hk => by rw [h.2] at hk; cases hk
  | x :: xs, cs, F, ⟨c1, c2, F1, F2, h1, h2, h3, h4⟩, k, hk => by
    rw [h2] at hk
    rcases List.mem_append.1 hk with hk | hk
    · exact hR _ _ _ h3 k hk
    · exact h4.lt hR k hk
theorem cell_lt {w : World} {b off : Nat} {u : Value} (h : w.cell? ⟨b, off, none⟩ = some u) : b < w.heap.size := by
  unfold World.cell? at h
  simp only at h
  rcases Nat.lt_or_ge b w.heap.size with h1 | h1
  · exact h1
  · rw [Array.getElem?_eq_none h1] at h; cases h
theorem Ty.size_pos : ∀ t : Ty, 0 < t.size
  | .int _ => Nat.one_pos
  | .bool => Nat.one_pos
  | .str => Nat.one_pos
  | .slice _ => Nat.one_pos
  | .pair a b => by have := a.size_pos; show 0 < a.size + b.size; omega
theorem Rep.lt {w : World} : ∀ {t : Ty} {cs : List Value} {x : t.den} {F : List Nat}, Rep w t cs x F → ∀ k ∈ F, k < w.heap.size
  | .int _, _, _, _, h, k, hk => by rw [h.2] at hk; cases hk
  | .bool, _, _, _, h, k, hk => by rw [h.2] at hk; cases hk
  | .str, _, _, _, h, k, hk => by rw [h.2] at hk; cases hk
  | .slice t, _, xs, F, ⟨p, cap, h, hcap, h2⟩, k, hk => by
    rcases h2 with h2 | ⟨b, off, bs, F', h0, h3, h4, h5, h6⟩
    · rw [h2.2] at hk; cases hk
    · rw [h4] at hk
      cases xs with
      | nil => exact absurd rfl h0
      | cons x xs =>
        rcases List.mem_cons.1 hk with rfl | hk
        · have hlen := h5.length (fun c x F h => Rep.length h)
          have : 0 < bs.length := by rw [hlen, List.length_cons, Nat.add_mul]; have := t.size_pos; omega
          have h8 := h6 0 bs[0] (List.getElem?_eq_getElem this)
          exact cell_lt h8
        · exact h5.lt (fun c x F h => Rep.lt h) k hk
  | .pair a b, _, _, _, ⟨c1, c2, F1, F2, h1, h2, h3, h4⟩, k, hk => by
    rw [h2] at hk
    rcases List.mem_append.1 hk with hk | hk
    · exact h3.lt k hk
    · exact h4.lt k hk
end Go.Proofs.YtkhnponakhabdaaGreatDoor
set_option linter.unusedVariables false
namespace Go.Proofs.YtkhnponakhabdaaGreatDoor
open Go Go.RowKit
variable {P : Program}
theorem Rep.below {w w' : World} {t : Ty} {cs : List Value} {x : t.den} {F : List Nat} (h : Rep w t cs x F) (hb : Below w.heap.size w w') : Rep w' t cs x F :=
  h.keep fun k hk => hb.block k (h.lt k hk)
def Sat (ρ : Operand → Value) (E : Env) : Prop := ∀ x u, ev E x = some u → ρ x = u
def Qt (P : Program) (o : Oper) (E : Env) (w : World) (v : Value) : Prop := ∀ w', Below w.heap.size w w' → ∀ ρ, Sat ρ E → (execOp ρ o).run P w' = .ok (.value v) w'
def wantedE (ops : Array Oper) (E : Env) (o : Oper) : Option Bool :=
  match o.guard with
  | none => some true
  | some (j, b) => match ops[j]? with
    | none => none
    | some oj => match oj.dst with
      | none => none
      | some t => match lk E t with
        | some (.bool c) => some (bif c then b else bif b then false else true)
        | some _ => some false
        | none => none
theorem w_take {ops : Array Oper} {E : Env} {o : Oper} {c b : Bool} (h : wantedE ops E o = some (bif c then b else bif b then false else true)) (hc : c = b) : wantedE ops E o = some true := by rw [h, hc]; cases b <;> rfl
theorem w_skip {ops : Array Oper} {E : Env} {o : Oper} {c b : Bool} (h : wantedE ops E o = some (bif c then b else bif b then false else true)) (hc : c = !b) : wantedE ops E o = some false := by rw [h, hc]; cases b <;> rfl
theorem wanted_of {ops : Array Oper} {E : Env} {o : Oper} {a : Act} {n : Nat} {r : Bool} (ha : Fr a n E) (h : wantedE ops E o = some r) : Region.wanted o (yielded ops a.tmps) = r := by
  unfold wantedE at h
  unfold Region.wanted
  split at h
  · rename_i hg; rw [hg]; simpa using h
  · rename_i j b hg
    rw [hg]
    simp only
    split at h
    · cases h
    · rename_i oj hj
      split at h
      · cases h
      · rename_i t ht
        split at h
        · rename_i c hc
          have := ha.get t _ hc
          simp only [yielded, hj, Option.bind_some, ht, this]
          simp only [Option.some.injEq] at h
          rw [← h]
          cases c <;> cases b <;> rfl
        · rename_i v hv hne
          have := ha.get t _ hne
          simp only [yielded, hj, Option.bind_some, ht, this]
          simp only [Option.some.injEq] at h
          rw [← h]
          cases v <;> first | rfl | exact absurd rfl (hv _)
        · cases h
def evs (E : Env) : List Operand → Option (List Value)
  | [] => some []
  | x :: l => match ev E x with
    | none => none
    | some v => match evs E l with
      | none => none
      | some vs => some (v :: vs)
def Callable (P : Program) (f : FuncId) : Prop := ∃ fn, P.funcs[f]? = some fn ∧ fn.body.isNone = false ∧ (fn.name == "runtime.NumGoroutine") = false
theorem args_of {E : Env} {ρ : Operand → Value} (hρ : Sat ρ E) : ∀ {args : List Operand} {vs : List Value}, evs E args = some vs → args.map ρ = vs
  | [], vs, h => by simpa [evs] using h
  | x :: args, vs, h => by
    simp only [evs] at h
    split at h
    · cases h
    · rename_i v hx
      split at h
      · cases h
      · rename_i vs' ha
        simp only [Option.some.injEq] at h
        rw [← h, List.map_cons, hρ x v hx, args_of hρ ha]
theorem run_call {E : Env} {d : Option Nat} {f : FuncId} {args : List Operand} {vs : List Value} {tys : Array TypeId} {ty : TypeId} {ps : String} {af : Array Edge} {g : Option (Nat × Bool)} {fn : Func}
    (hf : P.funcs[f]? = some fn) (hbody : fn.body.isNone = false) (hname : (fn.name == "runtime.NumGoroutine") = false) (hvs : evs E args = some vs) (ρ : Operand → Value) (hρ : Sat ρ E) (w : World) :
    (execOp ρ ⟨d, .call ⟨.value (.func f), args.toArray, tys⟩, ty, ps, af, g⟩).run P w = .ok (.enter f vs.toArray) w := by
  have hfun : ρ (.func f) = .func (.func f) #[] #[] := hρ _ _ rfl
  have h1 : ¬ fn.name = "runtime.NumGoroutine" := by simpa using hname
  have h2 : ¬ fn.body = none := by intro h; rw [h] at hbody; simp at hbody
  simp [execOp, resolve, Deferred.ofValue, hfun, invoke, callFunc, hf, h1, h2, args_of hρ hvs]
inductive Md where
  | seq (Q : Exit → Act → World → Prop)
  | quiet (Q : Act → Prop)
  | still (Q : Act → Prop)
def Md.kind : Md → Nat
  | .seq _ => 0
  | .quiet _ => 1
  | .still _ => 2
theorem Md.quiet_of {md : Md} (h : md.kind = 1) : ∃ K, md = .quiet K := by cases md <;> first | exact ⟨_, rfl⟩ | cases h
theorem Md.seq_of {md : Md} (h : md.kind = 0) : ∃ Q, md = .seq Q := by cases md <;> first | exact ⟨_, rfl⟩ | cases h
def XL (P : Program) (ops : Array Oper) (n : Nat) (md : Md) (l : List Oper) (E : Env) (w : World) : Prop :=
  match md with
  | .seq Q => ∀ a, Fr a n E → wpList P ops Q l a w
  | .quiet Q => ∀ a, Fr a n E → wpQuiet P ops (fun w' => Below w.heap.size w w') Q l a
  | .still Q => ∀ a, Fr a n E → wpStill P ops w Q l a
section walk
variable {ops : Array Oper} {Q : Exit → Act → World → Prop} {K : Act → Prop} {n : Nat} {md : Md} {l : List Oper} {E : Env} {w : World} {o : Oper}
theorem XL_q {d : Nat} {v : Value} (hw : wantedE ops E o = some true) (hq : Qt P o E w v) (hd : o.dst = some d) (hn : Nat.blt d n = true) (h : XL P ops n md l ((d, v) :: E) w) : XL P ops n md (o :: l) E w := by
  cases md with
  | seq Q =>
    intro a ha
    unfold wpList
    rw [if_pos (wanted_of ha hw)]
    refine .inl ?_
    unfold Oper.wp
    rw [hq w (Below.refl _ _) a.eval (fun x u hx => ha.eval hx)]
    show wpList P ops Q l (a.put o.dst v) w
    rw [hd]
    exact h _ (ha.put hn v)
  | quiet K =>
    intro a ha
    unfold wpQuiet
    rw [if_pos (wanted_of ha hw)]
    refine ⟨v, fun w' hw' => ?_, by rw [hd]; exact h _ (ha.put hn v)⟩
    unfold Oper.quietAt
    rw [hq w' hw' a.eval (fun x u hx => ha.eval hx)]
    exact ⟨rfl, rfl⟩
  | still K =>
    intro a ha
    unfold wpStill
    rw [if_pos (wanted_of ha hw)]
    unfold Oper.still
    rw [hq w (Below.refl _ _) a.eval (fun x u hx => ha.eval hx)]
    exact ⟨rfl, by rw [hd]; exact h _ (ha.put hn v)⟩
theorem vi {k : IntKind} {a b : Int} (h : some a = some b) : Value.int k a = Value.int k b := by rw [Option.some.inj h]
theorem XL_qe {d : Nat} {v u : Value} (hw : wantedE ops E o = some true) (hq : Qt P o E w v) (hv : v = u) (hd : o.dst = some d) (hn : Nat.blt d n = true) (h : XL P ops n md l ((d, u) :: E) w) : XL P ops n md (o :: l) E w := XL_q hw hq hd hn (hv ▸ h)
theorem XL_skip {d : Nat} (hw : wantedE ops E o = some false) (hd : o.dst = some d) (hn : Nat.blt d n = true) (h : XL P ops n md l ((d, undef) :: E) w) : XL P ops n md (o :: l) E w := by
  cases md with
  | seq Q =>
    intro a ha
    unfold wpList
    rw [if_neg (by rw [wanted_of ha hw]; simp), hd]
    exact h _ (ha.put hn undef)
  | quiet K =>
    intro a ha
    unfold wpQuiet
    rw [if_neg (by rw [wanted_of ha hw]; simp), hd]
    exact h _ (ha.put hn undef)
  | still K =>
    intro a ha
    unfold wpStill
    rw [if_neg (by rw [wanted_of ha hw]; simp), hd]
    exact h _ (ha.put hn undef)
theorem XL.sub {E' : Env} (h : XL P ops n md l E' w) (hc : covers E E') : XL P ops n md l E w := by
  cases md with
  | seq Q => exact fun a ha => h a (ha.sub hc)
  | quiet K => exact fun a ha => h a (ha.sub hc)
  | still K => exact fun a ha => h a (ha.sub hc)
theorem SL_nil {Q : Exit → Act → World → Prop} {l2 : List Oper} (h : XL P ops n (.seq Q) l2 E w) : XL P ops n (.still (fun a => wpList P ops Q l2 a w)) [] E w := fun a ha => h a ha
theorem WL_nil (h : ∀ a, Fr a n E → Q .normal a w) : XL P ops n (.seq Q) [] E w := fun a ha => h a ha
theorem WL_nil_seq {y : Code} (h : WP P Q n y E w) : XL P ops n (.seq (Exit.then (y.wp P Q) Q)) [] E w := fun a ha => h a ha
theorem QL_nil (h : ∀ a, Fr a n E → K a) : XL P ops n (.quiet K) [] E w := fun a ha => h a ha
theorem XL_cut (k : Nat) (E' : Env) (h2 : XL P ops n md (l.drop k) E' w) (h1 : ∀ md', md'.kind = md.kind → (∀ E'', Cov E'' E' → XL P ops n md' [] E'' w) → XL P ops n md' (l.take k) E w) : XL P ops n md l E w := by
  have hl : l = l.take k ++ l.drop k := (List.take_append_drop k l).symm
  cases md with
  | seq Q =>
    intro a ha
    have := h1 (.seq (fun e a w' => match e with | .normal => w' = w ∧ Fr a n E' | e => Q e a w')) rfl (fun E'' hc a ha => ⟨rfl, ha.sub' hc⟩) a ha
    rw [hl]
    have key : ∀ (l1 : List Oper) (a : Act) (w1 : World), wpList P ops (fun e a w' => match e with | .normal => w' = w ∧ Fr a n E' | e => Q e a w') l1 a w1 → wpList P ops Q (l1 ++ l.drop k) a w1 := by
      intro l1
      induction l1 with
      | nil => intro a w1 h; obtain ⟨rfl, h⟩ := h; exact h2 a h
      | cons o l1 ih =>
        intro a w1 h
        simp only [List.cons_append]
        unfold wpList at h ⊢
        split
        · rename_i hw
          rw [if_pos hw] at h
          rcases h with h | h
          · refine .inl ?_
            unfold Oper.wp at h ⊢
            generalize (execOp a.eval o).run P w1 = r at h
            cases r with
            | ok x w2 =>
              cases x <;> first
                | exact ih _ _ h
                | exact Calls.mono h (fun e w'' he => by cases e <;> first | exact ih _ _ he | exact he)
                | exact Rows.mono h (fun _ _ he => ih _ _ he)
                | exact h
            | halt x w2 => cases x <;> exact h
          · exact .inr h
        · rename_i hw
          rw [if_neg hw] at h
          exact ih _ _ h
    exact key _ a w this
  | quiet K =>
    intro a ha
    have := h1 (.quiet (fun a => Fr a n E')) rfl (fun E'' hc a ha => ha.sub' hc) a ha
    rw [hl]
    have key : ∀ (l1 : List Oper) (a : Act), wpQuiet P ops (fun w' => Below w.heap.size w w') (fun a => Fr a n E') l1 a → wpQuiet P ops (fun w' => Below w.heap.size w w') K (l1 ++ l.drop k) a := by
      intro l1
      induction l1 with
      | nil => intro a h; exact h2 a h
      | cons o l1 ih =>
        intro a h
        simp only [List.cons_append]
        unfold wpQuiet at h ⊢
        split
        · rename_i hw
          rw [if_pos hw] at h
          obtain ⟨v, h3, h4⟩ := h
          exact ⟨v, h3, ih _ h4⟩
        · rename_i hw
          rw [if_neg hw] at h
          exact ih _ h
    exact key _ a this
  | still K =>
    intro a ha
    have := h1 (.still (fun a => Fr a n E')) rfl (fun E'' hc a ha => ha.sub' hc) a ha
    rw [hl]
    have key : ∀ (l1 : List Oper) (a : Act), wpStill P ops w (fun a => Fr a n E') l1 a → wpStill P ops w K (l1 ++ l.drop k) a := by
      intro l1
      induction l1 with
      | nil => intro a h; exact h2 a h
      | cons o l1 ih =>
        intro a h
        simp only [List.cons_append]
        unfold wpStill at h ⊢
        split
        · rename_i hw
          rw [if_pos hw] at h
          unfold Oper.still at h ⊢
          generalize (execOp a.eval o).run P w = r at h
          cases r with
          | ok x w2 =>
            cases x <;> first
              | exact ⟨h.1, ih _ h.2⟩
              | (obtain ⟨e1, v, h3, h4⟩ := h; exact ⟨e1, v, h3, ih _ h4⟩)
              | exact h
          | halt x w2 => exact h
        · rename_i hw
          rw [if_neg hw] at h
          exact ih _ h
    exact key _ a this
theorem XL_join (k d : Nat) (v : Value) (h2 : XL P ops n md (l.drop k) ((d, v) :: E) w) (h1 : ∀ md', md'.kind = md.kind → (∀ E'', Cov E'' ((d, v) :: E) → XL P ops n md' [] E'' w) → XL P ops n md' (l.take k) E w) : XL P ops n md l E w :=
  XL_cut k ((d, v) :: E) h2 h1
theorem WL_call {d : Nat} {f : FuncId} {args : List Operand} {vs : List Value} {tys : Array TypeId} {ty : TypeId} {ps : String} {af : Array Edge} {g : Option (Nat × Bool)} {R : Ending → World → Prop}
    (hw : wantedE ops E ⟨some d, .call ⟨.value (.func f), args.toArray, tys⟩, ty, ps, af, g⟩ = some true) (hvs : evs E args = some vs)
    (hf : Callable P f) (hc : Calls P f vs.toArray w R) (hn : Nat.blt d n = true) (h : ∀ e w', R e w' → ∃ v, e = .returned v ∧ XL P ops n (.seq Q) l ((d, v) :: E) w') :
    XL P ops n (.seq Q) (⟨some d, .call ⟨.value (.func f), args.toArray, tys⟩, ty, ps, af, g⟩ :: l) E w := by
  obtain ⟨fn, hfn, hbody, hname⟩ := hf
  intro a ha
  unfold wpList
  rw [if_pos (wanted_of ha hw)]
  refine .inl ?_
  unfold Oper.wp
  rw [run_call hfn hbody hname hvs a.eval (fun x u hx => ha.eval hx) w]
  refine hc.mono fun e w' hR => ?_
  obtain ⟨v, rfl, hk⟩ := h e w' hR
  exact hk _ (ha.put hn v)
theorem QL_call {d : Nat} {f : FuncId} {args : List Operand} {vs : List Value} {tys : Array TypeId} {ty : TypeId} {ps : String} {af : Array Edge} {g : Option (Nat × Bool)} {v : Value}
    (hw : wantedE ops E ⟨some d, .call ⟨.value (.func f), args.toArray, tys⟩, ty, ps, af, g⟩ = some true) (hvs : evs E args = some vs)
    (hf : Callable P f) (hc : ∀ w', Below w.heap.size w w' → Calls P f vs.toArray w' (fun e w'' => e = .returned v ∧ Below w'.heap.size w' w'')) (hn : Nat.blt d n = true) (h : XL P ops n (.quiet K) l ((d, v) :: E) w) :
    XL P ops n (.quiet K) (⟨some d, .call ⟨.value (.func f), args.toArray, tys⟩, ty, ps, af, g⟩ :: l) E w := by
  obtain ⟨fn, hfn, hbody, hname⟩ := hf
  intro a ha
  unfold wpQuiet
  rw [if_pos (wanted_of ha hw)]
  refine ⟨v, fun w' hw' => ?_, h _ (ha.put hn v)⟩
  unfold Oper.quietAt
  rw [run_call hfn hbody hname hvs a.eval (fun x u hx => ha.eval hx) w']
  exact ⟨rfl, (hc w' hw').mono fun e w'' ⟨he, hb⟩ => ⟨he, hw'.trans (hb.mono hw'.size)⟩⟩
end walk
theorem WP_region {Q : Exit → Act → World → Prop} {n id : Nat} {l : List Oper} {E : Env} {w : World} (h : XL P l.toArray n (.seq Q) l E w) : WP P Q n (.region id l.toArray false) E w := fun a ha => wp_region_lit (h a ha)
theorem WP_quiet {Q : Exit → Act → World → Prop} {n id : Nat} {l : List Oper} {E : Env} {w : World} (hm : P.follows .mixedOrders = true) (hB : Region.lexB .any l.toArray = true)
    (h : XL P l.toArray n (.quiet (fun a => ∀ w', Below w.heap.size w w' → Q .normal a w')) l E w) : WP P Q n (.region id l.toArray true) E w := fun a ha =>
  wp_region_quiet (C := fun w' => Below w.heap.size w w') hm hB ⟨rfl, rfl, rfl, Nat.le_refl _, fun _ _ => rfl⟩ (by simpa using h a ha)
theorem wpList_of_quiet {ops : Array Oper} {C : World → Prop} {K : Act → Prop} {Q : Exit → Act → World → Prop} (hK : ∀ a w, C w → K a → Q .normal a w) : ∀ (l : List Oper) (a : Act) (w : World), C w → wpQuiet P ops C K l a → wpList P ops Q l a w
  | [], a, w, hw, h => hK a w hw h
  | o :: l, a, w, hw, h => by
    unfold wpQuiet at h
    unfold wpList
    split
    · rename_i hx
      rw [if_pos hx] at h
      exact .inl (Oper.wp_of_quiet hw (fun a' w' hw' h' => wpList_of_quiet hK l a' w' hw' h') h)
    · rename_i hx
      rw [if_neg hx] at h
      exact wpList_of_quiet hK l _ w hw h
theorem WP_still {Q : Exit → Act → World → Prop} {n id : Nat} {l : List Oper} {E : Env} {w : World}
    (h : XL P l.toArray n (.quiet (fun a => ∀ w', Below w.heap.size w w' → Q .normal a w')) l E w) : WP P Q n (.region id l.toArray false) E w := fun a ha =>
  wp_region_lit (wpList_of_quiet (C := fun w' => Below w.heap.size w w') (fun a w' hw' h => h w' hw') l a w (Below.refl _ _) (h a ha))
theorem WP_tail {Q : Exit → Act → World → Prop} {n id : Nat} {l : List Oper} {E : Env} {w : World} (k : Nat) (hm : P.follows .mixedOrders = true) (hB : Region.lexTailB .any l.toArray k = true)
    (h : ∀ w', Below w.heap.size w w' → XL P l.toArray n (.still (fun a => wpList P l.toArray Q (l.drop k) a w')) (l.take k) E w') : WP P Q n (.region id l.toArray true) E w := fun a ha =>
  wp_region_still_tail k hm hB (h { w with drawn := w.drawn + 1 } ⟨rfl, rfl, rfl, Nat.le_refl _, fun _ _ => rfl⟩ a ha)
section ops
variable {E : Env} {w : World} {d : Option Nat} {ty : TypeId} {ps : String} {af : Array Edge} {g : Option (Nat × Bool)} {x y z : Operand} {T U : TypeId}
theorem qt_move {v : Value} (hx : ev E x = some v) : Qt P ⟨d, .move x, ty, ps, af, g⟩ E w v := fun w' _ ρ hρ => by simp [execOp, hρ x v hx]
theorem qt_assign {v : Value} (hx : ev E x = some v) : Qt P ⟨d, .assign x, ty, ps, af, g⟩ E w v := fun w' _ ρ hρ => by simp [execOp, hρ x v hx]
theorem qt_pick_t {v : Value} (hc : ev E x = some (.bool true)) (hx : ev E y = some v) : Qt P ⟨d, .pick x y z, ty, ps, af, g⟩ E w v := fun w' _ ρ hρ => by simp [execOp, hρ x _ hc, hρ y _ hx, asBool]
theorem qt_pick_f {v : Value} (hc : ev E x = some (.bool false)) (hx : ev E z = some v) : Qt P ⟨d, .pick x y z, ty, ps, af, g⟩ E w v := fun w' _ ρ hρ => by simp [execOp, hρ x _ hc, hρ z _ hx, asBool]
theorem qt_pickT {v : Value} {c : Bool} (hc : ev E x = some (.bool c)) (h : c = true) (hx : ev E y = some v) : Qt P ⟨d, .pick x y z, ty, ps, af, g⟩ E w v := qt_pick_t (by rw [hc, h]) hx
theorem qt_pickF {v : Value} {c : Bool} (hc : ev E x = some (.bool c)) (h : c = false) (hx : ev E z = some v) : Qt P ⟨d, .pick x y z, ty, ps, af, g⟩ E w v := qt_pick_f (by rw [hc, h]) hx
variable {k : IntKind} {m n : Int}
theorem qt_add (hx : ev E x = some (.int k m)) (hy : ev E y = some (.int k n)) : Qt P ⟨d, .binOp .add T x y U, ty, ps, af, g⟩ E w (.int k (k.wrap (m + n))) := fun w' _ ρ hρ => by
  simp [execOp, hρ x _ hx, hρ y _ hy, eqGuard, binOp, Op.intArith]
theorem qt_sub (hx : ev E x = some (.int k m)) (hy : ev E y = some (.int k n)) : Qt P ⟨d, .binOp .sub T x y U, ty, ps, af, g⟩ E w (.int k (k.wrap (m - n))) := fun w' _ ρ hρ => by
  simp [execOp, hρ x _ hx, hρ y _ hy, eqGuard, binOp, Op.intArith]
theorem qt_mul (hx : ev E x = some (.int k m)) (hy : ev E y = some (.int k n)) : Qt P ⟨d, .binOp .mul T x y U, ty, ps, af, g⟩ E w (.int k (k.wrap (m * n))) := fun w' _ ρ hρ => by
  simp [execOp, hρ x _ hx, hρ y _ hy, eqGuard, binOp, Op.intArith]
theorem qt_quo (hx : ev E x = some (.int k m)) (hy : ev E y = some (.int k n)) (hn : (n == 0) = false) : Qt P ⟨d, .binOp .quo T x y U, ty, ps, af, g⟩ E w (.int k (k.wrap (m.tdiv n))) := fun w' _ ρ hρ => by
  have : ¬ n = 0 := by simpa using hn
  simp [execOp, hρ x _ hx, hρ y _ hy, eqGuard, binOp, Op.intDiv, this]
theorem qt_rem (hx : ev E x = some (.int k m)) (hy : ev E y = some (.int k n)) (hn : (n == 0) = false) : Qt P ⟨d, .binOp .rem T x y U, ty, ps, af, g⟩ E w (.int k (m.tmod n)) := fun w' _ ρ hρ => by
  have : ¬ n = 0 := by simpa using hn
  simp [execOp, hρ x _ hx, hρ y _ hy, eqGuard, binOp, Op.intDiv, this]
def iand (k : IntKind) (m n : Int) : Int := k.wrap (BitVec.ofInt k.bits m &&& BitVec.ofInt k.bits n).toNat
def ior (k : IntKind) (m n : Int) : Int := k.wrap (BitVec.ofInt k.bits m ||| BitVec.ofInt k.bits n).toNat
def ixor (k : IntKind) (m n : Int) : Int := k.wrap (BitVec.ofInt k.bits m ^^^ BitVec.ofInt k.bits n).toNat
theorem qt_and (hx : ev E x = some (.int k m)) (hy : ev E y = some (.int k n)) : Qt P ⟨d, .binOp .and T x y U, ty, ps, af, g⟩ E w (.int k (iand k m n)) := fun w' _ ρ hρ => by
  simp [execOp, hρ x _ hx, hρ y _ hy, eqGuard, binOp, Op.intBits, iand]
theorem qt_or (hx : ev E x = some (.int k m)) (hy : ev E y = some (.int k n)) : Qt P ⟨d, .binOp .or T x y U, ty, ps, af, g⟩ E w (.int k (ior k m n)) := fun w' _ ρ hρ => by
  simp [execOp, hρ x _ hx, hρ y _ hy, eqGuard, binOp, Op.intBits, ior]
theorem qt_xor (hx : ev E x = some (.int k m)) (hy : ev E y = some (.int k n)) : Qt P ⟨d, .binOp .xor T x y U, ty, ps, af, g⟩ E w (.int k (ixor k m n)) := fun w' _ ρ hρ => by
  simp [execOp, hρ x _ hx, hρ y _ hy, eqGuard, binOp, Op.intBits, ixor]
def ishl (k : IntKind) (m n : Int) : Int := k.wrap (m * 2 ^ min n.toNat k.bits)
def ishr (k : IntKind) (m n : Int) : Int := m.fdiv (2 ^ min n.toNat k.bits)
def iquoO (k : IntKind) (m n : Int) : Option Int := if n == 0 then none else some (k.wrap (m.tdiv n))
def iremO (_k : IntKind) (m n : Int) : Option Int := if n == 0 then none else some (m.tmod n)
def ishlO (k : IntKind) (m n : Int) : Option Int := if decide (n < 0) then none else some (ishl k m n)
def ishrO (k : IntKind) (m n : Int) : Option Int := if decide (n < 0) then none else some (ishr k m n)
variable {k' : IntKind}
theorem qt_shl (hx : ev E x = some (.int k m)) (hy : ev E y = some (.int k' n)) (hn : decide (n < 0) = false) : Qt P ⟨d, .binOp .shl T x y U, ty, ps, af, g⟩ E w (.int k (ishl k m n)) := fun w' _ ρ hρ => by
  have : ¬ n < 0 := by simpa using hn
  simp [execOp, hρ x _ hx, hρ y _ hy, eqGuard, binOp, Op.shift, this, ishl]
theorem qt_shr (hx : ev E x = some (.int k m)) (hy : ev E y = some (.int k' n)) (hn : decide (n < 0) = false) : Qt P ⟨d, .binOp .shr T x y U, ty, ps, af, g⟩ E w (.int k (ishr k m n)) := fun w' _ ρ hρ => by
  have : ¬ n < 0 := by simpa using hn
  simp [execOp, hρ x _ hx, hρ y _ hy, eqGuard, binOp, Op.shift, this, ishr]
theorem opt_if {b : Bool} {α : Type} {x u : α} (h : (if b then none else some x) = some u) : b = false ∧ x = u := by cases b <;> simp_all
theorem qt_quoO {u : Int} (hx : ev E x = some (.int k m)) (hy : ev E y = some (.int k n)) (hu : iquoO k m n = some u) : Qt P ⟨d, .binOp .quo T x y U, ty, ps, af, g⟩ E w (.int k u) := by obtain ⟨h1, rfl⟩ := opt_if hu; exact qt_quo hx hy h1
theorem qt_remO {u : Int} (hx : ev E x = some (.int k m)) (hy : ev E y = some (.int k n)) (hu : iremO k m n = some u) : Qt P ⟨d, .binOp .rem T x y U, ty, ps, af, g⟩ E w (.int k u) := by obtain ⟨h1, rfl⟩ := opt_if hu; exact qt_rem hx hy h1
theorem qt_shlO {u : Int} (hx : ev E x = some (.int k m)) (hy : ev E y = some (.int k' n)) (hu : ishlO k m n = some u) : Qt P ⟨d, .binOp .shl T x y U, ty, ps, af, g⟩ E w (.int k u) := by obtain ⟨h1, rfl⟩ := opt_if hu; exact qt_shl hx hy h1
theorem qt_shrO {u : Int} (hx : ev E x = some (.int k m)) (hy : ev E y = some (.int k' n)) (hu : ishrO k m n = some u) : Qt P ⟨d, .binOp .shr T x y U, ty, ps, af, g⟩ E w (.int k u) := by obtain ⟨h1, rfl⟩ := opt_if hu; exact qt_shr hx hy h1
theorem qt_eql (hx : ev E x = some (.int k m)) (hy : ev E y = some (.int k n)) : Qt P ⟨d, .binOp .eql T x y U, ty, ps, af, g⟩ E w (.bool (m == n)) := fun w' _ ρ hρ => by
  simp [execOp, hρ x _ hx, hρ y _ hy, eqGuard, binOp, Op.intCmp]
theorem qt_neq (hx : ev E x = some (.int k m)) (hy : ev E y = some (.int k n)) : Qt P ⟨d, .binOp .neq T x y U, ty, ps, af, g⟩ E w (.bool (m != n)) := fun w' _ ρ hρ => by
  simp [execOp, hρ x _ hx, hρ y _ hy, eqGuard, binOp, Op.intCmp]
theorem qt_lss (hx : ev E x = some (.int k m)) (hy : ev E y = some (.int k n)) : Qt P ⟨d, .binOp .lss T x y U, ty, ps, af, g⟩ E w (.bool (decide (m < n))) := fun w' _ ρ hρ => by
  simp [execOp, hρ x _ hx, hρ y _ hy, eqGuard, binOp, Op.intCmp]
theorem qt_leq (hx : ev E x = some (.int k m)) (hy : ev E y = some (.int k n)) : Qt P ⟨d, .binOp .leq T x y U, ty, ps, af, g⟩ E w (.bool (decide (m ≤ n))) := fun w' _ ρ hρ => by
  simp [execOp, hρ x _ hx, hρ y _ hy, eqGuard, binOp, Op.intCmp]
theorem qt_gtr (hx : ev E x = some (.int k m)) (hy : ev E y = some (.int k n)) : Qt P ⟨d, .binOp .gtr T x y U, ty, ps, af, g⟩ E w (.bool (decide (m > n))) := fun w' _ ρ hρ => by
  simp [execOp, hρ x _ hx, hρ y _ hy, eqGuard, binOp, Op.intCmp]
theorem qt_geq (hx : ev E x = some (.int k m)) (hy : ev E y = some (.int k n)) : Qt P ⟨d, .binOp .geq T x y U, ty, ps, af, g⟩ E w (.bool (decide (m ≥ n))) := fun w' _ ρ hρ => by
  simp [execOp, hρ x _ hx, hρ y _ hy, eqGuard, binOp, Op.intCmp]
theorem qt_not {b : Bool} (hx : ev E x = some (.bool b)) : Qt P ⟨d, .unOp .not T x, ty, ps, af, g⟩ E w (.bool (!b)) := fun w' _ ρ hρ => by
  simp [execOp, hρ x _ hx, Op.unary]
theorem qt_neg (hx : ev E x = some (.int k m)) : Qt P ⟨d, .unOp .neg T x, ty, ps, af, g⟩ E w (.int k (k.wrap (-m))) := fun w' _ ρ hρ => by
  simp [execOp, hρ x _ hx, Op.unary, Op.intArith]
theorem run_equal_bool {a b : Bool} (hT : P.underlying T = some .bool) (w : World) : (Op.equal T (.bool a) (.bool b)).run P w = .ok (a == b) w := by
  show (Op.equalIn (9999 + 1) T _ _).run P w = _
  unfold Op.equalIn
  simp [run_underlying hT]
theorem qt_beql {a b : Bool} (hT : P.underlying T = some .bool) (hx : ev E x = some (.bool a)) (hy : ev E y = some (.bool b)) : Qt P ⟨d, .binOp .eql T x y U, ty, ps, af, g⟩ E w (.bool (a == b)) := fun w' _ ρ hρ => by
  have hb : binOp .eql T (.bool a) (.bool b) = (do pure (.bool (← Op.equal T (.bool a) (.bool b)))) := rfl
  simp [execOp, hρ x _ hx, hρ y _ hy, eqGuard, hb, run_equal_bool hT]
theorem qt_int (hT : P.underlying T = some (.int k)) {k0 : IntKind} (hx : ev E x = some (.int k0 m)) {S : TypeId} (hS : P.underlying S = some (.int k0)) : Qt P ⟨d, .convert S T x, ty, ps, af, g⟩ E w (.int k (k.wrap m)) := fun w' _ ρ hρ => by
  simp [execOp, hρ x _ hx, convert, run_underlying hT, run_underlying hS, Conv.intToInt]
theorem qt_len {e : TypeId} {p : Option Addr} {len cap : Nat} (hT : P.underlying T = some (.slice e)) (hx : ev E x = some (.slice p len cap)) : Qt P ⟨d, .call ⟨.builtin .len, #[x], #[T]⟩, ty, ps, af, g⟩ E w (i64 len) := fun w' _ ρ hρ => by
  simp [execOp, hρ x _ hx, resolve, invoke, builtin, Builtin.len_, run_underlying hT, goInt]
theorem qt_lenS {s : ByteArray} (hT : P.underlying T = some .string) (hx : ev E x = some (.string s)) : Qt P ⟨d, .call ⟨.builtin .len, #[x], #[T]⟩, ty, ps, af, g⟩ E w (i64 s.size) := fun w' _ ρ hρ => by
  simp [execOp, hρ x _ hx, resolve, invoke, builtin, Builtin.len_, run_underlying hT, goInt]
theorem qt_min (hx : ev E x = some (.int k m)) (hy : ev E y = some (.int k n)) {tys : Array TypeId} : Qt P ⟨d, .call ⟨.builtin .min, #[x, y], tys⟩, ty, ps, af, g⟩ E w (.int k (if n < m then n else m)) := fun w' _ ρ hρ => by
  simp [execOp, hρ x _ hx, hρ y _ hy, resolve, invoke, builtin, Builtin.min_, Builtin.min2]
theorem qt_max (hx : ev E x = some (.int k m)) (hy : ev E y = some (.int k n)) {tys : Array TypeId} : Qt P ⟨d, .call ⟨.builtin .max, #[x, y], tys⟩, ty, ps, af, g⟩ E w (.int k (if n > m then n else m)) := fun w' _ ρ hρ => by
  simp [execOp, hρ x _ hx, hρ y _ hy, resolve, invoke, builtin, Builtin.max_, Builtin.max2]
end ops
end Go.Proofs.YtkhnponakhabdaaGreatDoor
set_option linter.unusedVariables false
namespace Go.Proofs.YtkhnponakhabdaaGreatDoor
open Go Go.RowKit
variable {P : Program}
def geti {α : Type} (xs : List α) (k : Int) : Option α := if 0 ≤ k then xs[k.toNat]? else none
theorem geti_lt {α : Type} {xs : List α} {k : Int} {u : α} (h : geti xs k = some u) : 0 ≤ k ∧ k.toNat < xs.length := by
  unfold geti at h
  split at h
  · rename_i h0; exact ⟨h0, (List.getElem?_eq_some_iff.1 h).1⟩
  · cases h
def AtP (w : World) (t : Ty) (b off : Nat) (x : t.den) (F : List Nat) : Prop := ∃ cs, Rep w t cs x F ∧ ∀ j u, cs[j]? = some u → w.cell? ⟨b, off + j, none⟩ = some u
theorem AtP.below {w w' : World} {t : Ty} {b off : Nat} {x : t.den} {F : List Nat} (h : AtP w t b off x F) (hb : Below w.heap.size w w') : AtP w' t b off x F := by
  obtain ⟨cs, h1, h2⟩ := h
  exact ⟨cs, h1.below hb, fun j u hj => by have := h2 j u hj; rw [hb.cell (p := ⟨b, off + j, none⟩) (cell_lt this)]; exact this⟩
theorem Addr.add_none (b off n : Nat) : (⟨b, off, none⟩ : Addr).add n = ⟨b, off + n, none⟩ := by
  unfold Addr.add; split <;> simp_all
theorem Rep.at {w : World} {t : Ty} {v : Value} {xs : List t.den} {F : List Nat} {k : Int} {z : t.den} (h : Rep w (.slice t) [v] xs F) (hk : geti xs k = some z) :
    ∃ b o cap F', v = .slice (some ⟨b, o, none⟩) xs.length cap ∧ 0 ≤ k ∧ k.toNat < xs.length ∧ b ∈ F ∧ AtP w t b (o + k.toNat * t.size) z F' ∧ ∀ i ∈ F', i ∈ F := by
  obtain ⟨p, cap, h1, hcap, h2⟩ := h
  have h0 : 0 ≤ k := by unfold geti at hk; split at hk <;> first | assumption | cases hk
  have hz : xs[k.toNat]? = some z := by unfold geti at hk; rw [if_pos h0] at hk; exact hk
  have hlt := (List.getElem?_eq_some_iff.1 hz).1
  rcases h2 with h2 | ⟨b, off, bs, F', h0', h3, h4, h5, h6⟩
  · rw [h2.1] at hlt; simp at hlt
  · simp only [List.cons.injEq, and_true] at h1
    obtain ⟨c, F'', hR, hF, hc⟩ := h5.get (fun c x F h => Rep.length h) k.toNat z hz
    exact ⟨b, off, cap, F'', by rw [h1, h3], h0, hlt, by rw [h4]; exact List.mem_cons_self, ⟨c, hR, fun j u hj => by rw [Nat.add_assoc]; exact h6 _ _ (hc j u hj)⟩, fun i hi => by rw [h4]; exact List.mem_cons_of_mem _ (hF i hi)⟩
theorem Rep.len {w : World} {t : Ty} {v : Value} {xs : List t.den} {F : List Nat} (h : Rep w (.slice t) [v] xs F) : ∃ p cap, v = .slice p xs.length cap := by
  obtain ⟨p, cap, h1, h2⟩ := h
  simp only [List.cons.injEq, and_true] at h1
  exact ⟨p, cap, h1⟩
section
variable {ops : Array Oper} {n : Nat} {md : Md} {l : List Oper} {E : Env} {w : World} {d : Nat} {ty : TypeId} {ps : String} {af : Array Edge} {g : Option (Nat × Bool)} {x y z : Operand} {T : TypeId}
def oneB : TypeDesc → Bool
  | .struct _ => false
  | .array _ _ => false
  | _ => true
theorem run_isAgg {ds : TypeDesc} (hT : P.underlying T = some ds) (h : oneB ds = true) (w : World) : (isAgg T).run P w = .ok false w := by
  cases ds <;> simp_all [isAgg, run_underlying hT, oneB]
theorem XL_load {t : Ty} {ds : TypeDesc} {b o : Nat} {u : t.den} {F : List Nat} (hT : P.underlying T = some ds) (ho : oneB ds = true) (ht : t.size = 1) (hat : AtP w t b o u F)
    (hw : wantedE ops E ⟨some d, .load T x, ty, ps, af, g⟩ = some true) (hx : ev E x = some (.pointer (some ⟨b, o, none⟩))) (hn : Nat.blt d n = true)
    (h : ∀ v, Rep w t [v] u F → XL P ops n md l ((d, v) :: E) w) : XL P ops n md (⟨some d, .load T x, ty, ps, af, g⟩ :: l) E w := by
  obtain ⟨cs, hr, hc⟩ := hat
  have hl := hr.length
  rw [ht] at hl
  obtain ⟨v, rfl⟩ := List.length_eq_one_iff.1 hl
  have hcell := hc 0 v rfl
  refine XL_q (v := v) hw ?_ rfl hn (h v hr)
  intro w' hb ρ hρ
  have hcell' : w'.cell? ⟨b, o, none⟩ = some v := by rw [hb.cell (p := ⟨b, o, none⟩) (cell_lt hcell)]; exact hcell
  simp [execOp, hρ x _ hx, Instr.loadAt, Instr.sureAddr, loadVar, run_isAgg hT ho, load, Sem.run, hcell']
theorem XL_load_int {k : IntKind} {ds : TypeDesc} {b o : Nat} {u : Int} {F : List Nat} (hT : P.underlying T = some ds) (ho : oneB ds = true) (hat : AtP w (.int k) b o u F)
    (hw : wantedE ops E ⟨some d, .load T x, ty, ps, af, g⟩ = some true) (hx : ev E x = some (.pointer (some ⟨b, o, none⟩))) (hn : Nat.blt d n = true)
    (h : XL P ops n md l ((d, .int k u) :: E) w) : XL P ops n md (⟨some d, .load T x, ty, ps, af, g⟩ :: l) E w :=
  XL_load hT ho rfl hat hw hx hn fun v hv => by obtain ⟨h1, _⟩ := hv; simp only [List.cons.injEq, and_true] at h1; rw [h1]; exact h
end
end Go.Proofs.YtkhnponakhabdaaGreatDoor
set_option linter.unusedVariables false
namespace Go.Proofs.YtkhnponakhabdaaGreatDoor
open Go Go.RowKit
variable {P : Program}
structure Chg (F : List Nat) (w w' : World) : Prop where
  os : w'.os = w.os
  tape : w'.tape = w.tape
  output : w'.output = w.output
  size : w.heap.size ≤ w'.heap.size
  block : ∀ k, k < w.heap.size → k ∉ F → w'.heap[k]? = w.heap[k]?
theorem Chg.below {F : List Nat} {w0 w w' : World} (h : Chg F w w') (hb : Below w0.heap.size w0 w) (hF : ∀ k ∈ F, w0.heap.size ≤ k) : Below w0.heap.size w0 w' :=
  hb.trans ⟨h.os, h.tape, h.output, h.size, fun k hk => h.block k (Nat.lt_of_lt_of_le hk hb.size) (fun hm => by have := hF k hm; omega)⟩
theorem Chg.refl (F : List Nat) (w : World) : Chg F w w := ⟨rfl, rfl, rfl, Nat.le_refl _, fun _ _ _ => rfl⟩
theorem Chg.trans {F : List Nat} {a b c : World} (h : Chg F a b) (k : Chg F b c) : Chg F a c :=
  ⟨k.os.trans h.os, k.tape.trans h.tape, k.output.trans h.output, Nat.le_trans h.size k.size, fun i hi hm => (k.block i (Nat.lt_of_lt_of_le hi h.size) hm).trans (h.block i hi hm)⟩
theorem chg_trans_below {F : List Nat} {a b c : World} (h : Chg F a b) (k : Below b.heap.size b c) : Chg F a c :=
  h.trans ⟨k.os, k.tape, k.output, k.size, fun i hi _ => k.block i hi⟩
def Dj (F G : List Nat) : Prop := ∀ k ∈ F, k ∉ G
theorem Dj.symm {F G : List Nat} (h : Dj F G) : Dj G F := fun k hk hk' => h k hk' hk
theorem Rep.chg {F G : List Nat} {w w' : World} {t : Ty} {cs : List Value} {x : t.den} (h : Rep w t cs x G) (hc : Chg F w w') (hd : Dj F G) : Rep w' t cs x G :=
  h.keep fun k hk => hc.block k (h.lt k hk) (fun hm => hd k hm hk)
theorem chg_of_below {w w' : World} (h : Below w.heap.size w w') : Chg [] w w' := ⟨h.os, h.tape, h.output, h.size, fun k hk _ => h.block k hk⟩
theorem grown_chg {w w' : World} {v : Value} (h : w.grownBy w' v.ownBlock) : Chg v.ownBlock.toList w w' :=
  ⟨h.os, h.tape, h.output, h.size, fun k hk hm => h.block k hk (fun e => hm (by rw [← e]; simp))⟩
def Own (w : World) (e : TypeId) (t : Ty) (v : Value) (xs : List t.den) (F : List Nat) : Prop :=
  ∃ cs Fe, w.ownsRow 0 e t.size v xs.length cs ∧ RepL (Rep w t) cs xs Fe ∧ F = v.ownBlock.toList ++ Fe ∧ Dj v.ownBlock.toList Fe
theorem Own.nil (w : World) (e : TypeId) (t : Ty) : Own w e t (.slice none 0 0) [] [] :=
  ⟨[], [], World.ownsRow_nil w 0 e t.size, ⟨rfl, rfl⟩, rfl, fun k hk => by cases hk⟩
theorem Own.lt {w : World} {e : TypeId} {t : Ty} {v : Value} {xs : List t.den} {F : List Nat} (h : Own w e t v xs F) : ∀ k ∈ F, k < w.heap.size := by
  obtain ⟨cs, Fe, h1, h2, rfl, _⟩ := h
  intro k hk
  rcases List.mem_append.1 hk with hk | hk
  · exact (h1.lt k (by simpa using hk)).2
  · exact h2.lt (fun c x F h => Rep.lt h) k hk
theorem Own.chg {F G : List Nat} {w w' : World} {e : TypeId} {t : Ty} {v : Value} {xs : List t.den} (h : Own w e t v xs G) (hc : Chg F w w') (hd : Dj F G) : Own w' e t v xs G := by
  have hlt := h.lt
  obtain ⟨cs, Fe, h1, h2, rfl, h4⟩ := h
  have hA : ∀ k ∈ v.ownBlock.toList ++ Fe, w'.heap[k]? = w.heap[k]? := fun k hk => hc.block k (hlt k hk) (fun hm => hd k hm hk)
  refine ⟨cs, Fe, ?_, h2.imp (fun c x F' hF hR => hR.keep (fun k hk => hA k (List.mem_append_right _ (hF k hk)))), rfl, h4⟩
  obtain ⟨h5, h6⟩ := h1
  refine ⟨h5, ?_⟩
  rcases h6 with h6 | ⟨b, cap, cur, rfl, hb, hg, rest⟩
  · exact .inl h6
  · exact .inr ⟨b, cap, cur, rfl, hb, by rw [hA b (by simp [Value.ownBlock])]; exact hg, rest⟩
theorem Own.below {G : List Nat} {w w' : World} {e : TypeId} {t : Ty} {v : Value} {xs : List t.den} (h : Own w e t v xs G) (hb : Below w.heap.size w w') : Own w' e t v xs G :=
  h.chg (chg_of_below hb) (fun k hk => by cases hk)
theorem Own.rep {w : World} {e : TypeId} {t : Ty} {v : Value} {xs : List t.den} {F : List Nat} (h : Own w e t v xs F) : ∃ F', Rep w (.slice t) [v] xs F' ∧ ∀ k ∈ F', k ∈ F := by
  obtain ⟨cs, Fe, h1, h2, rfl, _⟩ := h
  have hlen := h2.length (fun c x F h => Rep.length h)
  by_cases hx : xs = []
  · subst hx
    obtain ⟨h5, h6⟩ := h1
    rcases h6 with ⟨rfl, _⟩ | ⟨b, cap, cur, rfl, _⟩
    · exact ⟨[], ⟨none, 0, rfl, Nat.le_refl _, .inl ⟨rfl, rfl⟩⟩, fun k hk => by cases hk⟩
    · exact ⟨[], ⟨some ⟨b, 0, none⟩, cap, rfl, Nat.zero_le _, .inl ⟨rfl, rfl⟩⟩, fun k hk => by cases hk⟩
  · have h1' := h1
    obtain ⟨h5, h6⟩ := h1
    rcases h6 with ⟨rfl, h7⟩ | ⟨b, cap, cur, rfl, _, hg, hncap, _⟩
    · exact absurd (List.eq_nil_of_length_eq_zero h7) hx
    · refine ⟨b :: Fe, ⟨some ⟨b, 0, none⟩, cap, rfl, hncap, .inr ⟨b, 0, cs, Fe, hx, rfl, rfl, h2, fun j u hj => ?_⟩⟩, fun k hk => ?_⟩
      · have := h1'.cells (g := b) rfl j u hj
        rwa [Addr.add_none] at this
      · simpa [Value.ownBlock] using hk
def room (n : Nat) : Bool := Nat.ble n 1099511627776
def appO {α : Type} (xs ys : List α) : Option (List α) := if room (xs.length + ys.length) then some (xs ++ ys) else none
theorem appO_some {α : Type} {xs ys zs : List α} (h : appO xs ys = some zs) : xs.length + ys.length ≤ 1099511627776 ∧ zs = xs ++ ys := by
  unfold appO at h
  split at h
  · rename_i hr; exact ⟨by simpa [room] using hr, (Option.some.inj h).symm⟩
  · cases h
theorem RepL.append {α : Type} {R : List Value → α → List Nat → Prop} : ∀ {xs ys : List α} {cs ds : List Value} {F G : List Nat}, RepL R cs xs F → RepL R ds ys G → RepL R (cs ++ ds) (xs ++ ys) (F ++ G)
  | [], _, _, _, _, _, h, k => by rw [h.1, h.2]; exact k
  | x :: xs, ys, cs, ds, F, G, ⟨c1, c2, F1, F2, h1, h2, h3, h4⟩, k => ⟨c1, c2 ++ ds, F1, F2 ++ G, by rw [h1, List.append_assoc], by rw [h2, List.append_assoc], h3, h4.append k⟩
theorem Rep.one {w : World} : ∀ {t : Ty} {cs : List Value} {x : t.den} {F : List Nat}, Rep w t cs x F → ∀ u ∈ cs, u.oneCell' = true
  | .int _, _, _, _, h, u, hu => by rw [h.1] at hu; simp at hu; subst hu; rfl
  | .bool, _, _, _, h, u, hu => by rw [h.1] at hu; simp at hu; subst hu; rfl
  | .str, _, _, _, h, u, hu => by rw [h.1] at hu; simp at hu; subst hu; rfl
  | .slice _, _, _, _, ⟨p, cap, h, _⟩, u, hu => by rw [h] at hu; simp at hu; subst hu; rfl
  | .pair a b, _, _, _, ⟨c1, c2, F1, F2, h1, h2, h3, h4⟩, u, hu => by
    rw [h1] at hu
    rcases List.mem_append.1 hu with hu | hu
    · exact h3.one u hu
    · exact h4.one u hu
theorem RepL.one {α : Type} {R : List Value → α → List Nat → Prop} (hR : ∀ c x F, R c x F → ∀ u ∈ c, u.oneCell' = true) : ∀ {xs : List α} {cs : List Value} {F : List Nat}, RepL R cs xs F → ∀ u ∈ cs, u.oneCell' = true
  | [], _, _, h, u, hu => by rw [h.1] at hu; cases hu
  | x :: xs, cs, F, ⟨c1, c2, F1, F2, h1, h2, h3, h4⟩, u, hu => by
    rw [h1] at hu
    rcases List.mem_append.1 hu with hu | hu
    · exact hR _ _ _ h3 u hu
    · exact h4.one hR u hu
theorem Own.isLen {w : World} {e : TypeId} {t : Ty} {v : Value} {xs : List t.den} {F : List Nat} (h : Own w e t v xs F) : ∃ p cap, v = .slice p xs.length cap := by
  obtain ⟨F', hr, _⟩ := h.rep
  exact hr.len
theorem info3 {e : TypeId} {z : Option Value} {sz by_ : Nat} (h : (P.info? e).map (fun i => (i.zero, i.size, i.bytes)) = some (z, sz, by_)) : ∃ i, P.info? e = some i ∧ i.zero = z ∧ i.size = sz ∧ i.bytes = by_ := by
  cases hi : P.info? e with
  | none => rw [hi] at h; cases h
  | some i => rw [hi] at h; simp only [Option.map_some, Option.some.injEq, Prod.mk.injEq] at h; exact ⟨i, rfl, h.1, h.2.1, h.2.2⟩
theorem run_append_nothing' {T ty e : TypeId} {i : TypeInfo} (w : World) (ht : P.underlying T = some (.slice e)) (hi : P.info? e = some i) (p q : Option Addr) (n cap c : Nat) (hle : n ≤ cap) :
    (Builtin.append_ #[T, T] ty #[.slice p n cap, .slice q 0 c]).run P w = .ok (.slice p n cap) w := by
  cases p <;> cases q <;> simp [Builtin.append_, run_underlying ht, sizeOf, typeInfo, hi, Builtin.lenOf, hle, Builtin.firstCells, loadCells, loadCellsFrom, storeCells]
theorem RepL.flatF {α : Type} {R : List Value → α → List Nat → Prop} (hF : ∀ c x F, R c x F → F = []) : ∀ {xs : List α} {cs : List Value} {F : List Nat}, RepL R cs xs F → F = []
  | [], _, _, h => h.2
  | x :: xs, cs, F, ⟨c1, c2, F1, F2, h1, h2, h3, h4⟩ => by rw [h2, hF _ _ _ h3, h4.flatF hF]; rfl
section walk
variable {ops : Array Oper} {Q : Exit → Act → World → Prop} {n : Nat} {l : List Oper} {E : Env} {w : World} {o : Oper} {d : Nat} {ty : TypeId} {ps : String} {af : Array Edge} {g : Option (Nat × Bool)} {x y z : Operand} {T : TypeId}
theorem WL_run {v : Value} {w' : World} (hw : wantedE ops E o = some true) (hrun : ∀ ρ, Sat ρ E → (execOp ρ o).run P w = .ok (.value v) w') (hd : o.dst = some d) (hn : Nat.blt d n = true) (h : XL P ops n (.seq Q) l ((d, v) :: E) w') :
    XL P ops n (.seq Q) (o :: l) E w := by
  intro a ha
  unfold wpList
  rw [if_pos (wanted_of ha hw)]
  refine .inl ?_
  unfold Oper.wp
  rw [hrun a.eval (fun x u hx => ha.eval hx)]
  show wpList P ops Q l (a.put o.dst v) w'
  rw [hd]
  exact h _ (ha.put hn v)
theorem WL_do {w' : World} (hw : wantedE ops E o = some true) (hrun : ∀ ρ, Sat ρ E → (execOp ρ o).run P w = .ok .skip w') (hd : o.dst = none) (h : XL P ops n (.seq Q) l E w') :
    XL P ops n (.seq Q) (o :: l) E w := by
  intro a ha
  unfold wpList
  rw [if_pos (wanted_of ha hw)]
  refine .inl ?_
  unfold Oper.wp
  rw [hrun a.eval (fun x u hx => ha.eval hx)]
  show wpList P ops Q l (a.put o.dst undef) w'
  rw [hd]
  exact h _ ha
def mkO {α : Type} (z : α) (n : Int) : Option (List α) := if decide (0 ≤ n) && room n.toNat then some (List.replicate n.toNat z) else none
theorem mkO_some {α : Type} {z : α} {n : Int} {zs : List α} (h : mkO z n = some zs) : 0 ≤ n ∧ n.toNat ≤ 1099511627776 ∧ zs = List.replicate n.toNat z := by
  unfold mkO at h
  split at h
  · rename_i hr
    simp only [Bool.and_eq_true, decide_eq_true_eq, room, Nat.ble_eq] at hr
    exact ⟨hr.1, hr.2, (Option.some.inj h).symm⟩
  · cases h
theorem RepL.replicate {α : Type} {R : List Value → α → List Nat → Prop} {c : Value} {x : α} (h : R [c] x []) : ∀ n, RepL R (List.replicate n c) (List.replicate n x) []
  | 0 => ⟨rfl, rfl⟩
  | n + 1 => ⟨[c], List.replicate n c, [], [], rfl, rfl, h, RepL.replicate h n⟩
end walk
end Go.Proofs.YtkhnponakhabdaaGreatDoor
set_option linter.unusedVariables false
namespace Go.Proofs.YtkhnponakhabdaaGreatDoor
open Go Go.RowKit
variable {P : Program}
theorem splice (off : Nat) : ∀ (l : List Value) (j : Nat) (cells : Array Value), off + j + l.length ≤ cells.size →
    ((l.zipIdx j).foldl (fun cs p => cs.setIfInBounds (off + p.2) p.1) cells).toList = cells.toList.take (off + j) ++ l ++ cells.toList.drop (off + j + l.length)
  | [], j, cells, h => by simp
  | c :: l, j, cells, h => by
    simp only [List.length_cons] at h
    simp only [List.zipIdx_cons, List.foldl_cons, List.length_cons]
    have hs : (cells.setIfInBounds (off + j) c).size = cells.size := by simp
    rw [splice off l (j + 1) _ (by rw [hs]; omega)]
    have hlt : off + j < cells.toList.length := by simp; omega
    simp only [Array.toList_setIfInBounds]
    rw [show off + (j + 1) = (off + j) + 1 from by omega, List.take_set, List.take_succ_eq_append_getElem hlt, List.set_append, List.length_take, Nat.min_eq_left (by omega), if_neg (by omega), Nat.sub_self]
    simp only [List.set_cons_zero, List.append_assoc, List.singleton_append, List.cons_append, List.nil_append]
    rw [List.drop_set, if_pos (by omega), show off + j + 1 + l.length = off + j + (l.length + 1) from by omega]
theorem fill_all (size : Nat) : ∀ (vs : List Value) (k : Nat) (cells : Array Value), (∀ v ∈ vs, v.cells.size = size) → (k + vs.length) * size = cells.size →
    ∃ r, Instr.fill (fun i => some (i * size, size)) cells ((vs.zipIdx k).map fun p => (p.2, p.1)) = some r ∧ r.toList = cells.toList.take (k * size) ++ vs.flatMap (fun v => v.cells.toList)
  | [], k, cells, _, hc => ⟨cells, by simp [Instr.fill], by simp at hc; rw [hc, List.take_of_length_le (by simp)]; simp⟩
  | v :: vs, k, cells, hv, hc => by
    have hvs := hv v (by simp)
    have hle : k * size + size ≤ cells.size := by
      rw [← hc, List.length_cons, ← Nat.succ_mul]
      exact Nat.mul_le_mul_right _ (by omega)
    have hsp := splice (k * size) v.cells.toList 0 cells (by simp [hvs]; omega)
    simp only [Nat.add_zero] at hsp
    have harr : (v.cells.zipIdx.foldl (fun cs p => cs.setIfInBounds (k * size + p.2) p.1) cells) = ((v.cells.toList.zipIdx 0).foldl (fun cs p => cs.setIfInBounds (k * size + p.2) p.1) cells) := by
      rw [← Array.foldl_toList, Array.toList_zipIdx]
    have hsz : (v.cells.zipIdx.foldl (fun cs p => cs.setIfInBounds (k * size + p.2) p.1) cells).size = cells.size := by
      rw [harr, ← Array.length_toList, hsp]; simp [hvs]; omega
    obtain ⟨r, h1, h2⟩ := fill_all size vs (k + 1) (v.cells.zipIdx.foldl (fun cs p => cs.setIfInBounds (k * size + p.2) p.1) cells) (fun u hu => hv u (by simp [hu])) (by rw [hsz, ← hc, List.length_cons]; congr 1; omega)
    refine ⟨r, ?_, ?_⟩
    · simp only [List.zipIdx_cons, List.map_cons, Instr.fill]
      rw [if_neg (by simp [hvs]; omega)]
      exact h1
    · rw [h2, harr, hsp, List.flatMap_cons, ← List.append_assoc]
      congr 1
      have hl : (cells.toList.take (k * size) ++ v.cells.toList).length = (k + 1) * size := by simp [hvs, Nat.succ_mul]; omega
      rw [← hl, List.take_left]
section walk
variable {ops : Array Oper} {Q : Exit → Act → World → Prop} {n : Nat} {l : List Oper} {E : Env} {w : World} {o : Oper} {d : Nat} {ty : TypeId} {ps : String} {af : Array Edge} {g : Option (Nat × Bool)} {x y z : Operand} {T : TypeId}
def partsFrom : Nat → List Operand → List (Nat × Operand)
  | _, [] => []
  | k, x :: l => (k, x) :: partsFrom (k + 1) l
theorem partsFrom_map {ρ : Operand → Value} : ∀ (xs : List Operand) (vs : List Value) (k : Nat), xs.map ρ = vs → (partsFrom k xs).map (fun p => (p.1, ρ p.2)) = (vs.zipIdx k).map fun p => (p.2, p.1)
  | [], vs, k, h => by subst h; rfl
  | x :: xs, vs, k, h => by subst h; simp only [partsFrom, List.map_cons, List.zipIdx_cons]; rw [partsFrom_map xs _ (k + 1) rfl]
def RepVs (w : World) (t : Ty) : List Value → List t.den → List Nat → Prop
  | [], [], F => F = []
  | v :: vs, x :: xs, F => ∃ F1 F2, F = F1 ++ F2 ∧ Rep w t v.cells.toList x F1 ∧ RepVs w t vs xs F2
  | _, _, _ => False
theorem RepVs.repL {w : World} {t : Ty} : ∀ {vs : List Value} {xs : List t.den} {F : List Nat}, RepVs w t vs xs F → RepL (Rep w t) (vs.flatMap fun v => v.cells.toList) xs F ∧ vs.length = xs.length ∧ ∀ v ∈ vs, v.cells.size = t.size
  | [], [], F, h => ⟨⟨rfl, h⟩, rfl, fun v hv => by cases hv⟩
  | v :: vs, x :: xs, F, ⟨F1, F2, h1, h2, h3⟩ => by
    obtain ⟨h4, h5, h6⟩ := h3.repL
    refine ⟨⟨_, _, F1, F2, rfl, h1, h2, h4⟩, by simp [h5], fun u hu => ?_⟩
    rcases List.mem_cons.1 hu with rfl | hu
    · have := h2.length; simpa using this
    · exact h6 u hu
theorem RepVs.below {w w' : World} {t : Ty} (hb : Below w.heap.size w w') : ∀ {vs : List Value} {xs : List t.den} {F : List Nat}, RepVs w t vs xs F → RepVs w' t vs xs F
  | [], [], F, h => h
  | v :: vs, x :: xs, F, ⟨F1, F2, h1, h2, h3⟩ => ⟨F1, F2, h1, h2.below hb, h3.below hb⟩
theorem RepVs.lt {w : World} {t : Ty} : ∀ {vs : List Value} {xs : List t.den} {F : List Nat}, RepVs w t vs xs F → ∀ k ∈ F, k < w.heap.size
  | [], [], F, h, k, hk => by rw [h] at hk; cases hk
  | v :: vs, x :: xs, F, ⟨F1, F2, h1, h2, h3⟩, k, hk => by
    rw [h1] at hk
    rcases List.mem_append.1 hk with hk | hk
    · exact h2.lt k hk
    · exact h3.lt k hk
end walk
end Go.Proofs.YtkhnponakhabdaaGreatDoor
