/- The wrap of a row that lists tables, the world's shape kept; the tables' blocks as read-only resources. Own work. -/
import Derived.Test.YtkhnponakhabdaaGreatDoorLib
import Derived.Test.YtkhnponakhabdaaGreatDoorTrod
import Derived.SizedLaws
import Derived.LaidLaws
import Derived.Lib.LaidTab
import Derived.Lib.LaidU8
import Derived.OpenVars
import Derived.Shelf.Vars
set_option linter.unusedVariables false
namespace Go.Proofs.YtkhnponakhabdaaGreatDoor
open Go Go.RowKit
theorem handed {H : Type} {enc : TypeId × Value → H} {a : Assume} {C : Checked} {os : Os} {f : FuncId} {fn : Func} {s : ChangeSpec} {conds : List PathCond} {apart fresh handsOn again : Bool} {X : World → Array Value → Prop}
  (hX : ∀ (w w' : World) (args : Array Value), w.heap = w'.heap → X w args → X w' args)
  (own : ownKnob C.prog.godebug = none) (started : os.Started) (noInit : C.prog.inits.idxOf? f = none) (hfn : C.prog.funcs[f]? = some fn)
  (witness : ∃ (w : World) (tape : Tape) (i : Input), w.os = os ∧ (w.forCall tape i).Shaped C.prog ∧ i.vars = [] ∧ Input.okWide C.prog (w.forCall tape i) .any w.heap.size f i ∧
   ((s.pre enc C.prog fn conds apart (w.forCall tape i).memory i.args ∧ X (w.forCall tape i).memory i.args) ∧ sizedMet enc C.prog fn (OpenSpec.ofChange s) apart (w.forCall tape i).memory i.args) ∧ a.holds C.prog (lone (Frame.enter C.prog f i.args .normal) [] (w.forCall tape i)))
  (contract : ∀ (W : World) (base : Nat) (args : Array Value) (ds gs : List (DataW H)) (before : List MemPlace),
   (∀ (j : Nat) t v, fn.params[j]? = some t → args[j]? = some v → Value.okWide C.prog W .any base t v) →
   DataW.Whole enc C.prog fn.params.toList s.vars apart W args.toList ds gs before → X W args → W.ShapedOpen C.prog →
   Calls C.prog f args W fun e W' => ∃ v, e = .returned v ∧ s.post enc C.prog fn apart fresh handsOn again W args v W') :
  ReturnsInHanded a C os f .any (fun w args => (s.pre enc C.prog fn conds apart w args ∧ X w args) ∧ sizedMet enc C.prog fn (OpenSpec.ofChange s) apart w args) (s.post enc C.prog fn apart fresh handsOn again) := by
 refine returnsInHanded_of_calls own started noInit witness ?_
 intro w tape i _ hsh _ hok hpre hholds
 obtain ⟨_, _, _, fn', hfn', _, _, _, _, hval⟩ := hok
 have e : fn' = fn := Option.some.inj (hfn'.symm.trans hfn)
 subst e
 obtain ⟨⟨⟨ds, gs, before, hw, hc⟩, hx⟩, hz⟩ := hpre
 have hw' := DataW.Whole.of_heap (w' := w.forCall tape i) (by rfl) hw
 refine (contract (w.forCall tape i) w.heap.size i.args ds gs before hval hw' (hX _ _ _ (by rfl) hx) hsh).mono fun e W' ⟨v, he, hp⟩ => ?_
 subst he
 exact ChangeSpec.post_blind hp
theorem var_block {P : Program} {w : World} {n : String} {g : Nat} {cs : Array Value} (hg : P.globalNamed n = some g) (h : w.var? P n = some cs) : ∃ T fz, w.heap[g]? = some (.cells cs T fz) := by
 unfold World.var? at h
 rw [hg] at h
 simp only [Option.bind_some] at h
 cases hb : w.heap[g]? with
 | none => rw [hb] at h; cases h
 | some o =>
  rw [hb] at h
  cases o with
  | cells c T fz => exact ⟨T, fz, by rw [Option.some.inj h]⟩
  | _ => cases h
theorem cells_of_strs {H : Type} {enc : TypeId × Value → H} {P : Program} {w : World} {base : Nat} {sp : Nat → Bool} {held : Bool} {fuel : Nat} {t e : TypeId} {n : Nat} {cs : List Value} {zs : List (List UInt8)} {p : List MemPlace}
  (ht : P.underlying t = some (.array n e)) (he : P.underlying e = some .string) (hce : P.cellsOf e = 1) (hct : P.cellsOf t = n)
  (h : DataW.trod enc P w base sp held fuel t cs = some (.agg (zs.map fun z => .lit (.string z)), p)) : cs = zs.map strV := by
 cases fuel with
 | zero => simp [DataW.trod] at h
 | succ fuel =>
  simp only [DataW.trod, ht, hce, hct, Nat.mul_one] at h
  split at h
  ·rename_i hl
   obtain ⟨xs, hm, hx⟩ := Option.map_eq_some_iff.1 h
   have hxs : xs.map (·.1) = zs.map fun z => (DataW.lit (.string z) : DataW H) := by
    have := congrArg Prod.fst hx
    simpa using this
   have hxl : xs.length = n := by simpa using Lib.mapM_length hm
   have hzl : zs.length = n := by
    have := congrArg List.length hxs
    simp at this
    omega
   apply List.ext_getElem?
   intro i
   by_cases hi : i < n
   ·obtain ⟨b, hb, hf⟩ := Lib.mapM_at hm i i (by simp [hi])
    obtain ⟨z, hc, rfl, _⟩ := DataW.trod_string he hf
    have h1 : cs[i]? = some (.string z) := by
     have := congrArg (·[0]?) hc
     simpa [List.getElem?_take, List.getElem?_drop] using this
    have h2 : (xs.map (·.1))[i]? = some (DataW.lit (.string z.data.toList) : DataW H) := by simp [hb]
    rw [hxs] at h2
    simp only [List.getElem?_map, Option.map_eq_some_iff, DataW.lit.injEq, Lit.string.injEq] at h2
    obtain ⟨z', hz', e2⟩ := h2
    rw [h1, List.getElem?_map, hz']
    simp [e2]
   ·rw [List.getElem?_eq_none (by omega), List.getElem?_eq_none (by simp; omega)]
  ·cases h
theorem ints_block {P : Program} {w : World} {n : String} {g : Nat} {t e : TypeId} {N : Nat} {k : IntKind} {zs : List Int} (hv : Lib.VarReads P w n (Lib.tabData k zs)) (hg : P.globalNamed n = some g) (hty : (P.globals[g]?).map (·.type) = some t) (ht : P.underlying t = some (.array N e)) (he : P.underlying e = some (.int k)) (hce : P.cellsOf e = 1) (hct : P.cellsOf t = N) :
  ∃ T fz, w.heap[g]? = some (.cells (zs.map fun z => Value.int k z).toArray T fz) := by
 obtain ⟨g', t', cs, fuel, p, h1, h2, h3, h4⟩ := hv
 obtain rfl : g' = g := Option.some.inj (h1.symm.trans hg)
 obtain rfl : t' = t := Option.some.inj (h2.symm.trans hty)
 obtain ⟨T, fz, hb⟩ := var_block hg h3
 have := Lib.cells_of_tab ht he hce hct h4
 exact ⟨T, fz, by rw [hb, ← this]⟩
theorem strs_block {P : Program} {w : World} {n : String} {g : Nat} {t e : TypeId} {N : Nat} {zs : List (List UInt8)} (hv : Lib.VarReads P w n (.agg (zs.map fun z => .lit (.string z)))) (hg : P.globalNamed n = some g) (hty : (P.globals[g]?).map (·.type) = some t) (ht : P.underlying t = some (.array N e)) (he : P.underlying e = some .string) (hce : P.cellsOf e = 1) (hct : P.cellsOf t = N) :
  ∃ T fz, w.heap[g]? = some (.cells (zs.map strV).toArray T fz) := by
 obtain ⟨g', t', cs, fuel, p, h1, h2, h3, h4⟩ := hv
 obtain rfl : g' = g := Option.some.inj (h1.symm.trans hg)
 obtain rfl : t' = t := Option.some.inj (h2.symm.trans hty)
 obtain ⟨T, fz, hb⟩ := var_block hg h3
 have := cells_of_strs ht he hce hct h4
 exact ⟨T, fz, by rw [hb, ← this]⟩
theorem blk_cell {w : World} {b : Nat} {cs : List Value} (h : ∃ T fz, w.heap[b]? = some (.cells cs.toArray T fz)) {j : Nat} {u : Value} (hj : cs[j]? = some u) : w.cell? ⟨b, 0 + j, none⟩ = some u := by
 obtain ⟨T, fz, hb⟩ := h
 unfold World.cell?
 simp only [hb, Nat.zero_add]
 simpa using hj
theorem rep_strs {w : World} {b N : Nat} {xs : List (List UInt8)} (h : ∃ T fz, w.heap[b]? = some (.cells (xs.map strV).toArray T fz)) (hne : xs ≠ []) (hl : xs.length = N) : Rep w (.slice .str) [.slice (some ⟨b, 0, none⟩) N N] xs [b] :=
 ⟨_, N, by rw [hl], by omega, .inr ⟨b, 0, xs.map strV, [], hne, rfl, rfl, strs_repL xs, fun j u hj => blk_cell h hj⟩⟩
theorem ints_repL' {w : World} {k : IntKind} : ∀ (xs : List Int), RepL (Rep w (.int k)) (xs.map fun z => Value.int k z) xs []
 | [] => ⟨rfl, rfl⟩
 | x :: xs => ⟨[.int k x], _, [], [], rfl, rfl, ⟨rfl, rfl⟩, ints_repL' xs⟩
theorem rep_ints {w : World} {b N : Nat} {k : IntKind} {xs : List Int} (h : ∃ T fz, w.heap[b]? = some (.cells (xs.map fun z => Value.int k z).toArray T fz)) (hne : xs ≠ []) (hl : xs.length = N) : Rep w (.slice (.int k)) [.slice (some ⟨b, 0, none⟩) N N] xs [b] :=
 ⟨_, N, by rw [hl], by omega, .inr ⟨b, 0, xs.map fun z => Value.int k z, [], hne, rfl, rfl, ints_repL' xs, fun j u hj => blk_cell h hj⟩⟩
theorem Holds.addRb {M : List Nat} {w0 w : World} {Γ : List Res} {b : Nat} {cs : List Value} (H : Holds M w0 w Γ []) (hr : ∃ T fz, w.heap[b]? = some (.cells cs.toArray T fz)) (hno : ∀ R ∈ Γ, R.own = []) : Holds M w0 w (.rb b cs :: Γ) [] := by
 obtain ⟨h0, hlo, L, h1, h2, h3⟩ := H
 refine ⟨h0, fun R hR k hk => ?_, (.rb b cs, [b]) :: L, by simp [h1], ⟨⟨rfl, hr⟩, h2⟩, .cons (fun g hg => ⟨(fun k hk => by cases hk), (fun k hk => by cases hk), fun k hk hk' => ?_⟩) (fun k hk => by cases hk) h3⟩
 ·rcases List.mem_cons.1 hR with rfl | hR
  ·cases hk
  ·exact hlo R hR k hk
 ·have : g.1 ∈ Γ := by have := List.mem_map_of_mem (f := (·.1)) hg; rw [h1] at this; simpa using this
  rw [hno _ this] at hk; cases hk
theorem vars2 {H : Type} {enc : TypeId × Value → H} {P : Program} {W : World} {sp : Nat → Bool} {n1 n2 : String} {gs : List (DataW H)} {q : List MemPlace} (h : DataW.TrodVars enc P W sp [n1, n2] gs q) : ∃ g1 g2, gs = [g1, g2] := by
 cases gs with
 | nil => exact h.elim
 | cons g1 gs =>
  obtain ⟨_, _, _, _, _, _, _, _, _, _, h, _⟩ := h
  cases gs with
  | nil => exact h.elim
  | cons g2 gs =>
   obtain ⟨_, _, _, _, _, _, _, _, _, _, h, _⟩ := h
   cases gs with
   | nil => exact ⟨g1, g2, rfl⟩
   | cons g3 gs => exact h.elim
theorem int_block {P : Program} {w : World} {g : Nat} {t : TypeId} {k : IntKind} (h : w.ShapedOpen P) (hg : decide (g < P.globals.size) = true) (h0 : ((begin P (fun _ _ => 0) default).world.heap[g]?).bind Obj.row? = some (#[.int k 0], t))
  (hb : P.buildable t = true) (hc : P.cellTypes P.depth t = some [t]) (hu : P.underlying t = some (.int k)) : ∃ m, ∃ T fz, w.heap[g]? = some (.cells [Value.int k m].toArray T fz) := by
 have hg' := of_decide_eq_true hg
 obtain ⟨m, hm⟩ := cell_of_shapedOpen_int h hg' h0 rfl hb hc hu
 obtain ⟨cs, hh, hs, _⟩ := h.1 g _ t hg' h0
 refine ⟨m, t, (0, 0), ?_⟩
 rw [hh]
 have h1 : cs.size = 1 := hs
 have hcell : cs[0]? = some (.int k m) := by
  unfold World.cell? at hm
  simp only [hh] at hm
  simpa using hm
 have : cs = #[.int k m] := by
  apply Array.ext
  ·rw [h1]; rfl
  ·intro i h2 h3
   have : i = 0 := by omega
   subst this
   rw [Array.getElem?_eq_getElem h2] at hcell
   simpa using hcell
 rw [this]
end Go.Proofs.YtkhnponakhabdaaGreatDoor
