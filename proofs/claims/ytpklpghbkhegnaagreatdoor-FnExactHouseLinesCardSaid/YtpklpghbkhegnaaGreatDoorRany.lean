/- Regions that draw their order and do more than read: every order, operation by operation. Closures that read. Structs held against each other. Own work, over any program. -/
import Derived.Test.YtpklpghbkhegnaaGreatDoorRmore
import Derived.Laws.StructEq
set_option linter.unusedVariables false
namespace Go.Proofs.YtpklpghbkhegnaaGreatDoor
open Go Go.RowKit
variable {P : Program}
section walk
variable {ops : Array Oper} {Q : Exit → Act → World → Prop} {n : Nat} {l : List Oper} {E : Env} {o : Oper} {d : Nat} {ty : TypeId} {ps : String} {af : Array Edge} {g : Option (Nat × Bool)} {x y z : Operand} {T : TypeId}
variable {M : List Nat} {w0 w w' : World} {Γ Γ' G : List Res} {R R' : Res} {t : Ty} {v : Value} {xs ys zs : List t.den} {e : TypeId}
theorem WP_mid {Mid : Act → World → Prop} {c : Code} (h : WP P (Exit.then Mid Q) n c E w) (hy : ∀ a w, Mid a w → Q .normal a w) : WP P Q n c E w := fun a ha =>
  wp_mono (h a ha) (fun e a w h => by cases e <;> first | exact hy a w h | exact h)
variable {Mid : Act → World → Prop} {fuel : Nat} {listed : Array Bool} {i : Nat}
end walk
/-! ### an element with several slices; results that lie in a variable -/
def DupAll (w : World) (F : List Nat) : List Res → Prop
  | [] => True
  | R :: L => (∃ (t : Ty) (v : Value) (x : List t.den) (F' : List Nat), R = .ro t v x ∧ Rep w (.slice t) [v] x F' ∧ ∀ k ∈ F', k ∈ F) ∧ DupAll w F L
section atn
variable {M : List Nat} {w0 w : World} {Γ G : List Res} {t : Ty} {v : Value} {xs : List t.den}
theorem dupAll_ctx {F : List Nat} : ∀ {Rs : List Res} {L : List (Res × List Nat)}, SitAll w L → ApartL L → (∀ k ∈ F, ∃ f ∈ L, k ∈ f.2) → DupAll w F Rs →
    ∃ L', L'.map (·.1) = Rs ++ L.map (·.1) ∧ SitAll w L' ∧ ApartL L' ∧ ∀ k ∈ F, ∃ f ∈ L', k ∈ f.2
  | [], L, h1, h2, h3, _ => ⟨L, rfl, h1, h2, h3⟩
  | R :: Rs, L, h1, h2, h3, hRs => by
    obtain ⟨⟨t, v, x, F', rfl, hr, hsub⟩, hd⟩ := hRs
    obtain ⟨L', e1, e2, e3, e4⟩ := dupAll_ctx h1 h2 h3 hd
    refine ⟨(.ro t v x, F') :: L', by simp [e1], ⟨hr, e2⟩, .cons (fun g hg => ⟨(fun k hk => by cases hk), (fun k hk => by cases hk), fun k hk hk' => ?_⟩) (fun k hk => by cases hk) e3, fun k hk => ?_⟩
    · obtain ⟨f, hf, hk2⟩ := e4 k (hsub k hk')
      exact e3.zone hf hg hk2 hk
    · obtain ⟨f, hf, hk2⟩ := e4 k hk
      exact ⟨f, by simp [hf], hk2⟩
theorem Holds.atN (H : Holds M w0 w Γ G) (h : Has (Γ ++ G) t v xs) {k : Int} {u : t.den} (hg : geti xs k = some u) {b off cap : Nat} (hv : v = .slice (some ⟨b, off, none⟩) xs.length cap) :
    ∃ F, AtP w t b (off + k.toNat * t.size) u F ∧ ∀ Rs : List Res, DupAll w F Rs → Holds M w0 w (Rs ++ Γ) G := by
  obtain ⟨L, h1, h2, h3, B, S, hr, hB, hS⟩ := H.ctx.has h
  obtain ⟨p, cap', h4, h5, h6⟩ := hr
  rw [hv] at h4
  simp only [Value.slice.injEq] at h4
  obtain ⟨rfl, _, rfl⟩ := h4
  have hlt := (geti_lt hg).2
  have h0 := (geti_lt hg).1
  have hz : xs[k.toNat]? = some u := by unfold geti at hg; rw [if_pos h0] at hg; exact hg
  rcases h6 with ⟨rfl, _⟩ | ⟨b', off', bs, hne, hp, rfl, h7, h8⟩
  · simp at hlt
  · simp only [Option.some.injEq, Addr.mk.injEq, and_true] at hp
    obtain ⟨rfl, rfl⟩ := hp
    obtain ⟨c, F, hR, hF, hc⟩ := h7.get (fun c x F h => Rep.length h) k.toNat u hz
    refine ⟨F, ⟨c, hR, fun j z hj => by rw [Nat.add_assoc]; exact h8 _ _ (hc j z hj)⟩, fun Rs hd => ?_⟩
    obtain ⟨L', e1, e2, e3, _⟩ := dupAll_ctx h2 h3 (fun k hk => hS k (hF k hk)) hd
    have hno : ∀ R ∈ Rs, R.own = [] := by
      clear e1
      induction Rs with
      | nil => intro R hR; cases hR
      | cons R Rs ih =>
        intro R' hR'
        obtain ⟨⟨t, v, x, F', rfl, _, _⟩, hd2⟩ := hd
        rcases List.mem_cons.1 hR' with rfl | hR'
        · rfl
        · exact ih hd2 R' hR'
    refine ⟨H.chg, fun R hR k hk => ?_, L', by rw [e1, h1, List.append_assoc], e2, e3⟩
    rcases List.mem_append.1 hR with hR | hR
    · rw [hno R hR] at hk; cases hk
    · exact H.lo R hR k hk
end atn
theorem run_loadVar_bx {T Tb : TypeId} {ds : TypeDesc} {b : Nat} {cs : List Value} {w : World} (hT : P.underlying T = some ds) (ho : oneB ds = false) (hs : (P.info? T).map (·.size) = some cs.length) (hB : Bx w b Tb cs) : (loadVar T ⟨b, 0, none⟩).run P w = .ok (.agg cs.toArray) w := by
  obtain ⟨ti, hi, hs⟩ := Option.map_eq_some_iff.1 hs
  have hload := run_loadCells_list (P := P) w ⟨b, 0, none⟩ cs (fun j z hj => by rw [Addr.add_none, Nat.zero_add]; exact hB.cell hj)
  rw [← hs] at hload
  simp [loadVar, run_isAggT hT ho, sizeOf, typeInfo, hi, hload]
theorem retc {fn : Func} {R : Ending → World → Prop} {n s : Nat} {E : Env} {a : Act} {w : World} {T : TypeId} {b : Nat} {v : Value} (hres : fn.results = #[.cell s T]) (ha : Fr a n E) (hs : lk E s = some (.pointer (some ⟨b, 0, none⟩))) (hl : (loadVar T ⟨b, 0, none⟩).run P w = .ok v w) (hR : R (.returned v) w) : bodyPost P fn R .ret a w :=
  ⟨ha.defers, v, by simp [results, hres, ha.get s _ hs, asAddr, hl], hR⟩
theorem retct {fn : Func} {R : Ending → World → Prop} {n s t : Nat} {E : Env} {a : Act} {w : World} {T : TypeId} {b : Nat} {v u : Value} (hres : fn.results = #[.cell s T, .tmp t]) (ha : Fr a n E) (hs : lk E s = some (.pointer (some ⟨b, 0, none⟩))) (ht : lk E t = some u) (hl : (loadVar T ⟨b, 0, none⟩).run P w = .ok v w) (hR : R (.returned (.tuple #[v, u])) w) : bodyPost P fn R .ret a w :=
  ⟨ha.defers, _, by simp [results, hres, ha.get s _ hs, ha.get t _ ht, asAddr, hl], hR⟩
theorem allOne {c : Value} {l : List Value} (h : c.oneCell' = true) (ht : l.all (·.oneCell') = true) : (c :: l).all (·.oneCell') = true := by rw [List.all_cons, h, ht]; rfl
def HasB (Γ : List Res) (b : Nat) (T : TypeId) (cs : List Value) : Prop := .bx b T cs ∈ Γ
theorem HasB.hd {Γ : List Res} {b : Nat} {T : TypeId} {cs : List Value} : HasB (.bx b T cs :: Γ) b T cs := List.mem_cons_self
theorem HasB.c {Γ : List Res} {R : Res} {b : Nat} {T : TypeId} {cs : List Value} (h : HasB Γ b T cs) : HasB (R :: Γ) b T cs := List.mem_cons_of_mem _ h
theorem HasB.bx {w : World} {Γ : List Res} {b : Nat} {T : TypeId} {cs : List Value} (h : HasB Γ b T cs) (H : Ctx w Γ) : Bx w b T cs := by
  obtain ⟨L, rfl, h2, _⟩ := H
  obtain ⟨f, hf, he⟩ := List.mem_map.1 h
  have key : ∀ L : List (Res × List Nat), SitAll w L → ∀ f ∈ L, Sit w f.1 f.2 := by
    intro L
    induction L with
    | nil => intro _ f hf; cases hf
    | cons g L ih =>
      intro h f hf
      rcases List.mem_cons.1 hf with rfl | hf
      · exact h.1
      · exact ih h.2 f hf
  have := key L h2 f hf
  rw [he] at this
  exact this.2
/-! ### structs held against each other -/
end Go.Proofs.YtpklpghbkhegnaaGreatDoor
