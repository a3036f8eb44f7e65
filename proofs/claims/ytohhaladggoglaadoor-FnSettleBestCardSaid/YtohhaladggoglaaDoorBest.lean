/- The fewest payments: both functions; the laws. Own work; no program in sight. -/
import Derived.Test.YtohhaladggoglaaDoorFast
set_option linter.unusedVariables false
namespace Go.Proofs.YtohhaladggoglaaDoor
open Go Go.RowKit
/-! ### the least number -/
noncomputable def settleLeast (xs : List Int) : Int := if OwedOk xs then ((nzc xs : Nat) : Int) - (gmax (nzs xs) : Int) else -1
theorem gmax_nz {xs : List Int} (h : OwedOk xs) : 2 * gmax (nzs xs) ≤ nzc xs ∧ nzc xs ≤ 7 := by
  have hz : sm (nzs xs) = 0 := by rw [sm_nzs]; exact h.2.2
  have h1 := (gmax_spec hz).le2 (fun x hx => by simpa [nzs] using (List.mem_filter.1 hx).2)
  have h2 := nzc_le xs
  have := h.1
  exact ⟨h1, by omega⟩
theorem implLeast_eq (xs : List Int) : impl_SettleLeastS xs = some (settleLeast xs) := by
  unfold impl_SettleLeastS settleLeast
  rw [implOwedValid_eq, Option.bind_some]
  by_cases h : OwedOk xs
  · have h7 := h.1
    have hlt := nzm_lt xs
    have hp := p128 h7
    obtain ⟨g1, g2⟩ := gmax_nz h
    rw [decide_eq_true h, if_neg (by simp), concerned_eq h7, Option.bind_some, wu (by omega), onesCount_eq _ (by omega), Option.bind_some, implGroups_eq, Option.bind_some, pc_nzm xs (by omega), if_pos h]
    unfold groups
    rw [if_pos h, wr ⟨by omega, by omega⟩]
  · rw [decide_eq_false h, if_pos (by simp), if_neg h]
theorem specLeast_eq (xs : List Int) (hl : xs.length ≤ 1000) : spec_SettleLeastS xs = some (settleLeast xs) := by
  unfold spec_SettleLeastS settleLeast
  rw [specOwedValid_eq _ (by omega), Option.bind_some]
  by_cases h : OwedOk xs
  · obtain ⟨g1, g2⟩ := gmax_nz h
    rw [decide_eq_true h, if_neg (by simp), peopleLoop hl, Option.bind_some, specGroups_eq _ (by omega), Option.bind_some, if_pos h]
    unfold groups
    rw [if_pos h, wr ⟨by omega, by omega⟩]
  · rw [decide_eq_false h, if_pos (by simp), if_neg h]
/-! ### draws of payments -/
theorem drawPays (x : List Int) (hx : ∀ v ∈ x, 0 ≤ v ∧ v ≤ 255) : Ret (spec_DrawPaysOkS x) (fun r => r.1.length ≤ 8 ∧ r.2.length ≤ 100) := by
  unfold spec_DrawPaysOkS
  refine Ret.bind (open_spec x hx) (fun r hr => ?_)
  refine Ret.bind (Q := fun v => v.2.1.length ≤ 8 ∧ v.2.2.length ≤ 100) ?_ (fun v hv => Ret.pure hv)
  unfold spec_l20PaysS
  refine Ret.bind (owed_ret hr.1 (by omega) (by omega)) (fun x1 h1 => ?_)
  obtain ⟨p0, p1, hOw⟩ := h1
  have hl8 := hOw.1
  refine Ret.bind (Q := fun l => l.length ≤ 20) ?_ (fun x7 h7 => ?_)
  · by_cases h : OwedOk x1.2
    · refine (specFast_ret h).mono (fun p hp => ?_)
      have := nzc_le x1.2
      rcases hp.len with ⟨_, rfl⟩ | h1
      · simp
      · omega
    · rw [(fast_not (by omega) h).2]; exact Ret.pure (by simp)
  · refine Ret.bind (pick_ret hr.1 p0 (by omega)) (fun x13 h13 => ?_)
    refine Ret.bind (Q := fun o => o.1 = x13.1 ∧ (o.2 = true → OwedOk x1.2)) ?_ ?_
    · refine Ret.ite (fun h => ?_) (fun h => Ret.pure ⟨rfl, fun h => by cases h⟩)
      rw [specOwedValid_eq _ (by omega), Option.bind_some]
      exact Ret.pure ⟨rfl, fun h => of_decide_eq_true h⟩
    · rintro ⟨g19, b20⟩ ⟨rfl, hb⟩
      (try dsimp only)
      refine Ret.bind (Q := fun j => j.length ≤ 50) ?_ (fun j21 hj => ?_)
      · refine Ret.ite (fun h => ?_) (fun h => Ret.pure (by omega))
        have hok := hb h
        have hn7 := hok.1
        rw [appO_ok (by simp; omega), Option.bind_some, List.nil_append]
        refine Ret.loopb (fun s => ∃ k : Nat, s.2.1 = (k : Int) ∧ k ≤ 7 ∧ s.2.2.length = x1.2.length ∧ (k = 0 ∨ k < x1.2.length) ∧ Rg (9999 * 2 ^ k) s.2.2 ∧ s.1.length ≤ 2 * k) (fun s => x1.2.length - s.2.1.toNat) (fun r => r.1.length ≤ 50) ⟨0, rfl, by omega, rfl, .inl rfl, by simpa using hok.rg, by simp⟩ ?_ ?_
        · rintro ⟨s36, s37, s38⟩ ⟨k, e1, k7, hl, hk, hrg, ho⟩
          dsimp only at e1 hl hk hrg ho ⊢
          subst e1
          have hpow : (2 : Int) ^ k ≤ 128 := by
            have : 2 ^ k ≤ 2 ^ 7 := Nat.pow_le_pow_right (by omega) k7
            have e : ((2 ^ k : Nat) : Int) = (2 : Int) ^ k := by simp
            omega
          have hpow0 : (0 : Int) < 2 ^ k := by
            have := Nat.two_pow_pos k
            have e : ((2 ^ k : Nat) : Int) = (2 : Int) ^ k := by simp
            omega
          rw [wr_succ (n := 100) (k := k) (by omega) (by omega)]
          by_cases hlt : k + 1 < x1.2.length
          · rw [if_pos (by simp only [decide_eq_true_eq]; omega)]
            have b0 := hrg.at (i := k) (by omega)
            have b1 := hrg.at (i := k + 1) (by omega)
            rw [geti_at0 (by omega), Option.bind_some]
            refine Ret.bind (Q := fun j => j.length ≤ 2 * k + 1) ?_ (fun j49 h49 => ?_)
            · refine Ret.ite (fun h => ?_) (fun h => Ret.pure (by omega))
              rw [Option.bind_some, appO_ok (by simp; omega), Option.bind_some]
              exact Ret.pure (by simp; omega)
            · rw [Option.bind_some]
              refine Ret.bind (Q := fun j => j.length ≤ 2 * k + 2) ?_ (fun j59 h59 => ?_)
              · refine Ret.ite (fun h => ?_) (fun h => Ret.pure (by omega))
                rw [Option.bind_some, appO_ok (by simp; omega), Option.bind_some]
                exact Ret.pure (by simp; omega)
              · rw [geti_at0 (by omega), Option.bind_some, Option.bind_some, Option.bind_some, wr (x := at0 s38 (k + 1) + at0 s38 k) ⟨by omega, by omega⟩]
                have e2 : (9999 : Int) * 2 ^ (k + 1) = 9999 * 2 ^ k + 9999 * 2 ^ k := by rw [Int.pow_succ]; omega
                refine Ret.pure ⟨⟨k + 1, rfl, by omega, by simp [hl], .inr hlt, ?_, by dsimp only; omega⟩, by simp; omega⟩
                (try dsimp only)
                rw [e2]
                exact (hrg.mono (by omega)).set _ (by omega)
          · rw [if_neg (by simp only [decide_eq_true_eq]; omega)]
            exact Ret.pure (by dsimp only; omega)
        · rintro ⟨p91, p92⟩ hp
          exact Ret.pure hp
      · refine Ret.bind (odd_ret hr.1 (by omega) (by omega)) (fun x22 h22 => ?_)
        refine Ret.bind (Q := fun j => j.length ≤ 100) ?_ (fun j hj2 => Ret.pure ⟨hl8, hj2⟩)
        refine Ret.ite (fun h => ?_) (fun h => Ret.pure (by omega))
        have hpos : 0 < j21.length := by simp only [Bool.and_eq_true, decide_eq_true_eq] at h; omega
        rw [show (0 : Int) = ((0 : Nat) : Int) from rfl, geti_get hpos, Option.bind_some, Option.bind_some]
        exact Ret.pure (by simp; omega)
theorem pl_FnPaysOk (x : List Int) (hw : ∀ n ∈ x, InK .u8 n) : laws_FnPaysOkS x = some true := by
  unfold laws_FnPaysOkS
  by_cases hl : (x.length : Int) > 1048576
  · rw [if_pos (by simp; omega)]
  rw [if_neg (by simp; omega)]
  obtain ⟨⟨xs, ps⟩, hd, h8, h100⟩ := drawPays x (u8_of hw)
  dsimp only at h8 h100
  rw [hd, Option.bind_some]
  (try dsimp only)
  rw [implPaysOk_eq _ _ (by omega) (by omega), Option.bind_some, specPaysOk_eq _ _ (by omega) (by omega), Option.bind_some, if_neg (by simp), implLeast_eq, Option.bind_some]
  have key : (!(paysOk xs ps) || (decide (settleLeast xs ≥ 0) && decide (settleLeast xs ≤ (ps.length : Int)))) = true := by
    cases hp : paysOk xs ps
    · rfl
    · have hok := of_paysOk hp
      have h := hok.1
      have h1 := settle_least (xs := xs) (ps := ps) (fun p hq => ⟨(hok.2.1 p hq).1, (hok.2.1 p hq).2.1⟩) hok.2.2
      obtain ⟨g1, g2⟩ := gmax_nz h
      unfold settleLeast
      rw [if_pos h]
      simp; omega
  rw [key, if_pos rfl]
  rfl
/-! ### the best way -/
noncomputable instance (xs : List Int) (r j : Nat) : Decidable (GCond xs r j) := inferInstanceAs (Decidable (_ ∧ _ ∧ _))
theorem firstOf_none {ρ : Type} {p : Nat → Option ρ} : ∀ {n k : Nat}, firstOf p k n = none → ∀ i, k ≤ i → i < k + n → p i = none
  | 0, k, _, i, h1, h2 => by omega
  | n + 1, k, h, i, h1, h2 => by
    unfold firstOf at h
    cases hp : p k with
    | some r => rw [hp] at h; cases h
    | none =>
      rw [hp] at h
      rcases Nat.lt_or_eq_of_le h1 with h3 | h3
      · exact firstOf_none h i (by omega) (by omega)
      · subst h3; exact hp
theorem firstOf_some {ρ : Type} {p : Nat → Option ρ} {r : ρ} : ∀ {n k : Nat}, firstOf p k n = some r → ∃ i, k ≤ i ∧ i < k + n ∧ p i = some r ∧ ∀ j, k ≤ j → j < i → p j = none
  | 0, k, h => by cases h
  | n + 1, k, h => by
    unfold firstOf at h
    cases hp : p k with
    | some r' =>
      rw [hp] at h
      exact ⟨k, Nat.le_refl _, by omega, by rw [hp]; exact h, fun j h1 h2 => by omega⟩
    | none =>
      rw [hp] at h
      obtain ⟨i, h1, h2, h3, h4⟩ := firstOf_some h
      refine ⟨i, by omega, by omega, h3, fun j h5 h6 => ?_⟩
      rcases Nat.lt_or_eq_of_le h5 with h7 | h7
      · exact h4 j (by omega) h6
      · subst h7; exact hp
/-- which group is taken -/
noncomputable def grp (xs : List Int) (r : Nat) : Nat := ((firstOf (fun k => if GCond xs r (k + 1) then some (k + 1) else none) 0 (r - 1)).getD r)
theorem grp_isG {xs : List Int} {r : Nat} : IsG xs r (grp xs r) := by
  unfold grp
  cases h : firstOf (fun k => if GCond xs r (k + 1) then some (k + 1) else none) 0 (r - 1) with
  | none =>
    right
    refine ⟨rfl, fun j h1 h2 hc => ?_⟩
    have := firstOf_none h (j - 1) (by omega) (by omega)
    rw [show j - 1 + 1 = j by omega, if_pos hc] at this
    cases this
  | some g =>
    left
    obtain ⟨i, h1, h2, h3, h4⟩ := firstOf_some h
    have hc : GCond xs r (i + 1) := by
      rcases Decidable.em (GCond xs r (i + 1)) with hc | hc
      · exact hc
      · rw [if_neg hc] at h3; cases h3
    rw [if_pos hc] at h3
    have : i + 1 = g := Option.some.inj h3
    subst this
    refine ⟨by simp, by simp; omega, hc, fun j h5 h6 hj => ?_⟩
    have h7 : j < i + 1 := h6
    have := h4 (j - 1) (by omega) (by omega)
    rw [show j - 1 + 1 = j by omega, if_pos hj] at this
    cases this
theorem iandNot_zero {a b : Nat} (ha : a < 128) (hb : b < 128) : (iandNot .i64 (a : Int) (b : Int) == 0) = decide (Sub a b) := by
  rw [iandNot_nat (by omega) (by omega), Bool.eq_iff_iff, beq_iff_eq, decide_eq_true_eq]
  constructor
  · intro h
    have h0 : minus a b = 0 := by omega
    unfold Sub
    apply Nat.eq_of_testBit_eq
    intro i
    have := testBit_minus a b i
    rw [h0, Nat.zero_testBit] at this
    rw [Nat.testBit_and]
    cases h1 : a.testBit i <;> cases h2 : b.testBit i <;> simp_all
  · intro h
    have : minus a b = 0 := by
      apply Nat.eq_of_testBit_eq
      intro i
      rw [testBit_minus, Nat.zero_testBit]
      have h3 : (a &&& b).testBit i = a.testBit i := by rw [show a &&& b = a from h]
      rw [Nat.testBit_and] at h3
      cases h1 : a.testBit i <;> cases h2 : b.testBit i <;> simp_all
    omega
theorem leastGroup_eq {xs : List Int} (hl : xs.length ≤ 7) {r : Nat} (hr : r < 2 ^ xs.length) (h0 : r ≠ 0) : impl_leastGroupS (ra (2 ^ xs.length) (tab xs)) (r : Int) = some ((grp xs r : Nat) : Int) := by
  have hN := p128 hl
  unfold impl_leastGroupS
  rw [loopExit (s := (1 : Int)) (fun k => ((k + 1 : Nat) : Int)) (r - 1) (fun k => if GCond xs r (k + 1) then some (.inr ((k + 1 : Nat) : Int)) else none) (.inl ()) rfl]
  · rw [Option.bind_some]
    unfold grp
    have key : ∀ d k, firstOf (ρ := Unit ⊕ Int) (fun k => if GCond xs r (k + 1) then some (.inr ((k + 1 : Nat) : Int)) else none) k d = (firstOf (fun k => if GCond xs r (k + 1) then some (k + 1) else none) k d).map (fun g : Nat => .inr (g : Int)) := by
      intro d
      induction d with
      | zero => intro k; rfl
      | succ d ih =>
        intro k
        unfold firstOf
        by_cases hc : GCond xs r (k + 1)
        · rw [if_pos hc, if_pos hc]; rfl
        · rw [if_neg hc, if_neg hc]; exact ih (k + 1)
    rw [key]
    cases firstOf (fun k => if GCond xs r (k + 1) then some (k + 1) else none) 0 (r - 1) <;> rfl
  · intro k hk
    (try dsimp only)
    have hkr : k + 1 < 2 ^ xs.length := by omega
    have b1 := tab_bd hl r
    rw [if_pos (by simp only [decide_eq_true_eq]; omega), iandNot_zero (by omega) (by omega), wr_succ (n := 128) (by omega) (by omega)]
    by_cases hs : Sub (k + 1) r
    · have hms := minus_sub hs
      rw [decide_eq_true hs, if_pos rfl, ra_geti _ hkr, Option.bind_some, Option.bind_some]
      by_cases h1 : tab xs (k + 1) = 1
      · rw [if_pos (by simpa using h1), iandNot_nat (by omega) (by omega), ra_geti _ (by omega), Option.bind_some, ra_geti _ hr, Option.bind_some, Option.bind_some, wr (x := tab xs r - 1) ⟨by omega, by omega⟩]
        by_cases h2 : tab xs (minus r (k + 1)) = tab xs r - 1
        · rw [if_pos (by simpa using h2), if_pos (show GCond xs r (k + 1) from ⟨hs, h1, h2⟩)]
        · rw [if_neg (by simpa using h2), if_neg (show ¬ GCond xs r (k + 1) from fun h => h2 h.2.2)]
      · rw [if_neg (by simpa using h1), Option.bind_some, if_neg (by simp), if_neg (show ¬ GCond xs r (k + 1) from fun h => h1 h.2.1)]
    · rw [decide_eq_false hs, if_neg (by simp), Option.bind_some, if_neg (by simp), Option.bind_some, if_neg (by simp), if_neg (show ¬ GCond xs r (k + 1) from fun h => hs h.1)]
  · (try dsimp only)
    rw [if_neg (by simp only [decide_eq_true_eq]; omega)]
theorem mask_owed {xs : List Int} (h : OwedOk xs) {s : Nat} (hs : sm (vals xs s) = 0) : OwedOk (maskL xs s) := by
  obtain ⟨h1, h2⟩ := mask_ok h.1 h.2.1 s
  exact ⟨h1, h2, by rw [sm_mask]; exact hs⟩
/-- what is kept while group after group is settled -/
structure BI (xs : List Int) (out : PayL) (r : Nat) : Prop where
  sub : Sub r (nzm xs)
  zero : sm (vals xs r) = 0
  few : out.length + (vals xs r).length ≤ nzc xs
  go : ∀ q, Best xs r q → Best xs (nzm xs) (out ++ q)
theorem BI.start {xs : List Int} (h : OwedOk xs) : BI xs [] (nzm xs) := ⟨Nat.and_self _, by rw [vals_nzm, sm_nzs]; exact h.2.2, by rw [vals_nzm]; unfold nzc; simp, fun q hq => hq⟩
theorem BI.lt {xs : List Int} {out : PayL} {r : Nat} (h : BI xs out r) : r < 2 ^ xs.length := Nat.lt_of_le_of_lt h.sub.le (nzm_lt xs)
theorem BI.what {xs : List Int} {out : PayL} {r : Nat} (h : BI xs out r) (h0 : r ≠ 0) : Sub (grp xs r) r ∧ grp xs r ≠ 0 ∧ sm (vals xs (grp xs r)) = 0 ∧ tab xs (grp xs r) = 1 ∧ tab xs (minus r (grp xs r)) = tab xs r - 1 ∧ minus r (grp xs r) < r := (grp_isG (xs := xs) (r := r)).what h.lt h0 h.zero
theorem BI.step {xs : List Int} {out : PayL} {r : Nat} (h : BI xs out r) (hok : OwedOk xs) (h0 : r ≠ 0) {p : PayL} (hp : Fast (maskL xs (grp xs r)) p) : BI xs (out ++ p) (minus r (grp xs r)) ∧ minus r (grp xs r) < r ∧ p.length ≤ 7 := by
  obtain ⟨h1, h2, h3, h4, h5, h6⟩ := h.what h0
  have hsp := (vals_split xs h1).length_eq
  rw [List.length_append] at hsp
  have hlen := hp.len
  have hnz : nzc (maskL xs (grp xs r)) ≤ (vals xs (grp xs r)).length := by
    unfold nzc nzs
    rw [maskL_filter]; exact List.length_filter_le _ _
  have hv := vals_length_le xs (grp xs r)
  have h7 := hok.1
  have hpl : p.length ≤ (vals xs (grp xs r)).length := by
    rcases hlen with ⟨_, rfl⟩ | h8
    · simp
    · omega
  refine ⟨⟨(minus_Sub r (grp xs r)).trans h.sub, tab_rest h1 h.zero h3, by have := h.few; rw [List.length_append]; omega, fun q hq => ?_⟩, h6, by omega⟩
  have := h.go _ (Best.step h0 grp_isG hp hq)
  simpa using this
theorem implBest_ret {xs : List Int} (h : OwedOk xs) : Ret (impl_SettleBestS xs) (Best xs (nzm xs)) := by
  have h7 := h.1
  have hN := p128 h7
  unfold impl_SettleBestS
  rw [implOwedValid_eq, Option.bind_some, decide_eq_true h, if_neg (by simp), groupTable_eq h7 h.2.1, Option.bind_some, concerned_eq h7, Option.bind_some]
  refine Ret.loopb (fun s => ∃ r : Nat, s.2 = (r : Int) ∧ BI xs s.1 r) (fun s => s.2.toNat) (fun r => Best xs (nzm xs) r) ⟨nzm xs, rfl, BI.start h⟩ ?_ (fun r hr => Ret.pure hr)
  rintro ⟨out, q⟩ ⟨r, e, hI⟩
  dsimp only at e hI ⊢
  subst e
  by_cases h0 : r = 0
  · subst h0
    rw [if_neg (by simp)]
    have := hI.go [] Best.stop
    exact Ret.pure (by simpa using this)
  · have hlt := hI.lt
    rw [if_pos (by simp; omega), leastGroup_eq h7 hlt h0, Option.bind_some]
    obtain ⟨h1, h2, h3, h4, h5, h6⟩ := hI.what h0
    have hgle := h1.le
    rw [onlyOf_eq h7 (by omega), Option.bind_some]
    refine Ret.bind (implFast_ret (mask_owed h h3)) (fun p hp => ?_)
    obtain ⟨g1, g2, g3⟩ := hI.step h h0 hp
    have hfew := hI.few
    have hn := nzc_le xs
    rw [appO_ok (by omega), Option.bind_some, iandNot_nat (by omega) (by omega)]
    exact Ret.pure ⟨⟨_, rfl, g1⟩, by dsimp only; omega⟩
/-- the reference's second table -/
noncomputable def tabB (xs : List Int) (b : Nat) : Int := if sm (vals xs b) = 0 then (gmax (nzs (vals xs b)) : Int) else -1
theorem tabB_eq {xs : List Int} {b : Nat} (h : Sub b (nzm xs)) : tabB xs b = tab xs b := by
  unfold tabB tab
  have : nzs (vals xs b) = vals xs b := by
    unfold nzs
    rw [List.filter_eq_self]
    intro x hx
    simpa using vals_sub_nz xs h x hx
  rw [this]
theorem vals_owed {xs : List Int} (h : OwedOk xs) {s : Nat} (hs : sm (vals xs s) = 0) : OwedOk (vals xs s) := ⟨by have := vals_length_le xs s; have := h.1; omega, fun x hx => h.2.1 x (vals_mem xs s x hx), hs⟩
theorem people_eq {xs : List Int} (hl : xs.length ≤ 7) : (loop (σ := Int × Int) (ρ := (Int)) (fun (s : Int × Int) => match s with | (s11, s12) => (if (decide (s12 < (List.length xs : Int))) then ((geti xs s12).bind fun x14 => (if (x14 != 0) then ((ishlO .i64 1 s12).bind fun x24 => (some (.inl (IntKind.wrap .i64 (s11 + x24), IntKind.wrap .i64 (s12 + 1))))) else (some (.inl (s11, IntKind.wrap .i64 (s12 + 1)))))) else (some (.inr s11)))) (0, 0)) = some ((nzm xs : Nat) : Int) := by
  refine loopDet (fun k => (((nzm xs % 2 ^ k : Nat) : Int), (k : Int))) xs.length _ (by simp [Nat.mod_one]) (fun k hk => ?_) ?_
  · (try dsimp only)
    have h1 := mod_lt_pow (nzm xs) k
    have h2 := p128 (n := k) (by omega)
    rw [if_pos (by simp only [decide_eq_true_eq]; omega), geti_at0 hk, Option.bind_some, ishlO_nat (by omega), Option.bind_some, wr_succ (n := xs.length) (by omega) hk, wr (x := ((nzm xs % 2 ^ k : Nat) : Int) + ((2 ^ k : Nat) : Int)) ⟨by omega, by omega⟩, mod_pow_succ, nzm_bit]
    by_cases h : at0 xs k = 0
    · simp [h]
    · simp [h]
  · (try dsimp only)
    rw [if_neg (by simp), Nat.mod_eq_of_lt (nzm_lt xs)]
theorem valsLoop {xs : List Int} {s : Nat} (hl : xs.length ≤ 7) (hs : s < 128) : (loop (σ := (List Int) × Int) (ρ := ((List Int))) (fun (x : (List Int) × Int) => match x with | (s44, s45) => (if (decide (s45 < (List.length xs : Int))) then ((ishrO .i64 (s : Int) s45).bind fun x47 => (if ((Int.tmod x47 2) == 1) then ((geti xs s45).bind fun x50 => ((appO s44 ([x50])).bind fun x64 => (some (.inl (x64, IntKind.wrap .i64 (s45 + 1)))))) else (some (.inl (s44, IntKind.wrap .i64 (s45 + 1)))))) else (some (.inr s44)))) ([], 0)) = some (vals xs s) := by
  refine loopDet (fun k => (vals (xs.take k) s, (k : Int))) xs.length _ (by simp [vals]) (fun k hk => ?_) ?_
  · (try dsimp only)
    have h2 := vals_length_le (xs.take k) s
    have h3 : (xs.take k).length ≤ 7 := by rw [List.length_take]; omega
    rw [if_pos (by simp only [decide_eq_true_eq]; omega), ishrO_nat (by omega), Option.bind_some, shr_bit, geti_at0 hk, Option.bind_some, wr_succ (n := xs.length) (by omega) hk, vals_take_succ xs s k hk]
    by_cases hb : s.testBit k
    · rw [if_pos hb, if_pos hb, appO_ok (by simp; omega), Option.bind_some]
    · rw [if_neg hb, if_neg hb, List.append_nil]
  · (try dsimp only)
    rw [if_neg (by simp), List.take_length]
theorem l5First_eq {xs : List Int} (hl : xs.length ≤ 7) {r : Nat} (hr : r < 2 ^ xs.length) (h0 : r ≠ 0) (hsub : Sub r (nzm xs)) : spec_l5FirstS xs (ra (2 ^ xs.length) (tabB xs)) (r : Int) = some ((grp xs r : Nat) : Int) := by
  have hN := p128 hl
  unfold spec_l5FirstS
  rw [loopExit (s := (1 : Int)) (fun k => ((k + 1 : Nat) : Int)) r (fun k => if (k + 1 < r ∧ GCond xs r (k + 1)) ∨ (k + 1 = r ∧ tab xs r = 1) then some (.inr ((k + 1 : Nat) : Int)) else none) (.inl ()) rfl]
  · rw [Option.bind_some]
    unfold grp
    have key : ∀ d k, k + d = r → d ≠ 0 → firstOf (ρ := Unit ⊕ Int) (fun k => if (k + 1 < r ∧ GCond xs r (k + 1)) ∨ (k + 1 = r ∧ tab xs r = 1) then some (.inr ((k + 1 : Nat) : Int)) else none) k d = (match firstOf (fun k => if GCond xs r (k + 1) then some (k + 1) else none) k (d - 1) with | some g => some (.inr ((g : Nat) : Int)) | none => if tab xs r = 1 then some (.inr (r : Int)) else none) := by
      intro d
      induction d with
      | zero => intro k _ h; exact absurd rfl h
      | succ d ih =>
        intro k hk _
        cases d with
        | zero =>
          have e : k + 1 = r := by omega
          subst e
          by_cases ht : tab xs (k + 1) = 1
          · simp [firstOf, ht]
          · simp [firstOf, ht]
        | succ d =>
          have hlt : k + 1 < r := by omega
          have ih' := ih (k + 1) (by omega) (by omega)
          have e2 : d + 1 + 1 - 1 = d + 1 := rfl
          rw [e2]
          conv => lhs; unfold firstOf
          conv => rhs; unfold firstOf
          by_cases hc : GCond xs r (k + 1)
          · rw [if_pos (.inl ⟨hlt, hc⟩), if_pos hc]
          · rw [if_neg (fun h => by rcases h with h | h; exact hc h.2; omega), if_neg hc]
            exact ih'
    rw [key r 0 (by omega) h0]
    cases firstOf (fun k => if GCond xs r (k + 1) then some (k + 1) else none) 0 (r - 1) with
    | some g => rfl
    | none =>
      by_cases ht : tab xs r = 1
      · rw [if_pos ht]; rfl
      · rw [if_neg ht]; rfl
  · intro k hk
    (try dsimp only)
    have hkr : k + 1 < 2 ^ xs.length := by omega
    have b1 := tab_bd hl r
    rw [if_pos (by simp only [decide_eq_true_eq]; omega), l1Meet_eq (by omega) (by omega), Option.bind_some, wr_succ (n := 128) (by omega) (by omega)]
    by_cases hs : Sub (k + 1) r
    · have e1 : (k + 1) &&& r = k + 1 := hs
      have hms := minus_sub hs
      rw [e1, if_pos (by simp), ra_geti _ hkr, Option.bind_some, Option.bind_some, tabB_eq (hs.trans hsub)]
      by_cases h1 : tab xs (k + 1) = 1
      · rw [if_pos (by simpa using h1)]
        by_cases he : k + 1 = r
        · rw [if_pos (by simp only [beq_iff_eq]; omega), Option.bind_some, Option.bind_some, if_pos rfl, if_pos (.inr ⟨he, by rw [← he]; exact h1⟩)]
        · have e2 : IntKind.wrap .i64 ((r : Int) - ((k + 1 : Nat) : Int)) = ((minus r (k + 1) : Nat) : Int) := by rw [wr ⟨by omega, by omega⟩]; omega
          rw [if_neg (by simp only [beq_iff_eq]; omega), e2, ra_geti _ (by omega), Option.bind_some, ra_geti _ hr, Option.bind_some, Option.bind_some, Option.bind_some, tabB_eq hsub, tabB_eq ((minus_Sub _ _).trans hsub), wr (x := tab xs r - 1) ⟨by omega, by omega⟩]
          by_cases h2 : tab xs (minus r (k + 1)) = tab xs r - 1
          · rw [if_pos (by simpa using h2), if_pos (.inl ⟨by omega, hs, h1, h2⟩)]
          · rw [if_neg (by simpa using h2), if_neg (fun h => by rcases h with h | h; exact h2 h.2.2.2; exact he h.1)]
      · rw [if_neg (by simpa using h1), Option.bind_some, if_neg (by simp), if_neg (fun h => by rcases h with h | h; exact h1 h.2.2.1; exact h1 (by rw [h.1]; exact h.2))]
    · have e1 : ((((k + 1) &&& r : Nat) : Int) == ((k + 1 : Nat) : Int)) = false := by
        rw [beq_eq_false_iff_ne]; intro e; exact hs (by unfold Sub; omega)
      rw [e1, if_neg (by simp), Option.bind_some, if_neg (by simp), Option.bind_some, if_neg (by simp), if_neg (fun h => by
        rcases h with h | h
        · exact hs h.2.1
        · exact hs (by rw [h.1]; exact Nat.and_self r))]
  · (try dsimp only)
    rw [if_neg (by simp only [decide_eq_true_eq]; omega)]
theorem partLoop {xs : List Int} {s : Nat} (hl : xs.length ≤ 7) (hs : s < 128) : (loop (σ := Int × (List Int)) (ρ := ((List Int))) (fun (x : Int × (List Int)) => match x with | (s123, s124) => (if (decide (s123 < (List.length xs : Int))) then ((ishrO .i64 (s : Int) s123).bind fun x126 => (if ((Int.tmod x126 2) == 1) then ((geti xs s123).bind fun x129 => ((geti s124 s123).bind fun x138 => (some (.inl (IntKind.wrap .i64 (s123 + 1), (List.set s124 (Int.toNat s123) x129)))))) else (some (.inl (IntKind.wrap .i64 (s123 + 1), s124))))) else (some (.inr s124)))) (0, ra xs.length fun _ => 0)) = some (maskL xs s) := by
  refine loopDet (fun k => ((k : Int), ra xs.length (fun j => if j < k then at0 (maskL xs s) j else 0))) xs.length _ (by simp only [Nat.not_lt_zero, if_false]; rfl) (fun k hk => ?_) ?_
  · (try dsimp only)
    rw [if_pos (by simp only [decide_eq_true_eq]; omega), ishrO_nat (by omega), Option.bind_some, shr_bit, geti_at0 hk, Option.bind_some, ra_geti _ hk, Option.bind_some, wr_succ (n := xs.length) (by omega) hk, ra_set]
    by_cases hb : s.testBit k
    · rw [if_pos hb]
      congr 3
      apply ra_ext
      intro j hj
      by_cases h1 : j = k
      · subst h1; rw [if_pos rfl, if_pos (by omega), at0_mask, if_pos hb]
      · rw [if_neg h1]
        by_cases h3 : j < k
        · rw [if_pos h3, if_pos (by omega)]
        · rw [if_neg h3, if_neg (by omega)]
    · rw [if_neg hb]
      congr 3
      apply ra_ext
      intro j hj
      by_cases h3 : j < k
      · rw [if_pos h3, if_pos (by omega)]
      · rw [if_neg h3]
        by_cases h1 : j = k
        · subst h1; rw [if_pos (by omega), at0_mask, if_neg hb]
        · rw [if_neg (by omega)]
  · (try dsimp only)
    rw [if_neg (by simp)]
    congr 2
    have := ra_of (maskL xs s)
    rw [maskL_length] at this
    rw [this]
    apply ra_ext
    intro j hj
    rw [if_pos hj]
    rw [← this]
theorem specBest_ret {xs : List Int} (h : OwedOk xs) : Ret (spec_SettleBestS xs) (Best xs (nzm xs)) := by
  have h7 := h.1
  have hN := p128 h7
  have hN0 := Nat.two_pow_pos xs.length
  unfold spec_SettleBestS
  rw [specOwedValid_eq _ (by omega), Option.bind_some, decide_eq_true h, if_neg (by simp), people_eq h7, Option.bind_some]
  (try dsimp only)
  rw [l5Groups_eq h7 h.rg, Option.bind_some]
  rw [loopDet (fun k => (ra k (tabB xs), (k : Int))) (2 ^ xs.length) (ra (2 ^ xs.length) (tabB xs))]
  · rw [Option.bind_some]
    (try dsimp only)
    refine Ret.loopb (fun s => ∃ r : Nat, s.2 = (r : Int) ∧ BI xs s.1 r) (fun s => s.2.toNat) (fun r => Best xs (nzm xs) r) ⟨nzm xs, rfl, BI.start h⟩ ?_ (fun r hr => Ret.pure hr)
    rintro ⟨out, q⟩ ⟨r, e, hI⟩
    dsimp only at e hI ⊢
    subst e
    by_cases h0 : r = 0
    · subst h0
      rw [if_neg (by simp)]
      have := hI.go [] Best.stop
      exact Ret.pure (by simpa using this)
    · have hlt := hI.lt
      rw [if_pos (by simp; omega), l5First_eq h7 hlt h0 hI.sub, Option.bind_some]
      obtain ⟨h1, h2, h3, h4, h5, h6⟩ := hI.what h0
      have hgle := h1.le
      rw [mk_ra (by omega), Option.bind_some, partLoop h7 (by omega), Option.bind_some]
      refine Ret.bind (specFast_ret (mask_owed h h3)) (fun p hp => ?_)
      obtain ⟨g1, g2, g3⟩ := hI.step h h0 hp
      have hfew := hI.few
      have hn := nzc_le xs
      have hms := minus_sub h1
      rw [appO_ok (by omega), Option.bind_some, wr (x := (r : Int) - ((grp xs r : Nat) : Int)) ⟨by omega, by omega⟩]
      exact Ret.pure ⟨⟨_, by dsimp only; omega, g1⟩, by dsimp only; omega⟩
  · rfl
  · intro k hk
    (try dsimp only)
    rw [if_pos (by simp only [ra_length, decide_eq_true_eq]; omega), valsLoop h7 (by omega), Option.bind_some]
    (try dsimp only)
    rw [ra_geti _ hk, Option.bind_some, wr_succ (n := 128) (by omega) (by omega), ra_succ]
    by_cases hz : sm (vals xs k) = 0
    · have e1 : tab xs k ≥ 0 := by unfold tab; rw [if_pos hz]; omega
      have e2 : tabB xs k = groups (vals xs k) := by unfold tabB groups; rw [if_pos hz, if_pos (vals_owed h hz)]
      have e3 : 0 ≤ tabB xs k := by unfold tabB; rw [if_pos hz]; omega
      rw [if_pos (by simpa using e1), specGroups_eq _ (by have := vals_length_le xs k; omega), Option.bind_some, ← e2, if_neg (by omega), appO_ok (by rw [ra_length]; simp; omega), Option.bind_some]
    · have e1 : ¬ tab xs k ≥ 0 := by unfold tab; rw [if_neg hz]; omega
      have e2 : tabB xs k = -1 := by unfold tabB; rw [if_neg hz]
      rw [if_neg (by simpa using e1), e2, appO_ok (by rw [ra_length]; simp; omega), Option.bind_some]
  · (try dsimp only)
    rw [if_neg (by simp [ra_length])]
theorem best_both {xs : List Int} (h : OwedOk xs) : ∃ p, impl_SettleBestS xs = some p ∧ spec_SettleBestS xs = some p ∧ Best xs (nzm xs) p := by
  obtain ⟨p, h1, h2⟩ := implBest_ret h
  obtain ⟨q, h3, h4⟩ := specBest_ret h
  rw [h2.uniq h4] at h1
  exact ⟨q, h1, h3, h4⟩
theorem best_not {xs : List Int} (hl : xs.length ≤ 1000) (h : ¬ OwedOk xs) : impl_SettleBestS xs = some [] ∧ spec_SettleBestS xs = some [] := by
  constructor
  · unfold impl_SettleBestS
    rw [implOwedValid_eq, Option.bind_some, decide_eq_false h, if_pos (by simp)]
  · unfold spec_SettleBestS
    rw [specOwedValid_eq _ (by omega), Option.bind_some, decide_eq_false h, if_pos (by simp)]
theorem best_facts {xs : List Int} (h : OwedOk xs) {p : PayL} (hp : Best xs (nzm xs) p) :
    (∀ q ∈ p, ∃ f t : Nat, q = ((f : Int), (t : Int), q.2.2) ∧ f < xs.length ∧ t < xs.length ∧ at0 xs f < 0 ∧ 0 < at0 xs t ∧ 1 ≤ q.2.2 ∧ q.2.2 ≤ 9999) ∧ (∀ i : Nat, at0 xs i + flow p i = 0) ∧ (p.length : Int) = settleLeast xs := by
  obtain ⟨f1, f2, f3⟩ := hp.facts h.2.1 (by omega) (nzm_lt xs) (by rw [vals_nzm, sm_nzs]; exact h.2.2) (vals_sub_nz xs (Nat.and_self _))
  refine ⟨f1, fun i => ?_, ?_⟩
  · have := f2 i
    rw [at0_mask, nzm_bit] at this
    by_cases h0 : at0 xs i = 0
    · simp [h0] at this; omega
    · simp [h0] at this; omega
  · rw [tab_people h, vals_nzm] at f3
    unfold settleLeast
    rw [if_pos h]
    have : nzc xs = (nzs xs).length := rfl
    omega
theorem pl_FnSettleLeast (x : List Int) (hw : ∀ n ∈ x, InK .u8 n) : laws_FnSettleLeastS x = some true := by
  unfold laws_FnSettleLeastS
  by_cases hl : (x.length : Int) > 1048576
  · rw [if_pos (by simp; omega)]
  rw [if_neg (by simp; omega)]
  obtain ⟨xs, hd, hr⟩ := drawOwed (f := spec_DrawSettleLeastS) (fun x => rfl) x (u8_of hw)
  have hl8 := hr.1
  rw [hd, Option.bind_some, implLeast_eq, Option.bind_some, specLeast_eq _ (by omega), Option.bind_some, if_neg (by simp)]
  by_cases h : OwedOk xs
  · obtain ⟨p, e1, _, hB⟩ := best_both h
    obtain ⟨q, e2, _, hF⟩ := fast_both h
    obtain ⟨f1, f2, f3⟩ := best_facts h hB
    obtain ⟨g1, g2⟩ := gmax_nz h
    obtain ⟨q1, q2⟩ := hF.facts h.2.1
    have hlen := hF.len
    have hleast := settle_least (xs := xs) (ps := q) (fun p hp => by obtain ⟨f, t, e, h1, h2, _⟩ := q1 p hp; rw [e]; simp only; omega) (fun i _ => q2 i)
    have hs : settleLeast xs = ((nzc xs : Nat) : Int) - (gmax (nzs xs) : Int) := by unfold settleLeast; rw [if_pos h]
    rw [if_neg (by simp; omega), e1, Option.bind_some, e2, Option.bind_some, if_pos (by simpa using f3), implPaysOk_eq _ _ (by omega) (by omega), Option.bind_some, paysOk_true (paysOk_of h f1 f2), Option.bind_some, wr (x := 2 * settleLeast xs) ⟨by omega, by omega⟩]
    rcases hlen with ⟨h1, rfl⟩ | h1
    · simp; omega
    · have : decide ((q.length : Int) < 2 * settleLeast xs) = true := by rw [decide_eq_true_eq]; omega
      rw [this]
      simp; omega
  · have hs : settleLeast xs = -1 := by unfold settleLeast; rw [if_neg h]
    rw [hs]; rfl
theorem pl_FnSettleBest (x : List Int) (hw : ∀ n ∈ x, InK .u8 n) : laws_FnSettleBestS x = some true := by
  unfold laws_FnSettleBestS
  by_cases hl : (x.length : Int) > 1048576
  · rw [if_pos (by simp; omega)]
  rw [if_neg (by simp; omega)]
  obtain ⟨xs, hd, hr⟩ := drawOwed (f := spec_DrawSettleBestS) (fun x => rfl) x (u8_of hw)
  have hl8 := hr.1
  rw [hd, Option.bind_some]
  by_cases h : OwedOk xs
  · obtain ⟨p, e1, e2, hB⟩ := best_both h
    obtain ⟨f1, f2, f3⟩ := best_facts h hB
    obtain ⟨g1, g2⟩ := gmax_nz h
    have hs : settleLeast xs = ((nzc xs : Nat) : Int) - (gmax (nzs xs) : Int) := by unfold settleLeast; rw [if_pos h]
    rw [e1, Option.bind_some, e2, Option.bind_some, samePays_eq _ _ (by omega), Option.bind_some, if_neg (by simp), specOwedValid_eq _ (by omega), Option.bind_some, decide_eq_true h, if_neg (by simp)]
    rw [loopAll p.length (fun _ => true)]
    · rw [Option.bind_some, if_pos (by simp)]
      (try dsimp only)
      rw [implPaysOk_eq _ _ (by omega) (by omega), paysOk_true (paysOk_of h f1 f2)]
      rfl
    · intro k hk
      (try dsimp only)
      have hmem : p.getD k default ∈ p := by rw [List.getD_eq_getElem?_getD, List.getElem?_eq_getElem hk]; exact List.getElem_mem hk
      obtain ⟨f, t, e, h1, h2, h3, h4, _⟩ := f1 _ hmem
      have e3 : (p.getD k default).1 = (f : Int) := by rw [e]
      have e4 : (p.getD k default).2.1 = (t : Int) := by rw [e]
      rw [if_pos (by simp only [decide_eq_true_eq]; omega), geti_get hk, Option.bind_some, e3, geti_at0 h1, Option.bind_some, if_neg (by simp only [decide_eq_true_eq]; omega), Option.bind_some, e4, geti_at0 h2, Option.bind_some, Option.bind_some, if_neg (by simp only [decide_eq_true_eq]; omega), wr_succ (n := p.length) (by omega) hk]
      rfl
    · (try dsimp only); rw [if_neg (by simp)]
  · obtain ⟨e1, e2⟩ := best_not (by omega) h
    rw [e1, Option.bind_some, e2, Option.bind_some, samePays_eq _ _ (by simp), Option.bind_some, if_neg (by simp), specOwedValid_eq _ (by omega), Option.bind_some, decide_eq_false h, if_pos (by simp)]
    rfl
end Go.Proofs.YtohhaladggoglaaDoor
