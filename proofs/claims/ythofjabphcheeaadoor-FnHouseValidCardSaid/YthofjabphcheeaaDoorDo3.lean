/- A deed is done to a house: the program's function and the reference's are one. Own work; no program in sight. -/
import Derived.Test.YthofjabphcheeaaDoorDo2
set_option linter.unusedVariables false
namespace Go.Proofs.YthofjabphcheeaaDoor
open Go Go.RowKit
section
variable {it : List HItem} {pr st : List Int} {cash : Int} {tb : List HTab}
noncomputable def effZ (it : List HItem) (pr st : List Int) (cash : Int) (tb : List HTab) (a b c d : Int) : Option EE :=
  if a = 0 then buyE it pr st cash tb b c else if a = 1 then makeE it pr st cash tb b c else if a = 2 then some (st, cash, tb ++ [(b, [], [])]) else if a = 3 then orderE it pr st cash tb b c d else if a = 4 then workE pr st cash tb else if a = 5 then closeE it pr st cash tb b else none
noncomputable def finZ (it : List HItem) (pr st : List Int) (cash : Int) (tb : List HTab) (e : Option EE) : HH × Bool := match e with
  | some e => if houseB it pr e.1 e.2.1 e.2.2 = true then ((it, pr, e.1, e.2.1, e.2.2), true) else ((it, pr, st, cash, tb), false)
  | none => ((it, pr, st, cash, tb), false)
noncomputable def doZ (it : List HItem) (pr st : List Int) (cash : Int) (tb : List HTab) (a b c d : Int) : HH × Bool :=
  if houseB it pr st cash tb = true then (if namedB a b c d = true then finZ it pr st cash tb (effZ it pr st cash tb a b c d) else ((it, pr, st, cash, tb), false)) else (([], [], [], 0, []), false)
theorem buyE_some {b c : Int} {e : EE} (h : buyE it pr st cash tb b c = some e) : e.2.2 = tb ∧ ∃ k x, e.1 = st.set k x := by
  unfold buyE at h
  split at h
  · split at h
    · obtain rfl := Option.some.inj h; exact ⟨rfl, _, _, rfl⟩
    · cases h
  · cases h
theorem makeE_some {b c : Int} {e : EE} (h : makeE it pr st cash tb b c = some e) : e.2.1 = cash ∧ e.2.2 = tb ∧ (0 ≤ b ∧ b < (it.length : Int)) ∧ (1 ≤ c ∧ c ≤ 50) ∧ (runZ it st b c).2 = true ∧ e.1 = (runZ it st b c).1 := by
  unfold makeE at h
  by_cases hb : 0 ≤ b ∧ b < (it.length : Int)
  · split at h
    · split at h
      · rename_i h1
        split at h
        · rename_i h2
          obtain rfl := Option.some.inj h; exact ⟨rfl, rfl, hb, h1.2, h2, rfl⟩
        · cases h
      · cases h
    · cases h
  · rw [geti_out hb] at h; cases h
theorem orderE_some {b c d : Int} {e : EE} (h : orderE it pr st cash tb b c d = some e) : e.2.1 = cash ∧ (∃ k x, e.1 = st.set k x) ∧ ∃ t ∈ tb, ∃ k, e.2.2 = tb.set k (t.1, t.2.1 ++ [(d, 0)], t.2.2 ++ [c]) := by
  unfold orderE at h
  split at h
  · rename_i t s ht hs
    split at h
    · obtain rfl := Option.some.inj h
      refine ⟨rfl, ⟨_, _, rfl⟩, t, ?_, _, rfl⟩
      unfold geti at ht
      split at ht
      · exact List.mem_of_getElem? ht
      · cases ht
    · cases h
  · cases h
theorem workE_some {e : EE} (h : workE pr st cash tb = some e) : e = (st, cash, putTo tb (stepK (ticksOf tb)).1 tb.length) := by
  unfold workE at h
  split at h
  · exact (Option.some.inj h).symm
  · cases h
theorem closeE_some {b : Int} {e : EE} (h : closeE it pr st cash tb b = some e) : e.1 = st ∧ e.2.2 = tb.take b.toNat ++ tb.drop (b.toNat + 1) := by
  unfold closeE at h
  split at h
  · split at h
    · obtain rfl := Option.some.inj h; exact ⟨rfl, rfl⟩
    · cases h
  · cases h
theorem effZ_L (h : HouseL it pr st tb) (hv : houseB it pr st cash tb = true) {a b c d : Int} {e : EE} (he : effZ it pr st cash tb a b c d = some e) : HouseL it pr e.1 e.2.2 := by
  obtain ⟨h1, h2, h3, h4⟩ := h
  have hn := itemsB_len (houseB_items hv)
  have htl := (houseB_tables hv).1
  have htk := (houseB_tables hv).2
  unfold effZ at he
  split at he
  · obtain ⟨e1, k, x, e2⟩ := buyE_some he
    exact ⟨h1, h2, by rw [e2, List.length_set]; exact h3, by rw [e1]; exact h4⟩
  · split at he
    · obtain ⟨_, e1, hb, hc, hr, e2⟩ := makeE_some he
      obtain ⟨k, rfl, hk⟩ := in_nat hb
      exact ⟨h1, h2, by rw [e2, (run_eq h1 hv hk hc).2.2 hr]; omega, by rw [e1]; exact h4⟩
    · split at he
      · obtain rfl := Option.some.inj he
        refine ⟨h1, h2, h3, by simp; omega, fun t ht => ?_⟩
        rcases List.mem_append.1 ht with ht | ht
        · exact h4.2 t ht
        · simp at ht; subst ht; simp
      · split at he
        · obtain ⟨_, ⟨k, x, e2⟩, t, ht, q, e3⟩ := orderE_some he
          have hT := tableB_true.1 (htk t ht)
          have hl := ticket_len hT.2.1
          refine ⟨h1, h2, by rw [e2, List.length_set]; exact h3, ?_⟩
          rw [e3]
          refine ⟨by rw [List.length_set]; exact h4.1, fun y hy => ?_⟩
          rcases List.mem_or_eq_of_mem_set hy with hy | rfl
          · exact h4.2 y hy
          · have := hT.2.2.1
            simp; omega
        · split at he
          · obtain rfl := workE_some he
            exact ⟨h1, h2, h3, putTo_L h4 (stepK_small h4.ticks) _⟩
          · split at he
            · obtain ⟨e1, e2⟩ := closeE_some he
              refine ⟨h1, h2, by rw [e1]; exact h3, ?_⟩
              rw [e2]
              refine ⟨by simp; omega, fun y hy => ?_⟩
              rcases List.mem_append.1 hy with hy | hy
              · exact h4.2 y (List.mem_of_mem_take hy)
              · exact h4.2 y (List.mem_of_mem_drop hy)
            · cases he
theorem doZ_L (h : HouseL it pr st tb) (a b c d : Int) : HouseL (doZ it pr st cash tb a b c d).1.1 (doZ it pr st cash tb a b c d).1.2.1 (doZ it pr st cash tb a b c d).1.2.2.1 (doZ it pr st cash tb a b c d).1.2.2.2.2 := by
  have h0 : HouseL [] [] [] [] := ⟨⟨by simp, fun x hx => by cases hx⟩, by simp, by simp, by simp, fun x hx => by cases hx⟩
  unfold doZ
  split
  · rename_i hv
    split
    · unfold finZ
      cases he : effZ it pr st cash tb a b c d with
      | none => exact h
      | some e =>
        dsimp only
        split
        · exact effZ_L h hv he
        · exact h
    · exact h
  · exact h0
theorem spec_fin (h : HouseL it pr st tb) {e : Option EE} {x : HH × Bool} (hx : SpecOk it pr st cash tb e x) (hL : ∀ f, e = some f → HouseL it pr f.1 f.2.2) : ((if (!x.2) = true then some true else ((spec_HouseValidS x.1.1 x.1.2.1 x.1.2.2.1 x.1.2.2.2.1 x.1.2.2.2.2).bind fun v => some (!v))).bind fun bb => if bb = true then ((spec_l7CopyS it pr st cash tb).bind fun x => (some ((x.1, x.2.1, x.2.2.1, x.2.2.2.1, x.2.2.2.2), false) : Option (HH × Bool))) else some ((x.1.1, x.1.2.1, x.1.2.2.1, x.1.2.2.2.1, x.1.2.2.2.2), true)) = some (finZ it pr st cash tb e) := by
  rw [specCopyH_id cash h]
  rcases hx with ⟨f, rfl, rfl⟩ | ⟨h1, h2⟩
  · dsimp only
    rw [specHouse_eq f.2.1 (hL f rfl)]
    unfold finZ
    dsimp only
    cases houseB it pr f.1 f.2.1 f.2.2 <;> rfl
  · rw [h1]
    unfold finZ
    cases e with
    | none => rfl
    | some f => dsimp only; rw [h2 f rfl]; rfl
theorem specDo_eq (h : HouseL it pr st tb) (a b c d : Int) : spec_HouseDoS it pr st cash tb a b c d = some (doZ it pr st cash tb a b c d) := by
  unfold spec_HouseDoS doZ
  rw [specHouse_eq cash h, Option.bind_some]
  by_cases hv : houseB it pr st cash tb = true
  · rw [if_neg (by rw [hv]; simp), if_pos hv]
    have hEL := fun e (he : effZ it pr st cash tb a b c d = some e) => effZ_L (a := a) (b := b) (c := c) (d := d) h hv he
    have hl4 := (houseB_tables hv).1
    have hfin := fun (e : Option EE) (x : HH × Bool) (hx : SpecOk it pr st cash tb e x) (hL : ∀ f, e = some f → HouseL it pr f.1 f.2.2) => spec_fin h hx hL
    rw [specCopyH_id cash h] at hfin ⊢
    rw [Option.bind_some]
    dsimp only at hfin ⊢
    have hname : namedB a b c d = (decide (0 ≤ a ∧ a ≤ 5) && !(((((a != 3) && (d != 0)) || ((decide (a ≥ 4)) && (c != 0))) || ((a == 4) && (b != 0))) || ((a == 2) && (c != 0)))) := rfl
    generalize (((((a != 3) && (d != 0)) || ((decide (a ≥ 4)) && (c != 0))) || ((a == 4) && (b != 0))) || ((a == 2) && (c != 0))) = bad at hname ⊢
    cases bad with
    | true => rw [if_pos rfl, hname]; simp
    | false =>
      rw [if_neg (by simp)]
      rw [Bool.not_false, Bool.and_true] at hname
      by_cases ha : 0 ≤ a ∧ a ≤ 5
      · rw [hname, decide_eq_true ha, if_pos (show true = true from rfl)]
        unfold effZ at hEL ⊢
        by_cases a0 : a = 0
        · rw [if_pos (by simpa using a0), if_pos a0]
          rw [if_pos a0] at hEL
          obtain ⟨x, h1, h2⟩ := specBuy_eq hv b c
          rw [h1, Option.bind_some]
          exact hfin _ x h2 hEL
        · rw [if_neg (by simpa using a0), if_neg a0]
          rw [if_neg a0] at hEL
          by_cases a1 : a = 1
          · rw [if_pos (by simpa using a1), if_pos a1]
            rw [if_pos a1] at hEL
            obtain ⟨x, h1, h2⟩ := specMake_eq h.1 hv b c
            rw [h1, Option.bind_some]
            exact hfin _ x h2 hEL
          · rw [if_neg (by simpa using a1), if_neg a1]
            rw [if_neg a1] at hEL
            by_cases a2 : a = 2
            · rw [if_pos (by simpa using a2), if_pos a2]
              rw [if_pos a2] at hEL
              rw [appO_le (by simp; omega), Option.bind_some]
              exact hfin _ ((it, pr, st, cash, tb ++ [(b, [], [])]), true) (.inl ⟨_, rfl, rfl⟩) hEL
            · rw [if_neg (by simpa using a2), if_neg a2]
              rw [if_neg a2] at hEL
              by_cases a3 : a = 3
              · rw [if_pos (by simpa using a3), if_pos a3]
                rw [if_pos a3] at hEL
                obtain ⟨x, h1, h2⟩ := specOrder_eq h hv b c d
                rw [h1, Option.bind_some]
                exact hfin _ x h2 hEL
              · rw [if_neg (by simpa using a3), if_neg a3]
                rw [if_neg a3] at hEL
                by_cases a4 : a = 4
                · rw [if_pos (by simpa using a4), if_pos a4]
                  rw [if_pos a4] at hEL
                  obtain ⟨x, h1, h2⟩ := specWork_eq (cash := cash) h
                  rw [h1, Option.bind_some]
                  exact hfin _ x h2 hEL
                · rw [if_neg (by simpa using a4), if_neg a4]
                  rw [if_neg a4] at hEL
                  have a5 : a = 5 := by omega
                  rw [if_pos (by simpa using a5), if_pos a5]
                  rw [if_pos a5] at hEL
                  obtain ⟨x, h1, h2⟩ := specClose_eq h hv b
                  rw [h1, Option.bind_some]
                  exact hfin _ x h2 hEL
      · rw [hname, decide_eq_false ha, if_neg (show ¬ (false = true) by decide)]
        have b0 : ¬ a = 0 := by omega
        have b1 : ¬ a = 1 := by omega
        have b2 : ¬ a = 2 := by omega
        have b3 : ¬ a = 3 := by omega
        have b4 : ¬ a = 4 := by omega
        have b5 : ¬ a = 5 := by omega
        simp [b0, b1, b2, b3, b4, b5]
  · rw [if_pos (by simpa using hv), if_neg hv]
end
end Go.Proofs.YthofjabphcheeaaDoor
