import Derived.Test.YtpklpghbkhegnaaGreatDoorMPl
import Derived.Test.YtpklpghbkhegnaaGreatDoorMHs
import Derived.Test.YtpklpghbkhegnaaGreatDoorDraw
import Derived.Test.YtpklpghbkhegnaaGreatDoorMDo
import Derived.Test.YtpklpghbkhegnaaGreatDoorMWk
/- Loops that compare lists. Own work; no program in sight. -/
set_option linter.unusedVariables false
namespace Go.Proofs.YtpklpghbkhegnaaGreatDoor
open Go Go.RowKit
theorem loopEq {α : Type} [DecidableEq α] (xs ys : List α) (hl : xs.length = ys.length) {step : Int → Option (Int ⊕ (Unit ⊕ Bool))}
    (h : ∀ k (hk : k < xs.length) (hy : k < ys.length), step (k : Int) = some (if xs[k] = ys[k] then .inl ((k + 1 : Nat) : Int) else .inr (.inr false))) (he : step (xs.length : Int) = some (.inr (.inl ()))) :
    loop (σ := Int) (ρ := Unit ⊕ Bool) step 0 = some (if xs = ys then .inl () else .inr false) := by
  rw [loopList xs (fun k x => decide (ys[k]? = some x))]
  · have e : (allI xs fun k x => decide (ys[k]? = some x)) = decide (xs = ys) := by
      rw [Bool.eq_iff_iff, allI_true, decide_eq_true_eq]
      constructor
      · intro h
        refine List.ext_getElem hl fun k h1 h2 => ?_
        have := of_decide_eq_true (h k h1)
        rw [List.getElem?_eq_getElem h2] at this
        exact (Option.some.inj this).symm
      · rintro rfl k hk
        exact decide_eq_true (List.getElem?_eq_getElem hk)
    rw [e]
    by_cases hx : xs = ys
    · rw [if_pos hx, if_pos (decide_eq_true hx)]
    · rw [if_neg hx, if_neg (by simpa using hx)]
  · intro k hk
    have hy : k < ys.length := by omega
    rw [h k hk hy, List.getElem?_eq_getElem hy]
    by_cases hx : xs[k] = ys[k]
    · rw [if_pos hx, if_pos (decide_eq_true (by rw [hx]))]
    · rw [if_neg hx, if_neg (by simpa using fun e => hx e.symm)]
  · exact he
end Go.Proofs.YtpklpghbkhegnaaGreatDoor

/- (nothing of this text is needed here) -/

/- (nothing of this text is needed here) -/

/- (nothing of this text is needed here) -/

/- (nothing of this text is needed here) -/

/- (nothing of this text is needed here) -/

/- (nothing of this text is needed here) -/

/- Deeds done one behind the other, in parts as well. Own work; no program in sight. -/
set_option linter.unusedVariables false
namespace Go.Proofs.YtpklpghbkhegnaaGreatDoor
open Go Go.RowKit
noncomputable def stepZ (h : HH) (d : HDeed) : HH × Bool := doZ h.1 h.2.1 h.2.2.1 h.2.2.2.1 h.2.2.2.2 d.1 d.2.1 d.2.2.1 d.2.2.2
noncomputable def gstep (s : HH × Nat) (d : HDeed) : HH × Nat := ((stepZ s.1 d).1, if (stepZ s.1 d).2 then s.2 + 1 else s.2)
noncomputable def goZ (xs : List HDeed) (h : HH) : HH × Nat := xs.foldl gstep (h, 0)
def HL (h : HH) : Prop := HouseL h.1 h.2.1 h.2.2.1 h.2.2.2.2
noncomputable def hB (h : HH) : Bool := houseB h.1 h.2.1 h.2.2.1 h.2.2.2.1 h.2.2.2.2
theorem stepZ_L {h : HH} (hL : HL h) (d : HDeed) : HL (stepZ h d).1 := doZ_L hL _ _ _ _
theorem finZ_cases (it : List HItem) (pr st : List Int) (cash : Int) (tb : List HTab) (e : Option EE) (hv : houseB it pr st cash tb = true) : hB (finZ it pr st cash tb e).1 = true ∧ ((finZ it pr st cash tb e).2 = false → (finZ it pr st cash tb e).1 = (it, pr, st, cash, tb)) := by
  unfold finZ
  cases e with
  | none => exact ⟨hv, fun _ => rfl⟩
  | some e =>
    dsimp only
    by_cases h : houseB it pr e.1 e.2.1 e.2.2 = true
    · rw [if_pos h]; exact ⟨h, fun h => by cases h⟩
    · rw [if_neg h]; exact ⟨hv, fun _ => rfl⟩
theorem stepZ_cases {h : HH} (hv : hB h = true) (d : HDeed) : hB (stepZ h d).1 = true ∧ ((stepZ h d).2 = false → (stepZ h d).1 = h) := by
  have hv' : houseB h.1 h.2.1 h.2.2.1 h.2.2.2.1 h.2.2.2.2 = true := hv
  unfold stepZ doZ
  rw [if_pos hv']
  split
  · exact finZ_cases _ _ _ _ _ _ hv'
  · exact ⟨hv, fun _ => rfl⟩
theorem goZ_succ (xs : List HDeed) (h : HH) {k : Nat} (hk : k < xs.length) : goZ (xs.take (k + 1)) h = gstep (goZ (xs.take k) h) xs[k] := by
  unfold goZ
  rw [List.take_succ_eq_append_getElem hk, List.foldl_append]; rfl
theorem goZ_all {h : HH} (hL : HL h) (hv : hB h = true) (xs : List HDeed) : HL (goZ xs h).1 ∧ hB (goZ xs h).1 = true ∧ (goZ xs h).2 ≤ xs.length := by
  have key : ∀ (xs : List HDeed) (s : HH × Nat), HL s.1 → hB s.1 = true → HL (xs.foldl gstep s).1 ∧ hB (xs.foldl gstep s).1 = true ∧ (xs.foldl gstep s).2 ≤ s.2 + xs.length := by
    intro xs
    induction xs with
    | nil => intro s h1 h2; exact ⟨h1, h2, Nat.le_refl _⟩
    | cons d xs ih =>
      intro s h1 h2
      have := ih (gstep s d) (stepZ_L h1 d) (stepZ_cases h2 d).1
      refine ⟨this.1, this.2.1, Nat.le_trans this.2.2 ?_⟩
      show (if (stepZ s.1 d).2 then s.2 + 1 else s.2) + xs.length ≤ s.2 + (xs.length + 1)
      split <;> omega
  have := key xs (h, 0) hL hv
  simpa [goZ] using this
noncomputable def goR (h : HH) (xs : List HDeed) : HH × Int := if hB h = true then ((goZ xs h).1, ((goZ xs h).2 : Int)) else (([], [], [], 0, []), 0)
theorem goR_L {h : HH} (hL : HL h) (xs : List HDeed) : HL (goR h xs).1 := by
  unfold goR
  split
  · rename_i hv; exact (goZ_all hL hv xs).1
  · exact ⟨⟨by simp, fun x hx => by cases hx⟩, by simp, by simp, by simp, fun x hx => by cases hx⟩
theorem go_step {α : Type} {h : HH} (hL : HL h) (hv : hB h = true) {xs : List HDeed} (hx : xs.length ≤ 1048576) {k : Nat} (hk : k < xs.length) (F : Int → HH → α) : (if (stepZ (goZ (xs.take k) h).1 xs[k]).2 = true then F (IntKind.wrap .i64 (((goZ (xs.take k) h).2 : Int) + 1)) (stepZ (goZ (xs.take k) h).1 xs[k]).1 else F ((goZ (xs.take k) h).2 : Int) (stepZ (goZ (xs.take k) h).1 xs[k]).1) = F ((goZ (xs.take (k + 1)) h).2 : Int) (goZ (xs.take (k + 1)) h).1 := by
  have hn := (goZ_all hL hv (xs.take k)).2.2
  have hl : (xs.take k).length ≤ xs.length := by simp; omega
  rw [goZ_succ xs h hk]
  unfold gstep
  dsimp only
  by_cases hb : (stepZ (goZ (xs.take k) h).1 xs[k]).2 = true
  · rw [if_pos hb, if_pos hb, wr ⟨by omega, by omega⟩]; rfl
  · rw [if_neg hb, if_neg hb]
end Go.Proofs.YtpklpghbkhegnaaGreatDoor

/- HouseRun of both sides is the run of deeds. Own work; no program in sight. -/
set_option linter.unusedVariables false
namespace Go.Proofs.YtpklpghbkhegnaaGreatDoor
open Go Go.RowKit
theorem implRun_eq {h : HH} (hL : HL h) (xs : List HDeed) (hx : xs.length ≤ 1048576) : impl_HouseRunS h.1 h.2.1 h.2.2.1 h.2.2.2.1 h.2.2.2.2 xs = some (goR h xs) := by
  obtain ⟨it, pr, st, cash, tb⟩ := h
  have e0 : goZ (xs.take 0) (it, pr, st, cash, tb) = ((it, pr, st, cash, tb), 0) := rfl
  show impl_HouseRunS it pr st cash tb xs = _
  unfold impl_HouseRunS goR
  rw [implHouse_eq _ hL, Option.bind_some]
  by_cases hv : hB (it, pr, st, cash, tb) = true
  · have hv' : houseB it pr st cash tb = true := hv
    rw [if_neg (by rw [hv']; simp), if_pos hv, implCopyH_id _ hL, Option.bind_some, loopDet (s := ((0 : Int), (0 : Int), it, pr, st, cash, tb)) (fun k => (((goZ (xs.take k) (it, pr, st, cash, tb)).2 : Int), (k : Int), (goZ (xs.take k) (it, pr, st, cash, tb)).1)) xs.length (((goZ xs (it, pr, st, cash, tb)).2 : Int), (goZ xs (it, pr, st, cash, tb)).1) (by rw [e0]; rfl)]
    · rfl
    · intro k hk
      have hk' := goZ_all hL hv (xs.take k)
      (try dsimp only)
      rw [if_pos (lt_dec hk), geti_lt' hk, Option.bind_some, implDo_eq hk'.1, Option.bind_some, wr_succ (n := xs.length) (by omega) hk]
      exact go_step hL hv hx hk (fun n s => (some (.inl (n, ((k + 1 : Nat) : Int), s)) : Option ((Int × Int × HH) ⊕ (Int × HH))))
    · (try dsimp only)
      rw [if_neg (by simp), List.take_of_length_le (Nat.le_refl _)]
  · have hv' : ¬ houseB it pr st cash tb = true := hv
    rw [if_pos (by simpa using hv'), if_neg hv]
theorem specRun_eq {h : HH} (hL : HL h) (xs : List HDeed) (hx : xs.length ≤ 1048576) : spec_HouseRunS h.1 h.2.1 h.2.2.1 h.2.2.2.1 h.2.2.2.2 xs = some (goR h xs) := by
  obtain ⟨it, pr, st, cash, tb⟩ := h
  have e0 : goZ (xs.take 0) (it, pr, st, cash, tb) = ((it, pr, st, cash, tb), 0) := rfl
  show spec_HouseRunS it pr st cash tb xs = _
  unfold spec_HouseRunS goR
  rw [specHouse_eq _ hL, Option.bind_some]
  by_cases hv : hB (it, pr, st, cash, tb) = true
  · have hv' : houseB it pr st cash tb = true := hv
    rw [if_neg (by rw [hv']; simp), if_pos hv, specCopyH_id _ hL, Option.bind_some, loopDet (s := ((0 : Int), (0 : Int), it, pr, st, cash, tb)) (fun k => (((goZ (xs.take k) (it, pr, st, cash, tb)).2 : Int), (k : Int), (goZ (xs.take k) (it, pr, st, cash, tb)).1)) xs.length (((goZ xs (it, pr, st, cash, tb)).2 : Int), (goZ xs (it, pr, st, cash, tb)).1) (by rw [e0]; rfl)]
    · rfl
    · intro k hk
      have hk' := goZ_all hL hv (xs.take k)
      (try dsimp only)
      rw [if_pos (lt_dec hk), geti_lt' hk, Option.bind_some, specDo_eq hk'.1, Option.bind_some, wr_succ (n := xs.length) (by omega) hk]
      have := go_step hL hv hx hk (fun n s => (some (.inl (n, ((k + 1 : Nat) : Int), s)) : Option ((Int × Int × HH) ⊕ (Int × HH))))
      refine Eq.trans ?_ this
      by_cases hb : (stepZ (goZ (xs.take k) (it, pr, st, cash, tb)).1 xs[k]).2 = true
      · rw [if_pos hb]; exact if_pos hb
      · rw [if_neg hb, (stepZ_cases hk'.2.1 xs[k]).2 (by simpa using hb)]; exact if_neg hb
    · (try dsimp only)
      rw [if_neg (by simp), List.take_of_length_le (Nat.le_refl _)]
  · have hv' : ¬ houseB it pr st cash tb = true := hv
    rw [if_pos (by simpa using hv'), if_neg hv]
end Go.Proofs.YtpklpghbkhegnaaGreatDoor

/- (nothing of this text is needed here) -/

